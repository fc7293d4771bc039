import Derived.Test.YtaekfnbnhjgboaaGreatDoorWucP8
import Derived.Test.YtaekfnbnhjgboaaGreatDoorWucP2
import Derived.WalkKit
import Derived.ProofKit
import Derived.OpenShut
import Derived.ShutString
import Derived.ChangeOld
import Derived.Below
import Derived.JoinedOf
import Derived.Deep.Slices
import Derived.Test.YtaekfnbnhjgboaaGreatDoorWucP6
import Derived.Test.YtaekfnbnhjgboaaGreatDoorWucP7
/- A part of the proof. -/
set_option linter.unusedVariables false
set_option linter.unusedSimpArgs false
set_option linter.unnecessarySimpa false
set_option linter.unusedSectionVars false
section
namespace Go.Proofs.YtaekfnbnhjgboaaGreatDoor
open Go Go.Vc Go.Proofs
variable {w:World} {K:Value→World→Prop} {F Fr F':Nat→Prop}
def Bytes (F:Nat→Prop) (w:World) (v:Value) (xs:List Nat):Prop:=Vals F w v (xs.map fun x=>Value.int .u8 (x:Nat))∧∀x,x∈xs→x<256
theorem Bytes.same {S:Nat→Prop} {w':World} {v:Value} {xs:List Nat} (h:Bytes F w v xs) (hw:Same S w w') (hs:∀b,F b→b<w.heap.size→¬S b):Bytes F w' v xs:=⟨h.1.same hw hs,h.2⟩
theorem Bytes.ext {w':World} {v:Value} {xs:List Nat} (h:Bytes F w v xs) (hw:Ext w w'):Bytes F w' v xs:=⟨h.1.ext hw,h.2⟩
theorem Bytes.load {v:Value} {xs:List Nat} (h:Bytes F w v xs) {e:TypeId} (he:oneB PP e=true) {i:Nat} (hi:i<xs.length):ze PP e (.pointer (some (eaddr v 1 i))) w K=K (.int .u8 (xs.getD i 0:Nat)) w:=by
 rw[Vals.load h.1 he (by simpa using hi)]
 simp[List.getD_eq_getElem?_getD,hi]
theorem Bytes.len {w':World} {v:Value} {xs:List Nat} (h:Bytes F w v xs) {t:TypeId} (ht:isSl PP t=true) (ty:TypeId):vbi PP .len [t] ty [v] w' K=K (.int .i64 xs.length) w':=by
 have:=Vals.len (K:=K) (w':=w') h.1 ht ty;rwa[List.length_map] at this
theorem Bytes.iaddr {w':World} {v:Value} {xs:List Nat} (h:Bytes F w v xs) {t:TypeId} (ht:elB PP t 1=true) {kd:IntKind} {i:Int} (h0:0≤i) (h1:i<xs.length):
  zm PP t v (.int kd i) w' K=K (.pointer (some (eaddr v 1 i.toNat))) w':=Vals.iaddr h.1 ht h0 (by simpa using h1)
structure RdR (F:Nat→Prop) (w:World) (b:Nat) (v:Value) (xs:List Nat) (p:Nat):Prop where
 blk:Blk w b [v,.int .i64 p] y5
 bytes:Bytes F w v xs
 apart: ¬F b
 few:xs.length≤2000
theorem RdR.same {S:Nat→Prop} {w':World} {b p:Nat} {v:Value} {xs:List Nat} (h:RdR F w b v xs p) (hw:Same S w w') (hb: ¬S b) (hs:∀b,F b→b<w.heap.size→¬S b):RdR F w' b v xs p:=
 ⟨h.blk.same hw hb,h.bytes.same hw hs,h.apart,h.few⟩
theorem RdR.ext {w':World} {b p:Nat} {v:Value} {xs:List Nat} (h:RdR F w b v xs p) (hw:Ext w w'):RdR F w' b v xs p:=h.same hw id fun _ _ _ h=>h
theorem l12Open_spec {v:Value} {xs:List Nat} (hx:Bytes F w v xs) (hF:∀b,F b→b<w.heap.size)
  (hK:∀w' b v' ys,Ext w w'→RdR F w' b v' ys 0→w.heap.size≤b→K (.pointer (some ⟨b,0,none⟩)) w'):vcall PP Yj #[v] w K:=by
 apply zH0;unfold JB
 simp(disch:=(simp only[push_cast];done)) only[push_cast,hx.len]
 have fin:∀(v':Value) (ys:List Nat),Bytes F w v' ys→ys.length≤2000→zE PP y5 [(0,v')] w fun t9 w_4=>yB PP y5 t9 w_4 fun t10 w_5=>K t10 w_5:=fun v' ys hy hl=>by
  refine jb0 ql0 (us:=[[v']]) (by simp[hy.1.cells1]) rfl ?_
  refine kk fun b w1 hb he1 hz1 hB=>?_
  exact hK w1 b v' ys he1 ⟨hB,hy.ext he1,fun h=>by have:=hF b h;omega,hl⟩ (by omega)
 refine zh (fun a=>?_) (fun a=>fin v xs hx (by omega))
 have hcut:yp PP zY v none (some (.int .i64 (2000:Nat))) none w fun t7 w_3=>zE PP y5 [(0,t7)] w_3 fun t9 w_4=>yB PP y5 t9 w_4 fun t10 w_5=>K t10 w_5:=by
  obtain⟨a0,c0,rfl,hc,hcm,hcell⟩:=hx.1.shape
  rw[Sl.cut hx.1 (fun a l c e=>?_) ZP0 (by simp;omega)]
  ·refine fin _ (xs.take 2000) ⟨⟨⟨a0,c0,?_,?_,hcm,fun hne=>?_⟩,fun y hy=>?_⟩,fun y hy=>hx.2 y (List.mem_of_mem_take hy)⟩ (by simp;omega)
   ·simp only[cutV,List.length_map,List.length_take]
    rw[Nat.min_eq_left (by omega)]
   ·simp at hc⊢;omega
   ·obtain⟨b,o,h1,h2,h3,h4⟩:=hcell (fun e=>by simp at e;subst e;simp at a)
    refine⟨b,o,h1,h2,h3,fun i hi=>?_⟩
    simp only[List.length_map,List.length_take] at hi
    have:=h4 i (by simp;omega)
    have e:(((xs.take 2000).map fun x=>Value.int .u8 (x:Nat)).map fun x=>[x]).getD i []=((xs.map fun x=>Value.int .u8 (x:Nat)).map fun x=>[x]).getD i []:=by
     simp only[List.getD_eq_getElem?_getD,List.getElem?_map,List.getElem?_take]
     rw[if_pos (by omega)]
    rw[e];exact this
   ·obtain⟨u,_,rfl⟩:=List.mem_map.1 hy;rfl
  ·injection e with e1 e2 e3
   obtain⟨b,o,h1,_⟩:=hcell (fun e=>by simp at e;subst e;simp at a)
   exact⟨b,o,by rw[h1] at e1;exact(Option.some.inj e1).symm⟩
 exact hcut
theorem pick_spec {b p:Nat} {v:Value} {xs:List Nat} {n:Int} (h:RdR F w b v xs p) (hn:n≤1099511627776) (hp:p<1099511627776)
  (hK:∀w' (k:Nat),Same (· =b) w w'→w'.heap.size=w.heap.size→RdR F w' b v xs (p+1)→(1≤n→(k:Int)<n)→(n<1→k=0)→K (.int .i64 k) w'):vcall PP zI #[.pointer (some ⟨b,0,none⟩),.int .i64 n] w K:=by
 apply W4;unfold YC
 have hfew:=h.few
 simp(disch:=(simp only[push_cast];done)) only[push_cast,h.blk.ld1]
 have hinc:IntKind.i64.wrap ((p:Int)+1)=((p+1:Nat):Int):=by rw[zA (by omega) (by omega)];omega
 rw[hinc]
 refine h.blk.st rfl rfl jT rfl fun w1 hs1 hz1 hB1=>?_
 have B1:Blk w1 b [v,.int .i64 (p+1:Nat)] y5:=hB1
 have hR:RdR F w1 b v xs (p+1):=⟨B1,h.bytes.same hs1 fun x hx _ e=>h.apart (e▸hx),h.apart,h.few⟩
 have hx:=hR.bytes
 refine zU (fun _ w'=>w'=w1∧1≤n∧xs.length≠0) ?_ ?_
 ·intro J hJ
  refine zh (fun a=>?_) (fun a=>?_)
  ·exact hK w1 0 hs1 hz1 hR (fun h=>by omega) fun _=>rfl
  ·simp(disch:=(simp only[push_cast];done)) only[push_cast,B1.ld0,hx.len]
   refine zh (fun a2=>?_) (fun a2=>?_)
   ·exact hK w1 0 hs1 hz1 hR (fun h=>by omega) fun _=>rfl
   ·exact hJ _ _ ⟨rfl,by omega,by omega⟩
 rintro _ _ _ ⟨rfl,h1,hne⟩
 simp(disch:=(simp only[push_cast];done)) only[B1.ld0,B1.ld1,qK0,Qe,UM,x8,Nat.zero_add,KB,hx.len]
 rw[show((p+1:Nat):Int)-1=(p:Int) from by omega,zA (by omega) (by omega)]
 simp only[Ze0]
 have hget:∀i,i<xs.length→xs.getD i 0<256:=fun i hi=>hx.2 _ (by rw[List.getD_eq_getElem?_getD,List.getElem?_eq_getElem hi];exact List.getElem_mem hi)
 have hmod:∀x:Nat,((x:Int).tmod n)=((x%n.toNat:Nat):Int)∧((x%n.toNat:Nat):Int)<n:=fun x=>by
  obtain⟨m,rfl⟩:∃m:Nat,n=m:=⟨n.toNat,by omega⟩
  rw[Int.toNat_natCast]
  exact⟨rfl,by have:=Nat.mod_lt x (show 0<m by omega);omega⟩
 refine zh (fun a=>?_) (fun a=>?_)
 ·simp(disch:=first|(simp only[push_cast];done)|omega) only[B1.ld0,hx.iaddr,Int.toNat_natCast,hx.load,qC yt0 UB]
  have hb:=hget p (by omega)
  rw[zA (by omega) (by omega),ZQ (by omega)]
  obtain⟨m1,m2⟩:=hmod (xs.getD p 0)
  rw[m1]
  exact hK _ _ hs1 hz1 hR (fun _=>m2) fun h=>by omega
 ·refine zu fun w2 he2 hheap=>?_
  have B2:=B1.ext he2
  have hx2:=hx.ext he2
  have hl0:(xs.length:Int)≠0:=by omega
  have e1:((p:Int).tmod xs.length)=((p%xs.length:Nat):Int):=by rw[Int.tmod_eq_emod_of_nonneg (by omega)];rfl
  have l1:p%xs.length<xs.length:=Nat.mod_lt _ (by omega)
  have e2:IntKind.i64.wrap ((p:Int)*7)=((p*7:Nat):Int):=by rw[zA (by omega) (by omega)];omega
  have e3:IntKind.i64.wrap (((p*7:Nat):Int)+3)=((p*7+3:Nat):Int):=by rw[zA (by omega) (by omega)];omega
  have e4:(((p*7+3:Nat):Int).tmod xs.length)=(((p*7+3)%xs.length:Nat):Int):=by rw[Int.tmod_eq_emod_of_nonneg (by omega)];rfl
  have l2:(p*7+3)%xs.length<xs.length:=Nat.mod_lt _ (by omega)
  have b1:=hget _ l1
  have b2:=hget _ l2
  generalize hx1:xs.getD (p%xs.length) 0=x1 at b1
  generalize hx2':xs.getD ((p*7+3)%xs.length) 0=x2 at b2
  have e5:IntKind.i64.wrap ((x1:Nat):Int)=((x1:Nat):Int):=zA (by omega) (by omega)
  have e6:IntKind.i64.wrap ((x2:Nat):Int)=((x2:Nat):Int):=zA (by omega) (by omega)
  have e7:IntKind.i64.wrap (((x1:Nat):Int)*131)=((x1*131:Nat):Int):=by rw[zA (by omega) (by omega)];omega
  have e8:IntKind.i64.wrap (((x2:Nat):Int)*1117)=((x2*1117:Nat):Int):=by rw[zA (by omega) (by omega)];omega
  have e9:IntKind.i64.wrap (((x1*131:Nat):Int)+((x2*1117:Nat):Int))=((x1*131+x2*1117:Nat):Int):=by rw[zA (by omega) (by omega)];omega
  have e10:IntKind.i64.wrap ((p:Int)*29)=((p*29:Nat):Int):=by rw[zA (by omega) (by omega)];omega
  have e11:IntKind.i64.wrap (((x1*131+x2*1117:Nat):Int)+((p*29:Nat):Int))=((x1*131+x2*1117+p*29:Nat):Int):=by rw[zA (by omega) (by omega)];omega
  obtain⟨Q,hQ⟩:∃Q,Q=p/xs.length:=⟨_,rfl⟩
  have hq:Q≤p:=by rw[hQ];exact Nat.div_le_self _ _
  have e12:IntKind.i64.wrap ((p:Int).tdiv xs.length)=((Q:Nat):Int):=by
   have:(p:Int).tdiv xs.length=(Q:Int):=by rw[hQ];rfl
   rw[this];exact zA (by omega) (by omega)
  have e13:IntKind.i64.wrap (((Q:Nat):Int)*53)=((Q*53:Nat):Int):=by rw[zA (by omega) (by omega)];omega
  have e14:IntKind.i64.wrap (((x1*131+x2*1117+p*29:Nat):Int)+((Q*53:Nat):Int))=((x1*131+x2*1117+p*29+Q*53:Nat):Int):=by rw[zA (by omega) (by omega)];omega
  simp(disch:=first|(simp only[push_cast];done)|omega) only[B2.ld0,qK0,Qe,x8,Nat.zero_add,true_and,hx2.len,ZQ hl0,U6 hl0,qN0,qO0,e1,e2,e3,e4,e12,hx2.iaddr,Int.toNat_natCast,hx2.load,hx1,hx2',qC yt0 UB,e5,e6,e7,e8,e9,e10,e11,e13,e14]
  have hX:x1*131+x2*1117+p*29+Q*53<9223372036854775808:=by omega
  generalize x1*131+x2*1117+p*29+Q*53=X at hX⊢
  have e15:IntKind.i64.wrap ((X:Int).tdiv 64)=((X/64:Nat):Int):=by
   have:(X:Int).tdiv 64=((X/64:Nat):Int):=rfl
   rw[this];exact zA (by omega) (by omega)
  rw[U6 (by omega),e15,jc0 hX (by omega),ZQ (by omega)]
  obtain⟨m1,m2⟩:=hmod (X^^^X/64)
  rw[m1]
  exact hK _ _ (hs1.trans (Same.of_ext he2)) (by rw[hheap];exact hz1) (hR.ext he2) (fun _=>m2) fun h=>by omega
theorem num_spec {b p:Nat} {v vs:Value} {xs:List Nat} {ns:List Int} (h:RdR F w b v xs p) (hv:Ints F' w vs ns) (hne:ns≠[]) (hsm:ns.length≤1000) (hp:p<1099511627776) (hF':∀x,F' x→x≠b)
  (hK:∀w' m,Same (· =b) w w'→w'.heap.size=w.heap.size→RdR F w' b v xs (p+1)→m∈ns→K (.int .i64 m) w'):vcall PP yo #[.pointer (some ⟨b,0,none⟩),vs] w K:=by
 apply WZ;unfold Xs
 have hpos:=List.length_pos_iff.2 hne
 simp(disch:=(simp only[push_cast];done)) only[push_cast,hv.len]
 refine pick_spec h (by omega) hp fun w1 k hs hz hR h1 _=>?_
 have hk:=h1 (by omega)
 have hv1:=hv.same hs fun x hx _ e=>hF' x hx e
 simp(disch:=first|(simp only[push_cast];done)|omega) only[push_cast,hv1.iaddr,hv1.load]
 exact hK w1 _ hs hz hR (M.getD_mem (by omega) _)
end Go.Proofs.YtaekfnbnhjgboaaGreatDoor
end
section
namespace Go.Proofs.YtaekfnbnhjgboaaGreatDoor
open Go Go.Vc Go.Proofs
variable {w:World} {K:Value→World→Prop} {F F' D:Nat→Prop}
@[push_cast] theorem bd_Decl (s:ByteArray) (n:Int):zE PP zw [(0,.string s),(1,.int .i64 n)] w K=K (.agg ⟨[.string s,.int .i64 n]⟩) w:=yf qJ0 (us:=[[.string s],[.int .i64 n]]) rfl rfl
abbrev OwnD (w:World) (v:Value) (ds:List M.Dcl):Prop:=Own PP 0 2 zt w v (ds.map fun d=>[.string d.1,.int .i64 d.2])
def Dok (ds:List M.Dcl):Prop:=ds.length≤4∧∀i,i<ds.length→1≤(ds.getD i VN).2∧(ds.getD i VN).2≤4∧(ds.getD i VN).1.size≤1
theorem OwnD.dcls {v:Value} {ds:List M.Dcl} (h:OwnD w v ds):DclsR (fun b=>v.ownBlock=some b) w v ds:=Own.sl h
def Xn0:List ByteArray:=[⟨#[120]⟩,⟨#[121]⟩,⟨#[122]⟩,⟨#[119]⟩]
set_option maxRecDepth 20000 in
theorem gd_ok {ds:List M.Dcl} (h:Dok ds) (hn:ds.map (·.1)=Xn0.take ds.length) (hb:M.bits ds≤8):M.declOk ds=true:=by
 have hl:=h.1
 have nm:∀i,i<ds.length→(ds.getD i (M.nada,0)).1=Xn0.getD i M.nada:=fun i hi=>by
  rw[←M.getD_map (·.1) hi M.nada (M.nada,0),hn,M.take_getD hi]
 refine M.decl_iff.2 ⟨hl,fun i hi=>?_,hb⟩
 have hw:=h.2 i hi
 have hap:∀j,j<i→(ds.getD j (M.nada,0)).1≠(ds.getD i (M.nada,0)).1:=fun j hj=>by
  rw[nm j (by omega),nm i hi]
  have:∀a b:Fin 4,b.1<a.1→Xn0.getD b.1 M.nada≠Xn0.getD a.1 M.nada:=by decide
  exact this ⟨i,by omega⟩ ⟨j,by omega⟩ hj
 have hf:M.findD (ds.take i) (ds.getD i (M.nada,0)).1= -1:=M.findD_none fun j hj=>by
  rw[List.length_take] at hj
  rw[M.take_getD (by omega)]
  exact hap j (by omega)
 have hk:M.nameOk (ds.getD i (M.nada,0)).1=true:=by
  rw[nm i hi]
  have:∀a:Fin 4,M.nameOk (Xn0.getD a.1 M.nada)=true:=by decide+kernel
  exact this ⟨i,by omega⟩
 unfold M.dclOk
 rw[hk,hf]
 have h1:1≤(ds.getD i (M.nada,0)).2∧(ds.getD i (M.nada,0)).2≤4:=⟨hw.1,hw.2.1⟩
 rw[decide_eq_true h1.1,decide_eq_true h1.2];rfl
set_option maxRecDepth 20000 in
theorem l2Decls_spec2 {b p:Nat} {v:Value} {xs:List Nat} (h:RdR F w b v xs p) (hF:∀x,F x→x<w.heap.size) (hp:p+100<1099511627776)
  (hK:∀w' p' dv ds,Same (· =b) w w'→RdR F w' b v xs p'→p'≤p+100→DclsR (fun x=>w.heap.size≤x) w' dv ds→Dok ds→M.declOk ds=true→K dv w'):vcall PP km #[.pointer (some ⟨b,0,none⟩)] w K:=by
 apply zF0;unfold Jz
 have lb:=h.blk.lt
 refine vbuildS_row1 (xs:=Xn0.map .string) Yv (by kernel_rfl) Ys (fun x hx=>by obtain⟨s,_,rfl⟩:=List.mem_map.1 hx;rfl) (by decide) fun b1 w1 hb1 he1 hs1 hbl=>?_
 have hnm:Vals (· =b1) w1 (.slice (some ⟨b1,0,none⟩) (Xn0.map Value.string).length (Xn0.map Value.string).length) (Xn0.map Value.string):=hbl.sl1 rfl (by decide)
 refine vbuildS_row (xs:=[]) (us:=[]) (k:=2) ky Zh xr rfl (by simp) (by decide) fun b2 w2 hb2 he2 hs2 h2=>?_
 have ho:OwnD w2 (.slice (some ⟨b2,0,none⟩) 0 0) []:=Blk.ownk (css:=[]) h2 (by simp) rfl (by decide)
 have hR2:=(h.ext he1).ext he2
 refine vloop_up 4 (fun i u w'=> ∃sv ds p',∃bits:Int,u=[sv,.int .i64 bits,.int .i64 i]∧Same (· =b) w w'∧RdR F w' b v xs p'∧p'≤p+2*i∧OwnD w' sv ds∧(∀x,sv.ownBlock=some x→w1.heap.size≤x)∧ds.length=i∧Dok ds∧0≤bits∧bits≤4*i∧Vals (· =b1) w' (.slice (some ⟨b1,0,none⟩) (Xn0.map Value.string).length (Xn0.map Value.string).length) (Xn0.map Value.string)∧ds.map (·.1)=Xn0.take i∧bits=M.bits ds∧bits≤8)
  ⟨_,[],p,0,rfl,Same.of_ext (he1.trans he2),hR2,by omega,ho,fun x hx=>by have e:x=b2:=(Option.some.inj hx).symm;omega,rfl,⟨by simp,fun i hi=>by simp at hi⟩,by omega,by omega,hnm.ext he2,rfl,rfl,by omega⟩ ?_
 rintro i _ _ w3 C hi ⟨sv,ds,p',bits,rfl,hs3,hR3,hp3,ho3,hn3,hl3,hd3,hb0,hb4,hv3,hnm3,hbt3,hb8⟩ hC
 have hz3:=hs3.size
 have hz1:=he1.size
 have hret:∀w4 p4,Same (· =b) w3 w4→RdR F w4 b v xs p4→p4≤p+2*i+2→K sv w4:=fun w4 p4 hs hR hp4=>by
  refine hK w4 p4 sv ds (hs3.trans hs) hR (by omega) ?_ hd3 (gd_ok hd3 (by rw[hl3];exact hnm3) (by omega))
  exact((ho3.same hs fun x hx e=>by have:=hn3 x hx;omega).sl).weaken fun x hx _=>by have:=hn3 x hx;omega
 refine zU (fun u w4=>u=[]∧Same (· =b) w3 w4∧RdR F w4 b v xs (p'+1)∧i<4) (fun C' hC'=>?_) ?_
 ·refine pick_spec hR3 (by omega) (by omega) fun w4 k hs4 hz4 hR4 hk _=>?_
  have:=hk (by omega)
  simp only[push_cast]
  rw[zA (x:=1+(k:Int)) (by omega) (by omega)]
  refine zh (fun a=>?_) (fun a=>?_)
  ·refine zh (fun c=>?_) (fun c=>?_)
   ·exact hC' _ _ ⟨rfl,hs4,hR4,by omega⟩
   ·exact hret _ _ hs4 hR4 (by omega)
  ·exact hret _ _ hs4 hR4 (by omega)
 ·rintro u g w4 ⟨rfl,hs4,hR4,hi4⟩
  refine pick_spec hR4 (by omega) (by omega) fun w5 k hs5 hz5 hR5 hk _=>?_
  have hk4:=hk (by omega)
  have hs35:=hs4.trans hs5
  simp only[push_cast]
  rw[zA (x:=1+(k:Int)) (by omega) (by omega),zA (x:=8-bits) (by omega) (by omega)]
  refine l1Min_spec ?_
  obtain⟨n,hn⟩:∃n:Int,n=min (1+(k:Int)) (8-bits):=⟨_,rfl⟩
  rw[←hn]
  simp only[push_cast]
  refine zh (fun a=>?_) (fun a=>?_)
  ·exact hret _ _ hs35 hR5 (by omega)
  ·have hv5:=hv3.same hs35 fun x hx _ e=>by have:=h.blk.lt;have:=he1.size;omega
   have hlen:(Xn0.map Value.string).length=4:=rfl
   have e1:(Xn0.map Value.string).getD i undef= .string (Xn0.getD i ⟨#[]⟩):=M.getD_map _ (show i<Xn0.length from hi4) _ _
   rw[hv5.iaddr (by kernel_rfl) (by omega) (by rw[hlen];omega),Int.toNat_natCast,hv5.load (by kernel_rfl) (by rw[hlen];omega),e1]
   have hsz:(Xn0.getD i ⟨#[]⟩).size≤1:=by
    rcases(by omega:i=0∨i=1∨i=2∨i=3) with rfl|rfl|rfl|rfl<;>decide
   generalize hnm':Xn0.getD i ⟨#[]⟩=nm at hsz⊢
   simp only[push_cast]
   refine QA ky Zh xr rfl rfl (by decide) fun b3 w6 hb3 he6 hs6 h6=>?_
   have ho6:=(ho3.same hs35 fun x hx e=>by have:=hn3 x hx;omega).ext he6
   refine Own.app1k ho6 Qa (by decide) h6 rfl (by intro v hv;simp only[List.mem_cons,List.not_mem_nil,or_false] at hv;rcases hv with rfl|rfl<;>rfl) (by rw[List.length_map,hl3];omega) (by rw[List.length_map,hl3];omega) fun sv' w7 ho7 hw7 hn7=>?_
   have hz5:=hs35.size
   have hz6:=he6.size
   have hs67:Same (· =b) w w7:=by
    refine⟨hw7.os.trans (he6.os.trans (hs35.os.trans hs3.os)),hw7.tape.trans (he6.tape.trans (hs35.tape.trans hs3.tape)),hw7.output.trans (he6.output.trans (hs35.output.trans hs3.output)),Nat.le_trans (((hs3.trans hs35).trans (Same.of_ext he6)).size) hw7.size,fun x hx hne=>?_⟩
    rw[hw7.block x (by have:=((hs3.trans hs35).trans (Same.of_ext he6)).size;omega) (fun e=>by have:=hn3 x e;omega)]
    exact((hs3.trans hs35).trans (Same.of_ext he6)).block x hx hne
   have hR7:RdR F w7 b v xs (p'+1+1):=(hR5.ext he6).same hw7 (fun e=>by have:=hn3 b e;omega) fun x hx _ e=>by have:=hn3 x e;have:=hF x hx;omega
   have hv7:=(hv5.ext he6).same hw7 (fun x hx _ e=>by have:=hn3 x e;omega)
   rw[inc64' (by omega),zA (x:=bits+n) (by omega) (by omega)]
   refine hC (by omega) _ _ ⟨sv',ds++[(nm,n)],p'+1+1,bits+n,rfl,hs67,hR7,by omega,by rw[OwnD,List.map_append];exact ho7,fun x hx=>?_,by rw[List.length_append];simp[hl3],⟨by rw[List.length_append];simp;omega,fun j hj=>?_⟩,by omega,by omega,hv7,?_,?_,by omega⟩
   ·rcases hn7 x hx with h|h
    ·exact hn3 x h
    ·omega
   ·rw[List.length_append] at hj
    by_cases hj2:j<ds.length
    ·rw[List.getD_eq_getElem?_getD,List.getElem?_append_left hj2,←List.getD_eq_getElem?_getD]
     exact hd3.2 j hj2
    ·have:j=ds.length:=by simp at hj;omega
     subst this
     rw[List.getD_eq_getElem?_getD,List.getElem?_append_right (by omega)]
     simp only[Nat.sub_self,List.getElem?_cons_zero,Option.getD_some]
     exact⟨by omega,by omega,hsz⟩
   ·rw[List.map_append,hnm3,M.take_add (show i<Xn0.length from hi4) ⟨#[]⟩,hnm'];rfl
   ·rw[hbt3];unfold M.bits;rw[List.map_append,List.sum_append];simp
theorem xF0 {b p:Nat} {v:Value} {xs:List Nat} (h:RdR F w b v xs p) (hF:∀x,F x→x<w.heap.size) (hp:p+100<1099511627776)
  (hK:∀w' p' dv ds,Same (· =b) w w'→RdR F w' b v xs p'→p'≤p+100→DclsR (fun x=>w.heap.size≤x) w' dv ds→Dok ds→K dv w'):vcall PP km #[.pointer (some ⟨b,0,none⟩)] w K:=
 l2Decls_spec2 h hF hp fun w' p' dv ds h1 h2 h3 h4 h5 _=>hK w' p' dv ds h1 h2 h3 h4 h5
@[push_cast] theorem bd_T3 (o a b:Int):zE PP z7 [(0,.int .i64 o),(1,.int .i64 a),(2,.int .i64 b)] w K=K (.agg ⟨[.int .i64 o,.int .i64 a,.int .i64 b,.string ⟨#[]⟩,.slice none 0 0]⟩) w:=yf Zx (us:=[[.int .i64 o],[.int .i64 a],[.int .i64 b]]) rfl rfl
@[push_cast] theorem bd_T1 (o:Int):zE PP z7 [(0,.int .i64 o)] w K=K (.agg ⟨[.int .i64 o,.int .i64 0,.int .i64 0,.string ⟨#[]⟩,.slice none 0 0]⟩) w:=yf Zx (us:=[[.int .i64 o]]) rfl rfl
@[push_cast] theorem bd_Tn (o:Int) (s:ByteArray):zE PP z7 [(0,.int .i64 o),(3,.string s)] w K=K (.agg ⟨[.int .i64 o,.int .i64 0,.int .i64 0,.string s,.slice none 0 0]⟩) w:=yf Zx (us:=[[.int .i64 o],[.string s]]) rfl rfl
@[push_cast] theorem bd_Tk (o:Int) (a:Option Addr) (l c:Nat):zE PP z7 [(0,.int .i64 o),(4,.slice a l c)] w K=K (.agg ⟨[.int .i64 o,.int .i64 0,.int .i64 0,.string ⟨#[]⟩,.slice a l c]⟩) w:=yf Zx (us:=[[.int .i64 o],[.slice a l c]]) rfl rfl
@[push_cast] theorem bd_Tc (o x y:Int) (a:Option Addr) (l c:Nat):zE PP z7 [(0,.int .i64 o),(1,.int .i64 x),(2,.int .i64 y),(4,.slice a l c)] w K=K (.agg ⟨[.int .i64 o,.int .i64 x,.int .i64 y,.string ⟨#[]⟩,.slice a l c]⟩) w:=yf Zx (us:=[[.int .i64 o],[.int .i64 x],[.int .i64 y],[.slice a l c]]) rfl rfl
theorem qu0 {b:Nat} {cs cs':List Value} {t:TypeId} {G:Nat→Prop} {t':M.Tm} (h:Blk w b cs t) (hl:cs.length=5) (hc:TmR G w cs' t') (hG:∀x,G x→x≠b) (hK:∀w',Same (· =b) w w'→w'.heap.size=w.heap.size→TermR G w' (.agg ⟨cs'⟩) t'→K (.agg ⟨cs'⟩) w'):
  zp PP z7 (.pointer (some ⟨b,0,none⟩)) (.agg ⟨cs'⟩) w fun _ w1=>vlv PP z7 (.pointer (some ⟨b,0,none⟩)) w1 fun r w2=>K r w2:=by
 refine stTerm h hl hc fun w' hw' hz' h'=>?_
 rw[h'.lv (by rw[xt hc];exact zH)]
 exact hK w' hw' hz' (hc.same hw' fun x hx _ e=>hG x hx e).term
theorem Zz0 {G:Nat→Prop} (o a b:Int) (s:ByteArray):TmR G w [.int .i64 o,.int .i64 a,.int .i64 b,.string s,.slice none 0 0] (.mk o a b s []):=TmR.of (t:= .mk o a b s []) TmsR.nil
abbrev jB0 (K:Value→World→Prop) (F:Nat→Prop) (w:World) (b p c:Nat) (v:Value) (xs:List Nat):Prop:=∀w' p' tv t,Same (· =b) w w'→RdR F w' b v xs p'→p'≤p+c→TermR (fun x=>w.heap.size≤x) w' tv t→t.ks.length≤3→K tv w'
theorem same_new {b b2:Nat} {w w1 w2:World} (h:Same (· =b) w w1) (h2:Same (· =b2) w1 w2) (hb:w.heap.size≤b2):Same (· =b) w w2:=
 ⟨h2.os.trans h.os,h2.tape.trans h.tape,h2.output.trans h.output,Nat.le_trans h.size h2.size,fun x hx hne=>by
  rw[h2.block x (Nat.lt_of_lt_of_le hx h.size) (fun e=>by subst e;omega)];exact h.block x hx hne⟩
theorem RdR.new {b b2 p:Nat} {v:Value} {xs:List Nat} {w1:World} (h:RdR F w b v xs p) (hs:Same (· =b2) w w1) (hb:b≠b2) (hF:∀x,F x→x≠b2):RdR F w1 b v xs p:=h.same hs hb fun x hx _ e=>hF x hx e
theorem l2Leafy_spec {b p:Nat} {v dv:Value} {xs:List Nat} {ds:List M.Dcl} {sort:Int} (h:RdR F w b v xs p) (hF:∀x,F x→x<w.heap.size) (hd:DclsR D w dv ds) (hD:∀x,D x→x≠b) (hok:Dok ds) (hs0:0≤sort) (hs4:sort≤4) (hp:p+100<1099511627776)
  (hK:jB0 K F w b p 100 v xs):vcall PP qp #[.pointer (some ⟨b,0,none⟩),dv,.int .i64 sort] w K:=by
 apply zE0;unfold Jy
 have lb:=h.blk.lt
 refine zC yH fun b1 w1 hb1 he1 hs1 h1=>?_
 have hR1:=h.ext he1
 have hd1:=hd.ext he1
 have hfin:∀w2 p2 cs t,Same (· =b) w w2→RdR F w2 b v xs p2→p2≤p+100→Blk w2 b1 [.int .i64 0,.int .i64 0,.int .i64 0,.string ⟨#[]⟩,.slice none 0 0] z7→TmR (fun _=>False) w2 cs t→t.ks.length≤3→
   zp PP z7 (.pointer (some ⟨b1,0,none⟩)) (.agg ⟨cs⟩) w2 fun _ w1=>vlv PP z7 (.pointer (some ⟨b1,0,none⟩)) w1 fun r w2=>K r w2:=by
  intro w2 p2 cs t hs hR hp2 hB hc hk3
  refine qu0 hB rfl hc (fun x hx=>hx.elim) fun w3 hs3 hz3 ht=>?_
  exact hK w3 p2 _ t (same_new hs hs3 (by omega)) (hR.new hs3 (by omega) fun x hx e=>by have:=hF x hx;omega) hp2 (ht.weaken fun x hx _=>hx.elim) hk3
 simp only[push_cast]
 refine zh (fun a=>?_) (fun a=>?_)
 ·exact hfin _ _ _ _ (Same.of_ext he1) hR1 (by omega) h1 (Zz0 24 0 0 _) (Nat.zero_le _)
 simp(disch:=(simp only[push_cast];done)) only[push_cast,hd1.len]
 have hlen:=hok.1
 refine pick_spec hR1 (by omega) (by omega) fun w2 at_ hs2 hz2 hR2 hk _=>?_
 have h2:=h1.same hs2 (by omega)
 have hvec:∀w3 p3,Same (· =b) w w3→RdR F w3 b v xs p3→p3≤p+50→Blk w3 b1 [.int .i64 0,.int .i64 0,.int .i64 0,.string ⟨#[]⟩,.slice none 0 0] z7→
   vcall PP xQ #[.int .i64 sort] w3 fun t52 w_13=>vcall PP zI #[.pointer (some ⟨b,0,none⟩),t52] w_13 fun t53 w_14=>zE PP z7 [(0,(.int .i64 20)),(1,.int .i64 sort),(2,t53)] w_14 fun t54 w_15=>zp PP z7 (.pointer (some ⟨b1,0,none⟩)) t54 w_15 fun _ w_16=>vlv PP z7 (.pointer (some ⟨b1,0,none⟩)) w_16 fun r6_1 w_17=>K r6_1 w_17:=by
  intro w3 p3 hs hR hp3 hB
  refine l1Two_spec (by omega) ?_
  have hpw:2^sort.toNat≤2^4:=Nat.pow_le_pow_right (by omega) (by omega)
  refine pick_spec hR (by omega) (by omega) fun w4 k hs4 hz4 hR4 _ _=>?_
  simp only[push_cast]
  exact hfin _ _ _ _ (hs.trans hs4) hR4 (by omega) (hB.same hs4 (by have:=he1.size;omega)) (Zz0 20 sort k _) (Nat.zero_le _)
 refine vloop_up ds.length (fun i u w'=> ∃p',u=[.int .i64 i]∧Same (· =b) w w'∧RdR F w' b v xs p'∧p'≤p+1+i∧Blk w' b1 [.int .i64 0,.int .i64 0,.int .i64 0,.string ⟨#[]⟩,.slice none 0 0] z7∧DclsR D w' dv ds)
  ⟨p+1,rfl,(Same.of_ext he1).trans hs2,hR2,by omega,h2,hd1.same hs2 fun x hx _ e=>hD x hx e⟩ ?_
 rintro i _ _ w3 C hi ⟨p',rfl,hs3,hR3,hp3,hB3,hd3⟩ hC
 refine zU (fun u w'=>u=[]∧i<ds.length∧Same (· =b) w w'∧RdR F w' b v xs (p'+1)∧Blk w' b1 [.int .i64 0,.int .i64 0,.int .i64 0,.string ⟨#[]⟩,.slice none 0 0] z7∧DclsR D w' dv ds) (fun C' hC'=>?_) ?_
 ·simp only[push_cast]
  refine zh (fun c=>?_) (fun c=>?_)
  ·refine pick_spec hR3 (by omega) (by omega) fun w4 k hs4' hz4 hR4 _ _=>?_
   have hB4:=hB3.same hs4' (by omega)
   simp only[push_cast]
   refine zh (fun e=>?_) (fun e=>?_)
   ·exact hC' _ _ ⟨rfl,by omega,hs3.trans hs4',hR4,hB4,hd3.same hs4' fun x hx _ e=>hD x hx e⟩
   ·exact hvec _ _ (hs3.trans hs4') hR4 (by omega) hB4
  ·exact hvec _ _ hs3 hR3 (by omega) hB3
 ·rintro u g w4 ⟨rfl,hil,hs4',hR4,hB4,hd4⟩
  have hat:at_<ds.length:=by have:=hk (by omega);omega
  have e1:IntKind.i64.wrap ((at_:Int)+(i:Int))=((at_+i:Nat):Int):=by rw[zA (by omega) (by omega)];omega
  have eR:∀(w:World) (K:Value→World→Prop),zo PP .rem zc false (.int .i64 ((at_+i:Nat):Int)) (.int .i64 (ds.length:Int)) w K=K (.int .i64 (((at_+i)%ds.length:Nat):Int)) w:=fun w K=>by rw[ZQ (by omega)];rfl
  have hm:(at_+i)%ds.length<ds.length:=Nat.mod_lt _ (by omega)
  obtain⟨q,hq⟩:∃q,q=at_+i:=⟨_,rfl⟩
  rw[←hq] at e1 eR hm
  obtain⟨j,hj⟩:∃j,j=q%ds.length:=⟨_,rfl⟩
  rw[←hj] at eR hm
  simp(disch:=first|(simp only[push_cast];done)|omega) only[push_cast,e1,eR,hd4.iaddr]
  try simp(disch:=first|(simp only[push_cast];done)|omega) only[push_cast,hd4.load0,hd4.load1]
  refine zh (fun c=>?_) (fun c=>?_)
  ·exact hfin _ _ _ _ hs4' hR4 (by omega) hB4 (Zz0 21 0 0 _) (Nat.zero_le _)
  ·rw[inc64' (by omega)]
   exact hC (by omega) _ _ ⟨p'+1,rfl,hs4',hR4,by omega,hB4,hd4⟩
end Go.Proofs.YtaekfnbnhjgboaaGreatDoor
end
section
namespace Go.Proofs.YtaekfnbnhjgboaaGreatDoor
open Go Go.Vc Go.Proofs
variable {w:World} {K:Value→World→Prop} {F F' D G:Nat→Prop}
theorem kidsL {css:List (List Value)} {ts:List M.Tm} (hl:css.length=ts.length) (hsm:css.length≤100) (h:∀i,i<ts.length→TmR G w (css.getD i []) (ts.getD i default))
  (hK:∀w' a,Ext w w'→w'.heap.size=w.heap.size+1→TmsR (fun z=>G z∨z=w.heap.size) w' (.slice a css.length css.length) ts→K (.slice a css.length css.length) w'):
  vbuildS PP zr (css.map fun c=>Value.agg ⟨c⟩).length ((css.map fun c=>Value.agg ⟨c⟩).zipIdx.map fun p=>(p.2,p.1)) w K:=by
 have hwd:∀u,u∈css→u.length=5:=fun u hu=>by
  obtain⟨i,hi,rfl⟩:=List.getElem_of_mem hu
  have:=xt (h i (by omega))
  rwa[List.getD_eq_getElem?_getD,List.getElem?_eq_getElem hi] at this
 refine vbuildS_row (us:=css) (k:=5) Wp Ug yH (by rw[List.map_map];rfl) hwd (by rw[List.length_map];omega) fun b w' hb he hs hB=>?_
 rw[List.length_map]
 refine hK w' _ he hs ⟨css,?_,hl,fun i hi=>((h i hi).ext he).weaken fun x hx _=> .inl hx⟩
 have ho:Own PP 0 5 zr w' (.slice (some ⟨b,0,none⟩) css.length css.length) css:=Blk.ownk (by rw[KN];exact hB) hwd rfl (by omega)
 exact ho.sl.weaken fun x hx _=> .inr (by have e:x=b:=(Option.some.inj hx).symm;omega)
theorem kl0 {v0:Value} {t0:M.Tm} (h0:TermR G w v0 t0) (hK:∀w' a,Ext w w'→w'.heap.size=w.heap.size+1→TmsR (fun z=>G z∨z=w.heap.size) w' (.slice a 1 1) [t0]→K (.slice a 1 1) w'):vbuildS PP zr 1 [(0,v0)] w K:=by
 obtain⟨c0,rfl,q0⟩:=h0.cells
 refine kidsL (css:=[c0]) (ts:=[t0]) rfl (by simp) (fun i hi=>?_) hK
 have:i=0:=by simpa using hi
 subst this;exact q0
theorem kids2 {v0 v1:Value} {t0 t1:M.Tm} (h0:TermR G w v0 t0) (h1:TermR G w v1 t1) (hK:∀w' a,Ext w w'→w'.heap.size=w.heap.size+1→TmsR (fun z=>G z∨z=w.heap.size) w' (.slice a 2 2) [t0,t1]→K (.slice a 2 2) w'):vbuildS PP zr 2 [(0,v0),(1,v1)] w K:=by
 obtain⟨c0,rfl,q0⟩:=h0.cells
 obtain⟨c1,rfl,q1⟩:=h1.cells
 refine kidsL (css:=[c0,c1]) (ts:=[t0,t1]) rfl (by simp) (fun i hi=>?_) hK
 match i,hi with
 |0,_=>exact q0
 |1,_=>exact q1
theorem kids3 {v0 v1 v2:Value} {t0 t1 t2:M.Tm} (h0:TermR G w v0 t0) (h1:TermR G w v1 t1) (h2:TermR G w v2 t2) (hK:∀w' a,Ext w w'→w'.heap.size=w.heap.size+1→TmsR (fun z=>G z∨z=w.heap.size) w' (.slice a 3 3) [t0,t1,t2]→K (.slice a 3 3) w'):vbuildS PP zr 3 [(0,v0),(1,v1),(2,v2)] w K:=by
 obtain⟨c0,rfl,q0⟩:=h0.cells
 obtain⟨c1,rfl,q1⟩:=h1.cells
 obtain⟨c2,rfl,q2⟩:=h2.cells
 refine kidsL (css:=[c0,c1,c2]) (ts:=[t0,t1,t2]) rfl (by simp) (fun i hi=>?_) hK
 match i,hi with
 |0,_=>exact q0
 |1,_=>exact q1
 |2,_=>exact q2
abbrev Z30:List Value:=[.int .i64 0,.int .i64 0,.int .i64 0,.string ⟨#[]⟩,.slice none 0 0]
structure Dw (F D:Nat→Prop) (w0:World) (b b1:Nat) (v dv:Value) (xs:List Nat) (ds:List M.Dcl) (w:World) (p:Nat):Prop where
 same:Same (· =b) w0 w
 rd:RdR F w b v xs p
 var:Blk w b1 Z30 z7
 dcl:DclsR D w dv ds
 old:b<w0.heap.size
 new:b1=w0.heap.size
 size:b1<w.heap.size
 hF:∀x,F x→x<w0.heap.size
 hD:∀x,D x→x≠b
 hD1:∀x,D x→x<w0.heap.size
section
variable {w0:World} {b b1 p:Nat} {v dv:Value} {xs:List Nat} {ds:List M.Dcl}
theorem Dw.step {w1:World} {p1:Nat} (h:Dw F D w0 b b1 v dv xs ds w p) (hs:Same (· =b) w w1) (hR:RdR F w1 b v xs p1):Dw F D w0 b b1 v dv xs ds w1 p1:=
 ⟨h.same.trans hs,hR,h.var.same hs (by have:=h.old;have:=h.new;omega),h.dcl.same hs fun x hx _ e=>h.hD x hx e,h.old,h.new,Nat.lt_of_lt_of_le h.size hs.size,h.hF,h.hD,h.hD1⟩
theorem Dw.ext {w1:World} (h:Dw F D w0 b b1 v dv xs ds w p) (he:Ext w w1):Dw F D w0 b b1 v dv xs ds w1 p:=h.step (Same.of_ext he) (h.rd.ext he)
theorem Dw.begin (h:RdR F w b v xs p) (hF:∀x,F x→x<w.heap.size) (hd:DclsR D w dv ds) (hD:∀x,D x→x≠b) (hD1:∀x,D x→x<w.heap.size) {K:Value→World→Prop} (hK:∀w1,Dw F D w b w.heap.size v dv xs ds w1 p→K (.pointer (some ⟨w.heap.size,0,none⟩)) w1):zZ PP z7 w K:=by
 refine zC yH fun b1 w1 hb1 he1 hs1 h1=>?_
 subst hb1
 exact hK w1 ⟨Same.of_ext he1,h.ext he1,h1,hd.ext he1,h.blk.lt,rfl,by omega,hF,hD,hD1⟩
abbrev Nw (b1:Nat) (x:Nat):Prop:=b1<x
theorem Dw.fin {c:Nat} {cs:List Value} {t:M.Tm} (h:Dw F D w0 b b1 v dv xs ds w p) {p0:Nat} (hp:p≤p0+c) (ht:TmR (Nw b1) w cs t) (hk3:t.ks.length≤3) (hK:jB0 K F w0 b p0 c v xs):
  zp PP z7 (.pointer (some ⟨b1,0,none⟩)) (.agg ⟨cs⟩) w fun _ w1=>vlv PP z7 (.pointer (some ⟨b1,0,none⟩)) w1 fun r w2=>K r w2:=by
 have:=h.old
 have:=h.new
 refine qu0 h.var rfl ht (fun x hx e=>by subst e;exact Nat.lt_irrefl _ hx) fun w3 hs3 hz3 ht3=>?_
 exact hK w3 p _ t (same_new h.same hs3 (by omega)) (h.rd.new hs3 (by omega) fun x hx e=>by have:=h.hF x hx;omega) hp (ht3.weaken fun x hx _=>by have hx':b1<x:=hx;omega) hk3
theorem Dw.pick {n:Int} (h:Dw F D w0 b b1 v dv xs ds w p) (hn:n≤1099511627776) (hp:p<1099511627776) (hK:∀w1 (k:Nat),Dw F D w0 b b1 v dv xs ds w1 (p+1)→Same (· =b) w w1→(1≤n→(k:Int)<n)→(n<1→k=0)→K (.int .i64 k) w1):vcall PP zI #[.pointer (some ⟨b,0,none⟩),.int .i64 n] w K:=
 pick_spec h.rd hn hp fun w1 k hs hz hR h1 h2=>hK w1 k (h.step hs hR) hs h1 h2
theorem Dw.sub {g:Nat} {args:Array Value} {c:Nat} (h:Dw F D w0 b b1 v dv xs ds w p) (hc:∀K',jB0 K' F w b p c v xs→vcall PP g args w K') (hK:∀w1 p1 tv t,Dw F D w0 b b1 v dv xs ds w1 p1→Same (· =b) w w1→p1≤p+c→TermR (Nw b1) w1 tv t→t.ks.length≤3→K tv w1):vcall PP g args w K:=
 hc K fun w1 p1 tv t hs hR hp ht hk3=>hK w1 p1 tv t (h.step hs hR) hs hp (ht.weaken fun x hx _=>by have:=h.size;show b1<x;omega) hk3
theorem Dw.keep {tv:Value} {t:M.Tm} {w1:World} (h:Dw F D w0 b b1 v dv xs ds w p) (ht:TermR (Nw b1) w tv t) (hs:Same (· =b) w w1):TermR (Nw b1) w1 tv t:=
 ht.same hs fun x hx _ e=>by subst e;have:=h.old;have:=h.new;have hx':b1<x:=hx;omega
theorem Dw.tms {kv:Value} {ks:List M.Tm} (h:Dw F D w0 b b1 v dv xs ds w p) {w1:World} (hk:TmsR (fun z=>Nw b1 z∨z=w.heap.size) w1 kv ks):TmsR (Nw b1) w1 kv ks:=
 hk.weaken fun x hx _=>by
  rcases hx with hx|hx
  ·exact hx
  ·have:=h.size;show b1<x;omega
end
def UR (d:Nat):Nat:=100*4^d
theorem cost_succ (d:Nat):UR (d+1)=4*UR d:=by unfold UR;rw[Nat.pow_succ];omega
theorem cost_ge (d:Nat):100≤UR d:=by
 have:1≤4^d:=Nat.pow_pos (by omega)
 unfold UR;omega
def Vd (d:Nat):Prop:=∀{w:World} {K:Value→World→Prop} {F D:Nat→Prop} {b p:Nat} {v dv:Value} {xs:List Nat} {ds:List M.Dcl} {sort deep:Int},RdR F w b v xs p→(∀x,F x→x<w.heap.size)→DclsR D w dv ds→(∀x,D x→x≠b)→(∀x,D x→x<w.heap.size)→Dok ds→0≤sort→sort≤4→ -100≤deep→deep≤d→
 p+UR d<1099511627776→jB0 K F w b p (UR d) v xs→vcall PP y7 #[.pointer (some ⟨b,0,none⟩),dv,.int .i64 sort,.int .i64 deep] w K
theorem num_draw {w0:World} {b b1 p:Nat} {v dv:Value} {xs:List Nat} {ds:List M.Dcl} {ns:List Int} (h:Dw F D w0 b b1 v dv xs ds w p) (hne:ns≠[]) (hsm:ns.length≤1000) (hp:p<1099511627776) (hK:∀w1 m,Dw F D w0 b b1 v dv xs ds w1 (p+1)→Same (· =b) w w1→m∈ns→K (.int .i64 m) w1):
  vbuildS PP zg ns.length ((ns.map fun x=>Value.int .i64 x).zipIdx.map fun p=>(p.2,p.1)) w fun s w1=>vcall PP yo #[.pointer (some ⟨b,0,none⟩),s] w1 K:=by
 have:=vbuildS_row1 (w:=w) (K:=fun s w1=>vcall PP yo #[.pointer (some ⟨b,0,none⟩),s] w1 K) (t:=zg) (xs:=ns.map fun x=>Value.int .i64 x) Zj jT Ze (fun x hx=>by obtain⟨y,_,rfl⟩:=List.mem_map.1 hx;rfl) (by simp;omega) fun b2 w' h1 h2 h3 h4=>by
  have hv:Ints (· =b2) w' (.slice (some ⟨b2,0,none⟩) (ns.map fun x=>Value.int .i64 x).length (ns.map fun x=>Value.int .i64 x).length) ns:=h4.sl1 rfl (by simp;omega)
  have hh:=h.ext h2
  have:=h.rd.blk.lt
  refine num_spec hh.rd hv hne hsm hp (fun x hx e=>by subst hx;omega) fun w2 m hs hz hR hm=>?_
  exact hK w2 m (hh.step hs hR) ((Same.of_ext h2).trans hs) hm
 rwa[List.length_map] at this
theorem l2Asks_spec {d:Nat} (hT:Vd d) {b p:Nat} {v dv:Value} {xs:List Nat} {ds:List M.Dcl} {deep:Int} (h:RdR F w b v xs p) (hF:∀x,F x→x<w.heap.size) (hd:DclsR D w dv ds) (hD:∀x,D x→x≠b) (hD1:∀x,D x→x<w.heap.size) (hok:Dok ds) (hd1:1≤deep) (hd2:deep≤d+1) (hd9:d≤9)
  (hp:p+2*UR d+10<1099511627776) (hK:jB0 K F w b p (2*UR d+10) v xs):vcall PP X9 #[.pointer (some ⟨b,0,none⟩),dv,.int .i64 deep] w K:=by
 apply x80;unfold Vw
 refine Dw.begin h hF hd hD hD1 fun w1 h1=>?_
 have hg:=h1.new
 have e1:IntKind.i64.wrap (deep-1)=deep-1:=zA (by omega) (by omega)
 have hsub:∀{w2:World} {p2:Nat} {s:Int} {K':Value→World→Prop},Dw F D w b w.heap.size v dv xs ds w2 p2→0≤s→s≤4→p2+UR d<1099511627776→(∀w3 p3 tv t,Dw F D w b w.heap.size v dv xs ds w3 p3→Same (· =b) w2 w3→p3≤p2+UR d→TermR (Nw w.heap.size) w3 tv t→t.ks.length≤3→K' tv w3)→
   vcall PP y7 #[.pointer (some ⟨b,0,none⟩),dv,.int .i64 s,.int .i64 (deep-1)] w2 K':=fun h2 hs0 hs4 hp2 hK'=>
  h2.sub (fun K' hk=>hT h2.rd (fun x hx=>Nat.lt_of_lt_of_le (hF x hx) h2.same.size) h2.dcl hD (fun x hx=>Nat.lt_of_lt_of_le (hD1 x hx) h2.same.size) hok hs0 hs4 (by omega) (by omega) hp2 hk) hK'
 refine h1.pick (by omega) (by omega) fun w2 k h2 hs2 hk _=>?_
 simp only[push_cast,e1]
 refine zh (fun a=>?_) (fun a=>?_)
 ·refine hsub h2 (by omega) (by omega) (by omega) fun w3 p3 t0v t0 h3 hs3 hp3 ht0 _=>?_
  refine kl0 ht0 fun w4 sa he4 hz4 hks=>?_
  have h4:=h3.ext he4
  simp only[push_cast]
  exact h4.fin (p0:=p) (by omega) (TmR.of (t:= .mk 25 0 0 _ [t0]) (h3.tms hks)) (Nat.le_of_ble_eq_true rfl) hK
 refine zh (fun a1=>?_) (fun a1=>?_)
 ·refine hsub h2 (by omega) (by omega) (by omega) fun w3 p3 t0v t0 h3 hs3 hp3 ht0 _=>?_
  refine hsub h3 (by omega) (by omega) (by omega) fun w4 p4 t1v t1 h4 hs4 hp4 ht1 _=>?_
  refine kids2 (h3.keep ht0 hs4) ht1 fun w5 sa he5 hz5 hks=>?_
  have h5:=h4.ext he5
  simp only[push_cast]
  exact h5.fin (p0:=p) (by omega) (TmR.of (t:= .mk 26 0 0 _ [t0,t1]) (h4.tms hks)) (Nat.le_of_ble_eq_true rfl) hK
 refine zh (fun a2=>?_) (fun a2=>?_)
 ·refine hsub h2 (by omega) (by omega) (by omega) fun w3 p3 t0v t0 h3 hs3 hp3 ht0 _=>?_
  refine hsub h3 (by omega) (by omega) (by omega) fun w4 p4 t1v t1 h4 hs4 hp4 ht1 _=>?_
  refine kids2 (h3.keep ht0 hs4) ht1 fun w5 sa he5 hz5 hks=>?_
  have h5:=h4.ext he5
  simp only[push_cast]
  exact h5.fin (p0:=p) (by omega) (TmR.of (t:= .mk 27 0 0 _ [t0,t1]) (h4.tms hks)) (Nat.le_of_ble_eq_true rfl) hK
 refine h2.pick (by omega) (by omega) fun w3 k3 h3 hs3 hk3 _=>?_
 have hk3':=hk3 (by omega)
 simp only[push_cast]
 rw[zA (x:=1+(k3:Int)) (by omega) (by omega)]
 refine zU (fun u w4=> ∃s p4,u=[.int .i64 s]∧0≤s∧s≤4∧p4≤p+4∧Dw F D w b w.heap.size v dv xs ds w4 p4) (fun C hC=>?_) ?_
 ·have hlen:=hok.1
  have hdc3:=h3.dcl
  simp(disch:=(simp only[push_cast];done)) only[push_cast,hdc3.len]
  refine zh (fun c=>?_) (fun c=>?_)
  ·refine h3.pick (by omega) (by omega) fun w4 k4 h4 hs4 hk4 _=>?_
   have hdc4:=h4.dcl
   simp only[push_cast]
   refine zh (fun e=>?_) (fun e=>?_)
   ·try simp(disch:=(simp only[push_cast];done)) only[push_cast,hdc4.len]
    refine h4.pick (by omega) (by omega) fun w5 k5 h5 hs5 hk5 _=>?_
    have hk5':=hk5 (by omega)
    have hdc5:=h5.dcl
    simp(disch:=first|(simp only[push_cast];done)|omega) only[push_cast,hdc5.iaddr]
    try simp(disch:=first|(simp only[push_cast];done)|omega) only[push_cast,hdc5.load1]
    have hwd:1≤(ds.getD k5 (M.nada,0)).2∧(ds.getD k5 (M.nada,0)).2≤4∧_:=hok.2 k5 (by omega)
    exact hC _ _ ⟨_,_,rfl,by omega,by omega,by omega,h5⟩
   ·exact hC _ _ ⟨_,_,rfl,by omega,by omega,by omega,h4⟩
  ·exact hC _ _ ⟨_,_,rfl,by omega,by omega,by omega,h3⟩
 ·rintro u g w4 ⟨s,p4,rfl,hs0,hs4,hp4,h4⟩
  refine num_draw (ns:=[15,16,17,15]) h4 (by simp) (by decide) (by omega) fun w5 m h5 hs5 hm=>?_
  simp only[push_cast,e1]
  refine hsub h5 hs0 hs4 (by omega) fun w6 p6 t0v t0 h6 hs6 hp6 ht0 _=>?_
  refine hsub h6 hs0 hs4 (by omega) fun w7 p7 t1v t1 h7 hs7 hp7 ht1 _=>?_
  refine kids2 (h6.keep ht0 hs7) ht1 fun w8 sa he8 hz8 hks=>?_
  have h8:=h7.ext he8
  simp only[push_cast]
  exact h8.fin (p0:=p) (by omega) (TmR.of (t:= .mk m 0 0 _ [t0,t1]) (h7.tms hks)) (Nat.le_of_ble_eq_true rfl) hK
end Go.Proofs.YtaekfnbnhjgboaaGreatDoor
end
section
namespace Go.Proofs.YtaekfnbnhjgboaaGreatDoor
open Go Go.Vc Go.Proofs
variable {w:World} {K:Value→World→Prop} {F F' D G:Nat→Prop}
theorem l2Term_step {d:Nat} (hd9:d≤9) (hT:∀e,e<d→Vd e):Vd d:=by
 intro w K F D b p v dv xs ds sort deep h hF hd hD hD1 hok hs0 hs4 hdl hdh hp hK
 apply x00;unfold Vo
 refine Dw.begin h hF hd hD hD1 fun w1 h1=>?_
 have hc100:=cost_ge d
 have hleaf:∀{w2:World} {p2:Nat},Dw F D w b w.heap.size v dv xs ds w2 p2→p2≤p+1→UR d=100∨0<d→p2+100≤p+UR d∨d=0→(d=0→p2=p)→
   vcall PP qp #[.pointer (some ⟨b,0,none⟩),dv,.int .i64 sort] w2 fun t27 w_4=>zp PP z7 (.pointer (some ⟨w.heap.size,0,none⟩)) t27 w_4 fun _ w_5=>vlv PP z7 (.pointer (some ⟨w.heap.size,0,none⟩)) w_5 fun r8 w_6=>K r8 w_6:=by
  intro w2 p2 h2 hp2 _ hc hz
  refine h2.sub (c:=100) (fun K' hk=>l2Leafy_spec h2.rd (fun x hx=>Nat.lt_of_lt_of_le (hF x hx) h2.same.size) h2.dcl hD hok hs0 hs4 (by rcases hc with hc|hc<;>omega) hk) fun w3 p3 tv t h3 hs3 hp3 ht hk3=>?_
  obtain⟨cs,rfl,hcs⟩:=ht.cells
  refine h3.fin (p0:=p) (c:=UR d) ?_ hcs hk3 hK
  rcases hc with hc|hc
  ·omega
  ·have:=hz hc;omega
 refine zU (fun u w'=> ∃p',u=[]∧Dw F D w b w.heap.size v dv xs ds w' p'∧p'≤p+1∧1≤deep) (fun C hC=>?_) ?_
 ·simp only[push_cast]
  refine zh (fun a=>?_) (fun a=>?_)
  ·refine hleaf h1 (by omega) (by
    by_cases h0:d=0
    ·subst h0;left;rfl
    ·right;omega) ?_ (fun _=>rfl)
   by_cases h0:d=0
   ·exact .inr h0
   ·left;omega
  ·have hdpos:1≤d:=by omega
   have hc4:UR d=4*UR (d-1):=by
    obtain⟨e,rfl⟩:∃e,d=e+1:=⟨d-1,by omega⟩
    exact cost_succ e
   have hc99:=cost_ge (d-1)
   refine zh (fun c=>?_) (fun c=>?_)
   ·refine h1.pick (by omega) (by omega) fun w2 k h2 hs2 hk _=>?_
    simp only[push_cast]
    refine zh (fun e=>?_) (fun e=>?_)
    ·exact hleaf h2 (by omega) (.inr (by omega)) (.inl (by omega)) (by omega)
    ·exact hC _ _ ⟨p+1,rfl,h2,by omega,by omega⟩
   ·exact hC _ _ ⟨p,rfl,h1,by omega,by omega⟩
 rintro u g w2 ⟨p2,rfl,h2,hp2,hd1⟩
 have hdpos:1≤d:=by omega
 obtain⟨d',hd'⟩:∃d',d=d'+1:=⟨d-1,by omega⟩
 have hc4:UR d=4*UR d':=by rw[hd',cost_succ]
 have hc99:=cost_ge d'
 have e1:IntKind.i64.wrap (deep-1)=deep-1:=zA (by omega) (by omega)
 have hsub:∀{w2:World} {p2:Nat} {s:Int} {K':Value→World→Prop},Dw F D w b w.heap.size v dv xs ds w2 p2→0≤s→s≤4→p2+UR d'<1099511627776→(∀w3 p3 tv t,Dw F D w b w.heap.size v dv xs ds w3 p3→Same (· =b) w2 w3→p3≤p2+UR d'→TermR (Nw w.heap.size) w3 tv t→t.ks.length≤3→K' tv w3)→
   vcall PP y7 #[.pointer (some ⟨b,0,none⟩),dv,.int .i64 s,.int .i64 (deep-1)] w2 K':=fun h2 hs0 hs4 hp2 hK'=>
  h2.sub (fun K' hk=>hT d' (by omega) h2.rd (fun x hx=>Nat.lt_of_lt_of_le (hF x hx) h2.same.size) h2.dcl hD (fun x hx=>Nat.lt_of_lt_of_le (hD1 x hx) h2.same.size) hok hs0 hs4 (by omega) (by omega) hp2 hk) hK'
 refine h2.pick (by omega) (by omega) fun w3 k h3 hs3 hk _=>?_
 have hk':=hk (by omega)
 simp only[push_cast,e1]
 refine zh (fun a=>?_) (fun a=>?_)
 ·refine hsub h3 (by omega) (by omega) (by omega) fun w4 p4 t0v t0 h4 hs4' hp4 ht0 _=>?_
  refine hsub h4 hs0 hs4 (by omega) fun w5 p5 t1v t1 h5 hs5 hp5 ht1 _=>?_
  refine hsub h5 hs0 hs4 (by omega) fun w6 p6 t2v t2 h6 hs6 hp6 ht2 _=>?_
  refine kids3 (h5.keep (h4.keep ht0 hs5) hs6) (h5.keep ht1 hs6) ht2 fun w7 sa he7 hz7 hks=>?_
  have h7:=h6.ext he7
  simp only[push_cast]
  exact h7.fin (p0:=p) (by omega) (TmR.of (t:= .mk 23 0 0 _ [t0,t1,t2]) (h6.tms hks)) (Nat.le_of_ble_eq_true rfl) hK
 refine zh (fun a0=>?_) (fun a0=>?_)
 ·refine h3.sub (c:=2*UR d'+10) (fun K' hk=>l2Asks_spec (hT d' (by omega)) h3.rd (fun x hx=>Nat.lt_of_lt_of_le (hF x hx) h3.same.size) h3.dcl hD (fun x hx=>Nat.lt_of_lt_of_le (hD1 x hx) h3.same.size) hok hd1 (by omega) (by omega) (by omega) hk) fun w4 p4 tv t h4 hs4' hp4 ht hk3=>?_
  obtain⟨cs,rfl,hcs⟩:=ht.cells
  exact h4.fin (p0:=p) (by omega) hcs hk3 hK
 refine zh (fun a1=>?_) (fun a1=>?_)
 ·rw[zA (x:=5-sort) (by omega) (by omega)]
  refine h3.pick (by omega) (by omega) fun w4 k4 h4 hs4' hk4 hk4'=>?_
  have hw4:sort+(k4:Int)≤4:=by
   by_cases hn:1≤5-sort
   ·have:=hk4 hn;omega
   ·have:=hk4' (by omega);omega
  simp only[push_cast]
  rw[zA (x:=sort+(k4:Int)) (by omega) (by omega),zA (x:=sort+(k4:Int)-sort) (by omega) (by omega),zA (x:=sort+(k4:Int)-sort+1) (by omega) (by omega)]
  refine h4.pick (by omega) (by omega) fun w5 k5 h5 hs5 hk5 _=>?_
  have hk5':=hk5 (by omega)
  simp only[push_cast]
  refine hsub h5 (by omega) hw4 (by omega) fun w6 p6 t0v t0 h6 hs6 hp6 ht0 _=>?_
  refine kl0 ht0 fun w7 sa he7 hz7 hks=>?_
  have h7:=h6.ext he7
  simp only[push_cast]
  exact h7.fin (p0:=p) (by omega) (TmR.of (t:= .mk 22 _ _ _ [t0]) (h6.tms hks)) (Nat.le_of_ble_eq_true rfl) hK
 refine zU (fun u w'=>u=[]∧w'=w3) (fun C hC=>?_) ?_
 ·refine zU (fun u w'=>u=[.bool (decide (k=2∧1<sort))]∧w'=w3) (fun C' hC'=>?_) ?_
  ·try simp only[push_cast]
   refine zh (fun c=>?_) (fun c=>?_)
   ·refine hC' _ _ ⟨?_,rfl⟩
    have c':k=2:=by omega
    simp only[c',true_and]
   ·exact hC' _ _ ⟨by rw[decide_eq_false (by omega)],rfl⟩
  rintro u g w4 ⟨rfl,rfl⟩
  simp only[push_cast]
  refine zh (fun c=>?_) (fun c=>?_)
  ·rw[zA (x:=sort-1) (by omega) (by omega)]
   refine h3.pick (by omega) (by omega) fun w5 k5 h5 hs5 hk5 _=>?_
   have hk5':=hk5 (by omega)
   try simp only[push_cast]
   rw[zA (x:=1+(k5:Int)) (by omega) (by omega)]
   refine hsub h5 (by omega) (by omega) (by omega) fun w6 p6 t0v t0 h6 hs6 hp6 ht0 _=>?_
   try simp only[push_cast]
   rw[zA (x:=sort-(1+(k5:Int))) (by omega) (by omega)]
   refine hsub h6 (by omega) (by omega) (by omega) fun w7 p7 t1v t1 h7 hs7 hp7 ht1 _=>?_
   refine kids2 (h6.keep ht0 hs7) ht1 fun w8 sa he8 hz8 hks=>?_
   have h8:=h7.ext he8
   simp only[push_cast]
   exact h8.fin (p0:=p) (by omega) (TmR.of (t:= .mk 14 0 0 _ [t0,t1]) (h7.tms hks)) (Nat.le_of_ble_eq_true rfl) hK
  ·exact hC _ _ ⟨rfl,rfl⟩
 rintro u g w4 ⟨rfl,rfl⟩
 try simp only[push_cast]
 refine zh (fun c=>?_) (fun c=>?_)
 ·refine h3.pick (by omega) (by omega) fun w5 k5 h5 hs5 hk5 _=>?_
  have hk5':=hk5 (by omega)
  try simp only[push_cast]
  rw[zA (x:=1+(k5:Int)) (by omega) (by omega)]
  refine hsub h5 hs0 hs4 (by omega) fun w6 p6 t0v t0 h6 hs6 hp6 ht0 _=>?_
  refine kl0 ht0 fun w7 sa he7 hz7 hks=>?_
  have h7:=h6.ext he7
  simp only[push_cast]
  exact h7.fin (p0:=p) (by omega) (TmR.of (t:= .mk _ 0 0 _ [t0]) (h6.tms hks)) (Nat.le_of_ble_eq_true rfl) hK
 ·refine h3.pick (by omega) (by omega) fun w5 k5 h5 hs5 hk5 _=>?_
  have hk5':=hk5 (by omega)
  try simp only[push_cast]
  rw[zA (x:=3+(k5:Int)) (by omega) (by omega)]
  refine hsub h5 hs0 hs4 (by omega) fun w6 p6 t0v t0 h6 hs6 hp6 ht0 _=>?_
  refine hsub h6 hs0 hs4 (by omega) fun w7 p7 t1v t1 h7 hs7 hp7 ht1 _=>?_
  refine kids2 (h6.keep ht0 hs7) ht1 fun w8 sa he8 hz8 hks=>?_
  have h8:=h7.ext he8
  simp only[push_cast]
  exact h8.fin (p0:=p) (by omega) (TmR.of (t:= .mk _ 0 0 _ [t0,t1]) (h7.tms hks)) (Nat.le_of_ble_eq_true rfl) hK
theorem l2Term_spec:∀d,d≤9→Vd d:=by
 intro d
 induction d using Nat.strongRecOn with
 |_ d ih=>intro hd;exact l2Term_step hd fun e he=>ih e he (by omega)
theorem dok_sized {ds:List M.Dcl} (h:Dok ds):ZX0 ds:=fun i hi=>by have:=(h.2 i hi).2.2;omega
theorem l2Some_spec {b p:Nat} {v dv:Value} {xs:List Nat} {ds:List M.Dcl} {sort:Int} (h:RdR F w b v xs p) (hF:∀x,F x→x<w.heap.size) (hd:DclsR D w dv ds) (hD:∀x,D x→x≠b) (hD1:∀x,D x→x<w.heap.size) (hok:Dok ds) (hs0:0≤sort) (hs4:sort≤4)
  (hp:p+200000<1099511627776) (hK:jB0 K F w b p 200000 v xs):vcall PP X4 #[.pointer (some ⟨b,0,none⟩),dv,.int .i64 sort] w K:=by
 apply x20;unfold Vq
 refine Dw.begin h hF hd hD hD1 fun w1 h1=>?_
 have hcost:UR 4=25600:=rfl
 refine vloop_up 4 (fun i u w'=> ∃p',u=[.int .i64 (4-(i:Int))]∧Dw F D w b w.heap.size v dv xs ds w' p'∧p'≤p+25600*i) ⟨p,rfl,h1,by omega⟩ ?_
 rintro i _ _ w2 C hi ⟨p2,rfl,h2,hp2⟩ hC
 have hold:=h2.old
 have hnew:=h2.new
 simp only[push_cast]
 refine zh (fun a=>?_) (fun a=>?_)
 ·refine h2.sub (c:=UR 4) (fun K' hk=>l2Term_spec 4 (by omega) h2.rd (fun x hx=>Nat.lt_of_lt_of_le (hF x hx) h2.same.size) h2.dcl hD (fun x hx=>Nat.lt_of_lt_of_le (hD1 x hx) h2.same.size) hok hs0 hs4 (by omega) (by omega) (by omega) hk) fun w3 p3 tv t h3 hs3 hp3 ht hk3=>?_
  obtain⟨cs,rfl,hcs⟩:=ht.cells
  have hcs3:=hcs.weaken (F':=fun x=>Nw w.heap.size x∧x<w3.heap.size) fun x hx hl=>⟨hx,hl⟩
  refine zC yH fun b2 w4 hb2 he4 hs4' h4=>?_
  refine stTerm h4 rfl (hcs3.ext he4) fun w5 hw5 _ h5=>?_
  have he5:Ext w3 w5:=Ext.then he4 hw5 fun y hy=>by subst hy;omega
  have hg:aggB PP z7 cs.length=true:=by rw[xt hcs];exact zH
  rw[h5.ldAgg (t:=z7) hg]
  have h5':=h3.ext he5
  refine spec_TermSort_spec (dok_sized hok) h5'.dcl (hcs.ext he5).term fun w6 he6=>?_
  have h6':=h5'.ext he6
  simp only[push_cast]
  refine zh (fun c=>?_) (fun c=>?_)
  ·rw[(h5.ext he6).ldAgg (t:=z7) hg]
   exact h6'.fin (p0:=p) (by omega) ((hcs.ext he5).ext he6) hk3 hK
  ·rw[zA (by omega) (by omega),show 4-(i:Int)-1=4-((i+1:Nat):Int) by omega]
   exact hC (by omega) _ _ ⟨p3,rfl,h6',by omega⟩
 ·refine h2.sub (c:=100) (fun K' hk=>l2Leafy_spec h2.rd (fun x hx=>Nat.lt_of_lt_of_le (hF x hx) h2.same.size) h2.dcl hD hok hs0 hs4 (by omega) hk) fun w3 p3 tv t h3 hs3 hp3 ht hk3=>?_
  obtain⟨cs,rfl,hcs⟩:=ht.cells
  exact h3.fin (p0:=p) (by omega) hcs hk3 hK
end Go.Proofs.YtaekfnbnhjgboaaGreatDoor
end
section
namespace Go.Proofs.YtaekfnbnhjgboaaGreatDoor
open Go Go.Vc Go.Proofs
variable {w:World} {K:Value→World→Prop} {F F' D G:Nat→Prop}
theorem strof_spec {b p:Nat} {v vs:Value} {xs:List Nat} {ss:List ByteArray} (h:RdR F w b v xs p) (hv:Vals F' w vs (ss.map .string)) (hne:ss≠[]) (hsm:ss.length≤1000) (hp:p<1099511627776) (hF':∀x,F' x→x≠b)
  (hK:∀w' s,Same (· =b) w w'→w'.heap.size=w.heap.size→RdR F w' b v xs (p+1)→s∈ss→K (.string s) w'):vcall PP qF #[.pointer (some ⟨b,0,none⟩),vs] w K:=by
 apply UV;unfold Qo
 have hpos:=List.length_pos_iff.2 hne
 have hl:(ss.map Value.string).length=ss.length:=List.length_map _
 simp(disch:=(simp only[push_cast];done)) only[push_cast,hv.len]
 refine pick_spec h (by omega) hp fun w1 k hs hz hR h1 _=>?_
 have hk:=h1 (by omega)
 have hv1:=hv.same hs fun x hx _ e=>hF' x hx e
 rw[hv1.iaddr (by kernel_rfl) (by omega) (by omega),Int.toNat_natCast,hv1.load (by kernel_rfl) (by omega),M.getD_map _ (by omega) _ M.nada]
 exact hK w1 _ hs hz hR (M.getD_mem (by omega) _)
theorem of_lit {b p:Nat} {v:Value} {xs:List Nat} {ss:List ByteArray} (h:RdR F w b v xs p) (hF:∀x,F x→x<w.heap.size) (hne:ss≠[]) (hsm:ss.length≤1000) (hp:p<1099511627776) (hK:∀w1 s,Same (· =b) w w1→RdR F w1 b v xs (p+1)→s∈ss→K (.string s) w1):
  vbuildS PP yn ss.length ((ss.map Value.string).zipIdx.map fun p=>(p.2,p.1)) w fun s w1=>vcall PP qF #[.pointer (some ⟨b,0,none⟩),s] w1 K:=by
 have:=vbuildS_row1 (w:=w) (K:=fun s w1=>vcall PP qF #[.pointer (some ⟨b,0,none⟩),s] w1 K) (t:=yn) (xs:=ss.map Value.string) Yv (by kernel_rfl) Ys (fun x hx=>by obtain⟨y,_,rfl⟩:=List.mem_map.1 hx;rfl) (by rw[List.length_map];omega) fun b2 w' h1 h2 h3 h4=>by
  have hv:Vals (· =b2) w' (.slice (some ⟨b2,0,none⟩) (ss.map Value.string).length (ss.map Value.string).length) (ss.map Value.string):=h4.sl1 rfl (by rw[List.length_map];omega)
  have:=h.blk.lt
  refine strof_spec (h.ext h2) hv hne hsm hp (fun x hx e=>by subst hx;omega) fun w2 m hs hz hR hm=>?_
  exact hK w2 m ((Same.of_ext h2).trans hs) hR hm
 rwa[List.length_map] at this
theorem num_lit {b p:Nat} {v:Value} {xs:List Nat} {ns:List Int} (h:RdR F w b v xs p) (hne:ns≠[]) (hsm:ns.length≤1000) (hp:p<1099511627776) (hK:∀w1 m,Same (· =b) w w1→RdR F w1 b v xs (p+1)→m∈ns→K (.int .i64 m) w1):
  vbuildS PP zg ns.length ((ns.map fun x=>Value.int .i64 x).zipIdx.map fun p=>(p.2,p.1)) w fun s w1=>vcall PP yo #[.pointer (some ⟨b,0,none⟩),s] w1 K:=by
 have:=vbuildS_row1 (w:=w) (K:=fun s w1=>vcall PP yo #[.pointer (some ⟨b,0,none⟩),s] w1 K) (t:=zg) (xs:=ns.map fun x=>Value.int .i64 x) Zj jT Ze (fun x hx=>by obtain⟨y,_,rfl⟩:=List.mem_map.1 hx;rfl) (by simp;omega) fun b2 w' h1 h2 h3 h4=>by
  have hv:Ints (· =b2) w' (.slice (some ⟨b2,0,none⟩) (ns.map fun x=>Value.int .i64 x).length (ns.map fun x=>Value.int .i64 x).length) ns:=h4.sl1 rfl (by simp;omega)
  have:=h.blk.lt
  refine num_spec (h.ext h2) hv hne hsm hp (fun x hx e=>by subst hx;omega) fun w2 m hs hz hR hm=>?_
  exact hK w2 m ((Same.of_ext h2).trans hs) hR hm
 rwa[List.length_map] at this
def Dsm (ds:List M.Dcl):Prop:=ds.length≤6∧∀i,i<ds.length→(ds.getD i VN).1.size≤5
theorem dsm_sized {ds:List M.Dcl} (h:Dsm ds):ZX0 ds:=fun i hi=>by have:=h.2 i hi;omega
theorem dok_dsm {ds:List M.Dcl} (h:Dok ds):Dsm ds:=⟨by have:=h.1;omega,fun i hi=>by have:=(h.2 i hi).2.2;omega⟩
theorem kr0 {ds:List M.Dcl} {k j:Nat} {d:M.Dcl} (hk:k<ds.length):(ds.set k d).getD j VN=if k=j then d else ds.getD j VN:=by
 rw[List.getD_eq_getElem?_getD,List.getElem?_set]
 split
 ·rename_i e
  rfl
 ·rw[←List.getD_eq_getElem?_getD]
theorem k30 {ds:List M.Dcl} {k:Nat} {d:M.Dcl} (c:List Value) (hc:c=[Value.string d.1,Value.int .i64 d.2]):(ds.map fun d=>[Value.string d.1,Value.int .i64 d.2]).set k c=(ds.set k d).map fun d=>[Value.string d.1,Value.int .i64 d.2]:=by
 rw[List.map_set,hc]
theorem xJ0 {b:Nat} (h:Blk w b [] zw):OwnD w (.slice (some ⟨b,0,none⟩) 0 0) []:=Blk.ownk (css:=[]) (by rw[KO];exact h) (by simp) rfl (by decide)
abbrev UU (ds:List M.Dcl):List (List Value):=ds.map fun d=>[Value.string d.1,Value.int .i64 d.2]
theorem one_cellsD {ds:List M.Dcl}:∀y,y∈UU ds→∀c,c∈y→c.oneCell'=true:=fun y hy c hc=>by
 obtain⟨d,_,rfl⟩:=List.mem_map.1 hy
 simp only[List.mem_cons,List.not_mem_nil,or_false] at hc
 rcases hc with rfl|rfl<;>rfl
theorem l2Spoil_spec {b p:Nat} {v dv:Value} {xs:List Nat} {ds:List M.Dcl} (h:RdR F w b v xs p) (hF:∀x,F x→x<w.heap.size) (hd:DclsR D w dv ds) (hD:∀x,D x→x≠b) (hD1:∀x,D x→x<w.heap.size) (hok:Dok ds) (hp:p+10<1099511627776)
  (hK:∀w' p' dv' ds',Same (· =b) w w'→RdR F w' b v xs p'→p'≤p+10→DclsR (fun x=>w.heap.size≤x) w' dv' ds'→Dsm ds'→K dv' w'):vcall PP Yg #[.pointer (some ⟨b,0,none⟩),dv] w K:=by
 apply zC0;unfold Jw
 have lb:=h.blk.lt
 have hlen:=hok.1
 refine vbuildS_row (xs:=[]) (us:=[]) (k:=2) ky Zh xr rfl (by simp) (by decide) fun b1 w1 hb1 he1 hs1 h1=>?_
 have ho1:=xJ0 h1
 refine vappend (F:=D) (ys:=UU ds) Qa (by decide) ho1 (show Sl D w1 2 dv (UU ds) from hd.ext he1) one_cellsD (Nat.zero_le _) (by simp;omega) (by simp;omega) fun ov w2 ho2 hw2 hn2=>?_
 replace ho2:OwnD w2 ov ds:=ho2
 have hz1:=he1.size
 have hz2:=hw2.size
 have hw2':Same (· =b1) w1 w2:=hw2.mono fun x _ hx=>(Option.some.inj hx).symm
 have hn:∀x,ov.ownBlock=some x→w.heap.size≤x:=fun x hx=>by
  rcases hn2 x hx with hx|hx
  ·have e:x=b1:=(Option.some.inj hx).symm;omega
  ·omega
 have hs2:Same (· =b) w w2:=same_new (Same.of_ext he1) hw2' (by omega)
 have hR2:RdR F w2 b v xs p:=(h.ext he1).new hw2' (by omega) fun x hx e=>by have:=hF x hx;omega
 have hd2:DclsR D w2 dv ds:=(hd.ext he1).same hw2' fun x hx _ e=>by have:=hD1 x hx;omega
 have hret:∀w3 p3 ds3,Same (· =b) w w3→RdR F w3 b v xs p3→p3≤p+10→OwnD w3 ov ds3→Dsm ds3→K ov w3:=fun w3 p3 ds3 hs hR hp3 ho hds=>hK w3 p3 ov ds3 hs hR hp3 (ho.dcls.weaken fun x hx _=>hn x hx) hds
 simp(disch:=(simp only[push_cast];done)) only[push_cast,hd2.len]
 refine zh (fun a=>?_) (fun a=>?_)
 ·exact hret _ _ _ hs2 hR2 (by omega) ho2 (dok_dsm hok)
 refine pick_spec hR2 (by omega) (by omega) fun w3 k hs3 hz3 hR3 hk _=>?_
 have hk':=hk (by omega)
 refine pick_spec hR3 (by omega) (by omega) fun w4 c hs4 hz4 hR4 hc _=>?_
 have ho4:OwnD w4 ov ds:=(ho2.same hs3 fun x hx e=>by have:=hn x hx;omega).same hs4 fun x hx e=>by have:=hn x hx;omega
 have hs4':=(hs2.trans hs3).trans hs4
 have hz4':=hs4'.size
 have hF4:∀x,F x→x<w4.heap.size:=fun x hx=>Nat.lt_of_lt_of_le (hF x hx) hz4'
 have hstore:∀{w5:World} {p5:Nat} {d:M.Dcl} {x:Value} {j:Nat} {e:TypeId},OwnD w5 ov ds→Same (· =b) w w5→RdR F w5 b v xs p5→p5≤p+10→x.cells= #[x]→x.oneCell'=true→j6 PP e 1=true→j<2→([Value.string (ds.getD k VN).1,Value.int .i64 (ds.getD k VN).2].set j x)=[Value.string d.1,Value.int .i64 d.2]→d.1.size≤5→
   zp PP e (.pointer (some ((eaddr ov 2 k).add j))) x w5 fun _ w6=>K ov w6:=by
  intro w5 p5 d x j e ho hs hR hp5 hx1 hx2 hz hj hset hsz
  refine Own.stCell ho hx1 hx2 hz (by rw[List.length_map];omega) hj fun w6 ho6 hs6 _=>?_
  have hg:(UU ds).getD k []=[Value.string (ds.getD k VN).1,Value.int .i64 (ds.getD k VN).2]:=Ue (by omega)
  rw[show(ds.map fun d=>[Value.string d.1,Value.int .i64 d.2]).getD k []=_ from hg,hset,k30 (d:=d) _ rfl] at ho6
  have hs56:Same (· =b) w w6:=⟨hs6.os.trans hs.os,hs6.tape.trans hs.tape,hs6.output.trans hs.output,Nat.le_trans hs.size hs6.size,fun y hy hne=>by
   rw[hs6.block y (Nat.lt_of_lt_of_le hy hs.size) (fun e=>by have:=hn y e;omega)];exact hs.block y hy hne⟩
  refine hret w6 p5 _ hs56 (hR.same hs6 (fun e=>by have:=hn b e;omega) fun y hy _ e=>by have:=hn y e;have:=hF y hy;omega) hp5 ho6 ⟨by rw[List.length_set];omega,fun i hi=>?_⟩
  rw[List.length_set] at hi
  rw[kr0 (by omega)]
  split
  ·exact hsz
  ·have:=(hok.2 i hi).2.2;omega
 have hnk:=(hok.2 k (by omega)).2.2
 simp only[push_cast]
 refine zh (fun a0=>?_) (fun a0=>?_)
 ·refine num_lit (ns:=[0,5,-1,4]) hR4 (by simp) (by decide) (by omega) fun w5 m hs5 hR5 hm=>?_
  have ho5:OwnD w5 ov ds:=ho4.same hs5 fun x hx e=>by have:=hn x hx;omega
  have hi:=ho5.dcls
  simp(disch:=first|(simp only[push_cast];done)|omega) only[push_cast,hi.iaddr]
  exact hstore (d:=((ds.getD k VN).1,m)) (j:=1) ho5 (hs4'.trans hs5) hR5 (by omega) rfl rfl jT (by omega) rfl (by show(ds.getD k VN).1.size≤5;omega)
 refine zh (fun a1=>?_) (fun a1=>?_)
 ·refine of_lit (ss:=[⟨#[]⟩,⟨#[116,114,117,101]⟩,⟨#[97,98,99,100,101]⟩,⟨#[65]⟩,⟨#[110,111,116]⟩,⟨#[120]⟩]) hR4 hF4 (by simp) (by decide) (by omega) fun w5 s hs5 hR5 hm=>?_
  have ho5:OwnD w5 ov ds:=ho4.same hs5 fun x hx e=>by have:=hn x hx;omega
  have hi:=ho5.dcls
  have hsz:s.size≤5:=by
   simp only[List.mem_cons,List.not_mem_nil,or_false] at hm
   rcases hm with rfl|rfl|rfl|rfl|rfl|rfl<;>decide
  simp(disch:=first|(simp only[push_cast];done)|omega) only[push_cast,hi.iaddr]
  exact hstore (d:=(s,(ds.getD k VN).2)) (j:=0) ho5 (hs4'.trans hs5) hR5 (by omega) rfl rfl yk0 (by omega) rfl hsz
 refine zh (fun a2=>?_) (fun a2=>?_)
 ·refine vbuildS_row (xs:=[.agg ⟨[.string ⟨#[113]⟩,.int .i64 4]⟩,.agg ⟨[.string ⟨#[112]⟩,.int .i64 1]⟩]) (us:=UU [(⟨#[113]⟩,4),(⟨#[112]⟩,1)]) (k:=2) ky Zh xr rfl (by simp) (by decide) fun b5 w5 hb5 he5 hs5 h5=>?_
  have hlit:OwnD w5 (.slice (some ⟨b5,0,none⟩) 2 2) [(⟨#[113]⟩,4),(⟨#[112]⟩,1)]:=Blk.ownk (css:=UU [(⟨#[113]⟩,4),(⟨#[112]⟩,1)]) (by rw[KO];exact h5) (by simp) rfl (by decide)
  refine vappend (ys:=UU [(⟨#[113]⟩,4),(⟨#[112]⟩,1)]) Qa (by decide) (ho4.ext he5) hlit.sl one_cellsD (Nat.zero_le _) (by simp;omega) (by simp;omega) fun ov' w6 ho6 hw6 hn6=>?_
  have hz5:=he5.size
  have hs6:Same (· =b) w w6:=⟨hw6.os.trans ((hs4'.trans (Same.of_ext he5)).os),hw6.tape.trans ((hs4'.trans (Same.of_ext he5)).tape),hw6.output.trans ((hs4'.trans (Same.of_ext he5)).output),Nat.le_trans (hs4'.trans (Same.of_ext he5)).size hw6.size,fun y hy hne=>by
   rw[hw6.block y (Nat.lt_of_lt_of_le hy (hs4'.trans (Same.of_ext he5)).size) (fun e=>by have:=hn y e;omega)];exact(hs4'.trans (Same.of_ext he5)).block y hy hne⟩
  have hR6:RdR F w6 b v xs _:=(hR4.ext he5).same hw6 (fun e=>by have:=hn b e;omega) fun y hy _ e=>by have:=hn y e;have:=hF y hy;omega
  have ho6':OwnD w6 ov' (ds++[(⟨#[113]⟩,4),(⟨#[112]⟩,1)]):=by
   rw[OwnD,List.map_append];exact ho6
  refine hK w6 _ ov' _ hs6 hR6 (by omega) (ho6'.dcls.weaken fun x hx _=>?_) ⟨by rw[List.length_append];simp;omega,fun i hi=>?_⟩
  ·rcases hn6 x hx with h|h
   ·exact hn x h
   ·omega
  ·rw[List.length_append] at hi
   by_cases hi2:i<ds.length
   ·rw[List.getD_eq_getElem?_getD,List.getElem?_append_left hi2,←List.getD_eq_getElem?_getD]
    have:=(hok.2 i hi2).2.2;omega
   ·rw[List.getD_eq_getElem?_getD,List.getElem?_append_right (by omega)]
    have:i-ds.length=0∨i-ds.length=1:=by simp at hi;omega
    rcases this with e|e<;>rw[e]<;>decide
 refine zh (fun a3=>?_) (fun a3=>?_)
 ·refine vbuildS_row (xs:=[]) (us:=[]) (k:=2) ky Zh xr rfl (by simp) (by decide) fun b5 w5 hb5 he5 hs5 h5=>?_
  have ho5:=xJ0 h5
  exact hK w5 _ _ [] (hs4'.trans (Same.of_ext he5)) (hR4.ext he5) (by omega) (ho5.dcls.weaken fun x hx _=>by have e:x=b5:=(Option.some.inj hx).symm;omega) ⟨by simp,fun i hi=>by simp at hi⟩
 ·exact hret _ _ _ hs4' hR4 (by omega) ho4 (dok_dsm hok)
end Go.Proofs.YtaekfnbnhjgboaaGreatDoor
end
section
namespace Go.Proofs.YtaekfnbnhjgboaaGreatDoor
open Go Go.Vc Go.Proofs
variable {w:World} {K:Value→World→Prop} {F F' D G:Nat→Prop}
theorem ints_lit {ns:List Int} (hsm:ns.length≤1000) (hK:∀b2 w',b2=w.heap.size→Ext w w'→Ints (· =b2) w' (.slice (some ⟨b2,0,none⟩) ns.length ns.length) ns→K (.slice (some ⟨b2,0,none⟩) ns.length ns.length) w'):vbuildS PP zg ns.length ((ns.map fun x=>Value.int .i64 x).zipIdx.map fun p=>(p.2,p.1)) w K:=by
 have:=vbuildS_row1 (w:=w) (K:=K) (t:=zg) (xs:=ns.map fun x=>Value.int .i64 x) Zj jT Ze (fun x hx=>by obtain⟨y,_,rfl⟩:=List.mem_map.1 hx;rfl) (by simp;omega) fun b2 w' h1 h2 h3 h4=>by
  rw[List.length_map]
  exact hK b2 w' h1 h2 (h4.sl1 (by simp) (by omega))
 rwa[List.length_map] at this
theorem l2Bent_spec {b p:Nat} {v tv:Value} {xs:List Nat} {t:M.Tm} (h:RdR F w b v xs p) (hF:∀x,F x→x<w.heap.size) (ht:TermR G w tv t) (hG:∀x,G x→x≠b) (hG1:∀x,G x→x<w.heap.size) (hp:p+10<1099511627776) (hsm:t.ks.length≤1000)
  (hK:∀w' p' tv' t',Same (· =b) w w'→RdR F w' b v xs p'→p'≤p+10→TermR (fun x=>G x∨w.heap.size≤x) w' tv' t'→t'.ks.length≤t.ks.length+1→K tv' w'):vcall PP X8 #[.pointer (some ⟨b,0,none⟩),tv] w K:=by
 apply x70;unfold Vv
 have lb:=h.blk.lt
 obtain⟨kv,rfl,hks⟩:=ht
 refine zy fun b1 w1 hb1 he1 hs1 h1=>?_
 refine zC yH fun b2 w2 hb2 he2 hs2 h2=>?_
 have q2:=h1.ext he2
 refine vbuildS_row (xs:=[]) (us:=[]) (k:=5) Wp Ug yH rfl (by simp) (by decide) fun b3 w3 hb3 he3 hs3 h3=>?_
 have ho3:Own PP 0 5 zr w3 (.slice (some ⟨b3,0,none⟩) 0 0) []:=Blk.ownk (css:=[]) (by rw[KN];exact h3) (by simp) rfl (by decide)
 have q3:=q2.ext he3
 have r3:=h2.ext he3
 have hE3:=(he1.trans he2).trans he3
 have hks3:=hks.ext hE3
 have hR3:=h.ext hE3
 have hz1:=he1.size
 have hz2:=he2.size
 have hz3:=he3.size
 simp(disch:=(simp only[push_cast];done)) only[push_cast,q3.ld4]
 obtain⟨css,hsl,hcl,hci⟩:=hks3
 have hone:∀y,y∈css→∀c,c∈y→c.oneCell'=true:=fun y hy c hc=>by
  obtain⟨i,hi,rfl⟩:=List.getElem_of_mem hy
  have hq:=hci i (by omega)
  rw[List.getD_eq_getElem?_getD,List.getElem?_eq_getElem hi] at hq
  obtain⟨kv',he,hk'⟩:=hq.inv
  obtain⟨css',hs',_⟩:=hk'
  rw[show css[i]=(some css[i]).getD [] from rfl,he] at hc
  simp only[List.mem_cons,List.not_mem_nil,or_false] at hc
  rcases hc with rfl|rfl|rfl|rfl|rfl
  ·rfl
  ·rfl
  ·rfl
  ·rfl
  ·exact hs'.one
 refine vappend (F:=G) Ws (by decide) ho3 hsl hone (Nat.zero_le _) (by simp;omega) (by simp;omega) fun ov w4 ho4 hw4 hn4=>?_
 replace ho4:Own PP 0 5 zr w4 ov css:=ho4
 have hz4:=hw4.size
 have hw4':Same (· =b3) w3 w4:=hw4.mono fun x _ hx=>(Option.some.inj hx).symm
 have hn:∀x,ov.ownBlock=some x→w2.heap.size≤x:=fun x hx=>by
  rcases hn4 x hx with hx|hx
  ·have e:x=b3:=(Option.some.inj hx).symm;omega
  ·omega
 have hs04:Same (· =b) w w4:=same_new (Same.of_ext hE3) hw4' (by omega)
 have hR4:RdR F w4 b v xs p:=hR3.new hw4' (by omega) fun x hx e=>by have:=hF x hx;omega
 have q4:=q3.same hw4' (by omega)
 have r4:=r3.same hw4' (by omega)
 have hks4:TmsR G w4 kv t.ks:=(hks.ext hE3).same hw4' fun x hx _ e=>by have:=hG1 x hx;omega
 refine pick_spec hR4 (by omega) (by omega) fun w5 c hs5 hz5 hR5 _ _=>?_
 have q5:=q4.same hs5 (by omega)
 have r5:=r4.same hs5 (by omega)
 have hks5:TmsR G w5 kv t.ks:=hks4.same hs5 fun x hx _ e=>hG x hx e
 have hs05:=hs04.trans hs5
 have ho5:Own PP 0 5 zr w5 ov css:=ho4.same hs5 fun x hx e=>by have:=hn x hx;omega
 have hz05:=hs05.size
 have hfin:∀{w6:World} {p6:Nat} {cs:List Value} {t':M.Tm},t'.ks.length≤t.ks.length+1→Same (· =b) w w6→RdR F w6 b v xs p6→p6≤p+10→Blk w6 b1 cs z7→Blk w6 b2 Z30 z7→TmR (fun x=>G x∨w2.heap.size≤x) w6 cs t'→
   ze PP z7 (.pointer (some ⟨b1,0,none⟩)) w6 fun t56 w_13=>zp PP z7 (.pointer (some ⟨b2,0,none⟩)) t56 w_13 fun _ w_14=>vlv PP z7 (.pointer (some ⟨b2,0,none⟩)) w_14 fun r4 w_15=>K r4 w_15:=by
  intro w6 p6 cs t' hl hs hR hp6 hq hr hc
  rw[hq.ldAgg (t:=z7) (by rw[xt hc];exact zH)]
  refine qu0 hr rfl hc (fun x hx e=>by rcases hx with hx|hx<;>first|(have:=hG1 x hx;omega)|omega) fun w7 hs7 hz7 ht7=>?_
  exact hK w7 p6 _ t' (same_new hs hs7 (by omega)) (hR.new hs7 (by omega) fun x hx e=>by have:=hF x hx;omega) hp6 (ht7.weaken fun x hx _=>hx.imp id fun h=>by omega) hl
 have hput:∀{w6:World} {p6:Nat} {i:Nat} {x:Value} {e:TypeId} {t':M.Tm} {cs':List Value},t'.ks.length≤t.ks.length+1→Same (· =b) w w6→RdR F w6 b v xs p6→p6≤p+10→Blk w6 b1 [.int .i64 t.op,.int .i64 t.a,.int .i64 t.b,.string t.s,kv] z7→Blk w6 b2 Z30 z7→x.cells= #[x]→x.oneCell'=true→j6 PP e 1=true→i<5→
   [.int .i64 t.op,.int .i64 t.a,.int .i64 t.b,.string t.s,kv].set i x=cs'→(∀w7,Same (· =b1) w6 w7→TmR (fun x=>G x∨w2.heap.size≤x) w7 cs' t')→
   zp PP e (.pointer (some ⟨b1,i,none⟩)) x w6 fun _ w_12=>ze PP z7 (.pointer (some ⟨b1,0,none⟩)) w_12 fun t56 w_13=>zp PP z7 (.pointer (some ⟨b2,0,none⟩)) t56 w_13 fun _ w_14=>vlv PP z7 (.pointer (some ⟨b2,0,none⟩)) w_14 fun r4 w_15=>K r4 w_15:=by
  intro w6 p6 i x e t' cs' hl hs hR hp6 hq hr hx1 hx2 hz hi hset hc
  refine hq.st hx1 hx2 hz (by simp[Nat.blt_eq];omega) fun w7 hs7 hz7 hq7=>?_
  rw[hset] at hq7
  exact hfin hl (same_new hs hs7 (by omega)) (hR.new hs7 (by omega) fun x hx e=>by have:=hF x hx;omega) hp6 hq7 (hr.same hs7 (by omega)) (hc w7 hs7)
 have hkeep:∀{w6 w7:World},TmsR G w6 kv t.ks→Same (· =b1) w6 w7→TmsR (fun x=>G x∨w2.heap.size≤x) w7 kv t.ks:=fun hk hs=>(hk.same hs fun x hx _ e=>by have:=hG1 x hx;omega).weaken fun x hx _=> .inl hx
 simp only[push_cast]
 refine zh (fun a0=>?_) (fun a0=>?_)
 ·refine num_lit (ns:=[0,18,28,3,16,25]) hR5 (by simp) (by decide) (by omega) fun w6 m hs6 hR6 hm=>?_
  try simp only[push_cast]
  exact hput (t':= .mk m t.a t.b t.s t.ks) (Nat.le_succ _) (hs05.trans hs6) hR6 (by omega) (q5.same hs6 (by omega)) (r5.same hs6 (by omega)) rfl rfl jT (by omega) rfl fun w7 hs7=>TmR.of (t:= .mk m t.a t.b t.s t.ks) (hkeep (hks5.same hs6 fun x hx _ e=>hG x hx e) hs7)
 refine zh (fun a1=>?_) (fun a1=>?_)
 ·refine zu fun w6 he6 _=>?_
  have q6:=q5.ext he6
  simp(disch:=(simp only[push_cast];done)) only[push_cast,q6.ld1,true_and]
  refine ints_lit (ns:=[1,-1]) (by decide) fun b7 w7 hb7 he7 hi7=>?_
  have q7:=q6.ext he7
  simp(disch:=(simp only[push_cast];done)) only[push_cast,q7.ld1,true_and,and_self]
  have hl6:=(hR5.ext he6).blk.lt
  refine num_spec ((hR5.ext he6).ext he7) hi7 (by simp) (by decide) (by omega) (fun x hx e=>by subst hx;omega) fun w8 m hs8 _ hR8 hm=>?_
  have q8:=q7.same hs8 (by omega)
  simp(disch:=(simp only[push_cast];done)) only[push_cast,q8.ld1,true_and,and_self]
  have hs08:=((hs05.trans (Same.of_ext he6)).trans (Same.of_ext he7)).trans hs8
  exact hput (t':= .mk t.op (IntKind.i64.wrap (t.a+m)) t.b t.s t.ks) (Nat.le_succ _) hs08 hR8 (by omega) q8 (((r5.ext he6).ext he7).same hs8 (by omega)) rfl rfl jT (by omega) rfl fun w9 hs9=>TmR.of (t:= .mk t.op (IntKind.i64.wrap (t.a+m)) t.b t.s t.ks) (hkeep (((hks5.ext he6).ext he7).same hs8 fun x hx _ e=>hG x hx e) hs9)
 refine zh (fun a2=>?_) (fun a2=>?_)
 ·refine zu fun w6 he6 _=>?_
  have q6:=q5.ext he6
  simp(disch:=(simp only[push_cast];done)) only[push_cast,q6.ld2,true_and]
  refine ints_lit (ns:=[1,-1,16]) (by decide) fun b7 w7 hb7 he7 hi7=>?_
  have q7:=q6.ext he7
  simp(disch:=(simp only[push_cast];done)) only[push_cast,q7.ld2,true_and,and_self]
  have hl6:=(hR5.ext he6).blk.lt
  refine num_spec ((hR5.ext he6).ext he7) hi7 (by simp) (by decide) (by omega) (fun x hx e=>by subst hx;omega) fun w8 m hs8 _ hR8 hm=>?_
  have q8:=q7.same hs8 (by omega)
  simp(disch:=(simp only[push_cast];done)) only[push_cast,q8.ld2,true_and,and_self]
  have hs08:=((hs05.trans (Same.of_ext he6)).trans (Same.of_ext he7)).trans hs8
  exact hput (t':= .mk t.op t.a (IntKind.i64.wrap (t.b+m)) t.s t.ks) (Nat.le_succ _) hs08 hR8 (by omega) q8 (((r5.ext he6).ext he7).same hs8 (by omega)) rfl rfl jT (by omega) rfl fun w9 hs9=>TmR.of (t:= .mk t.op t.a (IntKind.i64.wrap (t.b+m)) t.s t.ks) (hkeep (((hks5.ext he6).ext he7).same hs8 fun x hx _ e=>hG x hx e) hs9)
 refine zh (fun a3=>?_) (fun a3=>?_)
 ·exact hput (t':= .mk t.op t.a t.b ⟨#[113]⟩ t.ks) (Nat.le_succ _) hs05 hR5 (by omega) q5 r5 rfl rfl yk0 (by omega) rfl fun w9 hs9=>TmR.of (t:= .mk t.op t.a t.b ⟨#[113]⟩ t.ks) (hkeep hks5 hs9)
 refine zh (fun a4=>?_) (fun a4=>?_)
 ·refine kl0 (G:=fun _=>False) (t0:= .mk 24 0 0 ⟨#[]⟩ []) (TmR.term (Zz0 24 0 0 _)) fun w6 sa he6 hz6 hk6=>?_
  obtain⟨css1,hsl1,hcl1,hci1⟩:=hk6
  have hone1:∀y,y∈css1→∀c,c∈y→c.oneCell'=true:=fun y hy c hc=>by
   obtain⟨i,hi,rfl⟩:=List.getElem_of_mem hy
   have hq:=hci1 i (by omega)
   rw[List.getD_eq_getElem?_getD,List.getElem?_eq_getElem hi] at hq
   obtain⟨kv',he,hk'⟩:=hq.inv
   obtain⟨css',hs',_⟩:=hk'
   rw[show css1[i]=(some css1[i]).getD [] from rfl,he] at hc
   simp only[List.mem_cons,List.not_mem_nil,or_false] at hc
   rcases hc with rfl|rfl|rfl|rfl|rfl
   ·rfl
   ·rfl
   ·rfl
   ·rfl
   ·exact hs'.one
  have hl1:css1.length=1:=hcl1
  refine vappend Ws (by decide) (ho5.ext he6) hsl1 hone1 (Nat.zero_le _) (by omega) (by omega) fun ov' w7 ho7 hw7 hn7=>?_
  have hs06:=hs05.trans (Same.of_ext he6)
  have hz06:=hs06.size
  have hs07:Same (· =b) w w7:=⟨hw7.os.trans hs06.os,hw7.tape.trans hs06.tape,hw7.output.trans hs06.output,Nat.le_trans hs06.size hw7.size,fun y hy hne=>by
   rw[hw7.block y (Nat.lt_of_lt_of_le hy hs06.size) (fun e=>by have:=hn y e;omega)];exact hs06.block y hy hne⟩
  have hR7:RdR F w7 b v xs _:=(hR5.ext he6).same hw7 (fun e=>by have:=hn b e;omega) fun y hy _ e=>by have:=hn y e;have:=hF y hy;omega
  have q7:=(q5.ext he6).same hw7 (fun e=>by have:=hn b1 e;omega)
  have r7:=(r5.ext he6).same hw7 (fun e=>by have:=hn b2 e;omega)
  have hn':∀x,ov'.ownBlock=some x→w2.heap.size≤x:=fun x hx=>by
   rcases hn7 x hx with hx|hx
   ·exact hn x hx
   ·omega
  have hk7:TmsR (fun x=>G x∨w2.heap.size≤x) w7 ov' (t.ks++[.mk 24 0 0 ⟨#[]⟩ []]):=by
   refine⟨css++css1,ho7.sl.weaken fun x hx _=> .inr (hn' x hx),by rw[List.length_append,List.length_append,hcl,hl1];rfl,fun i hi=>?_⟩
   rw[List.length_append] at hi
   by_cases hi2:i<t.ks.length
   ·rw[List.getD_eq_getElem?_getD,List.getElem?_append_left (by omega),←List.getD_eq_getElem?_getD,List.getD_eq_getElem?_getD (l:=t.ks++_),List.getElem?_append_left hi2,←List.getD_eq_getElem?_getD]
    exact(((((hci i hi2).same hw4' fun x hx _ e=>by have:=hG1 x hx;omega).same hs5 fun x hx _ e=>hG x hx e).ext he6).same hw7 fun x hx _ e=>by have:=hn x e;have:=hG1 x hx;omega).weaken fun x hx _=> .inl hx
   ·have hi3:i=t.ks.length:=by simp at hi;omega
    subst hi3
    rw[List.getD_eq_getElem?_getD,List.getElem?_append_right (by omega),←List.getD_eq_getElem?_getD,hcl,Nat.sub_self,List.getD_eq_getElem?_getD (l:=t.ks++_),List.getElem?_append_right (by omega),Nat.sub_self]
    have hx0:=hci1 0 (by simp)
    obtain⟨kv0,he0,hkk0⟩:=hx0.inv
    rw[he0]
    exact TmR.of (t:= .mk 24 0 0 ⟨#[]⟩ []) ((hkk0.same hw7 fun x hx hl e=>by
     rcases hx with hx|hx
     ·exact hx.elim
     ·have:=ho5.lt e
      omega).weaken fun x hx _=>by
     rcases hx with hx|hx
     ·exact hx.elim
     ·right;omega)
  have hone:ov'.cells= #[ov']∧ov'.oneCell'=true:=⟨ho7.sl.cells1,ho7.sl.one⟩
  try simp only[push_cast]
  exact hput (t':= .mk t.op t.a t.b t.s (t.ks++[.mk 24 0 0 ⟨#[]⟩ []])) (by show(t.ks++[_]).length≤_;rw[List.length_append];exact Nat.le_refl _) hs07 hR7 (by omega) q7 r7 hone.1 hone.2 xr0 (by omega) rfl fun w9 hs9=>TmR.of (t:= .mk t.op t.a t.b t.s (t.ks++[.mk 24 0 0 ⟨#[]⟩ []])) (hk7.same hs9 fun x hx _ e=>by
   rcases hx with hx|hx
   ·have:=hG1 x hx;omega
   ·omega)
 refine zh (fun a5=>?_) (fun a5=>?_)
 ·refine vloop_up 7 (fun i u w'=> ∃cs t',u=[.int .i64 i]∧Same (· =b) w w'∧RdR F w' b v xs (p+1)∧Blk w' b1 cs z7∧Blk w' b2 Z30 z7∧TmR (fun x=>G x∨w2.heap.size≤x) w' cs t'∧w2.heap.size≤w'.heap.size∧t'.ks.length≤t.ks.length+1) ⟨_,t,rfl,hs05,hR5,q5,r5,TmR.of (hks5.weaken fun x hx _=> .inl hx),by omega,by omega⟩ ?_
  rintro i _ _ w6 C hi ⟨cs,t',rfl,hs6,hR6,hq6,hr6,hc6,hz6,hl6⟩ hC
  simp only[push_cast]
  refine zh (fun c=>?_) (fun c=>?_)
  ·rw[hq6.ldAgg (t:=z7) (by rw[xt hc6];exact zH)]
   refine kl0 hc6.term fun w7 sa he7 hz7 hk7=>?_
   simp only[push_cast]
   have hk7':TmsR (fun x=>G x∨w2.heap.size≤x) w7 (.slice sa 1 1) [t']:=hk7.weaken fun x hx _=>by
    rcases hx with hx|hx
    ·exact hx
    ·right;omega
   have hc7:TmR (fun x=>G x∨w2.heap.size≤x) w7 [.int .i64 25,.int .i64 0,.int .i64 0,.string ⟨#[]⟩,.slice sa 1 1] (.mk 25 0 0 ⟨#[]⟩ [t']):=TmR.of (t:= .mk 25 0 0 ⟨#[]⟩ [t']) hk7'
   refine stTerm (hq6.ext he7) (xt hc6) hc7 fun w8 hs8 hz8 hq8=>?_
   try simp only[push_cast]
   rw[inc64' (by omega)]
   refine hC (by omega) _ _ ⟨_,_,rfl,same_new (hs6.trans (Same.of_ext he7)) hs8 (by omega),(hR6.ext he7).new hs8 (by omega) fun x hx e=>by have:=hF x hx;omega,hq8,(hr6.ext he7).same hs8 (by omega),hc7.same hs8 fun x hx _ e=>by
    rcases hx with hx|hx
    ·have:=hG1 x hx;omega
    ·omega,by omega,by show 1≤_;omega⟩
  ·exact hfin hl6 hs6 hR6 (by omega) hq6 hr6 hc6
 ·exact hfin (Nat.le_succ _) hs05 hR5 (by omega) q5 r5 (TmR.of (t:=t) (hks5.weaken fun x hx _=> .inl hx))
end Go.Proofs.YtaekfnbnhjgboaaGreatDoor
end
section
namespace Go.Proofs.YtaekfnbnhjgboaaGreatDoor
open Go Go.Vc Go.Proofs
variable {w:World} {K:Value→World→Prop} {F F' D G:Nat→Prop}
theorem l2Draw_spec {b p:Nat} {v:Value} {xs:List Nat} (h:RdR F w b v xs p) (hF:∀x,F x→x<w.heap.size) (hp:p+300000<1099511627776)
  (hK:∀w' p' dv tv ds t,Same (· =b) w w'→RdR F w' b v xs p'→p'≤p+300000→DclsR (fun x=>w.heap.size≤x) w' dv ds→Dsm ds→TermR (fun x=>w.heap.size≤x) w' tv t→K (.tuple #[dv,tv]) w'):vcall PP X6 #[.pointer (some ⟨b,0,none⟩)] w K:=by
 apply x50;unfold Vt
 have lb:=h.blk.lt
 refine zC yH fun b1 w1 hb1 he1 hs1 h1=>?_
 have hR1:=h.ext he1
 have hz1:=he1.size
 refine xF0 hR1 (fun x hx=>by have:=hF x hx;omega) (by omega) fun w2 p2 dv ds hs2 hR2 hp2 hd2 hok=>?_
 have h2:=h1.same hs2 (by omega)
 have hz2:=hs2.size
 have hd2':=hd2.weaken (F':=fun x=>w1.heap.size≤x∧x<w2.heap.size) fun x hx hl=>⟨hx,hl⟩
 refine ints_lit (ns:=[0,0,0,1,2,3,4]) (by decide) fun b3 w3 hb3 he3 hi3=>?_
 have hz3:=he3.size
 refine num_spec (hR2.ext he3) hi3 (by simp) (by decide) (by omega) (fun x hx e=>by subst hx;omega) fun w4 m hs4 hz4 hR4 hm=>?_
 have hm4:0≤m∧m≤4:=by
  simp only[List.mem_cons,List.not_mem_nil,or_false] at hm
  omega
 have hd4:=(hd2'.ext he3).same hs4 fun x hx _ e=>by omega
 have h4:=(h2.ext he3).same hs4 (by omega)
 refine l2Some_spec hR4 (fun x hx=>by have:=hF x hx;omega) hd4 (fun x hx e=>by omega) (fun x hx=>by omega) hok hm4.1 hm4.2 (by omega) fun w5 p5 tv t hs5 hR5 hp5 ht5 hk3=>?_
 have hd5:=hd4.same hs5 fun x hx _ e=>by omega
 have h5:=h4.same hs5 (by omega)
 have hz5:=hs5.size
 obtain⟨cs,rfl,hcs5⟩:=ht5.cells
 have hcs5':=hcs5.weaken (F':=fun x=>w4.heap.size≤x∧x<w5.heap.size) fun x hx hl=>⟨hx,hl⟩
 refine zC yH fun b6 w6 hb6 he6 hs6 h6=>?_
 refine stTerm h6 rfl (hcs5'.ext he6) fun w7 hw7 hz7 h7=>?_
 have he7:Ext w5 w7:=Ext.then he6 hw7 fun y hy=>by subst hy;omega
 refine zu fun w8 he8 _=>?_
 have hz8:=he8.size
 have hz7':=he7.size
 have h8:=h7.ext he8
 have hg:aggB PP z7 cs.length=true:=by rw[xt hcs5];exact zH
 rw[h8.ldAgg (t:=z7) hg]
 refine⟨rfl,?_⟩
 have hR8:=(hR5.ext he7).ext he8
 have hd8:=(hd5.ext he7).ext he8
 have hc8:=(hcs5'.ext he7).ext he8
 have hsz8:w.heap.size≤w8.heap.size:=by omega
 refine l2Spoil_spec hR8 (fun x hx=>by have:=hF x hx;omega) hd8 (fun x hx e=>by omega) (fun x hx=>by omega) hok (by omega) fun w9 p9 dv' ds' hs9 hR9 hp9 hd9 hok9=>?_
 have h9:=h8.same hs9 (by omega)
 rw[h9.ldAgg (t:=z7) hg]
 refine⟨⟨rfl,rfl⟩,?_⟩
 have hz9:=hs9.size
 have hc9:=hc8.same hs9 fun x hx _ e=>by omega
 refine l2Bent_spec hR9 (fun x hx=>by have:=hF x hx;omega) hc9.term (fun x hx e=>by omega) (fun x hx=>by omega) (by omega) (by omega) fun w10 p10 tv' t' hs10 hR10 hp10 ht10 _=>?_
 have hd10:=hd9.same hs10 fun x hx _ e=>by omega
 have h10:=(((h5.ext he7).ext he8).same hs9 (by omega)).same hs10 (by omega)
 obtain⟨cs',rfl,hcs10⟩:=ht10.cells
 have hs010:Same (· =b) w w10:=((((((Same.of_ext he1).trans hs2).trans (Same.of_ext he3)).trans hs4).trans hs5).trans (Same.of_ext (he7.trans he8))).trans (hs9.trans hs10)
 have hz10:=hs10.size
 refine stTerm h10 rfl hcs10 fun w11 hw11 hz11 h11=>?_
 rw[h11.lv (by rw[xt hcs10];exact zH)]
 refine hK w11 p10 dv' _ ds' t' (same_new hs010 hw11 (by omega)) (hR10.new hw11 (by omega) fun x hx e=>by have:=hF x hx;omega) (by omega) ((hd10.same hw11 fun x hx _ e=>by omega).weaken fun x hx _=>by omega) hok9 ((hcs10.same hw11 fun x hx _ e=>by omega).term.weaken fun x hx _=>by omega)
end Go.Proofs.YtaekfnbnhjgboaaGreatDoor
end
section
namespace Go.Proofs.YtaekfnbnhjgboaaGreatDoor
open Go Go.Vc Go.Proofs
variable {w:World} {K:Value→World→Prop} {F F' D G:Nat→Prop}
theorem Bytes.below {v:Value} {xs:List Nat} (h:Bytes F w v xs):Bytes (fun b=>b<w.heap.size) w v xs:=⟨h.1.weaken fun _ _ hl=>hl,h.2⟩
theorem X80 {ds:List M.Dcl} {t:M.Tm} {env:List Int} (he:M.envOk ds env=true) (hs:M.sortM ds t≠ -1) (hf:M.fits t=true):M.tok ds t env=true:=by
 unfold M.tok M.tsort
 rw[if_pos ⟨hf,(M.env_ok he).1⟩,he,decide_eq_true hs];rfl
end Go.Proofs.YtaekfnbnhjgboaaGreatDoor
end
section
namespace Go.Proofs.YtaekfnbnhjgboaaGreatDoor
open Go Go.Vc Go.Proofs
open Go.ChangeShapes Go.WideShapes Go.ChangeAt Go.RowKit
theorem Yv0:ownKnob PP.godebug=none:=by kernel_rfl
theorem YW:laidOutB PP=true:=by kernel_rfl
def restFacts (P:Program) (f:FuncId) (fn:Func) (s:ChangeSpec) (c:OpenClaim):Bool:=
 c.wf (OpenSpec.ofChange s)&&
 fn.params.all (P.readableRec ·)&&namedTie P c.named s.vars&&
 (c.stops==[])&&(P.stops==[])&&(c.knobs==[])&&(P.stopKnobs==[])&&
 (c.maps==(fn.params.toList++s.plain.varTypes P).any (P.mapsRec ·))&&(c.ifaces==(fn.params.toList++s.plain.varTypes P).any (P.ifacesRec ·))&&(c.mapsOut==P.mapsAmong fn.resultTypes.toList)&&
 (c.loops==(fn.params.toList++s.plain.varTypes P).any (P.loopsFrom ·))&&(c.wideKeys==(fn.params.toList++s.plain.varTypes P++fn.resultTypes.toList).any (P.wideKeysFrom ·))&&
 s.vars.all (P.varReadable ·)&&fn.resultTypes.all (fun t=>P.readableRec t&&decide (t<P.types.size))&&(c.ifacesOut==fn.resultTypes.toList.any (P.ifacesRec ·))&&(c.loopsOut==fn.resultTypes.toList.any (P.loopsFrom ·))&&(c.plainKeys==P.plainKeys)&&c.shortTexts.isNone&&P.stopsHeard&&P.mayEnter&&(c.lifted==P.liftsFinal)&&(P.make==some c.make)&&(c.kinds==(if c.domain.isEmpty then[] else fn.params.toList.map fun t=>match P.underlying t with|some (.int k)=>some k|_=>none))&&(c.pinned==c.pinnedBy)&&
 (c.veiled==(fn.params.toList++s.plain.varTypes P++fn.resultTypes.toList).any (P.veiledRec ·))&&c.veiledFits P fn.params.toList (fn.params.toList++s.plain.varTypes P++fn.resultTypes.toList)
theorem km0 {P:Program} {f:FuncId} {fn:Func} {s:ChangeSpec} {c:OpenClaim} (h1:laidOutB P=true) (h2:mapsRowed P=true) (h3:(c.inPlace==P.inPlace f)=true) (h4:(c.unfollowed==P.unfollowed f)=true)
  (h5:(c.recurses==P.recurses f)=true) (h6:(c.named==P.varsNamed f)=true) (h7:restFacts P f fn s c=true):joinedFacts P f fn s c=true:=by
 unfold restFacts at h7
 unfold joinedFacts
 rw[h1,h2,h3,h4,h5,h6]
 simp only[Bool.and_true]
 exact h7
theorem Zn0:mapsRowed PP=true:=by kernel_rfl
theorem kw0 {w w':World} (h:Ext w w'):Below w.heap.size w w':=⟨h.os,h.tape,h.output,h.size,fun k hk=>h.block k hk id⟩
theorem u8_wf {n:Int} (h:(Lit.int .u8 n).wf=true):0≤n∧n<256:=by
 simp only[Lit.wf,Bool.and_eq_true,decide_eq_true_eq] at h
 have h1:IntKind.u8.min=0:=by decide
 have h2:IntKind.u8.max=255:=by decide
 omega
def yi0 (w:World) (v:Value) (xs:List Nat):Prop:=Vals (fun _=>True) w v (xs.map fun x=>Value.int .u8 (x:Nat))∧∀x,x∈xs→x<256
theorem qg0 (w:World):yi0 w (.slice none 0 0) []:=⟨⟨⟨none,0,rfl,by simp,by simp,fun h=>absurd rfl h⟩,by simp⟩,by simp⟩
theorem bytes_of {w:World} {x:Addr} {len cap:Nat} {zs:List Int} (hl:len≤cap) (hm:cap≤maxLen) (hz:zs.length=cap) (hcell:∀i,i<zs.length→w.cell? (x.add i)=some (.int .u8 (zs.getD i 0))) (hwz:∀n,n∈zs→(Lit.int .u8 n).wf=true):
  yi0 w (.slice (some x) len cap) ((zs.take len).map Int.toNat):=by
 have hmem:∀n,n∈zs.take len→0≤n∧n<256:=fun n hn=>u8_wf (hwz n (List.mem_of_mem_take hn))
 refine⟨⟨⟨some x,cap,?_,?_,by unfold maxLen at hm;exact hm,fun hne=>?_⟩,fun y hy=>by obtain⟨u,_,rfl⟩:=List.mem_map.1 hy;rfl⟩,fun y hy=>?_⟩
 ·simp only[List.length_map,List.length_take];rw[Nat.min_eq_left (by omega)]
 ·simp only[List.length_map,List.length_take];omega
 ·have hlen:0<len:=by
   refine Nat.pos_of_ne_zero fun e=>hne ?_
   subst e;simp
  obtain⟨b,off,spot⟩:=x
  have hc0:=hcell 0 (by omega)
  have hspot:spot=none:=by simpa[Addr.add] using World.cell?_spot hc0
  subst hspot
  refine⟨b,off,rfl,trivial,World.block_lt_of_cell? w _ hc0,fun i hi=>?_⟩
  simp only[List.length_map,List.length_take] at hi
  intro j v hv
  have hit:i<(zs.take len).length:=by simp only[List.length_take];omega
  have hg:((((zs.take len).map Int.toNat).map fun x=>Value.int .u8 (x:Nat)).map fun x=>[x]).getD i []=[Value.int .u8 (((zs.take len)[i].toNat:Nat):Int)]:=by
   simp[List.getD_eq_getElem?_getD,hi]
  rw[hg] at hv
  have hj:j=0:=by
   cases j with
   |zero=>rfl
   |succ j=>simp at hv
  subst hj
  simp only[List.getElem?_cons_zero,Option.some.injEq] at hv
  subst hv
  have hi2:i<zs.length:=by omega
  have hc:=hcell i hi2
  have hmi:=hmem _ (List.getElem_mem hit)
  have e1:zs.getD i 0=(zs.take len)[i]:=by simp[List.getD_eq_getElem?_getD,hi2]
  rw[e1,x8] at hc
  rw[Int.toNat_of_nonneg hmi.1,x8,Nat.add_zero,Nat.mul_one]
  exact hc
 ·obtain⟨n,hn,rfl⟩:=List.mem_map.1 hy
  have:=hmem n hn
  omega
end Go.Proofs.YtaekfnbnhjgboaaGreatDoor
end
section
namespace Go.Proofs.YtaekfnbnhjgboaaGreatDoor
open Go Go.Vc Go.Proofs
variable {w:World} {K:Value→World→Prop} {F F' D G:Nat→Prop}
theorem ZD0 {α:Type} {xs:List α} {i j:Nat} {x d:α} (hi:i<xs.length):(xs.set i x).getD j d=if i=j then x else xs.getD j d:=by
 simp only[List.getD_eq_getElem?_getD,List.getElem?_set]
 by_cases e:i=j
 ·subst e;simp[hi]
 ·simp[e]
end Go.Proofs.YtaekfnbnhjgboaaGreatDoor
end
section
namespace Go.M
def vecL (w n:Nat):List UInt8:=35::(List.range w).reverse.map fun i=>if n/2^i%2=1 then 49 else 48
def digL (n:Int):List UInt8:=[UInt8.ofNat (48+n.toNat)]
def textF (t:Tm) (xs:List (List UInt8)):List UInt8:=
 if t.op=20 then vecL t.a.toNat t.b.toNat else if t.op=21 then t.s.data.toList else if t.op=24 then[116,114,117,101]
 else 40::(wordL t.op++((if t.op=22 then 32::(digL t.a++32::digL t.b) else[])++(xs.flatMap (fun x=>32::x)++[41])))
def textL:Tm→List UInt8:=Tm.fold textF
theorem textL_eq (t:Tm):textL t=textF t (t.ks.map textL):=Tm.fold_eq _ t
def Stop (r:List UInt8):Prop:=∀c,r.head?=some c→c=32∨c=41
def Z20 (a:List UInt8):Prop:=∀c,c∈a→c≠32∧c≠41
theorem atom_cancel:∀{a b r s:List UInt8},Z20 a→Z20 b→Stop r→Stop s→a++r=b++s→a=b∧r=s
 |[],[],r,s,_,_,_,_,h=>⟨rfl,h⟩
 |[],y::b,r,s,_,hb,hr,_,h=>by
  have h1:r=y::(b++s):=h
  have h2:=hb y List.mem_cons_self
  rcases hr y (by rw[h1];rfl) with e|e
  ·exact absurd e h2.1
  ·exact absurd e h2.2
 |x::a,[],r,s,ha,_,_,hs,h=>by
  have h1:s=x::(a++r):=h.symm
  have h2:=ha x List.mem_cons_self
  rcases hs x (by rw[h1];rfl) with e|e
  ·exact absurd e h2.1
  ·exact absurd e h2.2
 |x::a,y::b,r,s,ha,hb,hr,hs,h=>by
  have h1:x::(a++r)=y::(b++s):=h
  simp only[List.cons.injEq] at h1
  obtain⟨rfl,h1⟩:=h1
  obtain⟨rfl,e⟩:=atom_cancel (fun c hc=>ha c (List.mem_cons_of_mem _ hc)) (fun c hc=>hb c (List.mem_cons_of_mem _ hc)) hr hs h1
  exact⟨rfl,e⟩
theorem kz {c:UInt8} {r:List UInt8} (h:c=32∨c=41):Stop (c::r):=fun d hd=>by
 have:d=c:=by simpa using hd.symm
 subst this;exact h
theorem word_free:∀o:Fin 28,Z20 (wordL o):=by unfold Z20;decide+kernel
theorem word_inj:∀o p:Fin 28,wordL o=wordL p→wordL o≠[]→o=p:=by decide+kernel
theorem word_ne:∀o:Fin 28,1≤o.1→(o.1≤17∨o.1=22∨o.1=23∨25≤o.1)→wordL o≠[]:=by decide+kernel
theorem vec_inj:∀w:Fin 5,∀a:Fin 16,∀v:Fin 5,∀b:Fin 16,a.1<2^w.1→b.1<2^v.1→vecL w a=vecL v b→w=v∧a=b:=by decide+kernel
theorem Zc0 (w n:Nat):Z20 (vecL w n):=fun c hc=>by
 unfold vecL at hc
 rcases List.mem_cons.1 hc with rfl|hc
 ·decide
 ·obtain⟨i,_,rfl⟩:=List.mem_map.1 hc
  split<;>decide
theorem dig_inj:∀a b:Fin 4,digL a=digL b→a=b:=by decide+kernel
theorem dig_free:∀a:Fin 4,Z20 (digL a):=by unfold Z20;decide+kernel
section
variable {ds:List Dcl} {t u:Tm}
theorem name_ok (hd:declOk ds=true) (hs:sortM ds t≠ -1) (ho:t.op=21):t.s.data.toList≠[]∧t.s≠tru∧∀c,c∈t.s.data.toList→97≤c.toNat∧c.toNat≤122:=by
 have hf:=name_found hs ho
 have hj:(findD ds t.s).toNat<ds.length:=by have:=(findD_lt ds t.s).2;omega
 have hg:=findD_get hf
 have hok:=(decl_iff.1 hd).2.1 _ hj
 unfold dclOk at hok
 rw[hg] at hok
 simp only[Bool.and_eq_true,decide_eq_true_eq,nameOk] at hok
 obtain⟨⟨⟨⟨⟨⟨h1,h2⟩,h3⟩,h4⟩,_⟩,_⟩,_⟩:=hok
 refine⟨fun e=>?_,h3,fun c hc=>?_⟩
 ·have:t.s.size=0:=by show t.s.data.size=0;rw[←Array.length_toList,e];rfl
  omega
 ·have:=Array.all_eq_true'.1 h4 c (Array.mem_toList_iff.1 hc)
  simpa using this
theorem right_op (hs:sortM ds t≠ -1):arity t.op=t.ks.length∧plainM t=true∧((1≤t.op∧t.op≤17)∨(20≤t.op∧t.op≤27)):=by
 obtain⟨hf,_,_⟩:=sort_parts hs
 obtain⟨h1,h2⟩:=formed_iff.1 hf
 exact⟨h1,h2,arity_ops (by omega)⟩
theorem VV {o:Int} (h:o=20∨o=21∨o=24):arity o=0:=by unfold arity;rw[if_pos h]
theorem node_arity {o:Int} (h:(1≤o∧o≤17)∨(20≤o∧o≤27)) (hn: ¬(o=20∨o=21∨o=24)):1≤arity o:=by
 unfold arity;rw[if_neg hn];repeat' split
 all_goals omega
theorem vec_ok (hs:sortM ds t≠ -1) (ho:t.op=20):vok t.a t.b=true:=by
 have h:=(sort_parts hs).2.2
 rw[h] at hs
 unfold sortK at hs
 rw[if_pos ho] at hs
 split at hs
 ·assumption
 ·exact absurd rfl hs
theorem cut_ab (hd:declOk ds=true) (hs:sortM ds t≠ -1) (ho:t.op=22):0≤t.b∧t.b≤t.a∧t.a<4:=by
 have h:=(sort_parts hs).2.2
 have hr:(t.ks.map (sortM ds)).getD 0 0≤4:=by
  by_cases hi:0<t.ks.length
  ·rw[getD_map _ hi 0 default];exact(sort_range hd _).2
  ·rw[List.getD_eq_getElem?_getD,List.getElem?_eq_none (by simpa using hi)];simp
 rw[h] at hs
 unfold sortK at hs
 rw[if_neg (by omega),if_neg (by omega),if_neg (by omega),if_neg (by omega),if_pos ho] at hs
 split at hs
 ·next h=>omega
 ·exact absurd rfl hs
theorem atom_text (hd:declOk ds=true) (hs:sortM ds t≠ -1) (ho:t.op=20∨t.op=21∨t.op=24):textL t=textF t []∧Z20 (textL t)∧textL t≠[]∧∀c,(textL t).head?=some c→c≠40:=by
 have hk:t.ks=[]:=List.eq_nil_of_length_eq_zero (by have:=(right_op hs).1;rw[VV ho] at this;omega)
 have e:textL t=textF t []:=by rw[textL_eq,hk];rfl
 refine⟨e,?_⟩
 rw[e]
 unfold textF
 rcases ho with o|o|o
 ·rw[if_pos o]
  exact⟨Zc0 _ _,by simp[vecL],fun c hc=>by
   have:c=35:=by simpa[vecL] using hc.symm
   subst this;decide⟩
 ·rw[if_neg (by omega),if_pos o]
  obtain⟨h1,h2,h3⟩:=name_ok hd hs o
  refine⟨fun c hc=>?_,h1,fun c hc=>?_⟩
  ·have:=h3 c hc
   exact⟨fun e=>by subst e;exact absurd this.1 (by decide),fun e=>by subst e;exact absurd this.1 (by decide)⟩
  ·have:=h3 c (List.mem_of_mem_head? hc)
   intro e;subst e;exact absurd this.1 (by decide)
 ·rw[if_neg (by omega),if_neg (by omega),if_pos o]
  exact⟨by unfold Z20;decide,by decide,fun c hc=>by
   have:c=116:=by simpa using hc.symm
   subst this;decide⟩
theorem yq0 {t u:Tm} (h1:t.op=u.op) (h2:t.a=u.a) (h3:t.b=u.b) (h4:t.s=u.s) (h5:t.ks=u.ks):t=u:=by
 cases t;cases u
 simp only[Tm.op,Tm.a,Tm.b,Tm.s,Tm.ks] at h1 h2 h3 h4 h5
 subst h1;subst h2;subst h3;subst h4;subst h5;rfl
theorem QG (h:plainM t=true) (ho:t.op≠20∧t.op≠22):t.a=0∧t.b=0:=by
 simp only[plainM,Bool.and_eq_true,Bool.or_eq_true,decide_eq_true_eq] at h
 rcases h.1 with(h|h)|h
 ·exact absurd h ho.1
 ·exact absurd h ho.2
 ·exact h
theorem VU (h:plainM t=true) (ho:t.op≠21):t.s=nada:=by
 simp only[plainM,Bool.and_eq_true,Bool.or_eq_true,decide_eq_true_eq] at h
 exact h.2.resolve_left ho
theorem atom_inj (hd:declOk ds=true) (hs:sortM ds t≠ -1) (hu:sortM ds u≠ -1) (ho:t.op=20∨t.op=21∨t.op=24) (hp:u.op=20∨u.op=21∨u.op=24) (h:textL t=textL u):t=u:=by
 have hk:t.ks=[]:=List.eq_nil_of_length_eq_zero (by have:=(right_op hs).1;rw[VV ho] at this;omega)
 have hk':u.ks=[]:=List.eq_nil_of_length_eq_zero (by have:=(right_op hu).1;rw[VV hp] at this;omega)
 have hpl:=(right_op hs).2.1
 have hpl':=(right_op hu).2.1
 rw[(atom_text hd hs ho).1,(atom_text hd hu hp).1] at h
 unfold textF at h
 have letter:∀{v:Tm},sortM ds v≠ -1→v.op=21→∀c r,v.s.data.toList=c::r→97≤c.toNat:=fun{v} hv hov c r e=>((name_ok hd hv hov).2.2 c (by rw[e];exact List.mem_cons_self)).1
 have notrue:∀{v:Tm},sortM ds v≠ -1→v.op=21→v.s.data.toList=[116,114,117,101]→False:=fun{v} hv hov e=>(name_ok hd hv hov).2.1 (by
  have:v.s.data= #[116,114,117,101]:=Array.toList_inj.1 e
  show v.s=tru
  have e2:v.s=⟨v.s.data⟩:=rfl
  rw[e2,this];rfl)
 rcases ho with o|o|o<;>rcases hp with p|p|p
 ·rw[if_pos o,if_pos p] at h
  have v1:=vok_lt (vec_ok hs o)
  have v2:=vok_lt (vec_ok hu p)
  have w1:=vok_iff.1 (vec_ok hs o)
  have w2:=vok_iff.1 (vec_ok hu p)
  have e1:((2^t.a.toNat:Nat):Int)=2^t.a.toNat:=by simp
  have e2:((2^u.a.toNat:Nat):Int)=2^u.a.toNat:=by simp
  have:=vec_inj ⟨t.a.toNat,by omega⟩ ⟨t.b.toNat,by omega⟩ ⟨u.a.toNat,by omega⟩ ⟨u.b.toNat,by omega⟩ (by show t.b.toNat<2^t.a.toNat;omega) (by show u.b.toNat<2^u.a.toNat;omega) h
  simp only[Fin.mk.injEq] at this
  exact yq0 (by omega) (by omega) (by omega) (by rw[VU hpl (by omega),VU hpl' (by omega)]) (by rw[hk,hk'])
 ·rw[if_pos o,if_neg (by omega),if_pos p] at h
  exact absurd (letter hu p 35 _ h.symm) (by decide)
 ·rw[if_pos o,if_neg (by omega),if_neg (by omega),if_pos p] at h
  simp[vecL] at h
 ·rw[if_neg (by omega),if_pos o,if_pos p] at h
  exact absurd (letter hs o 35 _ h) (by decide)
 ·rw[if_neg (by omega),if_pos o,if_neg (by omega),if_pos p] at h
  obtain⟨a1,b1⟩:=QG hpl (by omega)
  obtain⟨a2,b2⟩:=QG hpl' (by omega)
  refine yq0 (by omega) (by omega) (by omega) ?_ (by rw[hk,hk'])
  have:=Array.toList_inj.1 h
  have e1:t.s=⟨t.s.data⟩:=rfl
  have e2:u.s=⟨u.s.data⟩:=rfl
  rw[e1,e2,this]
 ·rw[if_neg (by omega),if_pos o,if_neg (by omega),if_neg (by omega),if_pos p] at h
  exact(notrue hs o h).elim
 ·rw[if_neg (by omega),if_neg (by omega),if_pos o,if_pos p] at h
  simp[vecL] at h
 ·rw[if_neg (by omega),if_neg (by omega),if_pos o,if_neg (by omega),if_pos p] at h
  exact(notrue hu p h.symm).elim
 ·obtain⟨a1,b1⟩:=QG hpl (by omega)
  obtain⟨a2,b2⟩:=QG hpl' (by omega)
  exact yq0 (by omega) (by omega) (by omega) (by rw[VU hpl (by omega),VU hpl' (by omega)]) (by rw[hk,hk'])
theorem kids_inj:∀{ks us:List Tm} {r s:List UInt8},ks.length=us.length→(∀k,k∈ks→∀u,u∈us→∀r s,Stop r→Stop s→textL k++r=textL u++s→k=u∧r=s)→
  (ks.map textL).flatMap (fun x=>32::x)++41::r=(us.map textL).flatMap (fun x=>32::x)++41::s→ks=us∧r=s
 |[],[],r,s,_,_,h=>by
  have:(41:UInt8)::r=41::s:=h
  simp only[List.cons.injEq,true_and] at this
  exact⟨rfl,this⟩
 |[],_::_,_,_,hl,_,_=>by simp at hl
 |_::_,[],_,_,hl,_,_=>by simp at hl
 |k::ks,u::us,r,s,hl,ih,h=>by
  simp only[List.map_cons,List.flatMap_cons,List.cons_append,List.append_assoc,List.cons.injEq,true_and] at h
  have st:∀(l:List Tm) (r:List UInt8),Stop ((l.map textL).flatMap (fun x=>32::x)++41::r):=fun l r=>by
   cases l with
   |nil=>exact kz (.inr rfl)
   |cons a l=>exact kz (.inl rfl)
  obtain⟨he,h⟩:=ih k List.mem_cons_self u List.mem_cons_self _ _ (st _ _) (st _ _) h
  obtain⟨rfl,e⟩:=kids_inj (by simpa using hl) (fun k hk u hu=>ih k (List.mem_cons_of_mem _ hk) u (List.mem_cons_of_mem _ hu)) h
  subst he
  exact⟨rfl,e⟩
theorem text_inj' (hd:declOk ds=true):∀t:Tm,sortM ds t≠ -1→∀u:Tm,sortM ds u≠ -1→∀r s,Stop r→Stop s→textL t++r=textL u++s→t=u∧r=s:=by
 refine Tm.ind fun t ih hs u hu r s hr hst h=>?_
 obtain⟨ar,pl,op⟩:=right_op hs
 obtain⟨ar',pl',op'⟩:=right_op hu
 have comp:∀{v:Tm},¬(v.op=20∨v.op=21∨v.op=24)→textL v=40::(wordL v.op++((if v.op=22 then 32::(digL v.a++32::digL v.b) else[])++((v.ks.map textL).flatMap (fun x=>32::x)++[41]))):=fun{v} hv=>by
  rw[textL_eq];unfold textF;rw[if_neg (fun e=>hv (.inl e)),if_neg (fun e=>hv (.inr (.inl e))),if_neg (fun e=>hv (.inr (.inr e)))]
 by_cases lt:t.op=20∨t.op=21∨t.op=24
 ·obtain⟨_,f1,f2,f3⟩:=atom_text hd hs lt
  by_cases lu:u.op=20∨u.op=21∨u.op=24
  ·obtain⟨_,g1,g2,g3⟩:=atom_text hd hu lu
   obtain⟨e,e'⟩:=atom_cancel f1 g1 hr hst h
   exact⟨atom_inj hd hs hu lt lu e,e'⟩
  ·exfalso
   rw[comp lu] at h
   match hq:textL t,f2 with
   |c::q,_=>
    rw[hq] at h
    simp only[List.cons_append,List.cons.injEq] at h
    exact f3 c (by rw[hq];rfl) h.1
 ·by_cases lu:u.op=20∨u.op=21∨u.op=24
  ·exfalso
   obtain⟨_,g1,g2,g3⟩:=atom_text hd hu lu
   rw[comp lt] at h
   match hq:textL u,g2 with
   |c::q,_=>
    rw[hq] at h
    simp only[List.cons_append,List.cons.injEq] at h
    exact g3 c (by rw[hq];rfl) h.1.symm
  ·rw[comp lt,comp lu] at h
   simp only[List.cons_append,List.append_assoc,List.cons.injEq,true_and,List.nil_append] at h
   have na:=node_arity op lt
   have na':=node_arity op' lu
   have kst:∀{l:List Tm} {q:List UInt8},1≤l.length→∃q',(l.map textL).flatMap (fun x=>32::x)++41::q=32::q':=fun{l q} hl=>by
    cases l with
    |nil=>simp at hl
    |cons a l=>exact⟨_,rfl⟩
   have st:∀{v:Tm} {q:List UInt8},1≤v.ks.length→Stop ((if v.op=22 then 32::(digL v.a++32::digL v.b) else[])++((v.ks.map textL).flatMap (fun x=>32::x)++41::q)):=fun{v q} hl=>by
    split
    ·exact kz (.inl rfl)
    ·obtain⟨q',e⟩:=kst (q:=q) hl
     rw[List.nil_append,e]
     exact kz (.inl rfl)
   have o1:(((⟨t.op.toNat,by omega⟩:Fin 28):Nat):Int)=t.op:=by show((t.op.toNat:Nat):Int)=_;omega
   have o2:(((⟨u.op.toNat,by omega⟩:Fin 28):Nat):Int)=u.op:=by show((u.op.toNat:Nat):Int)=_;omega
   have wf1:=word_free ⟨t.op.toNat,by omega⟩
   have wf2:=word_free ⟨u.op.toNat,by omega⟩
   rw[o1] at wf1
   rw[o2] at wf2
   obtain⟨hw,h⟩:=atom_cancel wf1 wf2 (st (v:=t) (by omega)) (st (v:=u) (by omega)) h
   have hne:=word_ne ⟨t.op.toNat,by omega⟩ (by show 1≤t.op.toNat;omega) (by show t.op.toNat≤17∨t.op.toNat=22∨t.op.toNat=23∨25≤t.op.toNat;omega)
   have hop:=word_inj ⟨t.op.toNat,by omega⟩ ⟨u.op.toNat,by omega⟩ (by rw[o1,o2];exact hw) hne
   have hop':t.op=u.op:=by
    have:t.op.toNat=u.op.toNat:=congrArg Fin.val hop
    omega
   have hab:t.a=u.a∧t.b=u.b∧(t.ks.map textL).flatMap (fun x=>32::x)++41::r=(u.ks.map textL).flatMap (fun x=>32::x)++41::s:=by
    by_cases c22:t.op=22
    ·rw[if_pos c22,if_pos (by omega)] at h
     simp only[List.cons_append,List.append_assoc,List.cons.injEq,true_and] at h
     have c1:=cut_ab hd hs c22
     have c2:=cut_ab hd hu (by omega)
     have da:∀{x:Int},0≤x→x<4→Z20 (digL x):=fun{x} h0 h4=>by
      have:=dig_free ⟨x.toNat,by omega⟩
      rwa[show(((⟨x.toNat,by omega⟩:Fin 4):Nat):Int)=x by show((x.toNat:Nat):Int)=_;omega] at this
     have di:∀{x y:Int},0≤x→x<4→0≤y→y<4→digL x=digL y→x=y:=fun{x y} h0 h4 h0' h4' he=>by
      have:=dig_inj ⟨x.toNat,by omega⟩ ⟨y.toNat,by omega⟩ (by
       rw[show(((⟨x.toNat,by omega⟩:Fin 4):Nat):Int)=x by show((x.toNat:Nat):Int)=_;omega,show(((⟨y.toNat,by omega⟩:Fin 4):Nat):Int)=y by show((y.toNat:Nat):Int)=_;omega];exact he)
      have:x.toNat=y.toNat:=congrArg Fin.val this
      omega
     obtain⟨e1,h⟩:=atom_cancel (da (by omega) (by omega)) (da (by omega) (by omega)) (kz (.inl rfl)) (kz (.inl rfl)) h
     simp only[List.cons.injEq,true_and] at h
     obtain⟨q1,k1⟩:=kst (l:=t.ks) (q:=r) (by omega)
     obtain⟨q2,k2⟩:=kst (l:=u.ks) (q:=s) (by omega)
     obtain⟨e2,h⟩:=atom_cancel (da (by omega) (by omega)) (da (by omega) (by omega)) (by rw[k1];exact kz (.inl rfl)) (by rw[k2];exact kz (.inl rfl)) h
     exact⟨di (by omega) (by omega) (by omega) (by omega) e1,di (by omega) (by omega) (by omega) (by omega) e2,h⟩
    ·rw[if_neg c22,if_neg (by omega)] at h
     obtain⟨a1,b1⟩:=QG pl ⟨fun e=>lt (.inl e),c22⟩
     obtain⟨a2,b2⟩:=QG pl' ⟨fun e=>lu (.inl e),by omega⟩
     exact⟨by omega,by omega,h⟩
   obtain⟨ha,hb,h⟩:=hab
   obtain⟨hk,e⟩:=kids_inj (by
    have:arity t.op=arity u.op:=by rw[hop']
    omega) (fun k hk v hv=>ih k hk ((sort_parts hs).2.1 k hk) v ((sort_parts hu).2.1 v hv)) h
   exact⟨yq0 hop' ha hb (by rw[VU pl (fun e=>lt (.inr (.inl e))),VU pl' (fun e=>lu (.inr (.inl e)))]) hk,e⟩
theorem text_inj (hd:declOk ds=true) (hs:sortM ds t≠ -1) (hu:sortM ds u≠ -1) (h:textL t=textL u):t=u:=
 (text_inj' hd t hs u hu [] [] (fun c hc=>by cases hc) (fun c hc=>by cases hc) (by rw[List.append_nil,List.append_nil];exact h)).1
end
end Go.M
end
section
namespace Go.Proofs.YtaekfnbnhjgboaaGreatDoor
open Go Go.Vc Go.Proofs
variable {w:World} {K:Value→World→Prop} {F F' Fx Fy X Q:Nat→Prop} {n bc mb bb:Nat} {gs:M.Gs} {v:Value} {ar ab:Addr} {st:Option M.Gs}
theorem dcl_small {ds:List M.Dcl} (hok:M.declOk ds=true) {i:Nat} (hi:i≤ds.length):0≤M.bitT ds i∧M.bitT ds i≤16:=by
 have h4:=(M.decl_iff.1 hok).1
 induction i with
 |zero=>exact⟨Int.le_refl _,show(0:Int)≤16 by decide⟩
 |succ i ih=>
  have:=ih (by omega)
  have hw:=M.dcl_wide hok (i:=i) (by omega)
  rw[M.bitT_succ (by omega)]
  have key:M.bitT ds i≤4*(i:Int):=by
   clear ih this
   induction i with
   |zero=>exact Int.le_refl _
   |succ j ihj=>
    have hw:=M.dcl_wide hok (i:=j) (by omega)
    have:=ihj (by omega) (M.dcl_wide hok (by omega))
    rw[M.bitT_succ (by omega)];omega
  omega
theorem bitsOf_spec {dv:Value} {ds:List M.Dcl} (hd:DclsR Fx w dv ds) (hok:M.declOk ds=true) (hK:∀w',Ext w w'→K (.int .i64 (M.bits ds)) w'):vcall PP Xd #[dv] w K:=by
 apply xh0;unfold VG
 simp(disch:=(simp only[push_cast];done)) only[push_cast,hd.len]
 have h4:=(M.decl_iff.1 hok).1
 refine vloop_up ds.length (fun i u w'=>u=[.int .i64 (M.bitT ds i),.int .i64 i]∧Ext w w') ⟨rfl,Same.refl _ _⟩ ?_
 rintro i _ _ w2 C hi ⟨rfl,he2⟩ hC
 have hd2:=hd.ext he2
 simp only[push_cast]
 refine zh (fun a=>?_) (fun a=>?_)
 ·have hi':i<ds.length:=by omega
  simp(disch:=first|(simp only[push_cast];done)|omega) only[push_cast,hd2.iaddr,hd2.load]
  refine zC xr fun b1 w3 hb3 he3 hs3 h3=>?_
  refine stDecl h3 fun w4 hw4 _ h4=>?_
  have he4:Ext w2 w4:=Ext.then he3 hw4 fun y hy=>by subst hy;omega
  have hs1:=dcl_small hok hi
  have hs2:=dcl_small hok (i:=i+1) hi'
  rw[M.bitT_succ hi'] at hs2
  simp(disch:=first|(simp only[push_cast];done)|omega) only[push_cast,h4.ld1,zA]
  refine hC hi' _ _ ⟨?_,he2.trans he4⟩
  rw[M.bitT_succ hi']
  simp
 ·have:i=ds.length:=by omega
  subst this
  rw[M.bitT_all]
  exact hK w2 he2
theorem nameB_take {ds:List M.Dcl} {k j:Nat} {wd top:Int} (hj:(j:Int)<wd) (hw:wd=(ds.getD k (M.nada,0)).2) (ht:top=2+M.bits (ds.take k)):(M.nameB ds k).take (j+1)=(M.nameB ds k).take j++[top+(wd-1-j)]:=by
 have hl:j<(M.nameB ds k).length:=by rw[M.nameB_len];omega
 rw[M.take_add hl 0]
 congr 1
 unfold M.nameB
 rw[List.getD_eq_getElem?_getD,List.getElem?_map,List.getElem?_range (by omega)]
 show[2+M.bits (ds.take k)+(ds.getD k (M.nada,0)).2-1-(j:Int)]=[top+(wd-1-(j:Int))]
 rw[ht,hw]
 congr 1
 omega
theorem inputs_spec {bl:Nat} {r:List Value} {dv:Value} {ds:List M.Dcl} {s:ByteArray} {x0:Value} (hB:Blk w bl (x0::dv::r) zL) (hd:DclsR Fx w dv ds) (hok:M.declOk ds=true) (hs:0≤M.findD ds s)
  (hK:∀w' r,Ext w w'→OwnI PP za w' r (M.nameB ds (M.findD ds s).toNat)→(∀b,r.ownBlock=some b→w.heap.size≤b)→K r w'):vcall PP qL #[.pointer (some ⟨bl,0,none⟩),.string s] w K:=by
 apply Qm;unfold kL
 simp(disch:=(simp only[push_cast];done)) only[push_cast,hB.ld1,hd.len]
 have h4:=(M.decl_iff.1 hok).1
 have hlt:=M.findD_lt ds s
 refine vloop_up ds.length (fun i u w'=>u=[.int .i64 (2+M.bitT ds i),.int .i64 i]∧Ext w w'∧i≤(M.findD ds s).toNat) ⟨rfl,Same.refl _ _,Nat.zero_le _⟩ ?_
 rintro i _ _ w2 C hi ⟨rfl,he2,hif⟩ hC
 have hd2:=hd.ext he2
 simp only[push_cast]
 have hi':i<ds.length:=by omega
 refine zh (fun a=>?_) (fun a=>by omega)
 simp(disch:=first|(simp only[push_cast];done)|omega) only[push_cast,hd2.iaddr,hd2.load]
 refine zC xr fun b1 w3 hb3 he3 hs3 h3=>?_
 refine stDecl h3 fun w4 hw4 _ h4'=>?_
 have he4:Ext w2 w4:=Ext.then he3 hw4 fun y hy=>by subst hy;omega
 have hs1:=dcl_small hok hi
 have hs2:=dcl_small hok (i:=i+1) hi'
 rw[M.bitT_succ hi'] at hs2
 have hw4':=M.dcl_wide hok hi'
 simp(disch:=first|(simp only[push_cast];done)|omega) only[push_cast,h4'.ld0,h4'.ld1,zA]
 refine zh (fun e=>?_) (fun e=>?_)
 ·have hik:i=(M.findD ds s).toNat:=by
   by_cases c:i=(M.findD ds s).toNat
   ·exact c
   ·have h1:=M.dcl_apart hok (i:=(M.findD ds s).toNat) (j:=i) (by omega) (by omega)
    exact absurd (e.trans (M.findD_get hs).symm) h1
  rw[←hik] at hK
  have hbt:M.bitT ds i=M.bits (ds.take i):=rfl
  generalize hW:(ds.getD i (M.nada,0)).2=wd at*
  refine ZP (fun m u w'=> ∃j r,u=[r,.int .i64 ((m:Int)-1)]∧(m:Int)+(j:Nat)=wd∧Ext w w'∧OwnI PP za w' r ((M.nameB ds i).take j)∧∀b,r.ownBlock=some b→w.heap.size≤b) wd.toNat
   ⟨0,_,by rw[show((wd.toNat:Nat):Int)=wd by omega],by omega,he2.trans he4,OwnI.nil,fun b hb=>by cases hb⟩ ?_
  rintro m _ _ w5 C5 ⟨j,r,rfl,hmj,he5,ho5,hn5⟩ hC5
  simp only[push_cast]
  refine zh (fun hge=>?_) (fun hlt2=>?_)
  ·simp(disch:=omega) only[push_cast,zA]
   refine yb yN yg yr rfl rfl fun b6 w6 hb6 he6 hz6 hB6=>?_
   have he56:=he5.trans he6
   have hz:=he56.size
   have hle:((M.nameB ds i).take j).length≤16:=by rw[List.length_take,M.nameB_len];omega
   refine(ho5.ext he6).app1 yO hB6 (by omega) (by omega) fun r7 w7 ho7 hs7 hn7=>?_
   try simp(disch:=omega) only[push_cast,zA]
   refine hC5 (m-1) _ _ (by omega) ⟨j+1,r7,?_,by omega,Ext.then he56 hs7 fun b hb=>hn5 b hb,?_,fun b hb=>(hn7 b hb).elim (hn5 b) fun h=>by omega⟩
   ·rw[show((m-1:Nat):Int)=(m:Int)-1 by omega]
   ·rw[nameB_take (wd:=wd) (top:=2+M.bits (ds.take i)) (by omega) hW.symm rfl,←hbt]
    rw[show(2+M.bitT ds i+(wd-1-j))=2+M.bitT ds i+((m:Int)-1) by omega]
    exact ho7
  ·rw[List.take_of_length_le (by rw[M.nameB_len];omega)] at ho5
   exact hK w5 r he5 ho5 hn5
 ·refine hC hi' _ _ ⟨?_,he2.trans he4,?_⟩
  ·rw[M.bitT_succ hi'];simp;omega
  ·have:i≠(M.findD ds s).toNat:=fun h=>e (by rw[h];exact M.findD_get hs)
   omega
end Go.Proofs.YtaekfnbnhjgboaaGreatDoor
end
section
namespace Go.Proofs.YtaekfnbnhjgboaaGreatDoor
open Go Go.Vc Go.Proofs Go.Shelf
variable {w:World} {K:Value→World→Prop} {F F' Fx Fy X Q:Nat→Prop}
def YK0:ByteArray:=⟨#[48,49,50,51,52,53,54,55,56,57,97,98,99,100,101,102,103,104,105,106,107,108,109,110,111,112,113,114,115,116,117,118,119,120,121,122]⟩
theorem digit_text:∀k:Fin 10,(YK0.extract k.1 (k.1+1)).data.toList=M.digL (k.1:Int):=by decide+kernel
theorem Itoa_spec {k:Nat} (hk:k<10) (hK:∀s:ByteArray,s.data.toList=M.digL (k:Int)→K (.string s) w):vcall PP j7 #[.int .i64 k] w K:=by
 apply zx0;unfold Jr
 apply Xj;unfold jQ
 apply Zb;unfold qz
 simp only[push_cast]
 refine zh (fun _=>?_) (fun h=>absurd trivial h)
 refine zU (fun _ _=>False) ?_ (fun _ _ _ h=>h.elim)
 intro J hJ
 refine zh (fun _=>?_) (fun h=>by omega)
 refine zh (fun _=>?_) (fun h=>by omega)
 apply YB;unfold jt
 simp(disch:=omega) only[push_cast,zA]
 refine zh (fun _=>?_) (fun h=>by omega)
 have hsz:YK0.size=36:=by decide+kernel
 show yp PP zJ (.string YK0) _ _ _ w _
 rw[j90 (by kernel_rfl) (by omega) (by omega) (by rw[hsz];omega)]
 rw[show((k:Int)).toNat=k by omega,show((k:Int)+1).toNat=k+1 by omega]
 exact hK _ (digit_text ⟨k,hk⟩)
def byV (c:UInt8):Value:= .int .u8 c.toNat
theorem jw0 {v:Value} {l:List UInt8} (h:OwnV PP zY w v (l.map byV)) (hne:l≠[]):Zi PP zY zJ v w K=K (.string ⟨l.toArray⟩) w:=by
 obtain⟨a,c,hv,hc,hcm,hcell⟩:=(OwnV.vals h).shape
 have hne':(l.map byV).map (fun x=>[x])≠[]:=by simpa using hne
 obtain⟨b,o,ha,_,_,hcc⟩:=hcell hne'
 simp only[List.length_map] at hv hcc
 subst ha;subst hv
 refine yw (run_convert_bytes_back w zY zJ qk ⟨b,o,none⟩ c l YT (by kernel_rfl) (by kernel_rfl) fun j hj=>?_)
 have:=hcc j hj 0 (byV l[j]) (by
  rw[List.getD_eq_getElem?_getD,List.getElem?_map,List.getElem?_map,List.getElem?_eq_getElem hj];rfl)
 rw[x8] at this⊢
 rw[Nat.mul_one,Nat.add_zero] at this
 exact this
def kE0 (n:Nat) (i:Nat):UInt8:=if n/2^i%2=1 then 49 else 48
theorem bitC_take {wd n j:Nat} (hj:j<wd):((List.range wd).reverse.map (kE0 n)).take (j+1)=((List.range wd).reverse.map (kE0 n)).take j++[kE0 n (wd-1-j)]:=by
 have hl:j<((List.range wd).reverse.map (kE0 n)).length:=by simpa using hj
 rw[M.take_add hl 0]
 congr 1
 rw[List.getD_eq_getElem?_getD,List.getElem?_map,List.getElem?_reverse (by simpa using hj),List.length_range,List.getElem?_range (by omega)]
 rfl
theorem VecText_spec {wd n:Int} (hok:M.vok wd n=true) (hK:∀w' s,Ext w w'→s.data.toList=M.vecL wd.toNat n.toNat→K (.string s) w'):vcall PP Yp #[jU wd n] w K:=by
 apply zV0;unfold JP
 obtain⟨h1,h2,h3,h4⟩:=M.vok_iff.1 hok
 have hp:(2:Int)^wd.toNat≤16:=by
  have:=pow4 (k:=wd.toNat) (by omega) (by omega)
  have e:=yc0 wd.toNat
  omega
 refine zy fun b1 w1 hb1 he1 hz1 hB1=>?_
 have hag:∀w':World,Blk w' b1 [.int .i64 wd,.int .i64 n] zb→∀K:Value→World→Prop,ze PP zb (.pointer (some ⟨b1,0,none⟩)) w' K=K (jU wd n) w':=fun w' hB K=>Blk.ldAgg hB (by exact zS)
 rw[hag w1 hB1]
 refine VecOk_spec fun w2 he2=>?_
 rw[hok]
 simp only[push_cast,Bool.not_true]
 refine yb YT (by kernel_rfl) (show yM PP qk (.int .u8 0) by unfold yM;kernel_rfl) rfl rfl fun b3 w3 hb3 he3 hz3 hB3=>?_
 have hq3:=hB1.ext (he2.trans he3)
 have e3:=he1.trans (he2.trans he3)
 have s1:=he1.size;have s2:=he2.size
 have ho3:OwnV PP zY w3 (.slice (some ⟨b3,0,none⟩) 1 1) ([(35:UInt8)].map byV):=Blk.own1 (P:=PP) (t:=zY) (cs:=[byV 35]) (by rw[kx0];exact hB3) (Nat.zero_le _) rfl rfl (by omega)
 simp(disch:=first|(simp only[push_cast];done)|omega) only[push_cast,hq3.ld0,zA]
 refine ZP (fun m u w'=> ∃j r,u=[r,.int .i64 ((m:Int)-1)]∧(m:Int)+(j:Nat)=wd∧Ext w w'∧Blk w' b1 [.int .i64 wd,.int .i64 n] zb∧OwnV PP zY w' r ((35::((List.range wd.toNat).reverse.map (kE0 n.toNat)).take j).map byV)∧∀b,r.ownBlock=some b→w1.heap.size≤b) wd.toNat
  ⟨0,_,by rw[show((wd.toNat:Nat):Int)=wd by omega],by omega,e3,hq3,ho3,fun b hb=>by have e:b3=b:=Option.some.inj hb;omega⟩ ?_
 rintro m _ _ w5 C5 ⟨j,r,rfl,hmj,he5,hB5,ho5,hn5⟩ hC5
 simp only[push_cast]
 refine zh (fun hge=>?_) (fun hlt=>?_)
 ·rw[hag w5 hB5]
  rw[show n=((n.toNat:Nat):Int) by omega]
  refine raw_spec (by omega) fun w6 he6=>?_
  rw[show(m:Int)-1=((m-1:Nat):Int) by omega]
  refine bit_spec (by omega) (by omega) ?_
  have step:∀(x:UInt8) (C6:Value→World→Prop),x=kE0 n.toNat (wd.toNat-1-j)→(∀r' w7,Ext w w7→Blk w7 b1 [.int .i64 wd,.int .i64 n] zb→OwnV PP zY w7 r' ((35::((List.range wd.toNat).reverse.map (kE0 n.toNat)).take (j+1)).map byV)→(∀b,r'.ownBlock=some b→w1.heap.size≤b)→C6 r' w7)→
    vbuildS PP zY 1 [(0,.int .u8 x.toNat)] w6 fun t21 w_14=>vbi PP .append [zY,zY] zY [r,t21] w_14 C6:=by
   intro x C6 hx hC6
   refine yb YT (by kernel_rfl) (show yM PP qk (.int .u8 0) by unfold yM;kernel_rfl) rfl rfl fun b7 w7 hb7 he7 hz7 hB7=>?_
   have e67:=he6.trans he7
   have hl:((35::((List.range wd.toNat).reverse.map (kE0 n.toNat)).take j).map byV).length≤20:=by
    simp only[List.length_map,List.length_cons,List.length_take,List.length_reverse,List.length_range];omega
   refine(ho5.ext e67).app1 ZA0 hB7 rfl (by omega) (by omega) fun r8 w8 ho8 hs8 hn8=>?_
   have hz5:=he5.size
   have z67:=e67.size
   refine hC6 r8 w8 (Ext.then (he5.trans e67) hs8 fun b hb=>by have:=hn5 b hb;omega) ((hB5.ext e67).same hs8 fun hb=>by have:=hn5 b1 hb;have:=hB1.lt;omega) ?_ fun b hb=>(hn8 b hb).elim (hn5 b) fun h=>by have:=hB5.lt;omega
   rw[bitC_take (by omega),←hx,←List.cons_append,List.map_append]
   exact ho8
  have hmi:wd.toNat-1-j=m-1:=by omega
  have fin:∀r' w7,Ext w w7→Blk w7 b1 [.int .i64 wd,.int .i64 n] zb→OwnV PP zY w7 r' ((35::((List.range wd.toNat).reverse.map (kE0 n.toNat)).take (j+1)).map byV)→(∀b,r'.ownBlock=some b→w1.heap.size≤b)→C5 [r',.int .i64 (((m-1:Nat):Int)-1)] w7:=fun r' w7 h1 h2 h3 h4=>
   hC5 (m-1) _ _ (by omega) ⟨j+1,r',rfl,by omega,h1,h2,h3,h4⟩
  refine zh (fun c=>?_) (fun c=>?_)
  ·refine step 49 _ (by rw[hmi];unfold kE0;rw[if_pos c]) fun r' w7 a1 a2 a3 a4=>?_
   rw[zA (by omega) (by omega)]
   exact fin r' w7 a1 a2 a3 a4
  ·refine step 48 _ (by rw[hmi];unfold kE0;rw[if_neg c]) fun r' w7 a1 a2 a3 a4=>?_
   rw[zA (by omega) (by omega)]
   exact fin r' w7 a1 a2 a3 a4
 ·rw[List.take_of_length_le (by simp;omega)] at ho5
  rw[jw0 ho5 (by simp)]
  exact hK w5 _ he5 rfl
theorem joinX:Builder.Extra PP YtaekfnbnhjgboaaGreatDoor.joinL_ren where
 sizeBuilder:=by kernel_rfl
 liesBuilder:=by kernel_rfl
 t5:=by kernel_rfl
 a5:=fun w=>by kernel_rfl
 z5:=fun w=>by kernel_rfl
 v5:=fun w=>by kernel_rfl
 infoByte:=by kernel_rfl
 cellsByte:=by kernel_rfl
 sizeByte:=by kernel_rfl
 neB5:=by decide+kernel
def joinB:List (List UInt8)→List UInt8
 |[]=>[]
 |x::xs=>x++xs.flatMap fun y=>32::y
theorem kn0 (xs:List (List UInt8)):Lib.join xs [32]=joinB xs:=by
 unfold Lib.join joinB
 induction xs with
 |nil=>rfl
 |cons x xs ih=>
  cases xs with
  |nil=>simp[List.intercalate,List.intersperse]
  |cons y ys=>
   simp only[List.intercalate,List.intersperse_cons_cons,List.flatten_cons] at ih⊢
   rw[ih]
   simp
theorem Join_spec {v:Value} {xs:List ByteArray} (h:OwnV PP yn w v (xs.map .string)) (h2:2≤xs.length) (hl:xs.length≤1000) (hj:(joinB (xs.map (·.data.toList))).length≤1000000)
  (hK:∀w' s,Ext w w'→s.data.toList=joinB (xs.map (·.data.toList))→K (.string s) w'):vcall PP Jo #[v,.string ⟨#[32]⟩] w K:=by
 obtain⟨a,c,hv,hc,hcm,hcell⟩:=(OwnV.vals h).shape
 have hne:(xs.map Value.string).map (fun x=>[x])≠[]:=by intro e;have:=congrArg List.length e;simp only[List.length_map,List.length_nil] at this;omega
 obtain⟨b,o,ha,_,hb,hcc⟩:=hcell hne
 simp only[List.length_map] at hv hcc hc
 subst ha;subst hv
 refine⟨by kernel_rfl,?_⟩
 refine(Any.strings_Join_many YtaekfnbnhjgboaaGreatDoor.joinL joinX b o c xs ⟨#[32]⟩ w (fun j x hj=>?_) hb h2 (by omega) hc (by rw[show(⟨#[32]⟩:ByteArray).data.toList=[32] from rfl,kn0];omega)).mono ?_
 ·have hjl:j<xs.length:=(List.getElem?_eq_some_iff.1 hj).1
  have:=hcc j hjl 0 (.string x) (by
   rw[List.getD_eq_getElem?_getD,List.getElem?_map,List.getElem?_map,hj];rfl)
  rw[x8,Nat.mul_one,Nat.add_zero] at this
  exact this
 ·rintro e w' ⟨rfl,hB⟩
  refine hK w' _ (qk0 hB) ?_
  rw[show(⟨#[32]⟩:ByteArray).data.toList=[32] from rfl,kn0]
end Go.Proofs.YtaekfnbnhjgboaaGreatDoor
end
