import Derived.Test.YtaemeijeaajoeaaGreatDoorWrbP5
import Derived.Test.YtaemeijeaajoeaaGreatDoorWrbP4
import Derived.Test.YtaemeijeaajoeaaGreatDoorWrbP2
import Derived.Deep.Slices
import Derived.OpenVars
import Derived.MakeChecks
import Derived.Stop.LaidErr
import Derived.Stop.LaidTwo
/- A part of the proof. -/
set_option linter.unusedVariables false
set_option linter.unusedSimpArgs false
set_option linter.unnecessarySimpa false
set_option linter.unusedSectionVars false
section
namespace Go.Proofs.YtaemeijeaajoeaaGreatDoor
open Go Go.Vc Go.Proofs
variable {w w' w0:World} {K:Value→World→Prop} {F:Nat→Prop} {s:ByteArray} {V:Prop} {dv:Value} {ds:List M.Dcl} {u t:M.Tm} {bp kb:Nat} {r:List UInt8}
noncomputable def cHd:Code→Code| .seq x _=>x|c=>c
noncomputable def cTl:Code→Code| .seq _ y=>y|c=>c
noncomputable def cTh:Code→Code| .cond _ x _=>x|c=>c
noncomputable abbrev Wj:Code:=cTh (cTl (cTl (Tryz.f54.body.getD .skip)))
abbrev onlyW (Q:World→Prop) (e:Exit) (_:Fr) (w:World):Prop:=match e with| .normal=>Q w|_=>False
theorem VZ (f:Fr) (w:World) (Q:World->Prop):vc PP {} Wj (onlyW Q) f w=
  JE PP (f 2) 20 zR true w fun t10 a=>zm PP t10 0 a fun t11 b=>zm PP t10 1 b fun t12 c=>yp PP zR c fun t3 d=>zn PP zR t3 t11 d fun _ e=>
   vun PP .not t12 e fun t14 g=>vif t14 False (zq PP za [] g fun t16 h=>zn PP za (f 0) t16 h fun _ i=>zn PP xj (f 1) (.bool false) i fun _ j=>Q j):=by kernel_rfl
theorem as_yes' {a:TypeId} {v:Value} (b:concB PP a=true) {xT:TypeId}:JE PP (.iface a v) xT a true w K=K (.tuple #[v,.bool true]) w:=by
 refine y6 ?_;unfold concB at b;cases hu:PP.underlying a with
 |none=>grind
 |some d=>
  rw[hu] at b;cases d<;>first|(cases b;done)|simp[Instr.typeAssert,run_underlying hu]
theorem catch_panicking {a b:Nat} {cs:List Value} {x:Value} (A:Blk w a cs za) (F:cs.length=5) (B:Blk w b [x] xj) (H:a≠b):
  CallsD PP zF #[.pointer (some ⟨a,0,none⟩),.pointer (some ⟨b,0,none⟩)] (.panicking [pE]) w fun e z w'=>
   e= .returned (.tuple #[])/\z= .panicking [{v:= .iface zR (.agg #[]),recovered:=true}]/\Same (fun x=>x=a\/x=b) w w'/\Blk w' a X2 za/\Blk w' b [.bool false] xj:=by
 refine callsD_of_wpS Tryz.func54 rfl fun c₀ cs hu=>?_;have key:∀(tm:Array Value),tm.size=17->tm.getD 0 undef= .pointer (some ⟨a,0,none⟩)->tm.getD 1 undef= .pointer (some ⟨b,0,none⟩)->tm.getD 2 undef= .iface zR (.agg #[])->∀c₁:Frame,c₁={c₀ with mode:= .panicking [{v:= .iface zR (.agg #[]),recovered:=true}]}->
   Wj.wpS PP (bodyPostS PP Tryz.f54 c₀ cs fun e z w'=>e= .returned (.tuple #[])/\z= .panicking [{v:= .iface zR (.agg #[]),recovered:=true}]/\Same (fun x=>x=a\/x=b) w w'/\Blk w' a X2 za/\Blk w' b [.bool false] xj) {tmps:=tm,defers:=[]} (c₁::cs) w:=by
  rintro tm r t0 t1 t2 c₁ rfl;refine wpS_of_wp (wpIn_wide (n:=0).1 (wpIn_mono (vc_sound (ro:=none) (df:=[]) (n:=17) (T:={}) (by kernel_rfl) Wj (onlyW fun w'=>Same (fun x=>x=a\/x=b) w w'/\Blk w' a X2 za/\Blk w' b [.bool false] xj) (fun t=>tm.getD t undef) _ w (by kernel_rfl) ?_ ⟨r,rfl,fun t=>rfl⟩ (fun l f w h=>h)) ?_))
  ·rw[VZ];simp only[t0,t1,t2];rw[as_yes' (by kernel_rfl)];simp only[zH,zG];refine kK ZO fun Q V E p K k=>?_;refine k.stAgg (cs':=[]) (by rfl) (by kernel_rfl) (by simp) fun O s L D=>?_;simp only[jw];refine zE (fun c=>by cases c) (fun _=>?_);have S:=A.lt;have U:=B.lt;have d:Ext w O:=Ext.then p s fun y I=>by subst I;omega
   rw[Kr];refine stTerm (A.ext d) F (Ki (G:=fun _=>False) 0 0 0 ⟨#[]⟩) fun W g M m=>?_;refine((B.ext d).same g (by omega)).st (i:=0) rfl rfl W4 rfl fun X j N o=>?_;exact⟨((Same.of_ext d).trans (g.mono fun x _ u=> .inl u)).trans (j.mono fun x _ u=> .inr u),m.same j (by omega),o⟩
  ·rintro e P w' (⟨c,rfl,J,_⟩|⟨R,q,_,C⟩)
   ·exact J.elim
   ·cases e with
    |normal=>exact⟨q.defers,_,rfl,.tuple #[],by simp[results,Tryz.results54],rfl,rfl,C⟩
    |_=>exact C.elim
 apply wpS_seq;apply wpS_region;simp[wpOpsS,go_sem,recoverD,hu,Tryz.ntmps54,Exit.thenS];apply wpS_seq;apply wpS_region;simp[wpOpsS,go_sem,Exit.thenS];refine wpS_cond (t:=true) (by simp[Act.eval,Array.replicate]) ?_;simp only[if_true];refine key _ (by simp) (by simp[Array.replicate]) (by simp[Array.replicate]) (by simp[Array.replicate]) _ ?_;rfl
theorem Kp (p q:Value) (w:World):
  CallsD PP zF #[p,q] .returning w fun e a w'=>e= .returned (.tuple #[])/\a= .returning/\w'=w:=by
 refine callsD_of_wpS Tryz.func54 rfl fun c₀ cs hu=>?_;apply wpS_seq;apply wpS_region;simp[wpOpsS,go_sem,recoverD,hu,Tryz.ntmps54,Exit.thenS];apply wpS_seq;apply wpS_region;simp[wpOpsS,go_sem,Exit.thenS];refine wpS_cond (t:=false) (by simp[Act.eval,Array.replicate]) ?_;simp only[Bool.false_eq_true,if_false];refine wpS_of_wp (wp_skip ?_);cases c₀;simp_all[bodyPostS,results,Tryz.results54]
noncomputable abbrev Ww:Code:=cTl (cTl (Tryz.f25.body.getD .skip))
noncomputable abbrev Wv:Code:=cTl Ww
abbrev U4:Ann:={ord:=[(3,[0,1,2,3,4,5,6,7],[(0,[6,7]),(1,[2,3,4,5,7]),(2,[3,4,5,7]),(3,[4,5,7]),(4,[5,7]),(5,[7]),(6,[7])])],loops:=[],cuts:=[]}
abbrev onlyR (Q:World→Prop) (e:Exit) (_:Fr) (w:World):Prop:=match e with| .ret=>Q w|_=>False
theorem Wu [ZP] (f:Fr) (w:World) (Q:World->Prop):vc PP U4 Wv (onlyR Q) f w=
  x9 w fun a=>zh PP za (f 2) a fun t7 c=>c=a/\
   vnil PP (f 0) a fun t9 d=>d=a/\zg PP zt t9 0 a fun t10 e=>e=a/\zh PP zc t10 a fun t11 g=>g=a/\zj PP .eql zc true t11 (.string {data:= #[]}) a fun t12 h=>h=a/\
   zn PP za (f 2) t7 a fun _ b=>(zj PP .eql zc true t11 (.string {data:= #[]}) b fun v x=>v=t12/\x=b)/\(zh PP zc t10 b fun v x=>v=t11/\x=b)/\(zg PP zt t9 0 b fun v x=>v=t10/\x=b)/\(vnil PP (f 0) b fun v x=>v=t9/\x=b)/\
   zn PP xj (f 3) t12 b fun _ i=>Q i:=by kernel_rfl
theorem K0 (f:Fr) (w:World) (K:Value->World->Prop):vres PP Tryz.f25.results.toList f w K=(vlv PP za (f 2) w fun a c=>vlv PP xj (f 3) c fun b d=>K (.tuple #[a,b]) d):=by kernel_rfl
theorem qr [ZP] {df:List Deferred} {n:Nat} {ops:Array Oper} {Q:Exit->Act->World->Prop} {o:Oper} {rest:List Oper} {a:Act} {f:Fr} (d:o.guard=none) (h:vop PP o.op o.type f w K) (e:Sim df n f a) (g:∀c w,ZP.z c w->Q (.panic c) a w)
  (b:∀v w',K v w'->wpListIn Fence.wide 0 PP ops Q rest (a.put o.dst v) w'):wpListIn Fence.wide 0 PP ops Q (o::rest) a w:=by
 unfold wpListIn;rw[if_pos (by simp[Region.wanted,d])];exact vop_sound (ro:=none) h e g b
theorem VJ:Ww=(.seq (cHd Ww) Wv):=rfl
set_option maxRecDepth 100000 in
theorem read_tail {m:World} {g p:Nat} {tm:Array Value} (h0:PS m m bp kb s) (hV:V->Good ds 7 u/\s.data.toList=M.textL u) (C:Blk m g X2 za) (D:Blk m p [.bool false] xj) (n2:g≠bp) (n3:p≠bp) (a4:g≠p)
  (Q:tm.size=13) (t0:tm.getD 0 undef= .pointer (some ⟨bp,0,none⟩)) (t2:tm.getD 2 undef= .pointer (some ⟨g,0,none⟩)) (t3:tm.getD 3 undef= .pointer (some ⟨p,0,none⟩))
  (hK:∀w' cs t b,Same (fun x=>x=bp\/x=g\/x=p) m w'->TmO w' (fun x=>m.heap.size<=x/\x<w'.heap.size) cs t->(V->t=u/\b=true)->K (.tuple #[.agg ⟨cs⟩,.bool b]) w'):
  Ww.wp PP (bodyPostD PP Tryz.f25 (retK K)) {tmps:=tm,defers:=[{target:= .fn (.func zF) #[.pointer (some ⟨g,0,none⟩),.pointer (some ⟨p,0,none⟩)],args:= #[]}]} m:=by
 have l2:=C.lt;have l3:=D.lt;have lb:=h0.lt0;refine wpIn_wide (n:=0).1 ?_;rw[VJ];refine wpIn_seq ?_;refine wpIn_region_list (ops:= #[_,_,_]) ?_;refine qr (K:=fun v w'=>v= .pointer (some ⟨bp,0,none⟩)/\w'=m) (df:=_) (n:=13) (f:=fun t=>tm.getD t undef) rfl ⟨t0,rfl⟩ ⟨Q,rfl,fun t=>rfl⟩ (fun c w h=>h.elim) ?_;rintro _ m ⟨rfl,rfl⟩;have s1:=Sim.put (n:=13) (df:=[{target:= .fn (.func zF) #[.pointer (some ⟨g,0,none⟩),.pointer (some ⟨p,0,none⟩)],args:= #[]}]) (f:=fun t=>tm.getD t undef) (a:={tmps:=tm,defers:=_}) ⟨Q,rfl,fun t=>rfl⟩ (d:=some 5) rfl (.pointer (some ⟨bp,0,none⟩));have S:put (fun t=>tm.getD t undef) (some 5) (.pointer (some ⟨bp,0,none⟩)) 2= .pointer (some ⟨g,0,none⟩):=t2;have U:put (fun t=>tm.getD t undef) (some 5) (.pointer (some ⟨bp,0,none⟩)) 3= .pointer (some ⟨p,0,none⟩):=t3;refine @qr m (fun v w'=> ∃cs t y,v= .agg ⟨cs⟩/\PS m w' bp kb y/\Same (· =bp) m w'/\TmO w' (fun x=>m.heap.size<=x/\x<w'.heap.size) cs t/\(V->t=u/\y.data.toList=[])) (zP V m bp) _ 13 _ _ _ _ _ _ rfl ?_ s1 ?_ ?_
 ·show @vcall (zP V m bp) PP yL #[put (fun t=>tm.getD t undef) (some 5) (.pointer (some ⟨bp,0,none⟩)) 5,.int .i64 1] m _;rw[show put (fun t=>tm.getD t undef) (some 5) (.pointer (some ⟨bp,0,none⟩)) 5= .pointer (some ⟨bp,0,none⟩) from rfl,show(1:Int)=8-((7:Nat):Int) from rfl];exact parser_term_spec 7 (by omega) h0 (u:=u) (r:=[]) (fun A=>⟨(hV A).1,fun c hc=>(by cases hc),by rw[List.append_nil];exact(hV A).2⟩) fun w' cs t y h hs ht A=>⟨cs,t,y,rfl,h,hs,ht,A⟩
 ·rintro c w3 ⟨rfl,a1,j⟩;refine leaves_cons (f:=zF) (args:= #[.pointer (some ⟨g,0,none⟩),.pointer (some ⟨p,0,none⟩)]) (by simp) (by simp[go_sem]) ?_;refine(catch_panicking (C.same j n2) rfl (D.same j n3) a4).mono ?_;rintro e u' R ⟨rfl,rfl,o,E,F⟩;refine vres_sound (K:=K) ?_ s1;rw[K0,S,U,E.lv zo,KB (v:= .bool false) (by rw[F.ld0 (by kernel_rfl)];exact⟨rfl,rfl⟩)];exact hK R _ tm0 false ((j.mono fun x _ k=> .inl k).trans (o.mono fun x _ k=> .inr k)) zeroO fun A=>absurd A a1
 rintro _ w3 ⟨cs,t,y,rfl,h3,j,L,A⟩;have z:=YO _ L;have s2:=s1.put (d:=some 6) rfl (.agg ⟨cs⟩);have z3:=j.size;refine qr (K:=fun _ w'=>Same (· =g) w3 w'/\Blk w' g cs za) rfl ?_ s2 (fun c w h=>h.elim) ?_
 ·have W:put (put (fun t=>tm.getD t undef) (some 5) (.pointer (some ⟨bp,0,none⟩))) (some 6) (.agg ⟨cs⟩) 2= .pointer (some ⟨g,0,none⟩):=t2;simp only[vop,ev];rw[W,show put (put (fun t=>tm.getD t undef) (some 5) (.pointer (some ⟨bp,0,none⟩))) (some 6) (.agg ⟨cs⟩) 6= .agg ⟨cs⟩ from rfl];exact stTerm (C.same j n2) rfl z fun w' a _ c=>⟨a,c⟩
 rintro v R ⟨o,X⟩;have s3:=s2.put (d:=none) rfl v;have a2:=h3.par.same o (by omega);have B:=xP o _ L fun x k e=>by omega
 have a0:=YO _ B;have J:=(D.same j n3).same o (by omega);refine wpIn_mono (vc_sound (ro:=none) (n:=13) (T:=U4) (by kernel_rfl) Wv (onlyR fun w'=> ∃b:Bool,Same (fun x=>x=g\/x=p) R w'/\Blk w' g cs za/\Blk w' p [.bool b] xj/\(V->b=true)) _ _ R (by kernel_rfl) ?_ s3 (fun l f w h=>h)) ?_
 ·rw[Wu];have f0:put (put (put (fun t=>tm.getD t undef) (some 5) (.pointer (some ⟨bp,0,none⟩))) (some 6) (.agg ⟨cs⟩)) none v 0= .pointer (some ⟨bp,0,none⟩):=t0;have f2:put (put (put (fun t=>tm.getD t undef) (some 5) (.pointer (some ⟨bp,0,none⟩))) (some 6) (.agg ⟨cs⟩)) none v 2= .pointer (some ⟨g,0,none⟩):=t2;have f3:put (put (put (fun t=>tm.getD t undef) (some 5) (.pointer (some ⟨bp,0,none⟩))) (some 6) (.agg ⟨cs⟩)) none v 3= .pointer (some ⟨p,0,none⟩):=t3;rw[f0,f2,f3];refine zN fun w5 q _=>?_;have I:=X.ext q;have N:=a2.ext q;have hg:aggB PP za cs.length=true:=by rw[yr z];exact zo
  rw[I.ldAgg (t:=za) hg];simp(disch:=first|(simp only[push_cast];done)|omega) only[push_cast,N.ld0,true_and];refine stTerm I (yr z) (a0.ext q) fun w6 H a5 Y=>?_;have a3:=N.same H (by omega);simp(disch:=first|(simp only[push_cast];done)|omega) only[push_cast,a3.ld0,true_and,and_self];refine((J.ext q).same H (by omega)).st (i:=0) rfl rfl W4 rfl fun w7 P a6 Z=>?_;refine⟨_,((Same.of_ext q).trans (H.mono fun x _ k=> .inl k)).trans (P.mono fun x _ k=> .inr k),Y.same P (by omega),Z,fun h=>?_⟩;rw[decide_eq_true_eq];exact str_ext (by rw[(A h).2])
 ·rintro e a' w5 (⟨c,rfl,hz,_⟩|⟨f',O,hm,hk⟩)
  ·exact hz.elim
  cases e with
  |ret=>
   obtain⟨b,G,E,F,hb⟩:=hk;show Leaves PP Tryz.f25 a'.tmps (retK K) a'.defers .returning w5;rw[O.defers];refine leaves_cons (f:=zF) (args:= #[.pointer (some ⟨g,0,none⟩),.pointer (some ⟨p,0,none⟩)]) (by simp) (by simp[go_sem]) ?_;refine(Kp _ _ _).mono ?_;rintro e u' w6 ⟨rfl,rfl,rfl⟩;refine vres_sound (K:=K) ?_ O;have f2:f' 2= .pointer (some ⟨g,0,none⟩):=(hm 2 (by decide+kernel)).trans t2;have f3:f' 3= .pointer (some ⟨p,0,none⟩):=(hm 3 (by decide+kernel)).trans t3;have hg:aggB PP za cs.length=true:=by rw[yr z];exact zo
   rw[K0,f2,f3,E.lv hg,KB (v:= .bool b) (by rw[F.ld0 (by kernel_rfl)];exact⟨rfl,rfl⟩)];exact hK _ _ t b (((j.mono fun x _ k=> .inl k).trans (o.mono fun x _ k=> .inr (.inl k))).trans (G.mono fun x _ k=> .inr k)) (yU (xP G _ B fun x k e=>by omega) fun x k=>by have:=o.size;have:=G.size;omega) fun h=>⟨(A h).1,hb h⟩
  |_=>exact hk.elim
theorem Ko {ops:Array Oper} {Q:Exit->Act->World->Prop} {rest:List Oper} {a:Act} {ps:String} {af:Array Edge} {p q:Value} (h:a.tmps.getD 4 undef= .func (.func zF) #[] #[p,q])
  (b:wpListIn Fence.wide 0 PP ops Q rest {a with defers:={target:= .fn (.func zF) #[p,q],args:= #[]}::a.defers} w):
  wpListIn Fence.wide 0 PP ops Q ({dst:=none,op:= .defer {callee:= .value (.tmp 4),args:= #[],argTypes:= #[]},type:=0,pos:=ps,after:=af,guard:=none}::rest) a w:=by
 unfold wpListIn;rw[if_pos (by simp[Region.wanted])];refine⟨fun _ _=>trivial,?_⟩;rw[Array.getD_eq_getD_getElem?] at h;simp[go_sem,h];exact b
theorem read_spec (g:Blk w bp [.string s,.map (some kb)] zt) (F:KindsR w kb) (y:kb≠bp) (a:SynR w) (g1:WN≠bp) (g2:WO≠bp) (l:s.size<=2000000) (E:V->Good ds 7 u/\s.data.toList=M.textL u)
  (D:∀w' cs t b,Same (· =bp) w w'->TmO w' (fun x=>w.heap.size<=x/\x<w'.heap.size) cs t->(V->t=u/\b=true)->K (.tuple #[.agg ⟨cs⟩,.bool b]) w'):vcall PP qW #[.pointer (some ⟨bp,0,none⟩)] w K:=by
 refine⟨by kernel_rfl,calls_of_wp_defers Tryz.func25 rfl (wpIn_wide (n:=0).1 ?_)⟩;have lb:=g.lt;have C:=sim_enter [.pointer (some ⟨bp,0,none⟩)] 13 (by simp);refine wpIn_seq ?_;refine wpIn_region_list (ops:= #[_,_]) ?_;refine qr (K:=fun v w'=>v= .pointer (some ⟨w.heap.size,0,none⟩)/\Ext w w'/\w'.heap.size=w.heap.size+1/\Blk w' w.heap.size X2 za) rfl (zx zy fun b w' j he l g=>⟨by rw[j],he,l,j▸g⟩) C (fun c w h=>h.elim) ?_;rintro _ f ⟨rfl,q,J,i⟩;have s1:=C.put (d:=some 2) rfl (.pointer (some ⟨w.heap.size,0,none⟩));refine qr (K:=fun v w'=>v= .pointer (some ⟨f.heap.size,0,none⟩)/\Ext f w'/\w'.heap.size=f.heap.size+1/\Blk w' f.heap.size [.bool false] xj) rfl (kK Wk fun b w' j he l g=>⟨by rw[j],he,l,j▸g⟩) s1 (fun c w h=>h.elim) ?_;rintro _ o ⟨rfl,k,L,p⟩;have s2:=s1.put (d:=some 3) rfl (.pointer (some ⟨f.heap.size,0,none⟩));refine wpIn_seq ?_;refine wpIn_region_list (ops:= #[_,_]) ?_;refine qr (K:=fun v w'=>v= .func (.func zF) #[] #[.pointer (some ⟨w.heap.size,0,none⟩),.pointer (some ⟨f.heap.size,0,none⟩)]/\w'=o) rfl ⟨_,_,rfl,rfl,rfl⟩ s2 (fun c w h=>h.elim) ?_;rintro _ o ⟨rfl,rfl⟩;have m:=s2.put (d:=some 4) rfl (.func (.func zF) #[] #[.pointer (some ⟨w.heap.size,0,none⟩),.pointer (some ⟨f.heap.size,0,none⟩)]);refine Ko (m.at_ 4) ?_;have e:=q.trans k;have r:=F.ext e;have N:=i.lt;have z:PS o o bp kb s:={same:=Same.refl _ _,par:=g.ext e,sz:=l,kinds0:=r,syn0:=⟨by obtain⟨te,pe,h⟩:=a.1;exact⟨te,pe,e.cell (fun h=>h) h⟩,by obtain⟨te,pe,h⟩:=a.2;exact⟨te,pe,e.cell (fun h=>h) h⟩⟩,kne:=y,g1:=g1,g2:=g2,lt0:=by have:=e.size;omega};refine(wpIn_wide (n:=0)).2 (read_tail (V:=V) (u:=u) (ds:=ds) z E (i.ext k) p (by omega) (by omega) (by omega) m.size (m.at_ 0) (m.at_ 2) (m.at_ 3) fun w' cs t b G H I=>?_);have A:=(Same.of_ext (S:=fun x=>x=bp\/w.heap.size<=x) e).trans (G.mono fun x _ B=>by omega);exact D w' cs t b (A.mono fun x B h=>h.resolve_right (by omega)) (yU H fun x B=>by have:=e.size;omega) I
end Go.Proofs.YtaemeijeaajoeaaGreatDoor
end
section
namespace Go.Proofs.YtaemeijeaajoeaaGreatDoor
open Go Go.Vc Go.Proofs
variable {w w' w0:World} {K:Value→World→Prop} {F G:Nat→Prop} {s:ByteArray} {V:Prop} {v dv tv:Value} {ds:List M.Dcl} {u t:M.Tm} {bp kb:Nat} {r:List UInt8}
theorem QC {g:Nat} {v:Value} (h:w.cell? ⟨g,0,none⟩=some v):g<w.heap.size:=World.block_lt_of_cell? w ⟨g,0,none⟩ h
theorem SynR.same {S:Nat->Prop} (h:SynR w) (g:Same S w w') (f:∀x,S x->w.heap.size<=x):SynR w':=by
 obtain⟨⟨te,pe,c⟩,b,a,d⟩:=h;exact⟨⟨te,pe,g.cell (fun e=>by have:=f _ e;have:=QC c;simp at*;omega) c⟩,b,a,g.cell (fun e=>by have:=f _ e;have:=QC d;simp at*;omega) d⟩
theorem SynR.ext (h:SynR w) (a:Ext w w'):SynR w':=h.same a fun _ h=>h.elim
theorem SynR.lt (h:SynR w):WN<w.heap.size/\WO<w.heap.size:=by
 obtain⟨⟨te,pe,a⟩,d,c,b⟩:=h;exact⟨QC a,QC b⟩
theorem TermText_spec (p:DclsR F w dv ds) (u:TermR G w tv t) (n:∀w' s,Ext w w'->W2 ds t s->K (.string s) w'):vcall PP qG #[dv,tv] w K:=by
 apply Xz;unfold kC;obtain⟨cs,rfl,a⟩:=u.cells;have k:aggB PP za cs.length=true:=by rw[yr a];exact zo
 refine zr fun b1 A o b v d=>?_;rw[d.ldAgg k];refine TermSort_spec (p.ext b) (a.ext b).term fun x f=>?_;simp only[push_cast];have l:=b.trans f;have z:=tsort_low ds t;refine zd (fun c=>n x _ l ⟨fun _=>rfl,fun h=>absurd c h⟩) (fun c=>?_);have h:=yO (ds:=ds) (t:=t) c;refine zN fun B g _=>?_;have e:=(d.ext f).ext g;rw[e.ldAgg k];refine⟨rfl,Qs fun C kb i q=>?_⟩;rw[(e.ext i).ldAgg k];refine⟨⟨rfl,rfl⟩,?_⟩;have m:=(l.trans g).trans i;refine textOf_spec h.2.1 t h.1 (by omega) q (a.ext m).term fun y s j r=>?_;exact n y s (m.trans j) ⟨fun h=>absurd h c,fun _=>r⟩
theorem Va:zq PP zt [(0,.string s),(1,.map (some kb))] w K=K (.agg ⟨[.string s,.map (some kb)]⟩) w:=yd J4 (us:=[[.string s],[.map (some kb)]]) rfl rfl
theorem TermRead_spec (X:DclsR F w dv ds) (l:SynR w) (hz:s.size<=2000000) (hK:∀w' cs t b,Ext w w'->TmO w' (fun x=>w.heap.size<=x/\x<w'.heap.size) cs t->ReadP ds s t b->K (.tuple #[.agg ⟨cs⟩,.bool b]) w'):vcall PP xx #[dv,.string s] w K:=by
 apply XB;unfold kE;obtain⟨V,u,G,P,hP⟩:=Qo ds s;refine zx zy fun b1 H a0 g a6 J=>?_;have z1:=g.size;have fin:∀{e:World} {cs:List Value} {t:M.Tm} {b:Bool},Ext H e->TmO e (fun x=>H.heap.size<=x/\x<e.heap.size) cs t->(V->t=u/\b=true)->(¬V->t=tm0/\b=false)->zn PP za (.pointer (some ⟨b1,0,none⟩)) (.agg ⟨cs⟩) e fun _ z=>vlv PP za (.pointer (some ⟨b1,0,none⟩)) z fun r A=>K (.tuple #[r,.bool b]) A:=fun{e cs t b} a ht Z h2=>by
  refine retO (K:=fun v w'=>K (.tuple #[v,.bool b]) w') (J.ext a) rfl ht (fun x p=>by omega) fun z S W R=>?_;exact hK z _ _ b (Ext.then (g.trans a) S fun y E=>by subst E;omega) (yU R fun x p=>by omega) (hP t b Z h2)
 have bad:∀{e:World},Ext H e->¬V->zq PP za [] e fun t e=>zn PP za (.pointer (some ⟨b1,0,none⟩)) t e fun _ z=>vlv PP za (.pointer (some ⟨b1,0,none⟩)) z fun r A=>K (.tuple #[r,.bool false]) A:=fun{e} a h=>by
  rw[Kr];exact fin a zeroO (fun q=>absurd q h) fun _=>⟨rfl,rfl⟩
 have a5:=l.lt;refine kinds_new fun e kb a Y a4=>?_;rw[Va];refine zr fun bp z a2 j W L=>?_;have z2:=a.size;have a3:=K4 Y;refine read_spec (V:=V) (u:=u) (ds:=ds) L (Y.ext j) (by omega) ((l.ext g).ext (a.trans j)) (by omega) (by omega) hz (fun h=>⟨kN (G h),(G h).2⟩) fun A cs t b Q C q=>?_;have I:Ext H A:=Ext.then (a.trans j) Q fun y E=>by subst E;omega
 have i:=YO _ C;simp only[zH,zG];refine zx zy fun b5 w5 a1 D a7 N=>?_;refine stTerm N rfl (i.ext D) fun w6 T a8 o=>?_;have f:Ext A w6:=Ext.then D T fun y E=>by subst E;omega
 have m:=I.trans f;have z3:=j.size;have O:aggB PP za cs.length=true:=by rw[yr i];exact zo
 simp only[jw];refine zE (fun c=>bad m fun h=>?_) (fun c=>?_)
 ·rw[(q h).2] at c;cases c
 rw[o.ldAgg (t:=za) O];refine TermSort_spec (X.ext (g.trans m)) (i.ext f).term fun w7 d=>?_;have n:=m.trans d;simp only[qT];refine zd (fun c2=>bad n fun h=>?_) (fun c2=>?_)
 ·rw[(q h).1] at c2;exact(G h).1 c2
 rw[(o.ext d).ldAgg (t:=za) O];refine TermText_spec (X.ext (g.trans n)) (i.ext (f.trans d)).term fun w8 x k p=>?_;have B:=n.trans k;simp only[Qn];refine zd (fun c3=>bad B fun h=>c3 ?_) (fun c3=>?_)
 ·rw[(q h).1] at p;exact X8 p (G h)
 rw[((o.ext d).ext k).ldAgg (t:=za) O];have U:x=s:=Classical.not_not.1 c3;rw[U] at p;have hr:ZM ds s t:=⟨c2,p.2 c2⟩;refine fin B (yU (X6 C ((f.trans d).trans k)) fun x p=>by have:=((f.trans d).trans k).size;omega) (fun h=>⟨(q h).1,rfl⟩) fun h=>absurd hr (P h t)
end Go.Proofs.YtaemeijeaajoeaaGreatDoor
end
section
namespace Go.Proofs.YtaemeijeaajoeaaGreatDoor
open Go Go.Vc Go.Proofs
open Go.ChangeShapes Go.WideShapes Go.ChangeAt Go.RowKit
variable {w:World} {K:Value→World→Prop} {F F' D G:Nat→Prop}
theorem list2 {α:Type} {l:List α} (h:l.length=2):∃a b,l=[a,b]:=by
 match l,h with
 |[a,b],_=>exact⟨a,b,rfl⟩
theorem sl_of {w:World} {x:Addr} {k len cap:Nat} {css:List (List Value)} (o:0<k) (p:len<=cap) (hm:cap<=maxLen) (q:css.length=len) (hw:∀c,c∈css->c.length=k)
  (a:∀i,i<len->∀j,j<k->w.cell? (x.add (i*k+j))=(css.getD i [])[j]?):Sl (fun _=>True) w k (.slice (some x) len cap) css:=by
 subst q;refine⟨⟨some x,cap,rfl,p,by unfold maxLen at hm;exact hm,fun f=>?_⟩,hw⟩;have hlen:0<css.length:=List.length_pos_iff.2 f;obtain⟨b,off,spot⟩:=x;have r:(css.getD 0 []).length=k:=hw _ (M.getD_mem hlen _);have d:=a 0 hlen 0 o;rw[List.getElem?_eq_getElem (by omega:0<(css.getD 0 []).length)] at d;have e:spot=none:=by simpa[Addr.add] using World.cell?_spot d
 subst e;rw[yG] at d;refine⟨b,off,rfl,trivial,World.block_lt_of_cell? w _ d,fun i l j v m=>?_⟩;have g:(css.getD i []).length=k:=hw _ (M.getD_mem l _);have n:j<k:=by rw[<-g];exact(List.getElem?_eq_some_iff.1 m).1
 have h:=a i l j n;rw[yG] at h;rw[yG,<-m,<-h,Nat.add_assoc]
section
variable {H:Type} {enc:TypeId×Value→H} {W:World} {cs:List Value} {x:DataW H×List MemPlace} {held:Bool} {fuel:Nat}
theorem ZS:PP.underlying zc=some .string:=by kernel_rfl
theorem U2:PP.underlying y8=some (.struct #[⟨"Name",zc,0,false,"","",0⟩,⟨"Wide",zb,1,false,"","",16⟩]):=by kernel_rfl
theorem Ub:PP.cellsOf zb=1:=by kernel_rfl
theorem V9:PP.cellsOf zc=1:=by kernel_rfl
theorem V8:PP.cellsOf y8=2:=by kernel_rfl
theorem WF (h:DataW.trod enc PP W 0 (fun _=>true) held fuel y8 cs=some x):∃d:M.Dcl,cs=[.string d.1,.int .i64 d.2]/\d.1.size<=9223372036854775807:=by
 obtain⟨xs,n,_,_,g,hlen,f⟩:=DataW.trod_struct U2 h;rw[V8] at g;obtain⟨c0,j,rfl⟩:=list2 g;obtain⟨k,l,rfl⟩:=list2 (α:=DataW H×List MemPlace) hlen
 ·have c:=f 0 ⟨"Name",zc,0,false,"","",0⟩ rfl;have e:=f 1 ⟨"Wide",zb,1,false,"","",16⟩ rfl;simp only[Ub,V9,List.drop_zero,List.take_succ_cons,List.take_zero,List.drop_succ_cons,List.getElem?_cons_zero,List.getElem?_cons_succ] at c e;obtain⟨s,a,_,i⟩:=DataW.trod_string ZS c;obtain⟨n,b,_,_⟩:=DataW.trod_int K6 e;simp only[List.cons.injEq,and_true] at a b;subst a b;exact⟨(s,n),rfl,by simpa[maxLen] using i⟩
theorem each_in {α:Type} [Inhabited α] {e k:Nat} {R:List Value->α->Prop} {a:Addr} {len cap n:Nat} {elems:List (DataW H×List MemPlace)} (ce:PP.cellsOf e=k) (r:0<k) (s:len<=cap) (hm:cap<=maxLen) (u:elems.length=len)
  (g:∀i,i<len->(W.cells? 0 (a.add (i*PP.cellsOf e)) (PP.cellsOf e)).bind (DataW.trod enc PP W 0 (fun _=>true) held n e)=elems[i]?)
  (d:∀cs x,DataW.trod enc PP W 0 (fun _=>true) held n e cs=some x->∃y,R cs y):
  ∃(css:List (List Value)) (ys:List α),Sl (fun _=>True) W k (.slice (some a) len cap) css/\css.length=len/\ys.length=len/\∀i,i<len->R (css.getD i []) (ys.getD i default):=by
 have each:∀i,i<len->∃q:List Value×α,W.cells? 0 (a.add (i*k)) k=some q.1/\R q.1 q.2:=fun i b=>by
  have h:=g i b;rw[List.getElem?_eq_getElem (by omega),ce] at h;obtain⟨cs',m,o⟩:=Option.bind_eq_some_iff.1 h;obtain⟨y,t⟩:=d _ _ o;exact⟨(cs',y),m,t⟩
 obtain⟨q,l⟩:=Go.Deep.choose_lt each;refine⟨(List.range len).map fun i=>(q i).1,(List.range len).map fun i=>(q i).2,?_,by simp,by simp,fun i b=>?_⟩
 ·refine sl_of r s hm (by simp) (fun c f=>?_) fun i b j p=>?_
  ·obtain⟨i,b,rfl⟩:=List.mem_map.1 f;exact(World.cells?_some (l i (List.mem_range.1 b)).1).2.1
  ·have f:=(World.cells?_some (l i b).1).2.2 j p;rw[Go.Deep.add_add] at f;rw[f];simp[List.getD_eq_getElem?_getD,b]
 ·have:=(l i b).2;simpa[List.getD_eq_getElem?_getD,b] using this
theorem decls_in (h:DataW.trod enc PP W 0 (fun _=>true) held fuel ye cs=some x):∃v ds,cs=[v]/\DclsR (fun _=>True) W v ds/\J6 ds:=by
 rcases DataW.trod_slice YA h with⟨rfl,_⟩|⟨a,len,cap,elems,rest,n,_,rfl,_,_,j,hm,k,b,_,_⟩
 ·exact⟨_,[],rfl,⟨⟨none,0,rfl,by simp,by simp,fun h=>absurd rfl h⟩,by simp⟩,fun i c=>absurd c (by simp)⟩
 ·obtain⟨css,ys,g,m,o,f⟩:=each_in (α:=M.Dcl) (R:=fun cs d=>cs=[.string d.1,.int .i64 d.2]/\d.1.size<=9223372036854775807) V8 (by decide) j hm k b fun cs x l=>WF l;refine⟨_,ys,rfl,?_,fun i c=>?_⟩
  ·have e:css=ys.map fun d=>[Value.string d.1,Value.int .i64 d.2]:=by
    refine List.ext_getElem (by simp;omega) fun i g1 g2=>?_;have:=(f i (by omega)).1;rw[List.getD_eq_getElem?_getD,List.getElem?_eq_getElem g1,List.getD_eq_getElem?_getD,List.getElem?_eq_getElem (by omega)] at this;simpa using this
   rw[e] at g;exact g
  ·have:=(f i (by omega)).2;rw[List.getD_eq_getElem?_getD,List.getElem?_eq_getElem c] at this⊢;simpa using this
end
end Go.Proofs.YtaemeijeaajoeaaGreatDoor
end
section
namespace Go.Proofs.YtaemeijeaajoeaaGreatDoor
open Go Go.Vc Go.Proofs
variable {w:World} {K:Value→World→Prop} {F F' D G:Nat→Prop}
theorem szDecl_spec {s:ByteArray} {n left:Int} (g:0<=left) (h:left<=1048576) (i:s.size<=9223372036854775807) (c:∀w' r,Ext w w'->(r= -1\/0<=r/\r<=left/\(s.size:Int)<=left)->K (.int .i64 r) w'):vcall PP jI #[.agg ⟨[.string s,.int .i64 n]⟩,.int .i64 left] w K:=by
 apply QW;unfold Yh;refine zr fun b1 j d b e f=>?_;simp(disch:=first|(simp only[push_cast];done)|exact ZS) only[push_cast,f.ld0,zY];rw[show IntKind.i64.wrap (left-(s.size:Int))=left-s.size from yb (by omega) (by omega)];refine zd (fun a=>?_) (fun a=>?_)
 ·exact c _ _ b (.inl rfl)
 ·exact c _ _ b (.inr (by omega))
theorem szDeclS_sum {v:Value} {ds:List M.Dcl} {left:Int} (o:0<=left) (p:left<=1048576) (l:J6 ds) (g:DclsR F w v ds) (f:∀w' r,Ext w w'->(r= -1\/0<=r/\r+(ds.length:Int)<=left)->K (.int .i64 r) w'):vcall PP xR #[v,.int .i64 left] w K:=by
 apply Q0;unfold Ze;have k:=g.small;simp(disch:=(simp only[push_cast];done)) only[push_cast,g.len];rw[show IntKind.i64.wrap (left-(ds.length:Int))=left-ds.length from yb (by omega) (by omega)];refine zd (fun a=>f _ _ (Same.refl _ _) (.inl rfl)) (fun a=>?_);refine vloop_up ds.length (fun i u w'=> ∃r:Int,u=[.int .i64 r,.int .i64 i]/\Ext w w'/\0<=r/\r+(ds.length:Int)<=left) ⟨_,rfl,Same.refl _ _,by omega,by omega⟩ ?_;rintro i _ _ t C q ⟨r,rfl,he,m,s⟩ h;have b:=g.ext he;simp(disch:=first|(simp only[push_cast];done)|omega) only[push_cast,b.len];refine zd (fun c=>?_) (fun c=>?_)
 ·simp(disch:=first|(simp only[push_cast];done)|omega) only[push_cast,b.iaddr,b.load];refine szDecl_spec m (by omega) (l i (by omega)) fun x n e j=>?_;simp only[push_cast];refine zd (fun d=>f _ _ (he.trans e) (.inl rfl)) (fun d=>?_);rw[inc64' (by omega)];exact h (by omega) _ _ ⟨n,rfl,he.trans e,by omega,by omega⟩
 ·exact f _ _ he (.inr (by omega))
theorem szDeclS_spec {v:Value} {ds:List M.Dcl} {left:Int} (a:0<=left) (b:left<=1048576) (e:J6 ds) (d:DclsR F w v ds) (c:∀w' r,Ext w w'->(r= -1\/0<=r/\r<=left/\(ds.length:Int)<=left)->K (.int .i64 r) w'):vcall PP xR #[v,.int .i64 left] w K:=
 szDeclS_sum a b e d fun w' r he h=>c w' r he (h.imp id fun h=>by omega)
theorem toDecl_spec {s:ByteArray} {n:Int} (z:∀w',Ext w w'->K (.agg ⟨[.string s,.int .i64 n]⟩) w'):vcall PP jH #[.agg ⟨[.string s,.int .i64 n]⟩] w K:=by
 apply QV;unfold Yg;refine zr fun b1 N A h D q=>?_;refine zx qS fun M O B d E r=>?_;refine zx qS fun m L C a F u=>?_;have o:=(q.ext d).ext a;simp(disch:=(simp only[push_cast];done)) only[push_cast,o.ld0];refine u.st (i:=0) rfl rfl kI rfl fun P e G v=>?_;have J:=o.same e (by omega);simp(disch:=(simp only[push_cast];done)) only[push_cast,J.ld1];refine v.st (i:=1) rfl rfl ZQ rfl fun p j H g=>?_;replace g:Blk p m [.string s,.int .i64 n] zk:=g;rw[g.ldAgg (t:=zk) ZD];have c:Same (fun b=>b=m) L p:=e.trans j;have f:=(r.ext a).same c (by omega);refine stDecl f fun Q k I x=>?_;rw[x.lv (t:=zk) ZD];refine z _ (Ext.then (Ext.then ((h.trans d).trans a) c fun y l=>by subst l;omega) k fun y l=>by subst l;omega)
theorem toDeclS_own {v:Value} {ds:List M.Dcl} (t:DclsR F w v ds) (D:ds.length<=1048576) (A:∀w' s,Ext w w'->Own PP 0 2 zp w' s (ds.map fun d=>[Value.string d.1,Value.int .i64 d.2])->(∀b,s.ownBlock=some b->w.heap.size<=b)->K s w'):vcall PP yy #[v] w K:=by
 apply XZ;unfold Zd;simp(disch:=(simp only[push_cast];done)) only[push_cast,t.len];refine vmkS_agg (cs:=[.string ⟨#[]⟩,.int .i64 0]) Jh (by decide) (by rw[QG];exact qS) (by omega) (by omega) fun v1 J o n h=>?_;refine vloop_up ds.length (fun i u w'=>u=[.int .i64 i]/\Ext w w'/\∃css,css.length=ds.length/\Own PP 0 2 zp w' v1 css/\∀j,j<i->css.getD j []=[.string (ds.getD j K9).1,.int .i64 (ds.getD j K9).2]) ⟨rfl,n,_,by simp,o,by omega⟩ ?_;rintro i _ _ G C H ⟨rfl,f,css,B,k,x⟩ z;have c:=t.ext f;simp(disch:=(simp only[push_cast];done)) only[push_cast,c.len];refine zd (fun a=>?_) (fun a=>?_)
 ·simp(disch:=first|(simp only[push_cast];done)|omega) only[push_cast,c.iaddr,c.load];refine toDecl_spec fun L g=>?_;have l:=k.ext g;have q:=l.sl;simp(disch:=first|(simp only[push_cast];done)|omega) only[push_cast,q.iaddr];refine own_stEl l (by decide) rfl (by intro v y;simp only[List.mem_cons,List.not_mem_nil,or_false] at y;rcases y with rfl|rfl<;>rfl) ZD (by omega) fun N p r E=>?_;rw[inc64' (by omega)];refine z (by omega) _ _ ⟨rfl,Ext.then (f.trans g) r fun b m=>h b m,_,by rw[List.length_set];exact B,p,fun j I=>?_⟩;rw[qp (by omega)];by_cases e:i=j
  ·subst e;rw[if_pos rfl]
  ·rw[if_neg e];exact x j (by omega)
 ·have e:css=ds.map fun d=>[Value.string d.1,Value.int .i64 d.2]:=by
   refine List.ext_getElem (by simp;omega) fun j g1 g2=>?_;have:=x j (by omega);rw[List.getD_eq_getElem?_getD,List.getElem?_eq_getElem g1,List.getD_eq_getElem?_getD,List.getElem?_eq_getElem (by omega)] at this;simpa using this
  subst e;exact A G v1 f k fun b m=>h b m
theorem k5 {v:Value} {ds:List M.Dcl} (f:DclsR F w v ds) (c:ds.length<=1048576) (d:∀w' a,Ext w w'->DclsR (fun b=>w.heap.size<=b) w' a ds->K a w'):vcall PP yy #[v] w K:=
 toDeclS_own f c fun w' a he g e=>d w' a he (g.sl.weaken fun b h _=>e b h)
theorem JP {s:ByteArray} {n:Int} (f:∀w',Ext w w'->K (.bool true) w'):vcall PP jJ #[.agg ⟨[.string s,.int .i64 n]⟩,.agg ⟨[.string s,.int .i64 n]⟩] w K:=by
 apply QY;unfold Yj;refine zr fun b1 m g d j e=>?_;refine zr fun l o i a k b=>?_;have c:=e.ext a;simp(disch:=(simp only[push_cast];done)) only[push_cast,c.ld0,b.ld0,c.ld1,b.ld1];refine zd (fun h=>absurd rfl h) (fun _=>?_)
 try simp(disch:=(simp only[push_cast];done)) only[push_cast,c.ld0,b.ld0,c.ld1,b.ld1]
 refine zd (fun h=>absurd rfl h) (fun _=>?_);exact f _ (d.trans a)
theorem eqDeclS_same {va vb:Value} {ds:List M.Dcl} (e:DclsR F w va ds) (j:DclsR F' w vb ds) (m:∀w',Ext w w'->K (.bool true) w'):vcall PP jd #[va,vb] w K:=by
 apply Q2;unfold Zg;have n:=e.small;simp(disch:=(simp only[push_cast];done)) only[push_cast,e.len,j.len];refine zd (fun h=>absurd rfl h) (fun h=>?_);refine vloop_up ds.length (fun i u w'=>u=[.int .i64 i]/\Ext w w') ⟨rfl,Same.refl _ _⟩ ?_;rintro i _ _ o C p ⟨rfl,he⟩ l;have b:=e.ext he;have f:=j.ext he;simp(disch:=(simp only[push_cast];done)) only[push_cast,b.len];refine zd (fun k=>?_) (fun k=>?_)
 ·refine zN fun q a _=>?_;have c:=b.ext a;have d:=f.ext a;simp(disch:=first|(simp only[push_cast];done)|omega) only[push_cast,c.iaddr,c.load,d.iaddr,d.load,true_and];refine JP fun r g=>?_;simp only[push_cast,Bool.not_true,true_and];rw[inc64' (by omega)];exact l (by omega) _ _ ⟨rfl,he.trans (a.trans g)⟩
 ·exact m o he
abbrev EqT (t:M.Tm):Prop:=∀{w:World} {K:Value→World→Prop} {F G:Nat→Prop} {va vb:Value},TermR F w va t→TermR G w vb t→(∀w',Ext w w'→K (.bool true) w')→vcall PP yY #[va,vb] w K
theorem eqTermS_of {ks:List M.Tm} (o:∀k,k∈ks->EqT k) {va vb:Value} (d:TmsR F w va ks) (g:TmsR F' w vb ks) (m:∀w',Ext w w'->K (.bool true) w'):vcall PP jc #[va,vb] w K:=by
 apply Q1;unfold Zf;have n:=d.small;simp(disch:=(simp only[push_cast];done)) only[push_cast,d.len,g.len];refine zd (fun h=>absurd rfl h) (fun h=>?_);refine vloop_up ks.length (fun i u w'=>u=[.int .i64 i]/\Ext w w') ⟨rfl,Same.refl _ _⟩ ?_;rintro i _ _ p C q ⟨rfl,he⟩ l;have b:=d.ext he;have e:=g.ext he;simp(disch:=(simp only[push_cast];done)) only[push_cast,b.len];refine zd (fun j=>?_) (fun j=>?_)
 ·refine zN fun r a _=>?_;obtain⟨cssa,sa,la,ka⟩:=b.ext a;obtain⟨cssb,sb,lb,kb⟩:=e.ext a;have c:ks.getD i default∈ks:=M.getD_mem (by omega) _;have ga:aggB PP za 5=true:=zo;simp(disch:=first|(simp only[push_cast];done)|omega) only[push_cast,sa.iaddr,sa.ldAgg,sb.iaddr,sb.ldAgg,true_and];refine o _ c (ka i (by omega)).term (kb i (by omega)).term fun s f=>?_;simp only[push_cast,Bool.not_true,true_and];rw[inc64' (by omega)];exact l (by omega) _ _ ⟨rfl,he.trans (a.trans f)⟩
 ·exact m p he
theorem ZE:∀t:M.Tm,EqT t:=by
 refine M.Tm.ind fun t r=>?_;intro w K F G va vb l m k;apply QX;unfold Yi;obtain⟨kva,rfl,g⟩:=l;obtain⟨kvb,rfl,i⟩:=m;refine zr fun b1 u n e p j=>?_;refine zr fun s v o b q a=>?_;have c:=j.ext b;simp(disch:=(simp only[push_cast];done)) only[push_cast,c.ld0,a.ld0,c.ld1,a.ld1,c.ld2,a.ld2,c.ld3,a.ld3,c.ld4,a.ld4];refine zd (fun h=>absurd rfl h) (fun _=>?_);refine zd (fun h=>absurd rfl h) (fun _=>?_);refine zd (fun h=>absurd rfl h) (fun _=>?_);refine zd (fun h=>absurd rfl h) (fun _=>?_);have d:=e.trans b;refine eqTermS_of r (g.ext d) (i.ext d) fun x f=>?_;simp only[push_cast,Bool.not_true];exact k _ (d.trans f)
end Go.Proofs.YtaemeijeaajoeaaGreatDoor
end
section
namespace Go.Proofs.YtaemeijeaajoeaaGreatDoor
open Go Go.Vc Go.Proofs
variable {w:World} {K:Value→World→Prop} {F F' D G:Nat→Prop}
def WJ (w:World) (D:Nat→Prop) (kv:Value) (us:List M.Tm) (css:List (List Value)) (Ds:Nat→Nat→Prop):Prop:=
 Own PP 0 5 ze w kv css∧css.length=us.length∧(∀b,kv.ownBlock=some b→D b∧∀i,i<us.length→¬Ds i b)∧(∀i j b,i<j→j<us.length→Ds i b→¬Ds j b)∧(∀i b,i<us.length→Ds i b→D b)∧
 ∀i,i<us.length→TmO w (Ds i) (css.getD i []) (us.getD i default)
theorem W5 {kv:Value} {t:M.Tm} {css:List (List Value)} {Ds:Nat->Nat->Prop} (h:WJ w D kv t.ks css Ds):TmO w D [.int .i64 t.op,.int .i64 t.a,.int .i64 t.b,.string t.s,kv] t:=by
 obtain⟨c,d,e,f,g,i⟩:=h;exact .mk css Ds c d e f g i
theorem Ja {cs:List Value} {t:M.Tm} (h:TmO w D cs t):∃kv css Ds,cs=[.int .i64 t.op,.int .i64 t.a,.int .i64 t.b,.string t.s,kv]/\WJ w D kv t.ks css Ds:=by
 obtain⟨kv,css,Ds,c,d,e,f,g,i,j⟩:=Qv h;exact⟨kv,css,Ds,c,d,e,f,g,i,j⟩
theorem J9 {S:Nat->Prop} {w':World} {kv:Value} {us:List M.Tm} {css:List (List Value)} {Ds:Nat->Nat->Prop} (h:WJ w D kv us css Ds) (hw:Same S w w') (f:∀b,D b->¬S b):WJ w' D kv us css Ds:=by
 obtain⟨g,j,c,k,d,l⟩:=h;exact⟨g.same hw fun b a=>f b (c b a).1,j,c,k,d,fun i e=>xP hw _ (l i e) fun b a=>f b (d i b e a)⟩
def digs:Nat→Nat→ByteArray→ByteArray
 |0,_,acc=>acc
 |f+1,k,acc=>if 0<k then digs f (k/10) (strOfNums [((48+k%10:Nat):Int)]++acc) else acc
def ZW (k:Nat):ByteArray:=if k=0 then⟨#[109,48]⟩ else⟨#[109]⟩++digs (k+1) k ⟨#[]⟩
theorem markText_spec {k:Nat} (h:k<4611686018427387904) (b:∀w',Ext w w'->K (.string (ZW k)) w'):vcall PP yB #[.int .i64 k] w K:=by
 apply Xw;unfold kz;simp only[push_cast];refine zd (fun a=>?_) (fun a=>?_)
 ·have e:ZW k=⟨#[109,48]⟩:=by unfold ZW;rw[if_pos (by omega)]
  rw[e] at b;exact b _ (Same.refl _ _)
 have e:ZW k=⟨#[109]⟩++digs (k+1) k ⟨#[]⟩:=by unfold ZW;rw[if_neg (by omega)]
 rw[e] at b;refine jz (fun n u w'=> ∃(j:Nat) (acc:ByteArray) (f:Nat),u=[.int .i64 j,.string acc]/\n=j/\j<=k/\j<f/\acc.size+j<=k/\Ext w w'/\digs f j acc=digs (k+1) k ⟨#[]⟩) k
  ⟨k,_,k+1,rfl,rfl,Nat.le_refl _,by omega,by simp[ByteArray.size],Same.refl _ _,rfl⟩ ?_
 rintro n _ _ E C ⟨j,acc,f,rfl,rfl,z,x,B,he,p⟩ s;simp only[push_cast];refine zd (fun c=>?_) (fun c=>?_)
 ·rw[JX (by decide),show(n:Int).tmod 10=((n%10:Nat):Int) from by rw[Int.tmod_eq_emod_of_nonneg (by omega)];omega,jB];rw[show IntKind.i64.wrap (48+((n%10:Nat):Int))=((48+n%10:Nat):Int) from by rw[yb (by omega) (by omega)];omega];rw[jm KG K5,show IntKind.u8.wrap ((48+n%10:Nat):Int)=((48+n%10:Nat):Int) from by show((48+n%10:Nat):Int)%256=_;omega];refine YX (k:=1) (y:=[.int .u8 ((48+n%10:Nat):Int)]) kL Wl Vs rfl rfl (by decide) fun o m t l A r=>?_;have v:∀d:Value->World->Prop,qh PP zC zc (.slice (some ⟨o,0,none⟩) 1 1) m d=d (.string (strOfNums [((48+n%10:Nat):Int)])) m:=fun d=>
   y6 (run_convert_bytes_arg m zC zQ kL (by kernel_rfl) o 0 1 1 [((48+n%10:Nat):Int)] rfl (fun i D=>by
    have:i=0:=(by omega);subst this;exact r.cell (i:=0) rfl) zc ZS)
  rw[v,yc (by rw[strOfNums_size];show 1+_<=_;omega),JY (by decide),show(n:Int).tdiv 10=((n/10:Nat):Int) from by rw[Int.tdiv_eq_ediv_of_nonneg (by omega)];omega,yb (by omega) (by omega)];obtain⟨f,rfl⟩:∃g,f=g+1:=⟨f-1,by omega⟩;refine s (n/10) _ _ (by omega) ⟨n/10,_,f,rfl,rfl,by omega,by omega,?_,he.trans l,?_⟩
  ·rw[ByteArray.size_append,strOfNums_size];show 1+acc.size+n/10<=k;omega
  ·rw[<-p];show _=if 0<n then _ else _
   rw[if_pos (by omega)]
 ·have q:n=0:=(by omega);subst q;obtain⟨f,rfl⟩:∃g,f=g+1:=⟨f-1,by omega⟩;have:acc=digs (k+1) k ⟨#[]⟩:=by
   rw[<-p];show _=if 0<0 then _ else acc
   rw[if_neg (by omega)]
  subst this;rw[yc (by show 1+_<=_;omega)];exact b _ he
theorem markText_int {k:Int} (b:0<=k) (h:k<4611686018427387904) (a:∀w',Ext w w'->K (.string (ZW k.toNat)) w'):vcall PP yB #[.int .i64 k] w K:=by
 obtain⟨n,rfl⟩:∃n:Nat,k=n:=⟨k.toNat,by omega⟩;exact markText_spec (by omega) a
theorem inc_wrap {k:Int} (a:0<=k) (h:k<4611686018427387904):IntKind.i64.wrap (k+1)=k+1:=yb (by omega) (by omega)
theorem markDeclS_spec {v:Value} {css:List (List Value)} {k:Int} (x:Own PP 0 2 zp w v css) (A:0<=k) (D:k+2*css.length<4611686018427387904)
  (t:∀w',Same (fun b=>v.ownBlock=some b) w w'->K (.int .i64 (k+2*css.length)) w'):vcall PP xZ #[v,.int .i64 k] w K:=by
 apply YU;unfold jR;refine vloop_up css.length (fun i u w'=>u=[.int .i64 (k+2*i),.int .i64 i]/\Same (fun b=>v.ownBlock=some b) w w'/\∃c,c.length=css.length/\Own PP 0 2 zp w' v c) ⟨by simp,Same.refl _ _,css,rfl,x⟩ ?_;rintro i _ _ E C B ⟨rfl,h,r,e,f⟩ s;have o:=f.sl;simp(disch:=(simp only[push_cast];done)) only[push_cast,o.len,e];refine zd (fun a=>?_) (fun a=>?_)
 ·refine markText_int (by omega) (by omega) fun F d=>?_;have g:=f.ext d;have n:=g.sl;simp(disch:=first|(simp only[push_cast];done)|omega) only[push_cast,n.iaddr];refine Own.stCell g rfl rfl kI (i:=i) (j:=0) (by omega) (by decide) fun G l p y=>?_;rw[inc_wrap (by omega) (by omega)];refine Own.stCell l rfl rfl ZQ (i:=i) (j:=1) (by rw[List.length_set];omega) (by decide) fun H m q z=>?_;rw[inc_wrap (by omega) (by omega),inc64' (by omega)];refine s (by omega) _ _ ⟨by rw[show k+2*(i:Int)+1+1=k+2*((i+1:Nat):Int) by omega],h.trans ((Same.of_ext d).trans (p.trans q)),_,by rw[List.length_set,List.length_set];exact e,m⟩
 ·have:i=css.length:=(by omega);subst this;exact t _ h
end Go.Proofs.YtaemeijeaajoeaaGreatDoor
end
section
namespace Go.Proofs.YtaemeijeaajoeaaGreatDoor
open Go Go.Vc Go.Proofs
variable {w:World} {K:Value→World→Prop} {F F' D G:Nat→Prop}
inductive Held:List M.Tm→Int→Int→Prop
 |nil (k:Int):Held [] k k
 |cons {t:M.Tm} {us:List M.Tm} {k m n:Int}:t.op=k→t.a=k+1→t.b=k+2→t.s=ZW (k+3).toNat→Held t.ks (k+4) m→Held us m n→Held (t::us) k n
theorem held_le {us:List M.Tm} {k n:Int} (h:Held us k n):k<=n:=by
 induction h with
 |nil=>exact Int.le_refl _
 |cons _ _ _ _ _ _ a b=>omega
theorem KY {us:List M.Tm} {k m n:Int} {t:M.Tm} (h:Held us k m) (f:t.op=m) (g:t.a=m+1) (i:t.b=m+2) (j:t.s=ZW (m+3).toNat) (l:Held t.ks (m+4) n):Held (us++[t]) k n:=by
 induction h with
 |nil k=>exact .cons f g i j l (.nil _)
 |cons a b c d e _ _ o=>exact .cons a b c d e (o f g i j l)
theorem VR {k n:Int} (h:Held [] k n):k=n:=by cases h;rfl
theorem KZ {t:M.Tm} {us:List M.Tm} {k n:Int} (h:Held (t::us) k n):t.op=k/\t.a=k+1/\t.b=k+2/\t.s=ZW (k+3).toNat/\∃m,Held t.ks (k+4) m/\Held us m n:=by
 cases h with
 |cons a b c d e f=>exact⟨a,b,c,d,_,e,f⟩
abbrev MarkT (t:M.Tm):Prop:=∀{w:World} {K:Value→World→Prop} {D:Nat→Prop} {kv:Value} {css:List (List Value)} {Ds:Nat→Nat→Prop} {k:Int},WJ w D kv t.ks css Ds→0≤k→k+4*M.szT t.ks t.ks.length<4611686018427387904→
 (∀w' us css',Same D w w'→WJ w' D kv us css' Ds→us.length=t.ks.length→Held us k (k+4*M.szT t.ks t.ks.length)→K (.int .i64 (k+4*M.szT t.ks t.ks.length)) w')→vcall PP x7 #[kv,.int .i64 k] w K
theorem VC {us:List M.Tm} {i:Nat} {u:M.Tm} (h:i<us.length):(us.set i u).take (i+1)=us.take i++[u]:=by
 rw[M.take_add (by rw[List.length_set];exact h) default,List.take_set_of_le (Nat.le_refl _),qp h,if_pos rfl]
theorem markTermS_spec:∀t:M.Tm,MarkT t:=by
 refine M.Tm.ind fun t ih=>?_;intro w K D kv css Ds k h h0 hk hK;apply YT;unfold jQ;refine vloop_up t.ks.length (fun i u w'=>u=[.int .i64 (k+4*M.szT t.ks i),.int .i64 i]/\Same D w w'/\∃us G,us.length=t.ks.length/\WJ w' D kv us G Ds/\Held (us.take i) k (k+4*M.szT t.ks i)/\∀j,i<=j->us.getD j default=t.ks.getD j default)
  ⟨by show _=[Value.int .i64 (k+4*((0:Nat):Int)),_];simp,Same.refl _ _,t.ks,css,rfl,h,by rw[List.take_zero];show Held [] k (k+4*((0:Nat):Int));simpa using Held.nil k,fun j _=>rfl⟩ ?_
 rintro i _ _ w1 C hi ⟨rfl,P,us,d,l,hT,R,n⟩ hC;have V:=hT;obtain⟨own1,N,f,A,p,g⟩:=V;have o:=own1.sl;have a5:=o.small;simp(disch:=(simp only[push_cast];done)) only[push_cast,o.len,N,l];refine zd (fun a=>?_) (fun a=>?_)
 ·have q:i<t.ks.length:=(by omega);have a9:=M.szT_succ q;have X:=M.szT_mono (ks:=t.ks) (i:=i+1) (j:=t.ks.length) (by omega) (Nat.le_refl _);have a8:=M.szT_all (t.ks.getD i default);obtain⟨m,hm⟩:∃m:Int,m=k+4*M.szT t.ks i:=⟨_,rfl⟩;have a6:0<=m:=(by omega);have a7:m+10+4*M.szT (t.ks.getD i default).ks (t.ks.getD i default).ks.length<4611686018427387914:=(by omega);have B:m+4+4*M.szT (t.ks.getD i default).ks (t.ks.getD i default).ks.length=k+4*M.szT t.ks (i+1):=(by omega);simp only[<-hm];simp(disch:=first|(simp only[push_cast];done)|omega) only[push_cast,o.iaddr];have J:=g i (by omega);rw[n i (Nat.le_refl _)] at J;obtain⟨kvi,cssi,Dsi,ei,hp⟩:=Ja J;refine Own.stCell own1 rfl rfl ZQ (i:=i) (j:=0) (by omega) (by decide) fun w2 r a0 aa=>?_;rw[ei] at r;rw[inc_wrap (by omega) (by omega)];refine Own.stCell r rfl rfl ZQ (i:=i) (j:=1) (by rw[List.length_set];omega) (by decide) fun w3 s a1 ab=>?_;rw[qp (by omega),if_pos rfl,List.set_set] at s;rw[inc_wrap (by omega) (by omega)];refine Own.stCell s rfl rfl ZQ (i:=i) (j:=2) (by rw[List.length_set];omega) (by decide) fun w4 v a2 ac=>?_;rw[qp (by omega),if_pos rfl,List.set_set] at v;rw[inc_wrap (by omega) (by omega),show m+1+1=m+2 by omega,show m+2+1=m+3 by omega];refine markText_int (by omega) (by omega) fun w5 I=>?_;have Q:=v.ext I;refine Own.stCell Q rfl rfl kI (i:=i) (j:=3) (by rw[List.length_set];omega) (by decide) fun w6 c a3 ad=>?_;rw[qp (by omega),if_pos rfl,List.set_set] at c;rw[inc_wrap (by omega) (by omega),show m+3+1=m+4 by omega];rw[show m+1+1=m+2 by omega] at c;replace c:Own PP 0 5 ze w6 kv (d.set i [.int .i64 m,.int .i64 (m+1),.int .i64 (m+2),.string (ZW (m+3).toNat),kvi]):=c;have W:i<(d.set i [Value.int .i64 m,.int .i64 (m+1),.int .i64 (m+2),.string (ZW (m+3).toNat),kvi]).length:=by rw[List.length_set];omega
  rw[Sl.ldField c.sl YC W (x:=kvi) (j:=4) (by rw[qp (by omega),if_pos rfl];rfl)];have y:Same (fun b=>kv.ownBlock=some b) w1 w6:=a0.trans (a1.trans (a2.trans ((Same.of_ext I).trans a3)));have Y:=J9 hp y fun b z e=>(f b e).2 i (by omega) z;have O:t.ks.getD i default∈t.ks:=M.getD_mem q _;refine ih _ O Y (by omega) (by omega) fun w7 ui S E Z a4 H=>?_;rw[B] at H⊢;rw[inc64' (by omega)];have U:Same D w1 w7:=(y.mono fun b _ e=>(f b e).1).trans (E.mono fun b _ e=>p i b (by omega) e);have T:Same (fun b=>kv.ownBlock=some b\/Ds i b) w1 w7:=(y.mono fun b _ e=> .inl e).trans (E.mono fun b _ e=> .inr e);refine hC (by omega) _ _ ⟨rfl,P.trans U,us.set i (.mk m (m+1) (m+2) (ZW (m+3).toNat) ui),d.set i [.int .i64 m,.int .i64 (m+1),.int .i64 (m+2),.string (ZW (m+3).toNat),kvi],by rw[List.length_set];exact l,⟨c.same E fun b z e=>(f b z).2 i (by omega) e,by rw[List.length_set,List.length_set];exact N,?_,?_,?_,fun j L=>?_⟩,?_,fun j L=>?_⟩
  ·rw[List.length_set];exact f
  ·rw[List.length_set];exact A
  ·rw[List.length_set];exact p
  ·rw[List.length_set] at L;rw[qp (by omega),qp (by omega)];by_cases e:i=j
   ·subst e;rw[if_pos rfl,if_pos rfl];exact W5 (t:= .mk m (m+1) (m+2) (ZW (m+3).toNat) ui) Z
   ·rw[if_neg e,if_neg e];refine xP T _ (g j L) fun b z F=>?_;rcases F with F|F
    ·exact(f b F).2 j L z
    ·rcases Nat.lt_or_gt_of_ne e with h|h
     ·exact A i j b h L F z
     ·exact A j i b h (by omega) z F
  ·rw[VC (by omega)];rw[<-hm] at R;exact KY R rfl rfl rfl rfl H
  ·rw[qp (by omega),if_neg (by omega)];exact n j (by omega)
 ·have q:i=t.ks.length:=(by omega);subst q;rw[<-l,List.take_length,l] at R;exact hK _ us d P hT l R
abbrev HeldT (t:M.Tm):Prop:=∀{w:World} {K:Value→World→Prop} {F:Nat→Prop} {kv:Value} {k n:Int},TmsR F w kv t.ks→Held t.ks k n→0≤k→n<4611686018427387904→(∀w',Ext w w'→K (.int .i64 n) w')→vcall PP x8 #[kv,.int .i64 k] w K
theorem heldTermS_spec:∀t:M.Tm,HeldT t:=by
 refine M.Tm.ind fun t P=>?_;intro w K F kv k n r H E W I;apply YV;unfold jS;have O:=r.small;refine vloop_up t.ks.length (fun i u w'=> ∃m:Int,u=[.int .i64 m,.int .i64 i]/\Ext w w'/\0<=m/\Held (t.ks.drop i) m n) ⟨k,rfl,Same.refl _ _,E,H⟩ ?_;rintro i _ _ y C V ⟨m,rfl,he,N,l⟩ G;have q:=r.ext he;simp(disch:=(simp only[push_cast];done)) only[push_cast,q.len];refine zd (fun a=>?_) (fun a=>?_)
 ·have p:i<t.ks.length:=(by omega);have v:t.ks.getD i default∈t.ks:=M.getD_mem p _;have ed:t.ks.drop i=t.ks.getD i default::t.ks.drop (i+1):=by
   rw[List.drop_eq_getElem_cons p,List.getD_eq_getElem?_getD,List.getElem?_eq_getElem p];rfl
  rw[ed] at l;obtain⟨R,S,T,U,Q,B,D⟩:=KZ l;have X:=held_le B;have Y:=held_le D;obtain⟨css,d,L,J⟩:=q;obtain⟨kvi,ei,A⟩:=(J i p).inv;have e:i<css.length:=(by omega);have g0:=fun(w':World) (c:Ext y w') (g:Value->World->Prop)=>Sl.ldField (K:=g) (d.ext c) VK e (x:= .int .i64 (t.ks.getD i default).op) (j:=0) (by rw[ei];rfl);have g1:=fun(w':World) (c:Ext y w') (g:Value->World->Prop)=>Sl.ldField (K:=g) (d.ext c) VK e (x:= .int .i64 (t.ks.getD i default).a) (j:=1) (by rw[ei];rfl);have g2:=fun(w':World) (c:Ext y w') (g:Value->World->Prop)=>Sl.ldField (K:=g) (d.ext c) VK e (x:= .int .i64 (t.ks.getD i default).b) (j:=2) (by rw[ei];rfl);have g3:=fun(w':World) (c:Ext y w') (g:Value->World->Prop)=>Sl.ldField (K:=g) (d.ext c) K2 e (x:= .string (t.ks.getD i default).s) (j:=3) (by rw[ei];rfl);have g4:=fun(w':World) (c:Ext y w') (g:Value->World->Prop)=>Sl.ldField (K:=g) (d.ext c) YC e (x:=kvi) (j:=4) (by rw[ei];rfl);simp(disch:=first|(simp only[push_cast];done)|omega) only[push_cast,d.iaddr];rw[g0 _ (Same.refl _ _)];simp only[push_cast,R];refine zd (fun h=>absurd rfl h) (fun _=>?_);rw[inc_wrap (by omega) (by omega),g1 _ (Same.refl _ _)];simp only[push_cast,S];refine zd (fun h=>absurd rfl h) (fun _=>?_);rw[inc_wrap (by omega) (by omega),g2 _ (Same.refl _ _),show m+1+1=m+2 by omega];simp only[push_cast,T];refine zd (fun h=>absurd rfl h) (fun _=>?_);rw[inc_wrap (by omega) (by omega),show m+2+1=m+3 by omega];refine zN fun Z f _=>?_;simp(disch:=first|(simp only[push_cast];done)|omega) only[push_cast,d.iaddr,g3 _ f,true_and];refine markText_int (by omega) (by omega) fun w3 o=>?_;simp(disch:=first|(simp only[push_cast];done)|omega) only[push_cast,d.iaddr,g3 _ (f.trans o),true_and,and_self,U];refine zd (fun h=>absurd rfl h) (fun _=>?_);rw[inc_wrap (by omega) (by omega),g4 _ (f.trans o),show m+3+1=m+4 by omega];refine P _ v (A.ext (f.trans o)) B (by omega) (by omega) fun w4 z=>?_;simp only[push_cast];refine zd (fun h=>by omega) (fun _=>?_);rw[inc64' (by omega)];exact G (by omega) _ _ ⟨Q,rfl,he.trans (f.trans (o.trans z)),by omega,D⟩
 ·have:i=t.ks.length:=(by omega);subst this;rw[List.drop_length] at l;rw[VR l];exact I _ he
theorem markTerm_spec {t:M.Tm} {cs:List Value} {k:Int} (h:TmO w D cs t) (j:0<=k) (v:k+4*M.sizeM t<4611686018427387904) (hD:∀b,D b->b<w.heap.size)
  (m:∀w' u,Same D w w'->TmO w' D cs u->Held u.ks k (k+4*(M.sizeM t-1))->K (.int .i64 (k+4*(M.sizeM t-1))) w'):vcall PP qF #[.agg ⟨cs⟩,.int .i64 k] w K:=by
 apply Xx;unfold kA;obtain⟨kv,css,Ds,rfl,p⟩:=Ja h;refine zr fun b1 x n c q l=>?_;simp(disch:=(simp only[push_cast];done)) only[push_cast,l.ld4];have r:=M.szT_all t;have e:(k+4*M.szT t.ks t.ks.length:Int)=k+4*(M.sizeM t-1):=by omega
 refine markTermS_spec t (J9 p c fun b _ h=>h) j (by omega) fun y us g f d o i=>?_;rw[e] at i⊢;exact m _ (.mk t.op t.a t.b t.s us) ((Same.of_ext c).trans f) (W5 (t:= .mk t.op t.a t.b t.s us) d) i
theorem heldTerm_spec {t:M.Tm} {v:Value} {k n:Int} (h:TermR F w v t) (d:Held t.ks k n) (e:0<=k) (j:n<4611686018427387904) (g:∀w',Ext w w'->K (.int .i64 n) w'):vcall PP xr #[v,.int .i64 k] w K:=by
 apply Xy;unfold kB;obtain⟨kv,rfl,c⟩:=h;have m:=held_le d;refine zr fun b1 o i a l f=>?_;simp(disch:=(simp only[push_cast];done)) only[push_cast,f.ld4];refine heldTermS_spec t (c.ext a) d e j fun p b=>?_;simp only[push_cast];refine zd (fun h=>by omega) (fun _=>?_);exact g _ (a.trans b)
end Go.Proofs.YtaemeijeaajoeaaGreatDoor
end
section
namespace Go.Proofs.YtaemeijeaajoeaaGreatDoor
open Go Go.Vc Go.Proofs
variable {w w':World} {K:Value→World→Prop} {F G:Nat→Prop} {s:ByteArray} {v dv tv:Value} {ds:List M.Dcl} {u t:M.Tm}
theorem readP_size {b:Bool} (h:ReadP ds s t b):M.sizeM t<=20:=by
 by_cases c:∃u,ZM ds s u
 ·obtain⟨u,hu⟩:=c;rw[(h.1 u hu).1];exact(yO hu.1).2.2.1
 ·rw[(h.2 fun u hu=>c ⟨u,hu⟩).1];decide+kernel
theorem FnExactTermRead_spec (hd:DclsR F w dv ds) (hz:J6 ds) (S:SynR w) (hK:∀w',Ext w w'->K (.bool true) w'):vcall PP xB #[dv,.string s] w K:=by
 apply jV;unfold xE;rw[zY ya];simp only[jA];refine zd (fun _=>hK w (Same.refl _ _)) (fun hs=>?_);refine szDeclS_spec (by decide) (by decide) hz hd fun w1 r A hr=>?_;simp only[yF];refine zd (fun _=>hK w1 A) (fun c=>?_);rcases hr with h|⟨r0,r1,r2⟩
 ·omega
 have z:ds.length<=1048576:=by omega
 have Z:s.size<=2000000:=by omega
 refine k5 (hd.ext A) z fun w2 d2 ae b7=>?_;refine spec_TermRead_spec hz b7 Z fun w3 wv t0 b0 ah bb Y=>?_;obtain⟨c3,rfl,n⟩:=bb.cells;have X:aggB PP za c3.length=true:=by rw[yr n];exact zo
 replace n:=n.weaken (F':=fun x=>x<w3.heap.size) fun x _ hl=>hl;simp only[zH,zG];refine zx zy fun b4 w4 bu ai bx b3=>?_;refine stTerm b3 rfl (n.ext ai) fun w5 bc bz W=>?_;have V:Ext w3 w5:=Ext.then ai bc fun y U=>by subst U;omega
 have E5:=((A.trans ae).trans ah).trans V;have s3:=((A.trans ae).trans ah).size;refine toDeclS_own (hd.ext E5) z fun w6 x0 B C v=>?_;have E6:=E5.trans B;have s6:=B.size;have T:∀b,x0.ownBlock=some b->b<w6.heap.size:=fun b hb=>(C.lt hb).2;refine TermRead_spec (C.sl) (S.ext E6) Z fun w7 c7 t b q am b9=>?_;obtain⟨ba,b6⟩:=Y.eq b9;subst ba;subst b6;have bw:=readP_size Y;have E7:=E6.trans q;have s7:=q.size;have R:=YO _ am;have u:aggB PP za c7.length=true:=by rw[yr R];exact zo
 simp only[zH,zG];refine zx zy fun b8 w8 bv aj c0 b5=>?_;refine stTerm b5 rfl (R.ext aj) fun w9 bd c1 a6=>?_;have l:Ext w7 w9:=Ext.then aj bd fun y U=>by subst U;omega
 have E9:=E7.trans l;have a3:Ext w3 w9:=V.trans (B.trans (q.trans l));have q9:=W.ext (B.trans (q.trans l));have aa:=n.ext a3;have an:=X6 am l;refine zL (fun _ w'=>Ext w9 w') (fun J hJ=>?_) ?_
 ·rw[a6.ldAgg (t:=za) u,q9.ldAgg (t:=za) X];refine ZE t (YO _ an).term aa.term fun bg f=>?_;simp only[jw,Bool.not_true];refine zE (fun c=>by cases c) (fun _=>?_);simp only[push_cast];refine zE (fun c=>by simp at c) (fun _=>hJ _ _ f)
 rintro _ _ bg f;have a0:=E9.trans f;refine k5 (hd.ext a0) z fun bh d11 o ab=>?_;have D:Ext w6 bh:=q.trans (l.trans (f.trans o));refine eqDeclS_same (ds:=ds) (C.sl.ext D) ab fun bi p=>?_;simp only[jw,Bool.not_true];refine zE (fun c=>by cases c) (fun _=>?_);have ax:=(a0.trans o).trans p;have e:Ext w9 bi:=(f.trans o).trans p;refine markDeclS_spec (C.ext (D.trans p)) (by decide) (by rw[List.length_map];omega) fun au d=>?_;have ay:Ext w au:=Ext.then ax d fun y U=>by have:=v y U;have:=E5.size;omega
 have bq:=a3.size;have bp:=l.size;have cc:=V.size;have E:=(a6.ext e).same d fun h=>by have:=T _ h;omega
 have ar:=(q9.ext e).same d fun h=>by have:=v _ h;have:=W.lt;omega
 have I:=(aa.ext e).same d fun x hx _ h=>by have:=v _ h;omega
 have P:=xP d _ (X6 an e) fun x hx h=>by have:=T _ h;omega
 have c2:=d.size;have br:=e.size;refine zL (fun _ w'=>Ext au w') (fun J hJ=>?_) ?_
 ·simp only[yF];refine zd (fun c=>by rw[List.length_map] at c;omega) (fun _=>?_);rw[E.ldAgg (t:=za) u,ar.ldAgg (t:=za) X];refine ZE t (YO _ P).term I.term fun bj a=>?_;simp only[jw,Bool.not_true];refine zE (fun c=>by cases c) (fun _=>?_);simp only[push_cast];refine zE (fun c=>by simp at c) (fun _=>hJ _ _ a)
 rintro _ _ bj a;have az:=ay.trans a;have c4:=a.size;have G:=E.ext a;have be:=ar.ext a;have a8:=I.ext a;rw[G.ldAgg (t:=za) u];refine markTerm_spec (X6 P a) (by decide) (by omega) (fun x hx=>by omega) fun av t2 g Q hH=>?_;have a1:Ext w av:=Ext.then az g fun y U=>by have:=E6.size;omega
 have H:=G.same g fun h=>by omega
 have bf:=be.same g fun h=>by have:=W.lt;omega
 have a9:=a8.same g fun x hx _ h=>by omega
 have c5:=g.size;rw[H.ldAgg (t:=za) u];have bm:=(M.size_pos (t:=t)).1;refine heldTerm_spec (YO _ Q).term hH (by decide) (by omega) fun c6 L=>?_;simp only[yF];refine zd (fun c=>by omega) (fun _=>?_);simp only[kJ];refine zd (fun c=>absurd rfl c) (fun _=>?_);have a2:=a1.trans L;refine k5 (hd.ext a2) z fun c8 d17 N ac=>?_;have b1:=a2.trans N;refine TermRead_spec ac (S.ext b1) Z fun bk b2 t18 bs ad al ao=>?_;obtain⟨ap,a7⟩:=Y.eq ao;subst ap;subst a7;have k:=YO _ al;have ak:aggB PP za b2.length=true:=by rw[yr k];exact zo
 simp only[zH,zG];refine zx zy fun bt c9 bl O bn a4=>?_;refine stTerm a4 rfl (k.ext O) fun aw aq bo a5=>?_;have m:Ext bk aw:=Ext.then O aq fun y U=>by subst U;omega
 have i:Ext av aw:=((L.trans N).trans ad).trans m;rw[a5.ldAgg (t:=za) ak,(bf.ext i).ldAgg (t:=za) X];refine ZE _ (k.ext m).term (a9.ext i).term fun ca af=>?_;simp only[jw,Bool.not_true];refine zE (fun c=>by cases c) (fun _=>?_);simp only[push_cast];refine zE (fun c=>by simp at c) (fun _=>?_);have j:=i.trans af;rw[(H.ext j).ldAgg (t:=za) u];refine heldTerm_spec ((YO _ Q).ext j).term hH (by decide) (by omega) fun cb ag=>?_;simp only[push_cast];refine zd (fun c=>by omega) (fun _=>?_);exact zd (fun c=>absurd rfl c) (fun _=>hK _ ((a1.trans j).trans ag))
end Go.Proofs.YtaemeijeaajoeaaGreatDoor
end
section
namespace Go.Proofs.YtaemeijeaajoeaaGreatDoor
open Go Go.Vc Go.Proofs
open Go.RowKit
theorem laid_at {l:List (String×DataW Unit)} {W:World} (h:laidMet PP l W):∀k,laidMet PP (l.drop k) W
 |0=>h
 |k+1=>by
  have a:=laid_at h k;rw[<-List.tail_drop];cases b:l.drop k with
  |nil=>rw[b] at a;exact a
  |cons x r=>rw[b] at a;exact a.tail
theorem Jb: "*" ++ "errors.errorString" = "*errors.errorString" :=by decide
theorem VF (u:TypeId) (h:PP.typeName? 3 u=some "*errors.errorString"):u=yI:=
 typeName_ptr_named (nm:= "errors.errorString") (by rw[Jb];kernel_rfl) (by kernel_rfl) (by decide) u (by rw[Jb];exact h)
def ifaceB (P:Program) (t:TypeId):Bool:=match P.underlying t with
 |some (.interface _)=>true
 |_=>false
theorem VQ {P:Program} {t:TypeId} (h:ifaceB P t=true):∃ms,P.underlying t=some (.interface ms):=by
 unfold ifaceB at h;split at h
 ·exact⟨_,by assumption⟩
 ·cases h
theorem Ke:∃ms,PP.underlying Yx=some (.interface ms):=VQ (by kernel_rfl)
def fieldB (P:Program) (t u:TypeId):Bool:=match P.underlying t with
 |some (.struct fs)=>match fs.toList with
  |[f]=>decide (f.type=u)&&decide (f.offset=0)
  |_=>false
 |_=>false
theorem VU {P:Program} {t u:TypeId} (h:fieldB P t u=true):∃f,P.underlying t=some (.struct #[f])/\f.type=u/\f.offset=0:=by
 unfold fieldB at h;split at h
 ·rename_i fs a;split at h
  ·rename_i f b;simp only[Bool.and_eq_true,decide_eq_true_eq] at h;refine⟨f,?_,h⟩;rw[a];congr 2;exact Array.toList_inj.1 (by simpa using b)
  ·cases h
 ·cases h
theorem VG:PP.underlying yI=some (.pointer 203):=by kernel_rfl
theorem JG:∃f,PP.underlying 203=some (.struct #[f])/\f.type=zc/\f.offset=0:=VU (by kernel_rfl)
theorem JH:PP.underlying zc=some .string:=by kernel_rfl
theorem WL:PP.cellsOf 203=1/\PP.cellsOf zc=1:=⟨by kernel_rfl,by kernel_rfl⟩
theorem KH {n:String} {text:List UInt8} {r l:List (String×DataW Unit)} {W:World} {g:Nat} (h:laidMet PP l W) (k:Nat) (m:l.drop k=(n,.iface "*errors.errorString" (.ptr (.agg [.lit (.string text)])))::r)
  (c:PP.globalNamed n=some g) (o:(PP.globals[g]?).map (·.type)=some Yx):∃a,W.cell? ⟨g,0,none⟩=some (.iface yI (.pointer (some a))):=by
 have b:=laid_at h k;rw[m] at b;obtain⟨ms,j⟩:=Ke;obtain⟨f,d,e,i⟩:=JG;obtain⟨a,s,p,_⟩:=laid_sentinel b c o j VF VG d e i JH WL.1 WL.2;exact⟨a,by simpa using World.var?_cell c p 0⟩
theorem U0 {l:List (String×DataW Unit)} {W:World} (h:laidMet PP l W) (k j:Nat) {t1 t2:List UInt8} {o p:List (String×DataW Unit)} {c d:String} (g:l.drop k=(c,.iface "*errors.errorString" (.ptr (.agg [.lit (.string t1)])))::o) (i:l.drop j=(d,.iface "*errors.errorString" (.ptr (.agg [.lit (.string t2)])))::p)
  (g1:PP.globalNamed c=some WN) (g2:PP.globalNamed d=some WO) (e:(PP.globals[WN]?).map (·.type)=some Yx) (f:(PP.globals[WO]?).map (·.type)=some Yx):SynR W:=by
 obtain⟨a,m⟩:=KH h k g g1 e;obtain⟨b,n⟩:=KH h j i g2 f;exact⟨⟨_,_,m⟩,_,_,n⟩
end Go.Proofs.YtaemeijeaajoeaaGreatDoor
end
