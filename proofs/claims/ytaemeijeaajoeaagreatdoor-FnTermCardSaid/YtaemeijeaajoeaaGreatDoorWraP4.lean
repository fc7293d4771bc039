import Derived.Test.YtaemeijeaajoeaaGreatDoorWraP3
import Derived.Ground.NamesProg
import Derived.Shelf.Small.Wraps
import Derived.Shelf.Strconv.AtoiAll
import Derived.Shelf.Strings.IndexAnyAll
import Derived.Shelf.Strings.OnBuilder
import Derived.Shelf.Strings.Prefix
import Derived.Shelf.Strings.SlTrimAscii
import Derived.Shelf.SlGeneric
import Derived.Test.YtaemeijeaajoeaaGreatDoorProg
import Derived.Test.YtaemeijeaajoeaaGreatDoorWraP2
/- A part of the proof. -/
set_option linter.unusedVariables false
set_option linter.unusedSimpArgs false
set_option linter.unnecessarySimpa false
set_option linter.unusedSectionVars false
section
namespace Go.Proofs.YtaemeijeaajoeaaGreatDoor
open Go Go.Vc Go.Proofs
variable {w:World} {K:Value→World→Prop} {F G:Nat→Prop}
theorem stTerm {b:Nat} {cs cs':List Value} {t:TypeId} {t':M.Tm} (h:Blk w b cs t) (f:cs.length=5) (d:TmR F w cs' t') (c:∀w',Same (· =b) w w'->w'.heap.size=w.heap.size->Blk w' b cs' t->K undef w'):zk PP za (.pointer (some ⟨b,0,none⟩)) (.agg ⟨cs'⟩) w K:=by
 obtain⟨kv,rfl,e⟩:=d.inv;obtain⟨css,g,_⟩:=e;refine h.stAgg (by simp[f]) zm ?_ c;intro v a;simp only[List.mem_cons,List.not_mem_nil,or_false] at a;rcases a with rfl|rfl|rfl|rfl|rfl
 ·rfl
 ·rfl
 ·rfl
 ·rfl
 ·exact g.one
theorem yd {cs:List Value} {t:M.Tm} (h:TmR F w cs t):cs.length=5:=by
 obtain⟨kv,rfl,_⟩:=h.inv;rfl
theorem Kh {v:Value} {t:M.Tm} (m:TermR F w v t) (i:∀w',Ext w w'->K (.bool (M.plainM t)) w'):vcall PP k6 #[v] w K:=by
 apply Jt;unfold YF;obtain⟨ksv,rfl,k⟩:=m;refine zB fun b1 n j h l e=>?_;have d:=i _ h;unfold M.plainM at d;refine zI (fun u w'=>u=[.bool (decide (t.op=20)||decide (t.op=22)||(decide (t.a=0)&&decide (t.b=0)))]/\w'=n) (fun C f=>?_) ?_
 ·simp(disch:=(simp only[push_cast];done)) only[push_cast,e.ld0,e.ld1,e.ld2];refine zd (fun a=>?_) (fun a=>?_)
  ·exact f _ _ ⟨by rw[decide_eq_true a];rfl,rfl⟩
  refine zd (fun b=>?_) (fun b=>?_)
  ·exact f _ _ ⟨by rw[decide_eq_true b];simp,rfl⟩
  refine zd (fun c=>?_) (fun c=>?_)
  ·exact f _ _ ⟨by rw[decide_eq_false a,decide_eq_false b,decide_eq_true c];rfl,rfl⟩
  ·exact f _ _ ⟨by rw[decide_eq_false a,decide_eq_false b,decide_eq_false c];rfl,rfl⟩
 ·rintro u g o ⟨rfl,rfl⟩;simp(disch:=(simp only[push_cast];done)) only[push_cast,e.ld0,e.ld3];refine zR (fun a=>?_) (fun a=>?_)
  ·rw[a,Bool.true_and] at d;refine zd (fun b=>?_) (fun b=>?_)
   ·rwa[decide_eq_true b,Bool.true_or] at d
   ·rw[decide_eq_false b,Bool.false_or] at d;exact d
  ·rwa[a,Bool.false_and] at d
theorem X7 {mb:Nat} {o:Int} {ok:Bool} (h:KindsR w mb) (d:0<=M.arity o) (b:∀v,KindR o v->K (if ok then .tuple #[v,.bool true] else v) w):J8 PP zi (.map (some mb)) (.int .i64 o) ok w K:=by
 obtain⟨f,hm,a,g⟩:=h;obtain⟨v,e,c⟩:=a o d;rw[Vu kD hm (X8 o) e];exact b v c
theorem KT {mb:Nat} {o:Int} (h:KindsR w mb) (d: ¬0<=M.arity o) (b:K (.tuple #[.nilIface,.bool false]) w):J8 PP zi (.map (some mb)) (.int .i64 o) true w K:=by
 obtain⟨f,hm,i,a⟩:=h;rw[KD kD (z:= .nilIface) (by unfold xo;kernel_rfl) hm (X8 o) fun v g=>?_]
 ·exact b
 ·obtain⟨o',e,c⟩:=a _ g;cases e;exact d c
theorem ZJ {α β:Type} (f:α->β) {l:List α} {i:Nat} (h:i<l.length) (d:α):(l.take i).map f++[f (l.getD i d)]=(l.take (i+1)).map f:=by
 rw[List.take_add_one,List.getElem?_eq_getElem h,List.map_append,List.getD_eq_getElem?_getD,List.getElem?_eq_getElem h];rfl
theorem sortOf_spec:∀(t:M.Tm) {w:World} {K:Value->World->Prop} {F G:Nat->Prop} {mb:Nat} {dv v:Value} {ds:List M.Dcl},KindsR w mb->DclsR F w dv ds->M.declOk ds=true->TermR G w v t->
  (∀w',Ext w w'->K (.int .i64 (M.sortM ds t)) w')->vcall PP qq #[.map (some mb),dv,v] w K:=by
 refine M.Tm.ind fun t ih w K F G mb dv v ds hm hd N ht U=>?_;apply QY;unfold Yh;obtain⟨ksv,rfl,m⟩:=ht;refine zB fun b1 w1 a3 l a6 D=>?_;have J:=hm.ext l;simp(disch:=(simp only[push_cast];done)) only[push_cast,D.ld0];have A: ¬(M.formed t=true)->∀w',Ext w w'->K (.int .i64 (-1)) w':=fun hn w' he=>by
  have:=U w' he;rw[M.sortM_eq] at this;unfold M.sortF at this;rwa[if_neg (fun h=>hn h.1)] at this
 by_cases Y: ¬0<=M.arity t.op
 ·have S:=Y;refine KT J S ?_;simp only[push_cast];refine zI (fun _ _=>False) (fun C R=>?_) (fun _ _ _ h=>h.elim);refine zU fun T c _=>?_;simp only[push_cast,true_and];refine A (fun h=>S ?_) _ (l.trans c);simp only[M.formed,Bool.and_eq_true,decide_eq_true_eq] at h;omega
 have S:0<=M.arity t.op:=by omega
 refine X7 J S fun kv I=>?_;simp only[push_cast,if_true];have a9:=m.small;refine zI (fun u w'=>u=[]/\Ext w1 w'/\M.formed t=true) (fun C R=>?_) ?_
 ·refine zU fun T c _=>?_;have E:=D.ext c;simp(disch:=(simp only[push_cast];done)) only[push_cast,E.ld4,m.len,true_and];refine I.kids _ _ fun w3 d=>?_;have Q:=E.ext d;simp(disch:=(simp only[push_cast];done)) only[push_cast,Q.ld4,m.len,true_and,and_self];refine zd (fun a=>?_) (fun a=>?_)
  ·refine A (fun h=>?_) _ ((l.trans c).trans d);simp only[M.formed,Bool.and_eq_true,decide_eq_true_eq] at h;omega
  ·simp(disch:=(simp only[push_cast];done)) only[push_cast,Q.ldAgg (t:=za) zm,true_and];refine Kh (F:=G) (t:=t) ⟨ksv,rfl,m.ext ((l.trans c).trans d)⟩ fun w4 e=>?_;simp only[push_cast,true_and];refine zR (fun b=>?_) (fun b=>?_)
   ·refine A (fun h=>?_) _ (((l.trans c).trans d).trans e);simp only[M.formed,Bool.and_eq_true] at h;rw[h.2] at b;cases b
   ·refine R _ _ ⟨rfl,(c.trans d).trans e,?_⟩;simp only[M.formed,Bool.and_eq_true,decide_eq_true_eq];exact⟨by omega,by simpa using b⟩
 ·rintro u g T ⟨rfl,c,hf⟩;have E:=D.ext c;have hE:=l.trans c;have ab:=hE.size;simp(disch:=(simp only[push_cast];done)) only[push_cast,E.ld4,m.len];have H:=hf;simp only[M.formed,Bool.and_eq_true,decide_eq_true_eq] at H;have a2:t.ks.length<=3:=by
   have D:=H.1;unfold M.arity at D
   repeat' split at D
   all_goals omega
  refine vloop_up t.ks.length (fun i u w'=> ∃sv,u=[sv,.int .i64 i]/\Ext T w'/\OwnI PP y1 w' sv ((t.ks.take i).map (M.sortM ds))/\(∀b,sv.ownBlock=some b->T.heap.size<=b)/\(∀x,x∈(t.ks.take i).map (M.sortM ds)->x≠ -1)) ⟨_,rfl,Same.refl _ _,OwnI.nil,(fun b h=>by cases h),by simp⟩ ?_;rintro i _ _ w3 C hi ⟨sv,rfl,d,B,L,n⟩ R;have k:=hE.trans d;have o:=m.ext k;simp only[push_cast];refine zd (fun a=>?_) (fun a=>?_)
  ·simp(disch:=first|(simp only[push_cast];done)|omega) only[push_cast,o.iaddr];refine o.load zm (by omega) fun x r=>?_;obtain⟨cs,rfl,s⟩:=r.cells;refine zw zt fun b2 w4 a4 e a7 h4=>?_;refine stTerm h4 rfl (s.ext e) fun w5 Z aa h5=>?_;have p:Ext w3 w5:=Ext.then e Z fun y P=>by subst P;omega
   rw[h5.ldAgg (t:=za) (by rw[yd s];exact zm)];refine ih _ (M.getD_mem (by omega) _) (hm.ext (k.trans p)) (hd.ext (k.trans p)) N (s.ext p).term fun w6 V=>?_;simp only[push_cast];have f:=p.trans V;refine zd (fun b=>?_) (fun b=>?_)
   ·have:=U _ (k.trans f);rw[M.sortM_eq] at this;unfold M.sortF at this;rwa[if_neg (fun h=>h.2 (b▸List.mem_map_of_mem (M.getD_mem (by omega) _)))] at this
   ·refine YQ K0 jQ J5 rfl rfl (by decide) fun b3 w7 a5 z a8 h7=>?_;have O:=(B.ext f).ext z;have hlen:((t.ks.take i).map (M.sortM ds)).length=i:=by rw[List.length_map,List.length_take];omega
    refine O.app1 WV h7 (by rw[hlen];omega) (by rw[hlen];omega) fun a1 w8 q a0 X=>?_
    try simp only[push_cast]
    rw[inc64' (by omega)];rw[ZJ _ (by omega)] at q;refine R (by omega) _ _ ⟨a1,rfl,Ext.then ((d.trans f).trans z) a0 fun y P=>L y P,q,fun y P=>?_,fun x r=>?_⟩
    ·rcases X y P with h|h
     ·exact L y h
     ·have:=(d.trans f).size;have:=z.size;omega
    ·rw[<-ZJ _ (by omega) default] at r;rcases List.mem_append.1 r with r|r
     ·exact n x r
     ·rw[List.mem_singleton.1 r];exact b
  ·have W:i=t.ks.length:=(by omega);subst W;rw[List.take_length] at B n;have Q:=E.ext d;simp(disch:=(simp only[push_cast];done)) only[push_cast,Q.ldAgg (t:=za) zm];refine I.sort _ _ F G _ _ _ _ ds t _ rfl (hd.ext k) ⟨ksv,rfl,o⟩ B.ints (by rw[List.length_map];omega) (fun j=>?_) fun w4 e=>?_
   ·by_cases hj:j<t.ks.length
    ·rw[M.getD_map _ hj 0 default];exact M.sort_range N _
    ·rw[List.getD_eq_getElem?_getD,List.getElem?_eq_none (by simpa using hj)];simp
   ·have:=U _ (k.trans e);rw[M.sortM_eq] at this;unfold M.sortF at this;rwa[if_pos ⟨hf,fun h=>n _ h rfl⟩] at this
theorem count_spec:∀(t:M.Tm) {w:World} {K:Value->World->Prop} {F:Nat->Prop} {v:Value} {m deep mb:Nat} {ty:TypeId},TermR F w v t->Blk w mb [.int .i64 m] ty->(∀b,F b->b≠mb)->m<=20->1<=deep->deep<=8->
  (∀w' (r B:Nat),Same (· =mb) w w'->Blk w' mb [.int .i64 B] ty->m<B->B<=21->deep<=r->r<=8->(m+M.sizeM t<=20/\deep-1+M.deepM t<=7->B=m+M.sizeM t/\r=deep-1+M.deepM t)->(¬(m+M.sizeM t<=20/\deep-1+M.deepM t<=7)->20<B\/7<r)->K (.int .i64 r) w')->
  vcall PP qX #[v,.int .i64 deep,.pointer (some ⟨mb,0,none⟩)] w K:=by
 refine M.Tm.ind fun t ih w K F v m deep mb ty ht E hF hm a2 a3 J=>?_;apply Jv;unfold YH;obtain⟨ksv,rfl,n⟩:=ht;refine zB fun b1 w1 a0 p a9 W=>?_;have o:=E.ext p;have U:=E.lt;have ab:=n.small;have hS:=M.szT_all t;have hD:=M.dpT_all t;simp(disch:=(simp only[push_cast];done)) only[push_cast,o.ld0];rw[inc64' (by omega)];refine o.st (i:=0) rfl rfl jQ rfl fun G A ac D=>?_;have s:Same (· =mb) w G:=(Same.of_ext p).trans A;have q2:=W.same A (by omega);replace D:Blk G mb [.int .i64 (m+1:Nat)] ty:=D;refine zd (fun a=>?_) (fun a=>?_)
 ·exact J G deep (m+1) s D (by omega) (by omega) (by omega) (by omega) (fun h=>by omega) (fun h=>by omega)
 simp(disch:=(simp only[push_cast];done)) only[push_cast,q2.ld4,n.len];refine vloop_up t.ks.length (fun i u w'=> ∃r mi:Nat,u=[.int .i64 r,.int .i64 i]/\Same (· =mb) G w'/\Blk w' mb [.int .i64 mi] ty/\m<mi/\mi<=21/\deep<=r/\r<=8/\(m+1+M.szT t.ks i<=20/\deep+M.dpT t.ks i<=7->mi=m+1+M.szT t.ks i/\r=deep+M.dpT t.ks i)/\(¬(m+1+M.szT t.ks i<=20/\deep+M.dpT t.ks i<=7)->20<mi\/7<r))
  ⟨deep,m+1,rfl,Same.refl _ _,D,by omega,by omega,by omega,by omega,fun h=>by simp[M.szT,M.dpT],fun h=>by
   have S:M.szT t.ks 0=0:=rfl;have e2:M.dpT t.ks 0=0:=rfl;omega⟩ ?_
 rintro i _ _ H C hi ⟨r,mi,rfl,z,I,Q,c2,c3,c4,c5,R⟩ hC;have d:Same (· =mb) w H:=s.trans z;have g:TmsR F H ksv t.ks:=n.same d fun b E _ e=>hF b E e;have ad:=d.size;simp only[push_cast];refine zd (fun b=>?_) (fun b=>?_)
 ·have a5:=M.szT_mono (ks:=t.ks) (i:=i) (j:=t.ks.length) (by omega) (Nat.le_refl _);have a6:=M.dpT_mono (ks:=t.ks) (i:=i) (j:=t.ks.length) (by omega) (Nat.le_refl _);have a7:=M.szT_succ (ks:=t.ks) (i:=i) (by omega);have a8:=M.dpT_succ (ks:=t.ks) (i:=i) (by omega);simp(disch:=first|(simp only[push_cast];done)|omega) only[push_cast,g.iaddr];refine g.load zm (by omega) fun x hx=>?_;obtain⟨cs,rfl,l⟩:=hx.cells;refine zw zt fun b2 w4 a1 q aa X=>?_;refine stTerm X rfl (l.ext q) fun V O ae Y=>?_;have f:Ext H V:=Ext.then q O fun y hy=>by subst hy;omega
  have k:=I.ext f;have a4:=I.lt;simp(disch:=(simp only[push_cast];done)) only[push_cast,k.ld0];refine zd (fun c=>?_) (fun c=>?_)
  ·exact J V r mi (d.trans (Same.of_ext f)) k Q c2 c3 c4 (fun h=>by omega) (fun h=>by omega)
  ·rw[Y.ldAgg (t:=za) (by rw[yd l];exact zm)];have S:IntKind.i64.wrap ((deep:Int)+1)=((deep+1:Nat):Int):=inc64' (by omega);rw[S];refine ih _ (M.getD_mem (by omega) _) (l.ext f).term k hF (by omega) (by omega) (by omega) fun w6 P m2 N Z d1 d2 d3 d4 d5 d6=>?_;simp only[push_cast];rw[inc64' (by omega),show max (r:Int) (P:Int)=((max r P:Nat):Int) by omega];refine hC (by omega) _ _ ⟨max r P,m2,rfl,(z.trans (Same.of_ext f)).trans N,Z,by omega,d2,by omega,by omega,fun h=>?_,fun h=>?_⟩
   ·have:=c5 (by omega);have:=d5 (by omega);omega
   ·by_cases T:m+1+M.szT t.ks i<=20/\deep+M.dpT t.ks i<=7
    ·have:=c5 T;have:=d6 (by omega);omega
    ·have:=R T;omega
 ·have L:i=t.ks.length:=(by omega);subst L;refine J H r mi d I Q c2 c3 c4 (fun h=>?_) (fun h=>?_)
  ·have:=c5 (by omega);omega
  ·exact R (by omega)
theorem TermMany_spec {v:Value} {t:M.Tm} (A:TermR F w v t) (H:∀w',Ext w w'->K (.tuple #[.int .i64 (M.manyM t),.int .i64 (M.lvlM t)]) w'):vcall PP qF #[v] w K:=by
 apply Xz;unfold kx;have q:=A.weaken (F':=fun b=>b<w.heap.size) fun b _ h=>h;obtain⟨ksv,rfl,L⟩:=A;refine zB fun b1 W I n N E=>?_;refine kB J5 fun x S J f O k=>?_;replace k:Blk S x [.int .i64 0] zb:=k;refine k.st (i:=0) rfl rfl jQ rfl fun B j P l=>?_;replace l:Blk B x [.int .i64 ((0:Nat):Int)] zb:=l;have R:=(E.ext f).same j (by omega);have g:Ext w B:=Ext.then (n.trans f) j fun y u=>by subst u;omega
 rw[R.ldAgg (t:=za) zm];refine count_spec t (m:=0) (deep:=1) (q.ext g) l (fun b V e=>by omega) (by omega) (by omega) (by omega) fun C r Q p G T c2 c3 c4 c5 D=>?_;have o:Ext w C:=Ext.then g p fun y u=>by subst u;omega
 have d:=H C o;have c:M.fits t=true↔M.sizeM t<=20/\M.deepM t<=7:=M.fits_iff;unfold M.manyM M.lvlM at d;simp(disch:=(simp only[push_cast];done)) only[push_cast,G.ld0];refine zd (fun a=>?_) (fun a=>?_)
 ·rw[if_neg (fun h=>by have s:=c.1 h;have:=c5 (by omega);omega),if_neg (fun h=>by have s:=c.1 h;have:=c5 (by omega);omega)] at d;exact d
 ·refine zd (fun b=>?_) (fun b=>?_)
  ·rw[if_neg (fun h=>by have s:=c.1 h;have:=c5 (by omega);omega),if_neg (fun h=>by have s:=c.1 h;have:=c5 (by omega);omega)] at d;exact d
  ·have z:M.sizeM t<=20/\M.deepM t<=7:=by
    by_cases h:M.sizeM t<=20/\M.deepM t<=7
    ·exact h
    ·have:=D (by omega);omega
   have U:=c5 (by omega);rw[if_pos (c.2 z),if_pos (c.2 z)] at d;rw[show Q=M.sizeM t by omega,show r=M.deepM t by omega];exact d
end Go.Proofs.YtaemeijeaajoeaaGreatDoor
end
section
namespace Go.Proofs
open Go.Shelf
def YtaemeijeaajoeaaGreatDoor.trimL_ren:Go.Shelf.Ren:=⟨fun|160=>75 |232=>99 |231=>98 |227=>100 |234=>102 |233=>101 |236=>104 |235=>103 |228=>115 |271=>118 |151=>117 |197=>116 |120=>131 |152=>119 |260=>130 |137=>132 |119=>133 |224=>134 |225=>135 |217=>146 |266=>152 |n=>n,fun|9=>9 |4=>4 |3=>3 |5=>5 |117=>151 |116=>150 |0=>0 |124=>154 |21=>21 |105=>162 |46=>177 |119=>189 |139=>192 |138=>191 |n=>n,fun|3=>2 |4=>3 |n=>n⟩
theorem YtaemeijeaajoeaaGreatDoor.trimL:Go.Proofs.Lays.n160 Tryz.prog YtaemeijeaajoeaaGreatDoor.trimL_ren:={
 mixed:=by kernel_rfl
 f119:=Tryz.func133.trans (congrArg some (by kernel_rfl))
 f120:=Tryz.func131.trans (congrArg some (by kernel_rfl))
 f137:=Tryz.func132.trans (congrArg some (by kernel_rfl))
 f151:=Tryz.func117.trans (congrArg some (by kernel_rfl))
 f152:=Tryz.func119.trans (congrArg some (by kernel_rfl))
 f160:=Tryz.func75.trans (congrArg some (by kernel_rfl))
 f197:=Tryz.func116.trans (congrArg some (by kernel_rfl))
 f217:=Tryz.func146.trans (congrArg some (by kernel_rfl))
 f224:=Tryz.func134.trans (congrArg some (by kernel_rfl))
 f225:=Tryz.func135.trans (congrArg some (by kernel_rfl))
 f227:=Tryz.func100.trans (congrArg some (by kernel_rfl))
 f228:=Tryz.func115.trans (congrArg some (by kernel_rfl))
 f231:=Tryz.func98.trans (congrArg some (by kernel_rfl))
 f232:=Tryz.func99.trans (congrArg some (by kernel_rfl))
 f233:=Tryz.func101.trans (congrArg some (by kernel_rfl))
 f234:=Tryz.func102.trans (congrArg some (by kernel_rfl))
 f235:=Tryz.func103.trans (congrArg some (by kernel_rfl))
 f236:=Tryz.func104.trans (congrArg some (by kernel_rfl))
 f260:=Tryz.func130.trans (congrArg some (by kernel_rfl))
 f266:=Tryz.func152.trans (congrArg some (by kernel_rfl))
 f271:=Tryz.func118.trans (congrArg some (by kernel_rfl))
 t0:=Tryz.underlying0
 a0:=Tryz.isAgg0
 z0:=Tryz.sizeOf0
 v0:=Tryz.zeroValue0
 t3:=Tryz.underlying3
 a3:=Tryz.isAgg3
 z3:=Tryz.sizeOf3
 v3:=Tryz.zeroValue3
 t4:=Tryz.underlying4
 a4:=Tryz.isAgg4
 z4:=Tryz.sizeOf4
 v4:=Tryz.zeroValue4
 t5:=Tryz.underlying5
 a5:=Tryz.isAgg5
 z5:=Tryz.sizeOf5
 v5:=Tryz.zeroValue5
 t9:=Tryz.underlying9
 a9:=Tryz.isAgg9
 z9:=Tryz.sizeOf9
 v9:=Tryz.zeroValue9
 t21:=Tryz.underlying21
 a21:=Tryz.isAgg21
 z21:=Tryz.sizeOf21
 v21:=Tryz.zeroValue21
 t46:=Tryz.underlying177
 a46:=Tryz.isAgg177
 z46:=Tryz.sizeOf177
 v46:=Tryz.zeroValue177
 t105:=Tryz.underlying162
 a105:=Tryz.isAgg162
 z105:=Tryz.sizeOf162
 v105:=Tryz.zeroValue162
 t116:=Tryz.underlying150
 a116:=Tryz.isAgg150
 z116:=Tryz.sizeOf150
 t117:=Tryz.underlying151
 a117:=Tryz.isAgg151
 z117:=Tryz.sizeOf151
 v117:=Tryz.zeroValue151
 t119:=Tryz.underlying189
 a119:=Tryz.isAgg189
 z119:=Tryz.sizeOf189
 t124:=Tryz.underlying154
 a124:=Tryz.isAgg154
 z124:=Tryz.sizeOf154
 v124:=Tryz.zeroValue154
 t138:=Tryz.underlying191
 a138:=Tryz.isAgg191
 z138:=Tryz.sizeOf191
 v138:=Tryz.zeroValue191
 t139:=Tryz.underlying192
 a139:=Tryz.isAgg192
 z139:=Tryz.sizeOf192
 v139:=Tryz.zeroValue192
 g3:=by kernel_rfl
 g4:=by kernel_rfl}
def YtaemeijeaajoeaaGreatDoor.joinL_ren:Go.Shelf.Ren:=⟨fun|156=>63 |165=>92 |166=>93 |169=>94 |240=>113 |241=>114 |276=>128 |277=>129 |n=>n,fun|31=>72 |9=>9 |3=>3 |4=>4 |0=>0 |20=>20 |72=>142 |76=>146 |70=>140 |37=>36 |75=>145 |127=>160 |164=>172 |5=>5 |80=>114 |n=>n,fun|n=>n⟩
theorem YtaemeijeaajoeaaGreatDoor.joinL:Go.Proofs.Lays.n156 Tryz.prog YtaemeijeaajoeaaGreatDoor.joinL_ren:={
 mixed:=by kernel_rfl
 f156:=Tryz.func63.trans (congrArg some (by kernel_rfl))
 f165:=Tryz.func92.trans (congrArg some (by kernel_rfl))
 f166:=Tryz.func93.trans (congrArg some (by kernel_rfl))
 f169:=Tryz.func94.trans (congrArg some (by kernel_rfl))
 f240:=Tryz.func113.trans (congrArg some (by kernel_rfl))
 f241:=Tryz.func114.trans (congrArg some (by kernel_rfl))
 f276:=Tryz.func128.trans (congrArg some (by kernel_rfl))
 f277:=Tryz.func129.trans (congrArg some (by kernel_rfl))
 t0:=Tryz.underlying0
 a0:=Tryz.isAgg0
 z0:=Tryz.sizeOf0
 v0:=Tryz.zeroValue0
 t3:=Tryz.underlying3
 a3:=Tryz.isAgg3
 z3:=Tryz.sizeOf3
 v3:=Tryz.zeroValue3
 t4:=Tryz.underlying4
 a4:=Tryz.isAgg4
 z4:=Tryz.sizeOf4
 v4:=Tryz.zeroValue4
 t9:=Tryz.underlying9
 a9:=Tryz.isAgg9
 z9:=Tryz.sizeOf9
 v9:=Tryz.zeroValue9
 t20:=Tryz.underlying20
 a20:=Tryz.isAgg20
 z20:=Tryz.sizeOf20
 v20:=Tryz.zeroValue20
 t31:=Tryz.underlying72
 a31:=Tryz.isAgg72
 z31:=Tryz.sizeOf72
 v31:=Tryz.zeroValue72
 t37:=Tryz.underlying36
 a37:=Tryz.isAgg36
 z37:=Tryz.sizeOf36
 v37:=Tryz.zeroValue36
 t70:=Tryz.underlying140
 a70:=Tryz.isAgg140
 z70:=Tryz.sizeOf140
 v70:=Tryz.zeroValue140
 t72:=Tryz.underlying142
 a72:=Tryz.isAgg142
 z72:=Tryz.sizeOf142
 v72:=Tryz.zeroValue142
 t75:=Tryz.underlying145
 a75:=Tryz.isAgg145
 z75:=Tryz.sizeOf145
 v75:=Tryz.zeroValue145
 t76:=Tryz.underlying146
 a76:=Tryz.isAgg146
 z76:=Tryz.sizeOf146
 v76:=Tryz.zeroValue146
 t127:=Tryz.underlying160
 a127:=Tryz.isAgg160
 z127:=Tryz.sizeOf160
 v127:=Tryz.zeroValue160
 t164:=Tryz.underlying172
 a164:=Tryz.isAgg172
 z164:=Tryz.sizeOf172
 v164:=Tryz.zeroValue172}
def YtaemeijeaajoeaaGreatDoor.cutL_ren:Go.Shelf.Ren:=⟨fun|103=>109 |210=>121 |206=>106 |n=>n,fun|9=>9 |4=>4 |24=>157 |3=>3 |n=>n,fun|n=>n⟩
theorem YtaemeijeaajoeaaGreatDoor.cutL:Go.Proofs.Lays.n103 Tryz.prog YtaemeijeaajoeaaGreatDoor.cutL_ren:={
 mixed:=by kernel_rfl
 f103:=Tryz.func109.trans (congrArg some (by kernel_rfl))
 f206:=Tryz.func106.trans (congrArg some (by kernel_rfl))
 f210:=Tryz.func121.trans (congrArg some (by kernel_rfl))
 t3:=Tryz.underlying3
 a3:=Tryz.isAgg3
 z3:=Tryz.sizeOf3
 v3:=Tryz.zeroValue3
 t4:=Tryz.underlying4
 a4:=Tryz.isAgg4
 z4:=Tryz.sizeOf4
 v4:=Tryz.zeroValue4
 t9:=Tryz.underlying9
 a9:=Tryz.isAgg9
 z9:=Tryz.sizeOf9
 v9:=Tryz.zeroValue9
 t24:=Tryz.underlying157
 a24:=Tryz.isAgg157
 z24:=Tryz.sizeOf157
 v24:=Tryz.zeroValue157}
def YtaemeijeaajoeaaGreatDoor.hasL_ren:Go.Shelf.Ren:=⟨fun|99=>81 |206=>106 |n=>n,fun|9=>9 |4=>4 |3=>3 |n=>n,fun|n=>n⟩
theorem YtaemeijeaajoeaaGreatDoor.hasL:Go.Proofs.Lays.n99 Tryz.prog YtaemeijeaajoeaaGreatDoor.hasL_ren:={
 mixed:=by kernel_rfl
 f99:=Tryz.func81.trans (congrArg some (by kernel_rfl))
 f206:=Tryz.func106.trans (congrArg some (by kernel_rfl))
 t3:=Tryz.underlying3
 a3:=Tryz.isAgg3
 z3:=Tryz.sizeOf3
 v3:=Tryz.zeroValue3
 t4:=Tryz.underlying4
 a4:=Tryz.isAgg4
 z4:=Tryz.sizeOf4
 v4:=Tryz.zeroValue4
 t9:=Tryz.underlying9
 a9:=Tryz.isAgg9
 z9:=Tryz.sizeOf9
 v9:=Tryz.zeroValue9}
def YtaemeijeaajoeaaGreatDoor.anyL_ren:Go.Shelf.Ren:=⟨fun|153=>108 |152=>119 |226=>120 |227=>100 |228=>115 |137=>132 |119=>133 |224=>134 |225=>135 |217=>146 |266=>152 |n=>n,fun|9=>9 |3=>3 |4=>4 |5=>5 |21=>21 |117=>151 |116=>150 |0=>0 |46=>177 |124=>154 |n=>n,fun|n=>n⟩
theorem YtaemeijeaajoeaaGreatDoor.anyL:Go.Proofs.Lays.n153 Tryz.prog YtaemeijeaajoeaaGreatDoor.anyL_ren:={
 mixed:=by kernel_rfl
 f119:=Tryz.func133.trans (congrArg some (by kernel_rfl))
 f137:=Tryz.func132.trans (congrArg some (by kernel_rfl))
 f152:=Tryz.func119.trans (congrArg some (by kernel_rfl))
 f153:=Tryz.func108.trans (congrArg some (by kernel_rfl))
 f217:=Tryz.func146.trans (congrArg some (by kernel_rfl))
 f224:=Tryz.func134.trans (congrArg some (by kernel_rfl))
 f225:=Tryz.func135.trans (congrArg some (by kernel_rfl))
 f226:=Tryz.func120.trans (congrArg some (by kernel_rfl))
 f227:=Tryz.func100.trans (congrArg some (by kernel_rfl))
 f228:=Tryz.func115.trans (congrArg some (by kernel_rfl))
 f266:=Tryz.func152.trans (congrArg some (by kernel_rfl))
 t0:=Tryz.underlying0
 a0:=Tryz.isAgg0
 z0:=Tryz.sizeOf0
 v0:=Tryz.zeroValue0
 t3:=Tryz.underlying3
 a3:=Tryz.isAgg3
 z3:=Tryz.sizeOf3
 v3:=Tryz.zeroValue3
 t4:=Tryz.underlying4
 a4:=Tryz.isAgg4
 z4:=Tryz.sizeOf4
 v4:=Tryz.zeroValue4
 t5:=Tryz.underlying5
 a5:=Tryz.isAgg5
 z5:=Tryz.sizeOf5
 v5:=Tryz.zeroValue5
 t9:=Tryz.underlying9
 a9:=Tryz.isAgg9
 z9:=Tryz.sizeOf9
 v9:=Tryz.zeroValue9
 t21:=Tryz.underlying21
 a21:=Tryz.isAgg21
 z21:=Tryz.sizeOf21
 v21:=Tryz.zeroValue21
 t46:=Tryz.underlying177
 a46:=Tryz.isAgg177
 z46:=Tryz.sizeOf177
 v46:=Tryz.zeroValue177
 t116:=Tryz.underlying150
 a116:=Tryz.isAgg150
 z116:=Tryz.sizeOf150
 t117:=Tryz.underlying151
 a117:=Tryz.isAgg151
 z117:=Tryz.sizeOf151
 v117:=Tryz.zeroValue151
 t124:=Tryz.underlying154
 a124:=Tryz.isAgg154
 z124:=Tryz.sizeOf154
 v124:=Tryz.zeroValue154}
def YtaemeijeaajoeaaGreatDoor.atoiL_ren:Go.Shelf.Ren:=⟨fun|172=>110 |244=>122 |245=>123 |247=>136 |279=>137 |280=>138 |281=>139 |282=>140 |287=>147 |316=>148 |171=>62 |205=>149 |321=>153 |322=>154 |243=>91 |246=>112 |283=>124 |284=>125 |285=>126 |286=>127 |129=>142 |317=>141 |318=>143 |319=>144 |320=>145 |337=>150 |338=>151 |n=>n,fun|9=>9 |3=>3 |75=>145 |76=>146 |4=>4 |5=>5 |167=>178 |37=>36 |0=>0 |85=>179 |2=>2 |168=>181 |53=>136 |175=>193 |46=>177 |210=>197 |127=>160 |145=>203 |143=>201 |21=>21 |171=>167 |173=>170 |212=>185 |51=>186 |20=>20 |213=>187 |232=>204 |233=>205 |80=>114 |n=>n,fun|15=>4 |16=>5 |17=>0 |18=>6 |19=>7 |n=>n⟩
theorem YtaemeijeaajoeaaGreatDoor.atoiL:Go.Proofs.LaysC.n172 Tryz.prog YtaemeijeaajoeaaGreatDoor.atoiL_ren:={
 mixed:=by kernel_rfl
 f129:=Tryz.func142.trans (congrArg some (by kernel_rfl))
 f171:=Tryz.func62.trans (congrArg some (by kernel_rfl))
 f172:=Tryz.func110.trans (congrArg some (by kernel_rfl))
 f205:=Tryz.func149.trans (congrArg some (by kernel_rfl))
 f243:=Tryz.func91.trans (congrArg some (by kernel_rfl))
 f244:=Tryz.func122.trans (congrArg some (by kernel_rfl))
 f245:=Tryz.func123.trans (congrArg some (by kernel_rfl))
 f246:=Tryz.func112.trans (congrArg some (by kernel_rfl))
 f247:=Tryz.func136.trans (congrArg some (by kernel_rfl))
 f279:=Tryz.func137.trans (congrArg some (by kernel_rfl))
 f280:=Tryz.func138.trans (congrArg some (by kernel_rfl))
 f281:=Tryz.func139.trans (congrArg some (by kernel_rfl))
 f282:=Tryz.func140.trans (congrArg some (by kernel_rfl))
 f283:=Tryz.func124.trans (congrArg some (by kernel_rfl))
 f284:=Tryz.func125.trans (congrArg some (by kernel_rfl))
 f285:=Tryz.func126.trans (congrArg some (by kernel_rfl))
 f286:=Tryz.func127.trans (congrArg some (by kernel_rfl))
 f287:=Tryz.func147.trans (congrArg some (by kernel_rfl))
 f316:=Tryz.func148.trans (congrArg some (by kernel_rfl))
 f317:=Tryz.func141.trans (congrArg some (by kernel_rfl))
 f318:=Tryz.func143.trans (congrArg some (by kernel_rfl))
 f319:=Tryz.func144.trans (congrArg some (by kernel_rfl))
 f320:=Tryz.func145.trans (congrArg some (by kernel_rfl))
 f321:=Tryz.func153.trans (congrArg some (by kernel_rfl))
 f322:=Tryz.func154.trans (congrArg some (by kernel_rfl))
 f337:=Tryz.func150.trans (congrArg some (by kernel_rfl))
 f338:=Tryz.func151.trans (congrArg some (by kernel_rfl))
 t0:=Tryz.underlying0
 a0:=Tryz.isAgg0
 z0:=Tryz.sizeOf0
 v0:=Tryz.zeroValue0
 t2:=Tryz.underlying2
 a2:=Tryz.isAgg2
 z2:=Tryz.sizeOf2
 v2:=Tryz.zeroValue2
 t3:=Tryz.underlying3
 a3:=Tryz.isAgg3
 z3:=Tryz.sizeOf3
 v3:=Tryz.zeroValue3
 t4:=Tryz.underlying4
 a4:=Tryz.isAgg4
 z4:=Tryz.sizeOf4
 v4:=Tryz.zeroValue4
 t5:=Tryz.underlying5
 a5:=Tryz.isAgg5
 z5:=Tryz.sizeOf5
 v5:=Tryz.zeroValue5
 t9:=Tryz.underlying9
 a9:=Tryz.isAgg9
 z9:=Tryz.sizeOf9
 v9:=Tryz.zeroValue9
 t20:=Tryz.underlying20
 a20:=Tryz.isAgg20
 z20:=Tryz.sizeOf20
 v20:=Tryz.zeroValue20
 t21:=Tryz.underlying21
 a21:=Tryz.isAgg21
 z21:=Tryz.sizeOf21
 v21:=Tryz.zeroValue21
 t37:=Tryz.underlying36
 a37:=Tryz.isAgg36
 z37:=Tryz.sizeOf36
 v37:=Tryz.zeroValue36
 t46:=Tryz.underlying177
 a46:=Tryz.isAgg177
 z46:=Tryz.sizeOf177
 v46:=Tryz.zeroValue177
 t51:=Tryz.underlying186
 a51:=Tryz.isAgg186
 z51:=Tryz.sizeOf186
 v51:=Tryz.zeroValue186
 t53:=Tryz.underlying136
 a53:=Tryz.isAgg136
 z53:=Tryz.sizeOf136
 v53:=Tryz.zeroValue136
 t75:=Tryz.underlying145
 a75:=Tryz.isAgg145
 z75:=Tryz.sizeOf145
 v75:=Tryz.zeroValue145
 t76:=Tryz.underlying146
 a76:=Tryz.isAgg146
 z76:=Tryz.sizeOf146
 v76:=Tryz.zeroValue146
 t85:=Tryz.underlying179
 a85:=Tryz.isAgg179
 z85:=Tryz.sizeOf179
 v85:=Tryz.zeroValue179
 t127:=Tryz.underlying160
 a127:=Tryz.isAgg160
 z127:=Tryz.sizeOf160
 v127:=Tryz.zeroValue160
 t143:=Tryz.underlying201
 a143:=Tryz.isAgg201
 z143:=Tryz.sizeOf201
 v143:=Tryz.zeroValue201
 t145:=Tryz.underlying203
 a145:=Tryz.isAgg203
 z145:=Tryz.sizeOf203
 v145:=Tryz.zeroValue203
 t167:=Tryz.underlying178
 a167:=Tryz.isAgg178
 z167:=Tryz.sizeOf178
 v167:=Tryz.zeroValue178
 t168:=Tryz.underlying181
 a168:=Tryz.isAgg181
 z168:=Tryz.sizeOf181
 v168:=Tryz.zeroValue181
 t171:=Tryz.underlying167
 a171:=Tryz.isAgg167
 z171:=Tryz.sizeOf167
 v171:=Tryz.zeroValue167
 t173:=Tryz.underlying170
 a173:=Tryz.isAgg170
 z173:=Tryz.sizeOf170
 v173:=Tryz.zeroValue170
 t175:=Tryz.underlying193
 a175:=Tryz.isAgg193
 z175:=Tryz.sizeOf193
 v175:=Tryz.zeroValue193
 t210:=Tryz.underlying197
 a210:=Tryz.isAgg197
 z210:=Tryz.sizeOf197
 v210:=Tryz.zeroValue197
 t212:=Tryz.underlying185
 a212:=Tryz.isAgg185
 z212:=Tryz.sizeOf185
 v212:=Tryz.zeroValue185
 t213:=Tryz.underlying187
 a213:=Tryz.isAgg187
 z213:=Tryz.sizeOf187
 t232:=Tryz.underlying204
 a232:=Tryz.isAgg204
 z232:=Tryz.sizeOf204
 v232:=Tryz.zeroValue204
 t233:=Tryz.underlying205
 a233:=Tryz.isAgg205
 z233:=Tryz.sizeOf205
 v233:=Tryz.zeroValue205
 g15:=by kernel_rfl
 g16:=by kernel_rfl
 g17:=by kernel_rfl
 g18:=by kernel_rfl
 g19:=by kernel_rfl
 t80:=Tryz.underlying114
 a80:=Tryz.isAgg114
 z80:=Tryz.sizeOf114
 v80:=Tryz.zeroValue114
 i0:=by kernel_rfl
 i2:=by kernel_rfl
 i3:=by kernel_rfl
 i4:=by kernel_rfl
 i5:=by kernel_rfl
 i9:=by kernel_rfl
 i20:=by kernel_rfl
 i21:=by kernel_rfl
 i37:=by kernel_rfl
 i46:=by kernel_rfl
 i51:=by kernel_rfl
 i53:=by kernel_rfl
 i75:=by kernel_rfl
 i76:=by kernel_rfl
 i80:=by kernel_rfl
 i85:=by kernel_rfl
 i127:=by kernel_rfl
 i143:=by kernel_rfl
 i145:=by kernel_rfl
 i167:=by kernel_rfl
 i168:=by kernel_rfl
 i171:=by kernel_rfl
 i173:=by kernel_rfl
 i175:=by kernel_rfl
 i210:=by kernel_rfl
 i212:=by kernel_rfl
 i232:=by kernel_rfl
 i233:=by kernel_rfl
 m15:=by kernel_rfl
 m16:=by kernel_rfl
 m17:=by kernel_rfl
 m18:=by kernel_rfl
 m19:=by kernel_rfl
 c0:=by kernel_rfl
 c2:=by kernel_rfl
 c3:=by kernel_rfl
 c4:=by kernel_rfl
 c5:=by kernel_rfl
 c9:=by kernel_rfl
 c20:=by kernel_rfl
 c21:=by kernel_rfl
 c37:=by kernel_rfl
 c46:=by kernel_rfl
 c51:=by kernel_rfl
 c53:=by kernel_rfl
 c75:=by kernel_rfl
 c76:=by kernel_rfl
 c80:=by kernel_rfl
 c85:=by kernel_rfl
 c127:=by kernel_rfl
 c143:=by kernel_rfl
 c145:=by kernel_rfl
 c167:=by kernel_rfl
 c168:=by kernel_rfl
 c171:=by kernel_rfl
 c173:=by kernel_rfl
 c175:=by kernel_rfl
 c210:=by kernel_rfl
 c212:=by kernel_rfl
 c213:=by kernel_rfl
 c232:=by kernel_rfl
 c233:=by kernel_rfl}
end Go.Proofs
end
section
namespace Go.Proofs.YtaemeijeaajoeaaGreatDoor
open Go Go.Vc Go.Proofs
variable {w:World} {K:Value→World→Prop} {F G:Nat→Prop}
theorem dw_nil {α:Type} {p:α->Bool}:∀{l:List α},l.dropWhile p=[]↔ ∀x,x∈l->p x=true
 |[]=>by simp
 |a::l=>by
  rw[List.dropWhile_cons];split
  ·rename_i h;rw[dw_nil];constructor
   ·intro b x c;rcases List.mem_cons.1 c with rfl|c
    ·exact h
    ·exact b x c
   ·intro b x c;exact b x (List.mem_cons_of_mem _ c)
  ·rename_i h;constructor
   ·intro b;cases b
   ·intro b;exact absurd (b a List.mem_cons_self) h
theorem dw_head {α:Type} {p:α->Bool}:∀{l:List α},l.dropWhile p≠[]->∃x,x∈l.dropWhile p/\p x=false
 |[],h=>absurd rfl h
 |a::l,h=>by
  rw[List.dropWhile_cons] at h⊢;split
  ·rename_i b;rw[if_pos b] at h;exact dw_head h
  ·rename_i b;exact⟨a,List.mem_cons_self,by simpa using b⟩
theorem dw_sub {α:Type} {p:α->Bool}:∀{l:List α} {x:α},x∈l.dropWhile p->x∈l
 |[],_,h=>h
 |a::l,x,h=>by
  rw[List.dropWhile_cons] at h;split at h
  ·exact List.mem_cons_of_mem _ (dw_sub h)
  ·exact h
theorem Vz {l cs:List UInt8}:Lib.trimS l cs=[]↔ ∀x,x∈l->cs.contains x=true:=by
 unfold Lib.trimS Lib.trimLeftS Lib.trimRightS;rw[dw_nil];constructor
 ·intro h;by_cases a:∀x,x∈l->cs.contains x=true
  ·exact a
  ·exfalso;have b:List.dropWhile (fun x=>cs.contains x) l.reverse≠[]:=fun e=>a fun x c=>dw_nil.1 e x (List.mem_reverse.2 c);obtain⟨y,g,f⟩:=dw_head b;have d:=h y (List.mem_reverse.2 g);rw[f] at d;cases d
 ·intro h x c;exact h x (List.mem_reverse.1 (dw_sub (List.mem_reverse.1 c)))
def abc:ByteArray:=⟨#[97,98,99,100,101,102,103,104,105,106,107,108,109,110,111,112,113,114,115,116,117,118,119,120,121,122]⟩
theorem abc_in (x:UInt8):abc.data.toList.contains x=(decide (97<=x.toNat)&&decide (x.toNat<=122)):=by
 have a:∀n:Fin 256,abc.data.toList.contains (UInt8.ofNat n.1)=(decide (97<=(UInt8.ofNat n.1).toNat)&&decide ((UInt8.ofNat n.1).toNat<=122)):=by decide+kernel
 have:=a ⟨x.toNat,x.toNat_lt⟩;simpa using this
theorem jn {w w':World} (h:Go.RowKit.Below w.heap.size w w'):Ext w w':=⟨h.os,h.tape,h.output,h.size,fun b a _=>h.block b a⟩
def Je (s:ByteArray):Bool:=s.data.all fun c=>decide (97≤c.toNat)&&decide (c.toNat≤122)
theorem Ve {s:ByteArray} (i:s.size<=9223372036854775807) (f:∀w' r,Ext w w'->(r=⟨#[]⟩↔Je s=true)->K (.string r) w'):vcall PP kU #[.string s,.string abc] w K:=by
 refine⟨by kernel_rfl,?_⟩;refine(Any.strings_Trim_laid YtaemeijeaajoeaaGreatDoor.trimL (by kernel_rfl) s abc w i (by decide) (ascii_of_all (by decide))).mono ?_;rintro e w' ⟨rfl,g⟩;refine f w' _ (jn g) ?_;have c:((⟨(Lib.trimS s.data.toList abc.data.toList).toArray⟩:ByteArray)=⟨#[]⟩)↔Lib.trimS s.data.toList abc.data.toList=[]:=by
  constructor
  ·intro h;have d:=congrArg (fun b:ByteArray=>b.data.toList) h;simpa using d
  ·intro h;rw[h]
 rw[c,Vz];unfold Je;rw[Array.all_eq_true_iff_forall_mem];constructor
 ·intro h x a;rw[<-abc_in];exact h x (Array.mem_toList_iff.2 a)
 ·intro h x a;rw[abc_in];exact h x (Array.mem_toList_iff.1 a)
theorem stDecl {b:Nat} {x y:Value} {t:TypeId} {s:ByteArray} {n:Int} (h:Blk w b [x,y] t) (c:∀w',Same (· =b) w w'->w'.heap.size=w.heap.size->Blk w' b [.string s,.int .i64 n] t->K undef w'):zk PP zp (.pointer (some ⟨b,0,none⟩)) (.agg ⟨[.string s,.int .i64 n]⟩) w K:=
 h.stAgg rfl (by kernel_rfl) (by intro v a;simp only[List.mem_cons,List.not_mem_nil,or_false] at a;rcases a with rfl|rfl<;>rfl) c
theorem jW (s:ByteArray):M.nameOk s=(decide (1<=s.size)&&decide (s.size<=4)&&decide (s≠M.tru)&&Je s):=rfl
theorem DeclOk_spec {v:Value} {ds:List M.Dcl} (L:DclsR F w v ds) (D:∀w',Ext w w'->K (.bool (M.declOk ds)) w'):vcall PP jH #[v] w K:=by
 apply QZ;unfold Yi;simp(disch:=(simp only[push_cast];done)) only[push_cast,L.len];refine zd (fun a=>?_) (fun a=>?_)
 ·have:=D w (Same.refl _ _);rwa[show M.declOk ds=false from by rw[Bool.eq_false_iff];intro h;have:=(M.decl_iff.1 h).1;omega] at this
 refine vloop_up ds.length (fun i u w'=>u=[.int .i64 (M.bitT ds i),.int .i64 i]/\Ext w w'/\(∀j,j<i->M.dclOk ds j=true)/\ -4*(i:Int)<=M.bitT ds i/\M.bitT ds i<=4*i) ⟨rfl,Same.refl _ _,by omega,by simp[M.bitT],by simp[M.bitT]⟩ ?_;rintro i _ _ w1 C hi ⟨rfl,o,q,a0,a1⟩ hC;have E:=L.ext o;simp only[push_cast];refine zd (fun b=>?_) (fun b=>?_)
 ·have z:i<ds.length:=(by omega);have d:M.dclOk ds i=false->∀w',Ext w w'->K (.bool false) w':=fun e w' he=>by
   have:=D w' he;rwa[show M.declOk ds=false from by rw[Bool.eq_false_iff];intro h;have:=(M.decl_iff.1 h).2.1 i z;rw[e] at this;cases this] at this
  unfold M.dclOk at d;rw[jW] at d;simp(disch:=first|(simp only[push_cast];done)|omega) only[push_cast,E.iaddr,E.load];obtain⟨s,n,B⟩:∃s n,ds.getD i Yy=(s,n):=⟨_,_,rfl⟩;simp only[B] at d⊢;refine zw xk fun b1 w2 S N a4 W=>?_;refine stDecl W fun U P _ Q=>?_;have a6:=o.size;have k:Ext w U:=Ext.then (o.trans N) P fun y hy=>by subst hy;omega
  refine zI (fun u w'=>u=[]/\Ext U w'/\M.nameOk s=true) (fun C' J=>?_) ?_
  ·simp(disch:=first|(simp only[push_cast];done)|omega) only[push_cast,Q.ld0,yl ji];refine zd (fun c=>?_) (fun c=>?_)
   ·exact d (by rw[decide_eq_false (show¬1<=s.size by omega)];simp) _ k
   refine zd (fun c2=>?_) (fun c2=>?_)
   ·exact d (by rw[decide_eq_false (show¬s.size<=4 by omega)];simp) _ k
   refine zd (fun c3=>?_) (fun c3=>?_)
   ·exact d (by rw[show decide (s≠M.tru)=false from decide_eq_false (fun h=>h c3)];simp) _ k
   refine Ve (by omega) fun w4 r l T=>?_;simp only[push_cast];refine zd (fun c4=>?_) (fun c4=>?_)
   ·have:Je s=false:=by
     rw[Bool.eq_false_iff];exact fun h=>c4 (T.2 h)
    exact d (by rw[this];simp) _ (k.trans l)
   ·have I:r=⟨#[]⟩:=by
     by_cases h:r=⟨#[]⟩
     ·exact h
     ·exact absurd h c4
    refine J _ _ ⟨rfl,l,?_⟩;rw[jW,decide_eq_true (show 1<=s.size by omega),decide_eq_true (show s.size<=4 by omega),show decide (s≠M.tru)=true from decide_eq_true c3,T.1 I];rfl
  ·rintro u g w4 ⟨rfl,l,A⟩;have R:=Q.ext l;have f:=k.trans l;have G:=L.ext f;rw[jW] at A;rw[A] at d;rw[G.cut (by intro e;subst e;simp at z) (by kernel_rfl) (by omega)];simp only[push_cast];have a3:(ds.take i).length=i:=by rw[List.length_take];omega
   refine Yx (p:=fun j=>decide (((ds.take i).getD j Yy).1=s)) (G.taken (by omega)) (fun j hj=>?_) fun w5 m=>?_
   ·intro w' K he D;simp only[push_cast];apply XA;unfold ky;refine zB fun b3 w6 a2 H a5 Y=>?_;have Z:=(R.ext he).ext H;simp(disch:=first|(simp only[push_cast];done)|omega) only[push_cast,Y.ld0,Z.ld0];exact D _ H
   ·rw[<-Zt];have X:=R.ext m;have efd:idxI (ds.take i).length (fun j=>decide (((ds.take i).getD j Yy).1=s))=M.findD (ds.take i) s:=rfl;rw[efd];refine zd (fun c=>?_) (fun c=>?_)
    ·exact d (by rw[decide_eq_false (show¬M.findD (ds.take i) s<0 by omega)];simp) _ (f.trans m)
    simp(disch:=first|(simp only[push_cast];done)|omega) only[push_cast,X.ld1];refine zd (fun V=>?_) (fun V=>?_)
    ·exact d (by rw[decide_eq_false (show¬1<=n by omega)];simp) _ (f.trans m)
    refine zd (fun c2=>?_) (fun c2=>?_)
    ·exact d (by rw[decide_eq_false (show¬n<=4 by omega)];simp) _ (f.trans m)
    have t:=M.bitT_succ z;rw[show ds.getD i (M.nada,0)=(s,n) from B] at t;rw[zF (x:=M.bitT ds i+n) (by omega) (by omega),inc64' (by omega),show M.bitT ds i+n=M.bitT ds (i+1) from t.symm];refine hC (by omega) _ _ ⟨rfl,f.trans m,fun j hj=>?_,by omega,by omega⟩;by_cases e:j=i
    ·subst e;unfold M.dclOk;rw[show ds.getD j (M.nada,0)=(s,n) from B,jW,A];simp only[Bool.true_and,Bool.and_eq_true,decide_eq_true_eq];exact⟨⟨by omega,by omega⟩,by omega⟩
    ·exact q j (by omega)
 ·have O:i=ds.length:=(by omega);subst O;have:=D w1 o;rw[M.bitT_all];have e:M.declOk ds=decide (M.bits ds<=8):=by
   rw[Bool.eq_iff_iff,M.decl_iff,decide_eq_true_eq];exact⟨fun h=>h.2.2,fun h=>⟨by omega,q,h⟩⟩
  rwa[e] at this
theorem TermSort_spec {dv v:Value} {ds:List M.Dcl} {t:M.Tm} (r:DclsR F w dv ds) (z:TermR G w v t) (q:∀w',Ext w w'->K (.int .i64 (M.tsort ds t)) w'):vcall PP yT #[dv,v] w K:=by
 apply Xw;unfold kr;obtain⟨cs,rfl,c⟩:=z.cells;refine zB fun b1 C u g y n=>?_;rw[n.ldAgg (t:=za) (by rw[yd c];exact zm)];refine TermMany_spec (c.ext g).term fun D i=>?_;simp only[push_cast];have e:=g.trans i;refine DeclOk_spec (r.ext e) fun A j=>?_;have f:=e.trans j;have m:=q A f;unfold M.tsort at m;simp only[push_cast];refine zR (fun a=>?_) (fun a=>?_)
 ·rwa[if_neg (fun h=>by rw[h.2] at a;cases a)] at m
 ·rw[Bool.not_eq_false'] at a;refine zd (fun b=>?_) (fun b=>?_)
  ·rw[if_neg (fun h=>by
    have n:=M.fits_iff.1 h.1;unfold M.manyM at b;rw[if_pos h.1] at b;omega)] at m
   exact m
  ·have x:M.fits t=true:=by
    by_cases h:M.fits t=true
    ·exact h
    ·unfold M.manyM at b;rw[if_neg h] at b;omega
   refine zU fun E k _=>?_;have p:=((n.ext i).ext j).ext k;rw[p.ldAgg (t:=za) (by rw[yd c];exact zm)];refine⟨rfl,Qm fun H mb l hm=>?_⟩;have s:=p.ext l;rw[s.ldAgg (t:=za) (by rw[yd c];exact zm)];have d:=(f.trans k).trans l;refine⟨⟨rfl,rfl⟩,sortOf_spec t hm (r.ext d) a (c.ext d).term fun B o=>?_⟩;have:=q B (d.trans o);unfold M.tsort at this;rwa[if_pos ⟨x,a⟩] at this
end Go.Proofs.YtaemeijeaajoeaaGreatDoor
end
section
namespace Go.Proofs.YtaemeijeaajoeaaGreatDoor
open Go Go.Vc Go.Proofs
variable {w:World} {K:Value→World→Prop} {F G:Nat→Prop}
theorem l2Name_spec {s:ByteArray} (t:s.size<=9223372036854775807) (d:K (.bool (M.nameOk s)) w):vcall PP jA #[.string s] w K:=by
 apply QJ;unfold Y3;rw[jW] at d;refine vloop_up s.size (fun i u w'=>u=[.int .i64 i]/\w'=w/\∀j,j<i->(decide (97<=(s.data.getD j 0).toNat)&&decide ((s.data.getD j 0).toNat<=122))=true) ⟨rfl,rfl,by omega⟩ ?_;rintro i _ _ v C r ⟨rfl,rfl,g⟩ o;simp(disch:=first|(simp only[push_cast];done)|omega) only[push_cast,yl ji];have l:i<s.size->(decide (97<=(s.data.getD i 0).toNat)&&decide ((s.data.getD i 0).toNat<=122))=false->Je s=false:=fun f h=>by
  rw[Bool.eq_false_iff];intro k;unfold Je at k;rw[Array.all_eq_true_iff_forall_mem] at k;have m:i<s.data.size:=f;have:=k (s.data.getD i 0) (by rw[Array.getD_eq_getD_getElem?,Array.getElem?_eq_getElem m];exact Array.getElem_mem m);rw[h] at this;cases this
 refine zd (fun a=>?_) (fun a=>?_)
 ·have f:i<s.size:=(by omega);rw[vindex_str ji (by omega) (by omega),Int.toNat_natCast];simp only[push_cast];refine zd (fun b=>?_) (fun b=>?_)
  ·rw[l f (by rw[decide_eq_false (show¬97<=(s.data.getD i 0).toNat by omega)];rfl),Bool.and_false] at d;exact d
  rw[vindex_str ji (by omega) (by omega),Int.toNat_natCast];simp only[push_cast];refine zd (fun c=>?_) (fun c=>?_)
  ·rw[l f (by rw[decide_eq_false (show¬(s.data.getD i 0).toNat<=122 by omega)];simp),Bool.and_false] at d;exact d
  rw[inc64' (by omega)];refine o f _ _ ⟨rfl,rfl,fun j n=>?_⟩;by_cases e:j=i
  ·subst e;simp only[Bool.and_eq_true,decide_eq_true_eq];omega
  ·exact g j (by omega)
 ·have p:i=s.size:=(by omega);have k:Je s=true:=by
   unfold Je;rw[Array.all_eq_true_iff_forall_mem];intro x q;obtain⟨j,n,rfl⟩:=Array.getElem_of_mem q;have:=g j (by have:s.data.size=s.size:=rfl;omega);rwa[Array.getD_eq_getD_getElem?,Array.getElem?_eq_getElem n] at this
  rw[k,Bool.and_true] at d
  try simp(disch:=first|(simp only[push_cast];done)|omega) only[push_cast,yl ji]
  refine zd (fun b=>?_) (fun b=>?_)
  ·refine zd (fun c=>?_) (fun c=>?_)
   ·rw[decide_eq_true (show 1<=s.size by omega),decide_eq_true (show s.size<=4 by omega)] at d;exact d
   ·rw[decide_eq_false (show¬s.size<=4 by omega)] at d;simpa using d
  ·rw[decide_eq_false (show¬1<=s.size by omega)] at d;simpa using d
theorem l2Find_spec {v:Value} {ds:List M.Dcl} {s:ByteArray} (f:DclsR F w v ds) (d:K (.int .i64 (M.findD ds s)) w):vcall PP ql #[v,.string s] w K:=by
 apply QN;unfold Y6;have k:=f.small;refine vloop_up ds.length (fun i u w'=>u=[.int .i64 i]/\w'=w/\∀j,j<i->(ds.getD j Yy).1≠s) ⟨rfl,rfl,by omega⟩ ?_;rintro i _ _ m C l ⟨rfl,rfl,c⟩ g;simp(disch:=(simp only[push_cast];done)) only[push_cast,f.len];refine zd (fun a=>?_) (fun a=>?_)
 ·try simp(disch:=first|(simp only[push_cast];done)|omega) only[push_cast,f.iaddr]
  try simp(disch:=first|(simp only[push_cast];done)|omega) only[push_cast,f.load0]
  refine zd (fun b=>?_) (fun b=>?_)
  ·rw[M.findD_of (by omega) b c] at d;exact d
  ·rw[inc64' (by omega)];refine g (by omega) _ _ ⟨rfl,rfl,fun j h=>?_⟩;by_cases e:j=i
   ·subst e;exact b
   ·exact c j (by omega)
 ·rw[M.findD_none (fun j h=>c j (by omega))] at d;exact d
theorem spec_DeclOk_spec {v:Value} {ds:List M.Dcl} (G:DclsR F w v ds) (E:∀i,i<ds.length->(ds.getD i Yy).1.size<=9223372036854775807) (B:∀w',Ext w w'->K (.bool (M.declOk ds)) w'):vcall PP jF #[v] w K:=by
 apply QU;unfold Yd;simp(disch:=(simp only[push_cast];done)) only[push_cast,G.len];refine zd (fun a=>?_) (fun a=>?_)
 ·have:=B w (Same.refl _ _);rwa[show M.declOk ds=false from by rw[Bool.eq_false_iff];intro h;have:=(M.decl_iff.1 h).1;omega] at this
 refine vloop_up ds.length (fun i u w'=>u=[.int .i64 (M.bitT ds i),.int .i64 i]/\Ext w w'/\(∀j,j<i->M.dclOk ds j=true)/\ -4*(i:Int)<=M.bitT ds i/\M.bitT ds i<=4*i) ⟨rfl,Same.refl _ _,by omega,by simp[M.bitT],by simp[M.bitT]⟩ ?_;rintro i _ _ N C O ⟨rfl,p,m,J,L⟩ I;have r:=G.ext p;simp(disch:=(simp only[push_cast];done)) only[push_cast,r.len];refine zd (fun b=>?_) (fun b=>?_)
 ·have g:i<ds.length:=(by omega);have f:M.dclOk ds i=false->∀w',Ext w w'->K (.bool false) w':=fun e w' he=>by
   have:=B w' he;rwa[show M.declOk ds=false from by rw[Bool.eq_false_iff];intro h;have:=(M.decl_iff.1 h).2.1 i g;rw[e] at this;cases this] at this
  unfold M.dclOk at f;refine zU fun z t _=>?_;have d:=r.ext t;have k:=p.trans t;simp(disch:=first|(simp only[push_cast];done)|omega) only[push_cast,d.iaddr,true_and];simp(disch:=first|(simp only[push_cast];done)|omega) only[push_cast,d.load0,d.load1,true_and];have y:=E i g;have o:=M.bitT_succ g;obtain⟨s,n,l⟩:∃s n,ds.getD i Yy=(s,n):=⟨_,_,rfl⟩;rw[show ds.getD i (M.nada,0)=(s,n) from l] at o;simp only[l] at f y⊢;refine l2Name_spec y ?_;simp only[push_cast,true_and];refine zR (fun c=>?_) (fun c=>?_)
  ·exact f (by rw[show M.nameOk s=false by simpa using c];simp) _ k
  rw[Bool.not_eq_false'] at c;rw[c] at f;have ecut:∀(w:World) (K:Value->World->Prop),yx PP zl v none (some (.int .i64 (i:Int))) none w K=K (cutV v i) w:=fun w K=>d.cut (by intro e;subst e;simp at g) (by kernel_rfl) (by omega);have A:∀(K:Value->World->Prop),zg PP ze (.pointer (some ((eaddr v 2 i).add 0))) z K=K (.string s) z:=fun K=>(by rw[d.load0 VH g,l]);have q:∀(K:Value->World->Prop),zg PP zb (.pointer (some ((eaddr v 2 i).add 1))) z K=K (.int .i64 n) z:=fun K=>by rw[d.load1 o_int g,l]
  try simp(disch:=first|(simp only[push_cast];done)|omega) only[push_cast,d.iaddr,true_and]
  try simp(disch:=first|(simp only[push_cast];done)|omega) only[push_cast,d.iaddr,A,q,ecut,true_and]
  refine zd (fun H=>?_) (fun H=>?_)
  ·exact f (by rw[decide_eq_false (show¬1<=n by omega)];simp) _ k
  refine zd (fun c2=>?_) (fun c2=>?_)
  ·exact f (by rw[decide_eq_false (show¬n<=4 by omega)];simp) _ k
  refine l2Find_spec (d.taken (by omega)) ?_;simp only[push_cast,true_and];refine zd (fun c3=>?_) (fun c3=>?_)
  ·exact f (by rw[decide_eq_false (show¬M.findD (ds.take i) s<0 by omega)];simp) _ k
  try simp(disch:=first|(simp only[push_cast];done)|omega) only[push_cast,d.iaddr]
  try simp(disch:=first|(simp only[push_cast];done)|omega) only[push_cast,q]
  rw[zF (x:=M.bitT ds i+n) (by omega) (by omega),inc64' (by omega),show M.bitT ds i+n=M.bitT ds (i+1) from o.symm];refine I (by omega) _ _ ⟨rfl,k,fun j P=>?_,by omega,by omega⟩;by_cases e:j=i
  ·subst e;unfold M.dclOk;rw[show ds.getD j (M.nada,0)=(s,n) from l,c];simp only[Bool.true_and,Bool.and_eq_true,decide_eq_true_eq];exact⟨⟨by omega,by omega⟩,by omega⟩
  ·exact m j (by omega)
 ·have D:i=ds.length:=(by omega);subst D;have:=B N p;rw[M.bitT_all];have e:M.declOk ds=decide (M.bits ds<=8):=by
   rw[Bool.eq_iff_iff,M.decl_iff,decide_eq_true_eq];exact⟨fun h=>h.2.2,fun h=>⟨by omega,m,h⟩⟩
  rwa[e] at this
theorem spec_TermMany_spec:∀(t:M.Tm) {w:World} {K:Value->World->Prop} {F:Nat->Prop} {v:Value},TermR F w v t->(∀w',Ext w w'->K (.tuple #[.int .i64 (M.manyM t),.int .i64 (M.lvlM t)]) w')->vcall PP xt #[v] w K:=by
 refine M.Tm.ind fun t ih w K F v ht Q=>?_;apply Xu;unfold kp;obtain⟨ksv,rfl,y⟩:=ht;refine zB fun b1 w1 R D a0 O=>?_;have a1:=y.small;have hS:=M.szT_all t;have hD:=M.dpT_all t;have k:M.fits t=true↔M.sizeM t<=20/\M.deepM t<=7:=M.fits_iff;refine vloop_up t.ks.length (fun i u w'=> ∃n d:Nat,u=[.int .i64 n,.int .i64 d,.int .i64 i]/\Ext w1 w'/\n<=41/\d<=8/\(1+M.szT t.ks i<=20/\M.dpT t.ks i<=7->n=1+M.szT t.ks i/\d=M.dpT t.ks i)/\(¬(1+M.szT t.ks i<=20/\M.dpT t.ks i<=7)->20<n\/7<d))
  ⟨1,0,rfl,Same.refl _ _,by omega,by omega,fun h=>⟨rfl,rfl⟩,fun h=>by
   have I:M.szT t.ks 0=0:=rfl;have e2:M.dpT t.ks 0=0:=rfl;omega⟩ ?_
 rintro i _ _ z C hi ⟨n,d,rfl,o,c1,c2,c3,c4⟩ P;have J:=O.ext o;have L:=D.trans o;have l:=y.ext L;have U:=M.szT_mono (ks:=t.ks) (i:=i) (j:=t.ks.length) (by omega) (Nat.le_refl _);have V:=M.dpT_mono (ks:=t.ks) (i:=i) (j:=t.ks.length) (by omega) (Nat.le_refl _);have I:IntKind.i64.wrap ((d:Int)+1)=((d+1:Nat):Int):=inc64' (by omega);have m:(20<n\/i=t.ks.length)->∀q,(q=K)->vif (.bool (decide ((20:Int)<n))) (q (.tuple #[.int .i64 21,.int .i64 8]) z) (vif (.bool (decide ((7:Int)<((d+1:Nat):Int)))) (q (.tuple #[.int .i64 21,.int .i64 8]) z) (q (.tuple #[.int .i64 (n:Int),.int .i64 ((d+1:Nat):Int)]) z)):=by
  rintro Z q rfl;have p:=Q z L;unfold M.manyM M.lvlM at p;have c:(20<n\/7<d+1)->¬(M.fits t=true):=fun h S=>by
   have N:=k.1 S;have:=c3 (by omega);omega
  refine zd (fun a=>?_) (fun a=>?_)
  ·rw[if_neg (c (by omega)),if_neg (c (by omega))] at p;exact p
  refine zd (fun b=>?_) (fun b=>?_)
  ·rw[if_neg (c (by omega)),if_neg (c (by omega))] at p;exact p
  ·have G:i=t.ks.length:=(by omega);subst G;have r:M.sizeM t<=20/\M.deepM t<=7:=by
    by_cases h:1+M.szT t.ks t.ks.length<=20/\M.dpT t.ks t.ks.length<=7
    ·have:=c3 h;omega
    ·have:=c4 h;omega
   have h3:=c3 (by omega);rw[if_pos (k.2 r),if_pos (k.2 r)] at p;rw[show n=M.sizeM t by omega,show d+1=M.deepM t by omega];exact p
 refine zI (fun u w'=>u=[]/\w'=z/\i<t.ks.length/\n<=20) (fun C' A=>?_) ?_
 ·simp(disch:=(simp only[push_cast];done)) only[push_cast,J.ld4,l.len,I];refine zd (fun a=>?_) (fun a=>?_)
  ·refine zd (fun b=>?_) (fun b=>?_)
   ·exact A _ _ ⟨rfl,rfl,by omega,by omega⟩
   ·exact m (.inl (by omega)) K rfl
  ·exact m (.inr (by omega)) K rfl
 ·rintro u g w3 ⟨rfl,rfl,T,hn⟩;have W:=M.szT_succ (ks:=t.ks) (i:=i) (by omega);have X:=M.dpT_succ (ks:=t.ks) (i:=i) (by omega);have Y:=M.szT_mono (ks:=t.ks) (i:=i+1) (j:=t.ks.length) (by omega) (Nat.le_refl _);simp(disch:=first|(simp only[push_cast];done)|omega) only[push_cast,J.ld4,l.iaddr];refine l.load zm (by omega) fun x N=>?_;refine ih _ (M.getD_mem (by omega) _) N fun w4 E=>?_;have f:=M.fits_iff (t:=t.ks.getD i default);have H:M.manyM (t.ks.getD i default)<=21:=by
   unfold M.manyM;split
   ·have:=f.1 (by assumption);omega
   ·omega
  have B:M.lvlM (t.ks.getD i default)<=8:=by
   unfold M.lvlM;split
   ·have:=f.1 (by assumption);omega
   ·omega
  have e:M.sizeM (t.ks.getD i default)<=20/\M.deepM (t.ks.getD i default)<=7->M.manyM (t.ks.getD i default)=M.sizeM (t.ks.getD i default)/\M.lvlM (t.ks.getD i default)=M.deepM (t.ks.getD i default):=fun h=>by
   unfold M.manyM M.lvlM;rw[if_pos (f.2 h),if_pos (f.2 h)];exact⟨rfl,rfl⟩
  have c: ¬(M.sizeM (t.ks.getD i default)<=20/\M.deepM (t.ks.getD i default)<=7)->M.manyM (t.ks.getD i default)=21/\M.lvlM (t.ks.getD i default)=8:=fun h=>by
   unfold M.manyM M.lvlM;rw[if_neg (fun x=>h (f.1 x)),if_neg (fun x=>h (f.1 x))];exact⟨rfl,rfl⟩
  generalize M.manyM (t.ks.getD i default)=nk at H e c⊢;generalize M.lvlM (t.ks.getD i default)=dk at B e c⊢;simp only[push_cast];refine l1Max_spec ?_
  try simp only[push_cast]
  rw[inc64' (by omega),zF (x:=(n:Int)+nk) (by omega) (by omega),show(n:Int)+(nk:Int)=((n+nk:Nat):Int) by omega,show max (d:Int) (dk:Int)=((max d dk:Nat):Int) by omega];refine P (by omega) _ _ ⟨n+nk,max d dk,rfl,o.trans E,by omega,by omega,fun h=>?_,fun h=>?_⟩
  ·have:=c3 (by omega);have:=e (by omega);omega
  ·by_cases r:M.sizeM (t.ks.getD i default)<=20/\M.deepM (t.ks.getD i default)<=7
   ·have h5:=e r;by_cases s:1+M.szT t.ks i<=20/\M.dpT t.ks i<=7
    ·have:=c3 s;omega
    ·have:=c4 s;omega
   ·have:=c r;omega
end Go.Proofs.YtaemeijeaajoeaaGreatDoor
end
section
namespace Go.Proofs.YtaemeijeaajoeaaGreatDoor
open Go Go.Vc Go.Proofs
variable {w:World} {K:Value→World→Prop} {F G:Nat→Prop}
theorem l2Arity_spec {o:Int} (f:K (.int .i64 (M.arity o)) w):vcall PP j5 #[.int .i64 o] w K:=by
 apply XU;unfold Z4;have d:∀c,M.arity o=c->K (.int .i64 c) w:=by grind
 refine zI (fun u w'=>u=[.bool (decide (o=20\/o=21\/o=24))]/\w'=w) (fun C e=>?_) ?_
 ·simp only[push_cast];refine zd (fun a=>?_) (fun a=>?_)
  ·grind
  refine zd (fun b=>?_) (fun b=>?_)
  ·grind
  grind
 ·rintro u g h ⟨rfl,rfl⟩;simp only[push_cast]
  repeat' first
   |exact d _ (by
    unfold M.arity;repeat' split
    all_goals omega)
   |refine zd (fun _=>?_) (fun _=>?_)
theorem l2Plain_spec {v:Value} {t:M.Tm} (y:TermR F w v t) (n:∀w',Ext w w'->K (.bool (M.formed t)) w'):vcall PP j4 #[v] w K:=by
 apply XR;unfold Z1;obtain⟨ksv,rfl,m⟩:=y;refine zB fun b1 o q f x j=>?_;have A:=n _ f;have k:M.plainM t=false->K (.bool false) o:=fun h=>by
  simp_all[M.formed]
 unfold M.plainM at k;refine zI (fun u w'=>u=[]/\w'=o/\(decide (t.op=21)||decide (t.s=M.nada))=true) (fun C p=>?_) ?_
 ·simp(disch:=(simp only[push_cast];done)) only[push_cast,j.ld0,j.ld3];refine zd (fun a=>?_) (fun a=>?_)
  ·refine zd (fun b=>?_) (fun b=>?_)
   ·grind [M.nada]
   grind [M.nada]
  grind
 rintro u g z ⟨rfl,rfl,r⟩;rw[r,Bool.and_true] at k;refine zI (fun u w'=>u=[]/\w'=z/\(decide (t.op=20)||decide (t.op=22)||(decide (t.a=0)&&decide (t.b=0)))=true) (fun C p=>?_) ?_
 ·simp(disch:=(simp only[push_cast];done)) only[push_cast,j.ld0,j.ld1,j.ld2];refine zd (fun a=>?_) (fun a=>?_)
  ·refine zd (fun b=>?_) (fun b=>?_)
   ·refine zd (fun c=>?_) (fun c=>?_)
    ·grind
    grind [zd]
   grind
  grind
 rintro u g B ⟨rfl,rfl,hm⟩;refine zU fun D i _=>?_;have l:=j.ext i;have d:=m.ext (f.trans i);simp(disch:=(simp only[push_cast];done)) only[push_cast,l.ld0,l.ld4,d.len,true_and];refine l2Arity_spec ?_;simp(disch:=(simp only[push_cast];done)) only[push_cast,l.ld4,d.len,true_and,and_self];have:=n _ (f.trans i);have e:M.formed t=decide ((t.ks.length:Int)=M.arity t.op):=by
  unfold M.formed M.plainM
  grind
 grind
theorem l2One_spec {v:Value} {t:M.Tm} {a:Int} (o:TermR F w v t) (s: -1<=a/\a<=4) (r:∀w',Ext w w'->K (.int .i64 (M.oneM t a)) w'):vcall PP jX #[v,.int .i64 a] w K:=by
 apply Jn;unfold Yz;obtain⟨ksv,rfl,m⟩:=o;refine zB fun b1 i j k n f=>?_;have l:∀c,M.oneM t a=c->K (.int .i64 c) i:=by grind
 unfold M.oneM at l;refine zI (fun u w'=>u=[.bool (decide (t.op=25/\a=0))]/\w'=i) (fun C h=>?_) ?_
 ·simp(disch:=(simp only[push_cast];done)) only[push_cast,f.ld0]
  grind [zd]
 rintro u g p ⟨rfl,rfl⟩;simp only[push_cast];refine zd (fun b=>?_) (fun b=>?_)
 ·grind
 refine zI (fun u w'=>u=[.bool (decide (t.op=25\/a<1))]/\w'=p) (fun C h=>?_) ?_
 ·simp(disch:=(simp only[push_cast];done)) only[push_cast,f.ld0]
  grind [zd]
 rintro u g q ⟨rfl,rfl⟩;simp only[push_cast];refine zd (fun c=>?_) (fun c=>?_)
 ·grind
 simp(disch:=(simp only[push_cast];done)) only[push_cast,f.ld0];refine zd (fun d=>?_) (fun d=>?_)
 ·refine zI (fun u w'=>u=[.bool (decide (0<=t.b/\t.b<=t.a/\t.a<a))]/\w'=q) (fun C h=>?_) ?_
  ·simp(disch:=(simp only[push_cast];done)) only[push_cast,f.ld1,f.ld2]
   grind [zd]
  rintro u g x ⟨rfl,rfl⟩;simp only[push_cast];refine zd (fun e=>?_) (fun e=>?_)
  ·simp(disch:=(simp only[push_cast];done)) only[push_cast,f.ld1,f.ld2]
   grind [zF]
  grind
 grind
theorem l2Both_spec {o a b:Int} (k: -1<=a/\a<=4) (h: -1<=b/\b<=4) (j:K (.int .i64 (M.bothM o a b)) w):vcall PP jC #[.int .i64 o,.int .i64 a,.int .i64 b] w K:=by
 apply QP;unfold Y8;have d:∀c,M.bothM o a b=c->K (.int .i64 c) w:=by grind
 unfold M.bothM at d;refine zI (fun u w'=>u=[.bool (decide (o=26\/o=27))]/\w'=w) (fun C f=>?_) ?_
 ·simp only[push_cast]
  grind [zd]
 rintro u g i ⟨rfl,rfl⟩;simp only[push_cast];refine zd (fun c=>?_) (fun c=>?_)
 ·grind [zd]
 refine zI (fun u w'=>u=[.bool (decide (a<1\/b<1))]/\w'=i) (fun C f=>?_) ?_
 ·grind [zd]
 rintro u g l ⟨rfl,rfl⟩;have e:IntKind.i64.wrap (a+b)=a+b:=zF (by omega) (by omega);simp only[push_cast,e]
 repeat' first
  |exact d _ (by
   repeat' split
   all_goals omega)
  |refine zd (fun _=>?_) (fun _=>?_)
theorem l2Sort_spec:∀(t:M.Tm) {w:World} {K:Value->World->Prop} {F G:Nat->Prop} {dv v:Value} {ds:List M.Dcl},DclsR F w dv ds->M.declOk ds=true->TermR G w v t->(∀w',Ext w w'->K (.int .i64 (M.sortM ds t)) w')->vcall PP yY #[dv,v] w K:=by
 refine M.Tm.ind fun t L w K F G dv v ds D f U Z=>?_;apply QH;unfold Y1;obtain⟨ksv,rfl,l⟩:=U;refine zB fun b1 w1 P q S N=>?_;have y:∀c w',M.sortM ds t=c->Ext w w'->K (.int .i64 c) w':=by grind
 rw[N.ldAgg (t:=za) zm];refine l2Plain_spec (F:=G) (t:=t) ⟨ksv,rfl,l.ext q⟩ fun w2 r=>?_;have p:=q.trans r;have n:=N.ext r;simp only[push_cast];refine zR (fun a=>?_) (fun a=>?_)
 ·grind [M.sort_bad]
 have x:M.formed t=true:=by simpa using a
 have O:=(M.formed_iff.1 x).1;have j:=D.ext p;simp(disch:=(simp only[push_cast];done)) only[push_cast,n.ld0];refine zd (fun c20=>?_) (fun c20=>?_)
 ·have B:t.ks.length=0:=(by grind [M.arity]);have R:=M.sort_leaf (ds:=ds) x B;simp(disch:=(simp only[push_cast];done)) only[push_cast,n.ld1,n.ld2];refine spec_VecOk_spec fun X e=>?_;have o:=n.ext e;refine zR (fun b=>?_) (fun b=>?_)
  ·simp(disch:=(simp only[push_cast];done)) only[push_cast,o.ld1];exact y _ _ (by simp_all[M.sortK]) (p.trans e)
  ·exact y _ _ (by simp_all[M.sortK]) (p.trans e)
 refine zd (fun c21=>?_) (fun c21=>?_)
 ·have B:t.ks.length=0:=(by grind [M.arity]);have R:=M.sort_leaf (ds:=ds) x B;have Q:=M.findD_lt ds t.s;simp(disch:=(simp only[push_cast];done)) only[push_cast,n.ld3];refine l2Find_spec j ?_
  try simp only[push_cast]
  refine zd (fun b=>?_) (fun b=>?_)
  ·grind [M.sortK]
  ·try simp(disch:=first|(simp only[push_cast];done)|omega) only[push_cast,j.iaddr]
   try simp(disch:=first|(simp only[push_cast];done)|omega) only[push_cast,j.load1]
   grind [M.sortK]
 refine zd (fun c24=>?_) (fun c24=>?_)
 ·have B:t.ks.length=0:=(by grind [M.arity]);simp_all[M.sort_leaf,M.sortK]
 have hlen:t.ks.length=1\/t.ks.length=2\/t.ks.length=3:=by
  grind [M.arity]
 have m:=l.ext p;simp(disch:=first|(simp only[push_cast];done)|omega) only[push_cast,n.ld4,m.iaddr];refine m.load zm (by omega) fun x0 H=>?_;refine L (M.kid t 0) (M.kid_mem (by omega)) j f H fun X e=>?_;have o:=n.ext e;have h:=p.trans e;have d:=l.ext h;have A:=M.sort_range f (M.kid t 0);simp(disch:=first|(simp only[push_cast];done)|omega) only[push_cast,o.ld4,d.len];refine zd (fun V=>?_) (fun V=>?_)
 ·rw[o.ldAgg (t:=za) zm];refine l2One_spec (F:=G) (t:=t) ⟨ksv,rfl,d⟩ A fun Y k=>?_;exact y _ _ (M.sort_one f x (by omega)) (h.trans k)
 simp(disch:=first|(simp only[push_cast];done)|omega) only[push_cast,o.ld4,d.iaddr];refine d.load zm (by omega) fun x1 I=>?_;refine L (M.kid t 1) (M.kid_mem (by omega)) (D.ext h) f I fun Y k=>?_;have C:=o.ext k;have i:=h.trans k;have g:=l.ext i;have E:=M.sort_range f (M.kid t 1);simp(disch:=first|(simp only[push_cast];done)|omega) only[push_cast,C.ld4,C.ld0,g.len];refine zd (fun W=>?_) (fun W=>?_)
 ·refine l2Both_spec A E ?_
  grind [M.sort_two]
 have T:=M.sort_three (ds:=ds) x (by omega);refine zd (fun z=>?_) (fun z=>?_)
 ·grind
 simp(disch:=first|(simp only[push_cast];done)|omega) only[push_cast,C.ld4,g.iaddr];refine g.load zm (by omega) fun x2 J=>?_;refine L (M.kid t 2) (M.kid_mem (by omega)) (D.ext i) f J fun w5 u=>?_;simp only[push_cast];refine zd (fun z2=>?_) (fun z2=>?_)
 ·exact y _ _ (by omega) (i.trans u)
 ·exact y _ _ (by omega) (i.trans u)
def Vg (ds:List M.Dcl):Prop:=∀i,i<ds.length→(ds.getD i Yy).1.size≤9223372036854775807
theorem spec_TermSort_spec {dv v:Value} {ds:List M.Dcl} {t:M.Tm} (n:Vg ds) (p:DclsR F w dv ds) (x:TermR G w v t) (o:∀w',Ext w w'->K (.int .i64 (M.tsort ds t)) w'):vcall PP yR #[dv,v] w K:=by
 apply Xs;unfold kn;obtain⟨cs,rfl,e⟩:=x.cells;refine zB fun b1 A s g u k=>?_;rw[k.ldAgg (t:=za) (by rw[yd e];exact zm)];refine spec_TermMany_spec t (e.ext g).term fun B i=>?_;simp only[push_cast];have f:=g.trans i;refine spec_DeclOk_spec (p.ext f) n fun y j=>?_;have d:=f.trans j;have m:=o y d;unfold M.tsort at m;simp only[push_cast];refine zR (fun a=>?_) (fun a=>?_)
 ·grind
 rw[Bool.not_eq_false'] at a;refine zd (fun b=>?_) (fun b=>?_)
 ·rw[if_neg (fun h=>by
   have k:=M.fits_iff.1 h.1;unfold M.manyM at b
   grind)] at m
  exact m
 have q:M.fits t=true:=by
  grind [M.manyM]
 refine zd (fun c=>?_) (fun c=>?_)
 ·unfold M.lvlM at c;rw[if_pos q] at c;have:=M.fits_iff.1 q;omega
 have r:=(k.ext i).ext j;rw[r.ldAgg (t:=za) (by rw[yd e];exact zm)];refine l2Sort_spec t (p.ext d) a (e.ext d).term fun z l=>?_;have:=o z (d.trans l);simp_all[M.tsort]
end Go.Proofs.YtaemeijeaajoeaaGreatDoor
end
section
namespace Go.Proofs.YtaemeijeaajoeaaGreatDoor
open Go Go.Vc Go.Proofs
variable {w:World} {K:Value→World→Prop} {F Fr F':Nat→Prop}
def Bytes (F:Nat→Prop) (w:World) (v:Value) (xs:List Nat):Prop:=Vals F w v (xs.map fun x=>Value.int .u8 (x:Nat))∧∀x,x∈xs→x<256
theorem Bytes.same {S:Nat->Prop} {w':World} {v:Value} {xs:List Nat} (h:Bytes F w v xs) (hw:Same S w w') (a:∀b,F b->b<w.heap.size->¬S b):Bytes F w' v xs:=⟨h.1.same hw a,h.2⟩
theorem Bytes.ext {w':World} {v:Value} {xs:List Nat} (h:Bytes F w v xs) (hw:Ext w w'):Bytes F w' v xs:=⟨h.1.ext hw,h.2⟩
theorem Bytes.load {v:Value} {xs:List Nat} (h:Bytes F w v xs) {e:TypeId} (he:oneB PP e=true) {i:Nat} (a:i<xs.length):zg PP e (.pointer (some (eaddr v 1 i))) w K=K (.int .u8 (xs.getD i 0:Nat)) w:=by
 rw[Vals.load h.1 he (by simpa using a)];simp[List.getD_eq_getElem?_getD,a]
theorem Bytes.len {w':World} {v:Value} {xs:List Nat} (h:Bytes F w v xs) {t:TypeId} (a:isSl PP t=true) (ty:TypeId):vbi PP .len [t] ty [v] w' K=K (.int .i64 xs.length) w':=by
 have:=Vals.len (K:=K) (w':=w') h.1 a ty;rwa[List.length_map] at this
theorem Bytes.iaddr {w':World} {v:Value} {xs:List Nat} (h:Bytes F w v xs) {t:TypeId} (c:elB PP t 1=true) {kd:IntKind} {i:Int} (a:0<=i) (b:i<xs.length):
  zC PP t v (.int kd i) w' K=K (.pointer (some (eaddr v 1 i.toNat))) w':=Vals.iaddr h.1 c a (by simpa using b)
structure RdR (F:Nat→Prop) (w:World) (b:Nat) (v:Value) (xs:List Nat) (p:Nat):Prop where
 blk:Blk w b [v,.int .i64 p] zA
 bytes:Bytes F w v xs
 apart: ¬F b
 few:xs.length≤2000
theorem RdR.same {S:Nat->Prop} {w':World} {b p:Nat} {v:Value} {xs:List Nat} (h:RdR F w b v xs p) (hw:Same S w w') (a: ¬S b) (c:∀b,F b->b<w.heap.size->¬S b):RdR F w' b v xs p:=
 ⟨h.blk.same hw a,h.bytes.same hw c,h.apart,h.few⟩
theorem RdR.ext {w':World} {b p:Nat} {v:Value} {xs:List Nat} (h:RdR F w b v xs p) (hw:Ext w w'):RdR F w' b v xs p:=h.same hw id fun _ _ _ h=>h
theorem l12Open_spec {v:Value} {xs:List Nat} (p:Bytes F w v xs) (hF:∀b,F b->b<w.heap.size)
  (D:∀w' b f ys,Ext w w'->RdR F w' b f ys 0->w.heap.size<=b->K (.pointer (some ⟨b,0,none⟩)) w'):vcall PP xR #[v] w K:=by
 apply XV;unfold Z5;simp(disch:=(simp only[push_cast];done)) only[push_cast,p.len];have fin:∀(f:Value) (ys:List Nat),Bytes F w f ys->ys.length<=2000->zr PP zA [(0,f)] w fun t9 g=>xS PP zA t9 g fun t10 j=>K t10 j:=fun f ys k H=>by
  refine Kb Jz (us:=[[f]]) (by simp[k.1.cells1]) rfl ?_;refine JY fun b L O n J C=>?_;exact D L b f ys n ⟨C,k.ext n,fun h=>by have:=hF b h;omega,H⟩ (by omega)
 refine zd (fun a=>?_) (fun a=>fin v xs p (by omega));have m:yx PP zu v none (some (.int .i64 (2000:Nat))) none w fun t7 s=>zr PP zA [(0,t7)] s fun t9 g=>xS PP zA t9 g fun t10 j=>K t10 j:=by
  obtain⟨a0,c0,rfl,E,r,d⟩:=p.1.shape;rw[Sl.cut p.1 (fun a l c e=>?_) VS (by simp;omega)]
  ·refine fin _ (xs.take 2000) ⟨⟨⟨a0,c0,?_,?_,r,fun I=>?_⟩,fun y k=>?_⟩,fun y k=>p.2 y (List.mem_of_mem_take k)⟩ (by simp;omega)
   ·simp only[cutV,List.length_map,List.length_take];rw[Nat.min_eq_left (by omega)]
   ·simp at E⊢;omega
   ·obtain⟨b,o,q,z,A,B⟩:=d (fun e=>by simp at e;subst e;simp at a);refine⟨b,o,q,z,A,fun i G=>?_⟩;simp only[List.length_map,List.length_take] at G;have:=B i (by simp;omega);have e:(((xs.take 2000).map fun x=>Value.int .u8 (x:Nat)).map fun x=>[x]).getD i []=((xs.map fun x=>Value.int .u8 (x:Nat)).map fun x=>[x]).getD i []:=by
     simp only[List.getD_eq_getElem?_getD,List.getElem?_map,List.getElem?_take];rw[if_pos (by omega)]
    rw[e];exact this
   ·obtain⟨u,_,rfl⟩:=List.mem_map.1 k;rfl
  ·injection e with t M N
   obtain⟨b,o,q,_⟩:=d (fun e=>by simp at e;subst e;simp at a);exact⟨b,o,by rw[q] at t;exact(Option.some.inj t).symm⟩
 exact m
theorem pick_spec {b p:Nat} {v:Value} {xs:List Nat} {n:Int} (h:RdR F w b v xs p) (hn:n<=1099511627776) (hp:p<1099511627776)
  (C:∀w' (k:Nat),Same (· =b) w w'->w'.heap.size=w.heap.size->RdR F w' b v xs (p+1)->(1<=n->(k:Int)<n)->(n<1->k=0)->K (.int .i64 k) w'):vcall PP zn #[.pointer (some ⟨b,0,none⟩),.int .i64 n] w K:=by
 apply Yq;unfold jq;have R:=h.few;simp(disch:=(simp only[push_cast];done)) only[push_cast,h.blk.ld1];have y:IntKind.i64.wrap ((p:Int)+1)=((p+1:Nat):Int):=by rw[zF (by omega) (by omega)];omega
 rw[y];refine h.blk.st rfl rfl jQ rfl fun B g l M=>?_;have t:Blk B b [v,.int .i64 (p+1:Nat)] zA:=M;have u:RdR F B b v xs (p+1):=⟨t,h.bytes.same g fun x q _ e=>h.apart (e▸q),h.apart,h.few⟩;have q:=u.bytes;refine zI (fun _ w'=>w'=B/\1<=n/\xs.length≠0) ?_ ?_
 ·intro J hJ;refine zd (fun a=>?_) (fun a=>?_)
  ·exact C B 0 g l u (fun h=>by omega) fun _=>rfl
  ·simp(disch:=(simp only[push_cast];done)) only[push_cast,t.ld0,q.len];refine zd (fun a2=>?_) (fun a2=>?_)
   ·exact C B 0 g l u (fun h=>by omega) fun _=>rfl
   ·exact hJ _ _ ⟨rfl,by omega,by omega⟩
 rintro _ _ _ ⟨rfl,h1,a0⟩;simp(disch:=(simp only[push_cast];done)) only[t.ld0,t.ld1,JX,kj,Xf,yD,Nat.zero_add,JZ,q.len];rw[show((p+1:Nat):Int)-1=(p:Int) from by omega,zF (by omega) (by omega)];simp only[qi];have f:∀i,i<xs.length->xs.getD i 0<256:=fun i S=>q.2 _ (by rw[List.getD_eq_getElem?_getD,List.getElem?_eq_getElem S];exact List.getElem_mem S);have o:∀x:Nat,((x:Int).tmod n)=((x%n.toNat:Nat):Int)/\((x%n.toNat:Nat):Int)<n:=fun x=>by
  obtain⟨m,rfl⟩:∃m:Nat,n=m:=⟨n.toNat,by omega⟩;rw[Int.toNat_natCast];exact⟨rfl,by have:=Nat.mod_lt x (show 0<m by omega);omega⟩
 refine zd (fun a=>?_) (fun a=>?_)
 ·simp(disch:=first|(simp only[push_cast];done)|omega) only[t.ld0,q.iaddr,Int.toNat_natCast,q.load,qx YT Ji];have hb:=f p (by omega);rw[zF (by omega) (by omega),ZH (by omega)];obtain⟨m1,m2⟩:=o (xs.getD p 0);rw[m1];exact C _ _ g l u (fun _=>m2) fun h=>by omega
 ·refine zU fun w2 j r=>?_;have T:=t.ext j;have s:=q.ext j;have z:(xs.length:Int)≠0:=(by omega);have V:((p:Int).tmod xs.length)=((p%xs.length:Nat):Int):=by rw[Int.tmod_eq_emod_of_nonneg (by omega)];rfl
  have l1:p%xs.length<xs.length:=Nat.mod_lt _ (by omega);have W:IntKind.i64.wrap ((p:Int)*7)=((p*7:Nat):Int):=by rw[zF (by omega) (by omega)];omega
  have Y:IntKind.i64.wrap (((p*7:Nat):Int)+3)=((p*7+3:Nat):Int):=by rw[zF (by omega) (by omega)];omega
  have Z:(((p*7+3:Nat):Int).tmod xs.length)=(((p*7+3)%xs.length:Nat):Int):=by rw[Int.tmod_eq_emod_of_nonneg (by omega)];rfl
  have l2:(p*7+3)%xs.length<xs.length:=Nat.mod_lt _ (by omega);have b1:=f _ l1;have U:=f _ l2;generalize N:xs.getD (p%xs.length) 0=c at b1;generalize A:xs.getD ((p*7+3)%xs.length) 0=d at U;have e5:IntKind.i64.wrap ((c:Nat):Int)=((c:Nat):Int):=zF (by omega) (by omega);have e6:IntKind.i64.wrap ((d:Nat):Int)=((d:Nat):Int):=zF (by omega) (by omega);have e7:IntKind.i64.wrap (((c:Nat):Int)*131)=((c*131:Nat):Int):=by rw[zF (by omega) (by omega)];omega
  have e8:IntKind.i64.wrap (((d:Nat):Int)*1117)=((d*1117:Nat):Int):=by rw[zF (by omega) (by omega)];omega
  have e9:IntKind.i64.wrap (((c*131:Nat):Int)+((d*1117:Nat):Int))=((c*131+d*1117:Nat):Int):=by rw[zF (by omega) (by omega)];omega
  have D:IntKind.i64.wrap ((p:Int)*29)=((p*29:Nat):Int):=by rw[zF (by omega) (by omega)];omega
  have E:IntKind.i64.wrap (((c*131+d*1117:Nat):Int)+((p*29:Nat):Int))=((c*131+d*1117+p*29:Nat):Int):=by rw[zF (by omega) (by omega)];omega
  obtain⟨Q,O⟩:∃Q,Q=p/xs.length:=⟨_,rfl⟩;have hq:Q<=p:=by rw[O];exact Nat.div_le_self _ _
  have G:IntKind.i64.wrap ((p:Int).tdiv xs.length)=((Q:Nat):Int):=by
   have:(p:Int).tdiv xs.length=(Q:Int):=by rw[O];rfl
   rw[this];exact zF (by omega) (by omega)
  have H:IntKind.i64.wrap (((Q:Nat):Int)*53)=((Q*53:Nat):Int):=by rw[zF (by omega) (by omega)];omega
  have I:IntKind.i64.wrap (((c*131+d*1117+p*29:Nat):Int)+((Q*53:Nat):Int))=((c*131+d*1117+p*29+Q*53:Nat):Int):=by rw[zF (by omega) (by omega)];omega
  simp(disch:=first|(simp only[push_cast];done)|omega) only[T.ld0,JX,kj,yD,Nat.zero_add,true_and,s.len,ZH z,Qp z,Vx,jw,V,W,Y,Z,G,s.iaddr,Int.toNat_natCast,s.load,N,A,qx YT Ji,e5,e6,e7,e8,e9,D,E,H,I];have P:c*131+d*1117+p*29+Q*53<9223372036854775808:=(by omega);generalize c*131+d*1117+p*29+Q*53=X at P⊢;have L:IntKind.i64.wrap ((X:Int).tdiv 64)=((X/64:Nat):Int):=by
   have:(X:Int).tdiv 64=((X/64:Nat):Int):=rfl;rw[this];exact zF (by omega) (by omega)
  rw[Qp (by omega),L,Kc P (by omega),ZH (by omega)];obtain⟨m1,m2⟩:=o (X^^^X/64);rw[m1];exact C _ _ (g.trans (Same.of_ext j)) (by rw[r];exact l) (u.ext j) (fun _=>m2) fun h=>by omega
theorem num_spec {b p:Nat} {v vs:Value} {xs:List Nat} {ns:List Int} (h:RdR F w b v xs p) (i:Ints F' w vs ns) (d:ns≠[]) (q:ns.length<=1000) (o:p<1099511627776) (c:∀x,F' x->x≠b)
  (l:∀w' m,Same (· =b) w w'->w'.heap.size=w.heap.size->RdR F w' b v xs (p+1)->m∈ns->K (.int .i64 m) w'):vcall PP zT #[.pointer (some ⟨b,0,none⟩),vs] w K:=by
 apply YN;unfold jM;have f:=List.length_pos_iff.2 d;simp(disch:=(simp only[push_cast];done)) only[push_cast,i.len];refine pick_spec h (by omega) o fun t k g s n j _=>?_;have u:=j (by omega);have a:=i.same g fun x r _ e=>c x r e;simp(disch:=first|(simp only[push_cast];done)|omega) only[push_cast,a.iaddr,a.load];exact l t _ g s n (M.getD_mem (by omega) _)
end Go.Proofs.YtaemeijeaajoeaaGreatDoor
end
section
namespace Go.Proofs.YtaemeijeaajoeaaGreatDoor
open Go Go.Vc Go.Proofs
variable {w:World} {K:Value→World→Prop} {F F' D:Nat→Prop}
@[push_cast] theorem bd_Decl (s:ByteArray) (n:Int):zr PP zp [(0,.string s),(1,.int .i64 n)] w K=K (.agg ⟨[.string s,.int .i64 n]⟩) w:=ye JT (us:=[[.string s],[.int .i64 n]]) rfl rfl
abbrev OwnD (w:World) (v:Value) (ds:List M.Dcl):Prop:=Own PP 0 2 zl w v (ds.map fun d=>[.string d.1,.int .i64 d.2])
def Dok (ds:List M.Dcl):Prop:=ds.length≤5∧∀i,i<ds.length→1≤(ds.getD i Yy).2∧(ds.getD i Yy).2≤4∧(ds.getD i Yy).1.size≤5
theorem OwnD.dcls {v:Value} {ds:List M.Dcl} (h:OwnD w v ds):DclsR (fun b=>v.ownBlock=some b) w v ds:=Own.sl h
def WZ:List ByteArray:=[⟨#[120]⟩,⟨#[121]⟩,⟨#[122]⟩,⟨#[119]⟩]
set_option maxRecDepth 20000 in
theorem gd_ok {ds:List M.Dcl} (h:Dok ds) (m:ds.length<=4) (n:ds.map (·.1)=WZ.take ds.length) (g:M.bits ds<=8):M.declOk ds=true:=by
 have nm:∀i,i<ds.length->(ds.getD i (M.nada,0)).1=WZ.getD i M.nada:=fun i c=>by
  rw[<-M.getD_map (·.1) c M.nada (M.nada,0),n,M.take_getD c]
 refine M.decl_iff.2 ⟨m,fun i c=>?_,g⟩;have hw:=h.2 i c;have d:∀j,j<i->(ds.getD j (M.nada,0)).1≠(ds.getD i (M.nada,0)).1:=fun j e=>by
  rw[nm j (by omega),nm i c];have:∀a b:Fin 4,b.1<a.1->WZ.getD b.1 M.nada≠WZ.getD a.1 M.nada:=(by decide);exact this ⟨i,by omega⟩ ⟨j,by omega⟩ e
 have k:M.findD (ds.take i) (ds.getD i (M.nada,0)).1= -1:=M.findD_none fun j e=>by
  rw[List.length_take] at e;rw[M.take_getD (by omega)];exact d j (by omega)
 have l:M.nameOk (ds.getD i (M.nada,0)).1=true:=by
  rw[nm i c];have:∀a:Fin 4,M.nameOk (WZ.getD a.1 M.nada)=true:=(by decide+kernel);exact this ⟨i,by omega⟩
 unfold M.dclOk;rw[l,k];have f:1<=(ds.getD i (M.nada,0)).2/\(ds.getD i (M.nada,0)).2<=4:=⟨hw.1,hw.2.1⟩;rw[decide_eq_true f.1,decide_eq_true f.2];rfl
set_option maxRecDepth 20000 in
theorem l2Decls_spec3 {b p:Nat} {v:Value} {xs:List Nat} (h:RdR F w b v xs p) (hF:∀x,F x->x<w.heap.size) (hp:p+100<1099511627776)
  (hK:∀w' D dv ds,Same (· =b) w w'->RdR F w' b v xs D->D<=p+100->DclsR (fun x=>w.heap.size<=x) w' dv ds->Dok ds->M.declOk ds=true->0<ds.length->K dv w'):vcall PP x9 #[.pointer (some ⟨b,0,none⟩)] w K:=by
 apply XT;unfold Z3;have lb:=h.blk.lt;refine vbuildS_row1 (xs:=WZ.map .string) qz (by kernel_rfl) qu (fun x o=>by obtain⟨s,_,rfl⟩:=List.mem_map.1 o;rfl) (by decide) fun b1 w1 ab A ak Y=>?_;have a2:Vals (· =b1) w1 (.slice (some ⟨b1,0,none⟩) (WZ.map Value.string).length (WZ.map Value.string).length) (WZ.map Value.string):=Y.sl1 rfl (by decide);refine vbuildS_row (xs:=[]) (us:=[]) (k:=2) xU qv xk rfl (by simp) (by decide) fun b2 w2 ac H al h2=>?_;have ho:OwnD w2 (.slice (some ⟨b2,0,none⟩) 0 0) []:=Blk.ownk (css:=[]) h2 (by simp) rfl (by decide);have V:=(h.ext A).ext H;refine vloop_up 4 (fun i u w'=> ∃sv ds D,∃bits:Int,u=[sv,.int .i64 bits,.int .i64 i]/\Same (· =b) w w'/\RdR F w' b v xs D/\D<=p+2*i/\OwnD w' sv ds/\(∀x,sv.ownBlock=some x->w1.heap.size<=x)/\ds.length=i/\Dok ds/\0<=bits/\bits<=4*i/\Vals (· =b1) w' (.slice (some ⟨b1,0,none⟩) (WZ.map Value.string).length (WZ.map Value.string).length) (WZ.map Value.string)/\ds.map (·.1)=WZ.take i/\bits=M.bits ds/\bits<=8)
  ⟨_,[],p,0,rfl,Same.of_ext (A.trans H),V,by omega,ho,fun x o=>by have e:x=b2:=(Option.some.inj o).symm;omega,rfl,⟨by simp,fun i hi=>by simp at hi⟩,by omega,by omega,a2.ext H,rfl,rfl,by omega⟩ ?_
 rintro i _ _ w3 C hi ⟨sv,ds,D,bits,rfl,m,W,ai,Q,l,B,G,aa,ae,a6,E,L,af⟩ hC;have ao:=m.size;have an:=A.size;have t:∀z T,Same (· =b) w3 z->RdR F z b v xs T->T<=p+2*i+2->0<i->K sv z:=fun z T hs hR aj ag=>by
  refine hK z T sv ds (m.trans hs) hR (by omega) ?_ G (gd_ok G (by omega) (by rw[B];exact E) (by omega)) (by omega);exact((Q.same hs fun x o e=>by have:=l x o;omega).sl).weaken fun x o _=>by have:=l x o;omega
 refine zI (fun u z=>u=[]/\Same (· =b) w3 z/\RdR F z b v xs (D+1)/\i<4) (fun C' U=>?_) ?_
 ·refine pick_spec W (by omega) (by omega) fun z k y ap r Z _=>?_;have:=Z (by omega);simp only[push_cast];rw[zF (x:=1+(k:Int)) (by omega) (by omega)];refine zd (fun a=>?_) (fun a=>?_)
  ·refine zd (fun c=>?_) (fun c=>?_)
   ·exact U _ _ ⟨rfl,y,r,by omega⟩
   ·exact t _ _ y r (by omega) (by omega)
  ·exact t _ _ y r (by omega) (by omega)
 ·rintro u g z ⟨rfl,y,r,N⟩;refine pick_spec r (by omega) (by omega) fun w5 k a5 a8 J Z _=>?_;have ah:=Z (by omega);have d:=y.trans a5;simp only[push_cast];rw[zF (x:=1+(k:Int)) (by omega) (by omega),zF (x:=8-bits) (by omega) (by omega)];refine l1Min_spec ?_;obtain⟨n,hn⟩:∃n:Int,n=min (1+(k:Int)) (8-bits):=⟨_,rfl⟩;rw[<-hn];simp only[push_cast];refine zd (fun a=>?_) (fun a=>?_)
  ·exact t _ _ d J (by omega) (by omega)
  ·have I:=a6.same d fun x o _ e=>by have:=h.blk.lt;have:=A.size;omega
   have hlen:(WZ.map Value.string).length=4:=rfl;have e1:(WZ.map Value.string).getD i undef= .string (WZ.getD i ⟨#[]⟩):=M.getD_map _ (show i<WZ.length from N) _ _;rw[I.iaddr (by kernel_rfl) (by omega) (by rw[hlen];omega),Int.toNat_natCast,I.load (by kernel_rfl) (by rw[hlen];omega),e1];have S:(WZ.getD i ⟨#[]⟩).size<=1:=by
    rcases(by omega:i=0\/i=1\/i=2\/i=3) with rfl|rfl|rfl|rfl<;>decide
   generalize P:WZ.getD i ⟨#[]⟩=nm at S⊢;simp only[push_cast];refine YQ xU qv xk rfl rfl (by decide) fun b3 w6 ad f am h6=>?_;have a3:=(Q.same d fun x o e=>by have:=l x o;omega).ext f;refine Own.app1k a3 kh (by decide) h6 rfl (by intro v hv;simp only[List.mem_cons,List.not_mem_nil,or_false] at hv;rcases hv with rfl|rfl<;>rfl) (by rw[List.length_map,B];omega) (by rw[List.length_map,B];omega) fun a9 w7 a4 q a0=>?_;have a8:=d.size;have aq:=f.size;have R:Same (· =b) w w7:=by
    refine⟨q.os.trans (f.os.trans (d.os.trans m.os)),q.tape.trans (f.tape.trans (d.tape.trans m.tape)),q.output.trans (f.output.trans (d.output.trans m.output)),Nat.le_trans (((m.trans d).trans (Same.of_ext f)).size) q.size,fun x o a1=>?_⟩;rw[q.block x (by have:=((m.trans d).trans (Same.of_ext f)).size;omega) (fun e=>by have:=l x e;omega)];exact((m.trans d).trans (Same.of_ext f)).block x o a1
   have X:RdR F w7 b v xs (D+1+1):=(J.ext f).same q (fun e=>by have:=l b e;omega) fun x o _ e=>by have:=l x e;have:=hF x o;omega
   have a7:=(I.ext f).same q (fun x o _ e=>by have:=l x e;omega);rw[inc64' (by omega),zF (x:=bits+n) (by omega) (by omega)];refine hC (by omega) _ _ ⟨a9,ds++[(nm,n)],D+1+1,bits+n,rfl,R,X,by omega,by rw[OwnD,List.map_append];exact a4,fun x o=>?_,by rw[List.length_append];simp[B],⟨by rw[List.length_append];simp;omega,fun j hj=>?_⟩,by omega,by omega,a7,?_,?_,by omega⟩
   ·rcases a0 x o with h|h
    ·exact l x h
    ·omega
   ·rw[List.length_append] at hj;by_cases O:j<ds.length
    ·rw[List.getD_eq_getElem?_getD,List.getElem?_append_left O,<-List.getD_eq_getElem?_getD];exact G.2 j O
    ·have:j=ds.length:=by simp at hj;omega
     subst this;rw[List.getD_eq_getElem?_getD,List.getElem?_append_right (by omega)];simp only[Nat.sub_self,List.getElem?_cons_zero,Option.getD_some];exact⟨by omega,by omega,Nat.le_trans S (by decide)⟩
   ·rw[List.map_append,E,M.take_add (show i<WZ.length from N) ⟨#[]⟩,P];rfl
   ·rw[L];unfold M.bits;rw[List.map_append,List.sum_append];simp
theorem Qw {b p:Nat} {v:Value} {xs:List Nat} (h:RdR F w b v xs p) (hF:∀x,F x->x<w.heap.size) (k:p+100<1099511627776)
  (j:∀w' a dv ds,Same (· =b) w w'->RdR F w' b v xs a->a<=p+100->DclsR (fun x=>w.heap.size<=x) w' dv ds->Dok ds->M.declOk ds=true->K dv w'):vcall PP x9 #[.pointer (some ⟨b,0,none⟩)] w K:=
 l2Decls_spec3 h hF k fun w' a dv ds c d e f g i _=>j w' a dv ds c d e f g i
theorem Jg {b p:Nat} {v:Value} {xs:List Nat} (h:RdR F w b v xs p) (hF:∀x,F x->x<w.heap.size) (j:p+100<1099511627776)
  (i:∀w' a dv ds,Same (· =b) w w'->RdR F w' b v xs a->a<=p+100->DclsR (fun x=>w.heap.size<=x) w' dv ds->Dok ds->K dv w'):vcall PP x9 #[.pointer (some ⟨b,0,none⟩)] w K:=
 Qw h hF j fun w' a dv ds c d e f g _=>i w' a dv ds c d e f g
@[push_cast] theorem bd_T3 (o a b:Int):zr PP za [(0,.int .i64 o),(1,.int .i64 a),(2,.int .i64 b)] w K=K (.agg ⟨[.int .i64 o,.int .i64 a,.int .i64 b,.string ⟨#[]⟩,.slice none 0 0]⟩) w:=ye xN (us:=[[.int .i64 o],[.int .i64 a],[.int .i64 b]]) rfl rfl
@[push_cast] theorem Wz (o:Int):zr PP za [(0,.int .i64 o)] w K=K (.agg ⟨[.int .i64 o,.int .i64 0,.int .i64 0,.string ⟨#[]⟩,.slice none 0 0]⟩) w:=ye xN (us:=[[.int .i64 o]]) rfl rfl
@[push_cast] theorem U3 (o:Int) (s:ByteArray):zr PP za [(0,.int .i64 o),(3,.string s)] w K=K (.agg ⟨[.int .i64 o,.int .i64 0,.int .i64 0,.string s,.slice none 0 0]⟩) w:=ye xN (us:=[[.int .i64 o],[.string s]]) rfl rfl
@[push_cast] theorem bd_Tk (o:Int) (a:Option Addr) (l c:Nat):zr PP za [(0,.int .i64 o),(4,.slice a l c)] w K=K (.agg ⟨[.int .i64 o,.int .i64 0,.int .i64 0,.string ⟨#[]⟩,.slice a l c]⟩) w:=ye xN (us:=[[.int .i64 o],[.slice a l c]]) rfl rfl
@[push_cast] theorem bd_Tc (o x y:Int) (a:Option Addr) (l c:Nat):zr PP za [(0,.int .i64 o),(1,.int .i64 x),(2,.int .i64 y),(4,.slice a l c)] w K=K (.agg ⟨[.int .i64 o,.int .i64 x,.int .i64 y,.string ⟨#[]⟩,.slice a l c]⟩) w:=ye xN (us:=[[.int .i64 o],[.int .i64 x],[.int .i64 y],[.slice a l c]]) rfl rfl
theorem qB {b:Nat} {cs cs':List Value} {t:TypeId} {G:Nat->Prop} {t':M.Tm} (h:Blk w b cs t) (j:cs.length=5) (c:TmR G w cs' t') (g:∀x,G x->x≠b) (i:∀w',Same (· =b) w w'->w'.heap.size=w.heap.size->TermR G w' (.agg ⟨cs'⟩) t'->K (.agg ⟨cs'⟩) w'):
  zk PP za (.pointer (some ⟨b,0,none⟩)) (.agg ⟨cs'⟩) w fun _ l=>vlv PP za (.pointer (some ⟨b,0,none⟩)) l fun r m=>K r m:=by
 refine stTerm h j c fun w' a d f=>?_;rw[f.lv (by rw[yd c];exact zm)];exact i w' a d (c.same a fun x k _ e=>g x k e).term
theorem Yo {G:Nat->Prop} (o a b:Int) (s:ByteArray):TmR G w [.int .i64 o,.int .i64 a,.int .i64 b,.string s,.slice none 0 0] (.mk o a b s []):=TmR.of (t:= .mk o a b s []) TmsR.nil
abbrev Kr (K:Value→World→Prop) (F:Nat→Prop) (w:World) (b p c:Nat) (v:Value) (xs:List Nat):Prop:=∀w' p' tv t,Same (· =b) w w'→RdR F w' b v xs p'→p'≤p+c→TermR (fun x=>w.heap.size≤x) w' tv t→t.ks.length≤3→K tv w'
theorem same_new {b d:Nat} {w g i:World} (h:Same (· =b) w g) (a:Same (· =d) g i) (j:w.heap.size<=d):Same (· =b) w i:=
 ⟨a.os.trans h.os,a.tape.trans h.tape,a.output.trans h.output,Nat.le_trans h.size a.size,fun x f c=>by
  rw[a.block x (Nat.lt_of_lt_of_le f h.size) (fun e=>by subst e;omega)];exact h.block x f c⟩
theorem RdR.new {b a p:Nat} {v:Value} {xs:List Nat} {c:World} (h:RdR F w b v xs p) (f:Same (· =a) w c) (d:b≠a) (hF:∀x,F x->x≠a):RdR F c b v xs p:=h.same f d fun x g _ e=>hF x g e
theorem l2Leafy_spec {b p:Nat} {v dv:Value} {xs:List Nat} {ds:List M.Dcl} {sort:Int} (h:RdR F w b v xs p) (hF:∀x,F x->x<w.heap.size) (hd:DclsR D w dv ds) (hD:∀x,D x->x≠b) (a1:Dok ds) (a9:0<=sort) (G:sort<=4) (hp:p+100<1099511627776)
  (hK:Kr K F w b p 100 v xs):vcall PP yK #[.pointer (some ⟨b,0,none⟩),dv,.int .i64 sort] w K:=by
 apply XS;unfold Z2;have lb:=h.blk.lt;refine zw zt fun b1 w1 a6 n aa h1=>?_;have I:=h.ext n;have L:=hd.ext n;have o:∀z U cs t,Same (· =b) w z->RdR F z b v xs U->U<=p+100->Blk z b1 [.int .i64 0,.int .i64 0,.int .i64 0,.string ⟨#[]⟩,.slice none 0 0] za->TmR (fun _=>False) z cs t->t.ks.length<=3->
   zk PP za (.pointer (some ⟨b1,0,none⟩)) (.agg ⟨cs⟩) z fun _ w1=>vlv PP za (.pointer (some ⟨b1,0,none⟩)) w1 fun r z=>K r z:=by
  intro z U cs t hs X a2 V hc a0;refine qB V rfl hc (fun x y=>y.elim) fun B l ac ht=>?_;exact hK B U _ t (same_new hs l (by omega)) (X.new l (by omega) fun x y e=>by have:=hF x y;omega) a2 (ht.weaken fun x y _=>y.elim) a0
 simp only[push_cast];refine zd (fun a=>?_) (fun a=>?_)
 ·exact o _ _ _ _ (Same.of_ext n) I (by omega) h1 (Yo 24 0 0 _) (Nat.zero_le _)
 simp(disch:=(simp only[push_cast];done)) only[push_cast,L.len];have hlen:=a1.1;refine pick_spec I (by omega) (by omega) fun z at_ E ab Y hk _=>?_;have h2:=h1.same E (by omega);have A:∀B p3,Same (· =b) w B->RdR F B b v xs p3->p3<=p+50->Blk B b1 [.int .i64 0,.int .i64 0,.int .i64 0,.string ⟨#[]⟩,.slice none 0 0] za->
   vcall PP yH #[.int .i64 sort] B fun t52 P=>vcall PP zn #[.pointer (some ⟨b,0,none⟩),t52] P fun t53 Q=>zr PP za [(0,(.int .i64 20)),(1,.int .i64 sort),(2,t53)] Q fun t54 R=>zk PP za (.pointer (some ⟨b1,0,none⟩)) t54 R fun _ S=>vlv PP za (.pointer (some ⟨b1,0,none⟩)) S fun O T=>K O T:=by
  intro B p3 hs X a3 V;refine l1Two_spec (by omega) ?_;have a8:2^sort.toNat<=2^4:=Nat.pow_le_pow_right (by omega) (by omega);refine pick_spec X (by omega) (by omega) fun w4 k G a4 f _ _=>?_;simp only[push_cast];exact o _ _ _ _ (hs.trans G) f (by omega) (V.same G (by have:=n.size;omega)) (Yo 20 sort k _) (Nat.zero_le _)
 refine vloop_up ds.length (fun i u w'=> ∃N,u=[.int .i64 i]/\Same (· =b) w w'/\RdR F w' b v xs N/\N<=p+1+i/\Blk w' b1 [.int .i64 0,.int .i64 0,.int .i64 0,.string ⟨#[]⟩,.slice none 0 0] za/\DclsR D w' dv ds)
  ⟨p+1,rfl,(Same.of_ext n).trans E,Y,by omega,h2,L.same E fun x y _ e=>hD x y e⟩ ?_
 rintro i _ _ B C hi ⟨N,rfl,l,J,a3,H,Z⟩ hC;refine zI (fun u w'=>u=[]/\i<ds.length/\Same (· =b) w w'/\RdR F w' b v xs (N+1)/\Blk w' b1 [.int .i64 0,.int .i64 0,.int .i64 0,.string ⟨#[]⟩,.slice none 0 0] za/\DclsR D w' dv ds) (fun C' W=>?_) ?_
 ·simp only[push_cast];refine zd (fun c=>?_) (fun c=>?_)
  ·refine pick_spec J (by omega) (by omega) fun w4 k d a4 f _ _=>?_;have m:=H.same d (by omega);simp only[push_cast];refine zd (fun e=>?_) (fun e=>?_)
   ·exact W _ _ ⟨rfl,by omega,l.trans d,f,m,Z.same d fun x y _ e=>hD x y e⟩
   ·exact A _ _ (l.trans d) f (by omega) m
  ·exact A _ _ l J (by omega) H
 ·rintro u g w4 ⟨rfl,a7,d,f,m,s⟩;have a5:at_<ds.length:=by have:=hk (by omega);omega
  have e1:IntKind.i64.wrap ((at_:Int)+(i:Int))=((at_+i:Nat):Int):=by rw[zF (by omega) (by omega)];omega
  have eR:∀(w:World) (K:Value->World->Prop),zj PP .rem zb false (.int .i64 ((at_+i:Nat):Int)) (.int .i64 (ds.length:Int)) w K=K (.int .i64 (((at_+i)%ds.length:Nat):Int)) w:=fun w K=>by rw[ZH (by omega)];rfl
  have hm:(at_+i)%ds.length<ds.length:=Nat.mod_lt _ (by omega);obtain⟨q,hq⟩:∃q,q=at_+i:=⟨_,rfl⟩;rw[<-hq] at e1 eR hm;obtain⟨j,hj⟩:∃j,j=q%ds.length:=⟨_,rfl⟩;rw[<-hj] at eR hm;simp(disch:=first|(simp only[push_cast];done)|omega) only[push_cast,e1,eR,s.iaddr]
  try simp(disch:=first|(simp only[push_cast];done)|omega) only[push_cast,s.load0,s.load1]
  refine zd (fun c=>?_) (fun c=>?_)
  ·exact o _ _ _ _ d f (by omega) m (Yo 21 0 0 _) (Nat.zero_le _)
  ·rw[inc64' (by omega)];exact hC (by omega) _ _ ⟨N+1,rfl,d,f,by omega,m,s⟩
end Go.Proofs.YtaemeijeaajoeaaGreatDoor
end
section
namespace Go.Proofs.YtaemeijeaajoeaaGreatDoor
open Go Go.Vc Go.Proofs
variable {w:World} {K:Value→World→Prop} {F F' D G:Nat→Prop}
theorem kidsL {css:List (List Value)} {ts:List M.Tm} (m:css.length=ts.length) (q:css.length<=100) (h:∀i,i<ts.length->TmR G w (css.getD i []) (ts.getD i default))
  (l:∀w' a,Ext w w'->w'.heap.size=w.heap.size+1->TmsR (fun z=>G z\/z=w.heap.size) w' (.slice a css.length css.length) ts->K (.slice a css.length css.length) w'):
  vbuildS PP zc (css.map fun c=>Value.agg ⟨c⟩).length ((css.map fun c=>Value.agg ⟨c⟩).zipIdx.map fun p=>(p.2,p.1)) w K:=by
 have d:∀u,u∈css->u.length=5:=fun u hu=>by
  obtain⟨i,f,rfl⟩:=List.getElem_of_mem hu;have:=yd (h i (by omega));rwa[List.getD_eq_getElem?_getD,List.getElem?_eq_getElem f] at this
 refine vbuildS_row (us:=css) (k:=5) qT jt zt (by rw[List.map_map];rfl) d (by rw[List.length_map];omega) fun b w' r he o j=>?_;rw[List.length_map];refine l w' _ he o ⟨css,?_,m,fun i f=>((h i f).ext he).weaken fun x g _=> .inl g⟩;have n:Own PP 0 5 zc w' (.slice (some ⟨b,0,none⟩) css.length css.length) css:=Blk.ownk (by rw[ZM];exact j) d rfl (by omega);exact n.sl.weaken fun x g _=> .inr (by have e:x=b:=(Option.some.inj g).symm;omega)
theorem KX {v0:Value} {t0:M.Tm} (b:TermR G w v0 t0) (c:∀w' a,Ext w w'->w'.heap.size=w.heap.size+1->TmsR (fun z=>G z\/z=w.heap.size) w' (.slice a 1 1) [t0]->K (.slice a 1 1) w'):vbuildS PP zc 1 [(0,v0)] w K:=by
 obtain⟨c0,rfl,e⟩:=b.cells;refine kidsL (css:=[c0]) (ts:=[t0]) rfl (by simp) (fun i d=>?_) c;have:i=0:=by simpa using d
 subst this;exact e
theorem kids2 {v0 v1:Value} {t0 t1:M.Tm} (c:TermR G w v0 t0) (d:TermR G w v1 t1) (e:∀w' a,Ext w w'->w'.heap.size=w.heap.size+1->TmsR (fun z=>G z\/z=w.heap.size) w' (.slice a 2 2) [t0,t1]->K (.slice a 2 2) w'):vbuildS PP zc 2 [(0,v0),(1,v1)] w K:=by
 obtain⟨c0,rfl,g⟩:=c.cells;obtain⟨b,rfl,h⟩:=d.cells;refine kidsL (css:=[c0,b]) (ts:=[t0,t1]) rfl (by simp) (fun i f=>?_) e
 match i,f with
 |0,_=>exact g
 |1,_=>exact h
theorem kids3 {v0 v1 v2:Value} {t0 t1 t2:M.Tm} (c:TermR G w v0 t0) (d:TermR G w v1 t1) (e:TermR G w v2 t2) (f:∀w' a,Ext w w'->w'.heap.size=w.heap.size+1->TmsR (fun z=>G z\/z=w.heap.size) w' (.slice a 3 3) [t0,t1,t2]->K (.slice a 3 3) w'):vbuildS PP zc 3 [(0,v0),(1,v1),(2,v2)] w K:=by
 obtain⟨c0,rfl,h⟩:=c.cells;obtain⟨b,rfl,j⟩:=d.cells;obtain⟨c2,rfl,k⟩:=e.cells;refine kidsL (css:=[c0,b,c2]) (ts:=[t0,t1,t2]) rfl (by simp) (fun i g=>?_) f
 match i,g with
 |0,_=>exact h
 |1,_=>exact j
 |2,_=>exact k
abbrev ZE:List Value:=[.int .i64 0,.int .i64 0,.int .i64 0,.string ⟨#[]⟩,.slice none 0 0]
structure Dw (F D:Nat→Prop) (w0:World) (b b1:Nat) (v dv:Value) (xs:List Nat) (ds:List M.Dcl) (w:World) (p:Nat):Prop where
 same:Same (· =b) w0 w
 rd:RdR F w b v xs p
 var:Blk w b1 ZE za
 dcl:DclsR D w dv ds
 old:b<w0.heap.size
 new:b1=w0.heap.size
 size:b1<w.heap.size
 hF:∀x,F x→x<w0.heap.size
 hD:∀x,D x→x≠b
 hD1:∀x,D x→x<w0.heap.size
section
variable {w0:World} {b b1 p:Nat} {v dv:Value} {xs:List Nat} {ds:List M.Dcl}
theorem Dw.step {c:World} {d:Nat} (h:Dw F D w0 b b1 v dv xs ds w p) (a:Same (· =b) w c) (f:RdR F c b v xs d):Dw F D w0 b b1 v dv xs ds c d:=
 ⟨h.same.trans a,f,h.var.same a (by have:=h.old;have:=h.new;omega),h.dcl.same a fun x g _ e=>h.hD x g e,h.old,h.new,Nat.lt_of_lt_of_le h.size a.size,h.hF,h.hD,h.hD1⟩
theorem Dw.ext {a:World} (h:Dw F D w0 b b1 v dv xs ds w p) (he:Ext w a):Dw F D w0 b b1 v dv xs ds a p:=h.step (Same.of_ext he) (h.rd.ext he)
theorem Dw.begin (h:RdR F w b v xs p) (hF:∀x,F x->x<w.heap.size) (g:DclsR D w dv ds) (hD:∀x,D x->x≠b) (hD1:∀x,D x->x<w.heap.size) {K:Value->World->Prop} (f:∀c,Dw F D w b w.heap.size v dv xs ds c p->K (.pointer (some ⟨w.heap.size,0,none⟩)) c):yg PP za w K:=by
 refine zw zt fun b1 c d a i e=>?_;subst d;exact f c ⟨Same.of_ext a,h.ext a,e,g.ext a,h.blk.lt,rfl,by omega,hF,hD,hD1⟩
abbrev Nw (b1:Nat) (x:Nat):Prop:=b1<x
theorem Dw.fin {c:Nat} {cs:List Value} {t:M.Tm} (h:Dw F D w0 b b1 v dv xs ds w p) {p0:Nat} (j:p<=p0+c) (k:TmR (Nw b1) w cs t) (f:t.ks.length<=3) (i:Kr K F w0 b p0 c v xs):
  zk PP za (.pointer (some ⟨b1,0,none⟩)) (.agg ⟨cs⟩) w fun _ n=>vlv PP za (.pointer (some ⟨b1,0,none⟩)) n fun r o=>K r o:=by
 have:=h.old;have:=h.new;refine qB h.var rfl k (fun x d e=>by subst e;exact Nat.lt_irrefl _ d) fun q a m g=>?_;exact i q p _ t (same_new h.same a (by omega)) (h.rd.new a (by omega) fun x d e=>by have:=h.hF x d;omega) j (g.weaken fun x d _=>by have l:b1<x:=d;omega) f
theorem Dw.pick {n:Int} (h:Dw F D w0 b b1 v dv xs ds w p) (i:n<=1099511627776) (j:p<1099511627776) (f:∀a (k:Nat),Dw F D w0 b b1 v dv xs ds a (p+1)->Same (· =b) w a->(1<=n->(k:Int)<n)->(n<1->k=0)->K (.int .i64 k) a):vcall PP zn #[.pointer (some ⟨b,0,none⟩),.int .i64 n] w K:=
 pick_spec h.rd i j fun a k c l g d e=>f a k (h.step c g) c d e
theorem Dw.sub {g:Nat} {args:Array Value} {c:Nat} (h:Dw F D w0 b b1 v dv xs ds w p) (l:∀f,Kr f F w b p c v xs->vcall PP g args w f) (j:∀a d tv t,Dw F D w0 b b1 v dv xs ds a d->Same (· =b) w a->d<=p+c->TermR (Nw b1) a tv t->t.ks.length<=3->K tv a):vcall PP g args w K:=
 l K fun a d tv t i k m n e=>j a d tv t (h.step i k) i m (n.weaken fun x o _=>by have:=h.size;show b1<x;omega) e
theorem Dw.keep {tv:Value} {t:M.Tm} {a:World} (h:Dw F D w0 b b1 v dv xs ds w p) (d:TermR (Nw b1) w tv t) (c:Same (· =b) w a):TermR (Nw b1) a tv t:=
 d.same c fun x f _ e=>by subst e;have:=h.old;have:=h.new;have g:b1<x:=f;omega
theorem Dw.tms {kv:Value} {ks:List M.Tm} (h:Dw F D w0 b b1 v dv xs ds w p) {c:World} (d:TmsR (fun z=>Nw b1 z\/z=w.heap.size) c kv ks):TmsR (Nw b1) c kv ks:=
 d.weaken fun x a _=>by
  rcases a with a|a
  ·exact a
  ·have:=h.size;show b1<x;omega
end
def Xh (d:Nat):Nat:=100*4^d
theorem cost_succ (d:Nat):Xh (d+1)=4*Xh d:=by unfold Xh;rw[Nat.pow_succ];omega
theorem cost_ge (d:Nat):100<=Xh d:=by
 have:1<=4^d:=Nat.pow_pos (by omega);unfold Xh;omega
def ZW (d:Nat):Prop:=∀{w:World} {K:Value→World→Prop} {F D:Nat→Prop} {b p:Nat} {v dv:Value} {xs:List Nat} {ds:List M.Dcl} {sort deep:Int},RdR F w b v xs p→(∀x,F x→x<w.heap.size)→DclsR D w dv ds→(∀x,D x→x≠b)→(∀x,D x→x<w.heap.size)→Dok ds→0≤sort→sort≤4→ -100≤deep→deep≤d→
 p+Xh d<1099511627776→Kr K F w b p (Xh d) v xs→vcall PP zE #[.pointer (some ⟨b,0,none⟩),dv,.int .i64 sort,.int .i64 deep] w K
theorem num_draw {w0:World} {b b1 p:Nat} {v dv:Value} {xs:List Nat} {ds:List M.Dcl} {ns:List Int} (h:Dw F D w0 b b1 v dv xs ds w p) (c:ns≠[]) (d:ns.length<=1000) (q:p<1099511627776) (n:∀a m,Dw F D w0 b b1 v dv xs ds a (p+1)->Same (· =b) w a->m∈ns->K (.int .i64 m) a):
  vbuildS PP y1 ns.length ((ns.map fun x=>Value.int .i64 x).zipIdx.map fun p=>(p.2,p.1)) w fun s a=>vcall PP zT #[.pointer (some ⟨b,0,none⟩),s] a K:=by
 have:=vbuildS_row1 (w:=w) (K:=fun s a=>vcall PP zT #[.pointer (some ⟨b,0,none⟩),s] a K) (t:=y1) (xs:=ns.map fun x=>Value.int .i64 x) K0 jQ J5 (fun x f=>by obtain⟨y,_,rfl⟩:=List.mem_map.1 f;rfl) (by simp;omega) fun g w' z i A l=>by
  have r:Ints (· =g) w' (.slice (some ⟨g,0,none⟩) (ns.map fun x=>Value.int .i64 x).length (ns.map fun x=>Value.int .i64 x).length) ns:=l.sl1 rfl (by simp;omega);have j:=h.ext i;have:=h.rd.blk.lt;refine num_spec j.rd r c d q (fun x f e=>by subst f;omega) fun u m k B o hm=>?_;exact n u m (j.step k o) ((Same.of_ext i).trans k) hm
 rwa[List.length_map] at this
theorem l2Asks_spec {d:Nat} (hT:ZW d) {b p:Nat} {v dv:Value} {xs:List Nat} {ds:List M.Dcl} {deep:Int} (h:RdR F w b v xs p) (hF:∀x,F x->x<w.heap.size) (hd:DclsR D w dv ds) (hD:∀x,D x->x≠b) (hD1:∀x,D x->x<w.heap.size) (G:Dok ds) (aa:1<=deep) (ab:deep<=d+1) (ac:d<=9)
  (hp:p+2*Xh d+10<1099511627776) (T:Kr K F w b p (2*Xh d+10) v xs):vcall PP jE #[.pointer (some ⟨b,0,none⟩),dv,.int .i64 deep] w K:=by
 apply QR;unfold Ya;refine Dw.begin h hF hd hD hD1 fun w1 h1=>?_;have hg:=h1.new;have e1:IntKind.i64.wrap (deep-1)=deep-1:=zF (by omega) (by omega);have f:∀{U:World} {p2:Nat} {s:Int} {V:Value->World->Prop},Dw F D w b w.heap.size v dv xs ds U p2->0<=s->s<=4->p2+Xh d<1099511627776->(∀B Q tv t,Dw F D w b w.heap.size v dv xs ds B Q->Same (· =b) U B->Q<=p2+Xh d->TermR (Nw w.heap.size) B tv t->t.ks.length<=3->V tv B)->
   vcall PP zE #[.pointer (some ⟨b,0,none⟩),dv,.int .i64 s,.int .i64 (deep-1)] U V:=fun r y i a4 X=>
  r.sub (fun V hk=>hT r.rd (fun x hx=>Nat.lt_of_lt_of_le (hF x hx) r.same.size) r.dcl hD (fun x hx=>Nat.lt_of_lt_of_le (hD1 x hx) r.same.size) G y i (by omega) (by omega) a4 hk) X
 refine h1.pick (by omega) (by omega) fun U k r ag hk _=>?_;simp only[push_cast,e1];refine zd (fun a=>?_) (fun a=>?_)
 ·refine f r (by omega) (by omega) (by omega) fun B Q I t0 o H O l _=>?_;refine KX l fun J sa Y aj j=>?_;have n:=o.ext Y;simp only[push_cast];exact n.fin (p0:=p) (by omega) (TmR.of (t:= .mk 25 0 0 _ [t0]) (o.tms j)) (Nat.le_of_ble_eq_true rfl) T
 refine zd (fun a1=>?_) (fun a1=>?_)
 ·refine f r (by omega) (by omega) (by omega) fun B Q I t0 o H O l _=>?_;refine f o (by omega) (by omega) (by omega) fun J R S t1 n i P q _=>?_;refine kids2 (o.keep l i) q fun w5 sa E a7 j=>?_;have z:=n.ext E;simp only[push_cast];exact z.fin (p0:=p) (by omega) (TmR.of (t:= .mk 26 0 0 _ [t0,t1]) (n.tms j)) (Nat.le_of_ble_eq_true rfl) T
 refine zd (fun a2=>?_) (fun a2=>?_)
 ·refine f r (by omega) (by omega) (by omega) fun B Q I t0 o H O l _=>?_;refine f o (by omega) (by omega) (by omega) fun J R S t1 n i P q _=>?_;refine kids2 (o.keep l i) q fun w5 sa E a7 j=>?_;have z:=n.ext E;simp only[push_cast];exact z.fin (p0:=p) (by omega) (TmR.of (t:= .mk 27 0 0 _ [t0,t1]) (n.tms j)) (Nat.le_of_ble_eq_true rfl) T
 refine r.pick (by omega) (by omega) fun B k3 o H a0 _=>?_;have a8:=a0 (by omega);simp only[push_cast];rw[zF (x:=1+(k3:Int)) (by omega) (by omega)];refine zI (fun u J=> ∃s R,u=[.int .i64 s]/\0<=s/\s<=4/\R<=p+4/\Dw F D w b w.heap.size v dv xs ds J R) (fun C W=>?_) ?_
 ·have hlen:=G.1;have L:=o.dcl;simp(disch:=(simp only[push_cast];done)) only[push_cast,L.len];refine zd (fun c=>?_) (fun c=>?_)
  ·refine o.pick (by omega) (by omega) fun J k4 n i ad _=>?_;have N:=n.dcl;simp only[push_cast];refine zd (fun e=>?_) (fun e=>?_)
   ·try simp(disch:=(simp only[push_cast];done)) only[push_cast,N.len]
    refine n.pick (by omega) (by omega) fun w5 k5 z a5 a3 _=>?_;have a9:=a3 (by omega);have A:=z.dcl;simp(disch:=first|(simp only[push_cast];done)|omega) only[push_cast,A.iaddr]
    try simp(disch:=first|(simp only[push_cast];done)|omega) only[push_cast,A.load1]
    have ai:1<=(ds.getD k5 (M.nada,0)).2/\(ds.getD k5 (M.nada,0)).2<=4/\_:=G.2 k5 (by omega);exact W _ _ ⟨_,_,rfl,by omega,by omega,by omega,z⟩
   ·exact W _ _ ⟨_,_,rfl,by omega,by omega,by omega,n⟩
  ·exact W _ _ ⟨_,_,rfl,by omega,by omega,by omega,o⟩
 ·rintro u g J ⟨s,R,rfl,y,i,P,n⟩;refine num_draw (ns:=[15,16,17,15]) n (by simp) (by decide) (by omega) fun w5 m z a5 hm=>?_;simp only[push_cast,e1];refine f z y i (by omega) fun w6 p6 I t0 h6 ah ae l _=>?_;refine f h6 y i (by omega) fun w7 p7 S t1 h7 a6 af q _=>?_;refine kids2 (h6.keep l a6) q fun w8 sa Z ak j=>?_;have h8:=h7.ext Z;simp only[push_cast];exact h8.fin (p0:=p) (by omega) (TmR.of (t:= .mk m 0 0 _ [t0,t1]) (h7.tms j)) (Nat.le_of_ble_eq_true rfl) T
end Go.Proofs.YtaemeijeaajoeaaGreatDoor
end
section
namespace Go.Proofs.YtaemeijeaajoeaaGreatDoor
open Go Go.Vc Go.Proofs
variable {w:World} {K:Value→World→Prop} {F F' D G:Nat→Prop}
theorem l2Term_step {d:Nat} (ao:d<=9) (hT:∀e,e<d->ZW e):ZW d:=by
 intro w K F D b p v dv xs ds sort deep h hF hd hD hD1 Z l m aq ap hp T;apply QG;unfold Y0;refine Dw.begin h hF hd hD hD1 fun w1 h1=>?_;have aa:=cost_ge d;have G:∀{P:World} {J:Nat},Dw F D w b w.heap.size v dv xs ds P J->J<=p+1->Xh d=100\/0<d->J+100<=p+Xh d\/d=0->(d=0->J=p)->
   vcall PP yK #[.pointer (some ⟨b,0,none⟩),dv,.int .i64 sort] P fun t27 al=>zk PP za (.pointer (some ⟨w.heap.size,0,none⟩)) t27 al fun _ am=>vlv PP za (.pointer (some ⟨w.heap.size,0,none⟩)) am fun r8 an=>K r8 an:=by
  intro P J n a2 _ U hz;refine n.sub (c:=100) (fun K' Q=>l2Leafy_spec n.rd (fun x N=>Nat.lt_of_lt_of_le (hF x N) n.same.size) n.dcl hD Z l m (by rcases U with U|U<;>omega) Q) fun S p3 tv t y ah au ht Y=>?_;obtain⟨cs,rfl,V⟩:=ht.cells;refine y.fin (p0:=p) (c:=Xh d) ?_ V Y T;rcases U with U|U
  ·omega
  ·have:=hz U;omega
 refine zI (fun u w'=> ∃p',u=[]/\Dw F D w b w.heap.size v dv xs ds w' p'/\p'<=p+1/\1<=deep) (fun C hC=>?_) ?_
 ·simp only[push_cast];refine zd (fun a=>?_) (fun a=>?_)
  ·refine G h1 (by omega) (by
    by_cases h0:d=0
    ·subst h0;left;rfl
    ·right;omega) ?_ (fun _=>rfl)
   by_cases h0:d=0
   ·exact .inr h0
   ·left;omega
  ·have W:1<=d:=(by omega);have ab:Xh d=4*Xh (d-1):=by
    obtain⟨e,rfl⟩:∃e,d=e+1:=⟨d-1,by omega⟩;exact cost_succ e
   have a5:=cost_ge (d-1);refine zd (fun c=>?_) (fun c=>?_)
   ·refine h1.pick (by omega) (by omega) fun P k n aw Q _=>?_;simp only[push_cast];refine zd (fun e=>?_) (fun e=>?_)
    ·exact G n (by omega) (.inr (by omega)) (.inl (by omega)) (by omega)
    ·exact hC _ _ ⟨p+1,rfl,n,by omega,by omega⟩
   ·exact hC _ _ ⟨p,rfl,h1,by omega,by omega⟩
 rintro u g P ⟨J,rfl,n,a2,ad⟩;have W:1<=d:=by omega
 obtain⟨L,ac⟩:∃L,d=L+1:=⟨d-1,by omega⟩;have ab:Xh d=4*Xh L:=by rw[ac,cost_succ]
 have a5:=cost_ge L;have e1:IntKind.i64.wrap (deep-1)=deep-1:=zF (by omega) (by omega);have f:∀{P:World} {J:Nat} {s:Int} {K':Value->World->Prop},Dw F D w b w.heap.size v dv xs ds P J->0<=s->s<=4->J+Xh L<1099511627776->(∀S p3 tv t,Dw F D w b w.heap.size v dv xs ds S p3->Same (· =b) P S->p3<=J+Xh L->TermR (Nw w.heap.size) S tv t->t.ks.length<=3->K' tv S)->
   vcall PP zE #[.pointer (some ⟨b,0,none⟩),dv,.int .i64 s,.int .i64 (deep-1)] P K':=fun n l m a2 a9=>
  n.sub (fun K' Q=>hT L (by omega) n.rd (fun x N=>Nat.lt_of_lt_of_le (hF x N) n.same.size) n.dcl hD (fun x N=>Nat.lt_of_lt_of_le (hD1 x N) n.same.size) Z l m (by omega) (by omega) a2 Q) a9
 refine n.pick (by omega) (by omega) fun S k y ah Q _=>?_;have ar:=Q (by omega);simp only[push_cast,e1];refine zd (fun a=>?_) (fun a=>?_)
 ·refine f y (by omega) (by omega) (by omega) fun w4 p4 O t0 h4 R af j _=>?_;refine f h4 l m (by omega) fun w5 p5 a8 t1 z H av I _=>?_;refine f z l m (by omega) fun w6 p6 ax t2 q r M ai _=>?_;refine kids3 (z.keep (h4.keep j H) r) (z.keep I r) ai fun w7 sa B a7 i=>?_;have A:=q.ext B;simp only[push_cast];exact A.fin (p0:=p) (by omega) (TmR.of (t:= .mk 23 0 0 _ [t0,t1,t2]) (q.tms i)) (Nat.le_of_ble_eq_true rfl) T
 refine zd (fun a0=>?_) (fun a0=>?_)
 ·refine y.sub (c:=2*Xh L+10) (fun K' Q=>l2Asks_spec (hT L (by omega)) y.rd (fun x N=>Nat.lt_of_lt_of_le (hF x N) y.same.size) y.dcl hD (fun x N=>Nat.lt_of_lt_of_le (hD1 x N) y.same.size) Z ad (by omega) (by omega) (by omega) Q) fun w4 p4 tv t h4 R af ht Y=>?_;obtain⟨cs,rfl,V⟩:=ht.cells;exact h4.fin (p0:=p) (by omega) V Y T
 refine zd (fun a1=>?_) (fun a1=>?_)
 ·rw[zF (x:=5-sort) (by omega) (by omega)];refine y.pick (by omega) (by omega) fun w4 k4 h4 R ae a6=>?_;have aj:sort+(k4:Int)<=4:=by
   by_cases hn:1<=5-sort
   ·have:=ae hn;omega
   ·have:=a6 (by omega);omega
  simp only[push_cast];rw[zF (x:=sort+(k4:Int)) (by omega) (by omega),zF (x:=sort+(k4:Int)-sort) (by omega) (by omega),zF (x:=sort+(k4:Int)-sort+1) (by omega) (by omega)];refine h4.pick (by omega) (by omega) fun w5 k5 z H o _=>?_;have E:=o (by omega);simp only[push_cast];refine f z (by omega) aj (by omega) fun w6 p6 O t0 q r M j _=>?_;refine KX j fun w7 sa B a7 i=>?_;have A:=q.ext B;simp only[push_cast];exact A.fin (p0:=p) (by omega) (TmR.of (t:= .mk 22 _ _ _ [t0]) (q.tms i)) (Nat.le_of_ble_eq_true rfl) T
 refine zI (fun u w'=>u=[]/\w'=S) (fun C hC=>?_) ?_
 ·refine zI (fun u w'=>u=[.bool (decide (k=2/\1<sort))]/\w'=S) (fun C' a4=>?_) ?_
  ·try simp only[push_cast]
   refine zd (fun c=>?_) (fun c=>?_)
   ·refine a4 _ _ ⟨?_,rfl⟩;have c':k=2:=(by omega);simp only[c',true_and]
   ·exact a4 _ _ ⟨by rw[decide_eq_false (by omega)],rfl⟩
  rintro u g w4 ⟨rfl,rfl⟩;simp only[push_cast];refine zd (fun c=>?_) (fun c=>?_)
  ·rw[zF (x:=sort-1) (by omega) (by omega)];refine y.pick (by omega) (by omega) fun w5 k5 z H o _=>?_;have E:=o (by omega)
   try simp only[push_cast]
   rw[zF (x:=1+(k5:Int)) (by omega) (by omega)];refine f z (by omega) (by omega) (by omega) fun w6 p6 O t0 q r M j _=>?_
   try simp only[push_cast]
   rw[zF (x:=sort-(1+(k5:Int))) (by omega) (by omega)];refine f q (by omega) (by omega) (by omega) fun w7 p7 a8 t1 A a3 ag I _=>?_;refine kids2 (q.keep j a3) I fun w8 sa X ak i=>?_;have h8:=A.ext X;simp only[push_cast];exact h8.fin (p0:=p) (by omega) (TmR.of (t:= .mk 14 0 0 _ [t0,t1]) (A.tms i)) (Nat.le_of_ble_eq_true rfl) T
  ·exact hC _ _ ⟨rfl,rfl⟩
 rintro u g w4 ⟨rfl,rfl⟩
 try simp only[push_cast]
 refine zd (fun c=>?_) (fun c=>?_)
 ·refine y.pick (by omega) (by omega) fun w5 k5 z H o _=>?_;have E:=o (by omega)
  try simp only[push_cast]
  rw[zF (x:=1+(k5:Int)) (by omega) (by omega)];refine f z l m (by omega) fun w6 p6 O t0 q r M j _=>?_;refine KX j fun w7 sa B a7 i=>?_;have A:=q.ext B;simp only[push_cast];exact A.fin (p0:=p) (by omega) (TmR.of (t:= .mk _ 0 0 _ [t0]) (q.tms i)) (Nat.le_of_ble_eq_true rfl) T
 ·refine y.pick (by omega) (by omega) fun w5 k5 z H o _=>?_;have E:=o (by omega)
  try simp only[push_cast]
  rw[zF (x:=3+(k5:Int)) (by omega) (by omega)];refine f z l m (by omega) fun w6 p6 O t0 q r M j _=>?_;refine f q l m (by omega) fun w7 p7 a8 t1 A a3 ag I _=>?_;refine kids2 (q.keep j a3) I fun w8 sa X ak i=>?_;have h8:=A.ext X;simp only[push_cast];exact h8.fin (p0:=p) (by omega) (TmR.of (t:= .mk _ 0 0 _ [t0,t1]) (A.tms i)) (Nat.le_of_ble_eq_true rfl) T
theorem l2Term_spec:∀d,d<=9->ZW d:=by
 intro d;induction d using Nat.strongRecOn with
 |_ d b=>intro a;exact l2Term_step a fun e he=>b e he (by omega)
theorem dok_sized {ds:List M.Dcl} (h:Dok ds):Vg ds:=fun i a=>by have:=(h.2 i a).2.2;omega
theorem l2Some_spec {b p:Nat} {v dv:Value} {xs:List Nat} {ds:List M.Dcl} {sort:Int} (h:RdR F w b v xs p) (hF:∀x,F x->x<w.heap.size) (Y:DclsR D w dv ds) (hD:∀x,D x->x≠b) (hD1:∀x,D x->x<w.heap.size) (k:Dok ds) (r:0<=sort) (s:sort<=4)
  (hp:p+200000<1099511627776) (N:Kr K F w b p 200000 v xs):vcall PP jz #[.pointer (some ⟨b,0,none⟩),dv,.int .i64 sort] w K:=by
 apply QI;unfold Y2;refine Dw.begin h hF Y hD hD1 fun w1 U=>?_;have A:Xh 4=25600:=rfl;refine vloop_up 4 (fun i u w'=> ∃R,u=[.int .i64 (4-(i:Int))]/\Dw F D w b w.heap.size v dv xs ds w' R/\R<=p+25600*i) ⟨p,rfl,U,by omega⟩ ?_;rintro i _ _ w2 C hi ⟨p2,rfl,e,a0⟩ W;have hold:=e.old;have P:=e.new;simp only[push_cast];refine zd (fun a=>?_) (fun a=>?_)
 ·refine e.sub (c:=Xh 4) (fun T B=>l2Term_spec 4 (by omega) e.rd (fun x l=>Nat.lt_of_lt_of_le (hF x l) e.same.size) e.dcl hD (fun x l=>Nat.lt_of_lt_of_le (hD1 x l) e.same.size) k r s (by omega) (by omega) (by omega) B) fun J S tv t z G E H j=>?_;obtain⟨cs,rfl,d⟩:=H.cells;have o:=d.weaken (F':=fun x=>Nw w.heap.size x/\x<J.heap.size) fun x l Z=>⟨l,Z⟩;refine zw zt fun b2 w4 X q Q V=>?_;refine stTerm V rfl (o.ext q) fun w5 I _ L=>?_;have f:Ext J w5:=Ext.then q I fun y hy=>by subst hy;omega
  have O:aggB PP za cs.length=true:=by rw[yd d];exact zm
  rw[L.ldAgg (t:=za) O];have m:=z.ext f;refine spec_TermSort_spec (dok_sized k) m.dcl (d.ext f).term fun w6 g=>?_;have n:=m.ext g;simp only[push_cast];refine zd (fun c=>?_) (fun c=>?_)
  ·rw[(L.ext g).ldAgg (t:=za) O];exact n.fin (p0:=p) (by omega) ((d.ext f).ext g) j N
  ·rw[zF (by omega) (by omega),show 4-(i:Int)-1=4-((i+1:Nat):Int) by omega];exact W (by omega) _ _ ⟨S,rfl,n,by omega⟩
 ·refine e.sub (c:=100) (fun T B=>l2Leafy_spec e.rd (fun x l=>Nat.lt_of_lt_of_le (hF x l) e.same.size) e.dcl hD k r s (by omega) B) fun J S tv t z G E H j=>?_;obtain⟨cs,rfl,d⟩:=H.cells;exact z.fin (p0:=p) (by omega) d j N
end Go.Proofs.YtaemeijeaajoeaaGreatDoor
end
