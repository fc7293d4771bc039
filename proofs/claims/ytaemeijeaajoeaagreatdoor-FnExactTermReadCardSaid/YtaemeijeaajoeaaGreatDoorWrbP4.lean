import Derived.Test.YtaemeijeaajoeaaGreatDoorWrbP3
import Derived.Ground.NamesProg
import Derived.Shelf.Small.Wraps
import Derived.Shelf.Strconv.AtoiAll
import Derived.Shelf.Strings.IndexAnyAll
import Derived.Shelf.Strings.OnBuilder
import Derived.Shelf.Strings.Prefix
import Derived.Shelf.Strings.SlTrimAscii
import Derived.Shelf.SlGeneric
import Derived.Test.YtaemeijeaajoeaaGreatDoorProg
import Derived.Test.YtaemeijeaajoeaaGreatDoorWrbP2
import Derived.Test.YtaemeijeaajoeaaGreatDoorWrbP1
import Derived.Laws.CopyRow
import Derived.Laws.IdiomCopy
/- A part of the proof. -/
set_option linter.unusedVariables false
set_option linter.unusedSimpArgs false
set_option linter.unnecessarySimpa false
set_option linter.unusedSectionVars false
section
namespace Go.Proofs.YtaemeijeaajoeaaGreatDoor
open Go Go.Vc Go.Proofs
variable {w:World} {K:Value→World→Prop} {F G:Nat→Prop}
theorem stTerm {b:Nat} {cs cs':List Value} {t:TypeId} {i:M.Tm} (h:Blk w b cs t) (f:cs.length=5) (d:TmR F w cs' i) (c:∀w',Same (· =b) w w'->w'.heap.size=w.heap.size->Blk w' b cs' t->K undef w'):zn PP za (.pointer (some ⟨b,0,none⟩)) (.agg ⟨cs'⟩) w K:=by
 obtain⟨kv,rfl,e⟩:=d.inv;obtain⟨css,g,_⟩:=e;refine h.stAgg (by simp[f]) zo ?_ c;intro v a;simp only[List.mem_cons,List.not_mem_nil,or_false] at a;rcases a with rfl|rfl|rfl|rfl|rfl
 ·rfl
 ·rfl
 ·rfl
 ·rfl
 ·exact g.one
theorem yr {cs:List Value} {t:M.Tm} (h:TmR F w cs t):cs.length=5:=by
 obtain⟨kv,rfl,_⟩:=h.inv;rfl
theorem Kh {v:Value} {t:M.Tm} (m:TermR F w v t) (i:∀w',Ext w w'->K (.bool (M.plainM t)) w'):vcall PP kg #[v] w K:=by
 apply Js;unfold YK;obtain⟨ksv,rfl,k⟩:=m;refine zr fun b1 n j h l e=>?_;have d:=i _ h;unfold M.plainM at d;refine zL (fun u w'=>u=[.bool (decide (t.op=20)||decide (t.op=22)||(decide (t.a=0)&&decide (t.b=0)))]/\w'=n) (fun C f=>?_) ?_
 ·simp(disch:=(simp only[push_cast];done)) only[push_cast,e.ld0,e.ld1,e.ld2];refine zd (fun a=>?_) (fun a=>?_)
  ·exact f _ _ ⟨by rw[decide_eq_true a];rfl,rfl⟩
  refine zd (fun b=>?_) (fun b=>?_)
  ·exact f _ _ ⟨by rw[decide_eq_true b];simp,rfl⟩
  refine zd (fun c=>?_) (fun c=>?_)
  ·exact f _ _ ⟨by rw[decide_eq_false a,decide_eq_false b,decide_eq_true c];rfl,rfl⟩
  ·exact f _ _ ⟨by rw[decide_eq_false a,decide_eq_false b,decide_eq_false c];rfl,rfl⟩
 ·rintro u g o ⟨rfl,rfl⟩;simp(disch:=(simp only[push_cast];done)) only[push_cast,e.ld0,e.ld3];refine zE (fun a=>?_) (fun a=>?_)
  ·rw[a,Bool.true_and] at d;refine zd (fun b=>?_) (fun b=>?_)
   ·rwa[decide_eq_true b,Bool.true_or] at d
   ·rw[decide_eq_false b,Bool.false_or] at d;exact d
  ·rwa[a,Bool.false_and] at d
theorem Xe {mb:Nat} {o:Int} {ok:Bool} (h:KindsR w mb) (d:0<=M.arity o) (b:∀v,KindR o v->K (if ok then .tuple #[v,.bool true] else v) w):J7 PP zi (.map (some mb)) (.int .i64 o) ok w K:=by
 obtain⟨f,hm,a,g⟩:=h;obtain⟨v,e,c⟩:=a o d;rw[Vx kO hm (Xf o) e];exact b v c
theorem KQ {mb:Nat} {o:Int} (h:KindsR w mb) (d: ¬0<=M.arity o) (b:K (.tuple #[.nilIface,.bool false]) w):J7 PP zi (.map (some mb)) (.int .i64 o) true w K:=by
 obtain⟨f,hm,i,a⟩:=h;rw[KC kO (z:= .nilIface) (by unfold yT;kernel_rfl) hm (Xf o) fun v g=>?_]
 ·exact b
 ·obtain⟨o',e,c⟩:=a _ g;cases e;exact d c
theorem ZU {α β:Type} (f:α->β) {l:List α} {i:Nat} (h:i<l.length) (d:α):(l.take i).map f++[f (l.getD i d)]=(l.take (i+1)).map f:=by
 rw[List.take_add_one,List.getElem?_eq_getElem h,List.map_append,List.getD_eq_getElem?_getD,List.getElem?_eq_getElem h];rfl
theorem sortOf_spec:∀(t:M.Tm) {w:World} {K:Value->World->Prop} {F G:Nat->Prop} {mb:Nat} {dv v:Value} {ds:List M.Dcl},KindsR w mb->DclsR F w dv ds->M.declOk ds=true->TermR G w v t->
  (∀w',Ext w w'->K (.int .i64 (M.sortM ds t)) w')->vcall PP qo #[.map (some mb),dv,v] w K:=by
 refine M.Tm.ind fun t ih w K F G mb dv v ds hm hd N ht U=>?_;apply J1;unfold Ym;obtain⟨ksv,rfl,m⟩:=ht;refine zr fun b1 w1 a3 l a6 D=>?_;have J:=hm.ext l;simp(disch:=(simp only[push_cast];done)) only[push_cast,D.ld0];have A: ¬(M.formed t=true)->∀w',Ext w w'->K (.int .i64 (-1)) w':=fun hn w' he=>by
  have:=U w' he;rw[M.sortM_eq] at this;unfold M.sortF at this;rwa[if_neg (fun h=>hn h.1)] at this
 by_cases Y: ¬0<=M.arity t.op
 ·have S:=Y;refine KQ J S ?_;simp only[push_cast];refine zL (fun _ _=>False) (fun C R=>?_) (fun _ _ _ h=>h.elim);refine zN fun T c _=>?_;simp only[push_cast,true_and];refine A (fun h=>S ?_) _ (l.trans c);simp only[M.formed,Bool.and_eq_true,decide_eq_true_eq] at h;omega
 have S:0<=M.arity t.op:=by omega
 refine Xe J S fun kv I=>?_;simp only[push_cast,if_true];have a9:=m.small;refine zL (fun u w'=>u=[]/\Ext w1 w'/\M.formed t=true) (fun C R=>?_) ?_
 ·refine zN fun T c _=>?_;have E:=D.ext c;simp(disch:=(simp only[push_cast];done)) only[push_cast,E.ld4,m.len,true_and];refine I.kids _ _ fun w3 d=>?_;have Q:=E.ext d;simp(disch:=(simp only[push_cast];done)) only[push_cast,Q.ld4,m.len,true_and,and_self];refine zd (fun a=>?_) (fun a=>?_)
  ·refine A (fun h=>?_) _ ((l.trans c).trans d);simp only[M.formed,Bool.and_eq_true,decide_eq_true_eq] at h;omega
  ·simp(disch:=(simp only[push_cast];done)) only[push_cast,Q.ldAgg (t:=za) zo,true_and];refine Kh (F:=G) (t:=t) ⟨ksv,rfl,m.ext ((l.trans c).trans d)⟩ fun w4 e=>?_;simp only[push_cast,true_and];refine zE (fun b=>?_) (fun b=>?_)
   ·refine A (fun h=>?_) _ (((l.trans c).trans d).trans e);simp only[M.formed,Bool.and_eq_true] at h;rw[h.2] at b;cases b
   ·refine R _ _ ⟨rfl,(c.trans d).trans e,?_⟩;simp only[M.formed,Bool.and_eq_true,decide_eq_true_eq];exact⟨by omega,by simpa using b⟩
 ·rintro u g T ⟨rfl,c,hf⟩;have E:=D.ext c;have hE:=l.trans c;have ab:=hE.size;simp(disch:=(simp only[push_cast];done)) only[push_cast,E.ld4,m.len];have H:=hf;simp only[M.formed,Bool.and_eq_true,decide_eq_true_eq] at H;have a2:t.ks.length<=3:=by
   have D:=H.1;unfold M.arity at D
   repeat' split at D
   all_goals omega
  refine vloop_up t.ks.length (fun i u w'=> ∃sv,u=[sv,.int .i64 i]/\Ext T w'/\OwnI PP yh w' sv ((t.ks.take i).map (M.sortM ds))/\(∀b,sv.ownBlock=some b->T.heap.size<=b)/\(∀x,x∈(t.ks.take i).map (M.sortM ds)->x≠ -1)) ⟨_,rfl,Same.refl _ _,OwnI.nil,(fun b h=>by cases h),by simp⟩ ?_;rintro i _ _ w3 C hi ⟨sv,rfl,d,B,L,n⟩ R;have k:=hE.trans d;have o:=m.ext k;simp only[push_cast];refine zd (fun a=>?_) (fun a=>?_)
  ·simp(disch:=first|(simp only[push_cast];done)|omega) only[push_cast,o.iaddr];refine o.load zo (by omega) fun x r=>?_;obtain⟨cs,rfl,s⟩:=r.cells;refine zx zy fun b2 w4 a4 e a7 h4=>?_;refine stTerm h4 rfl (s.ext e) fun w5 Z aa h5=>?_;have p:Ext w3 w5:=Ext.then e Z fun y P=>by subst P;omega
   rw[h5.ldAgg (t:=za) (by rw[yr s];exact zo)];refine ih _ (M.getD_mem (by omega) _) (hm.ext (k.trans p)) (hd.ext (k.trans p)) N (s.ext p).term fun w6 V=>?_;simp only[push_cast];have f:=p.trans V;refine zd (fun b=>?_) (fun b=>?_)
   ·have:=U _ (k.trans f);rw[M.sortM_eq] at this;unfold M.sortF at this;rwa[if_neg (fun h=>h.2 (b▸List.mem_map_of_mem (M.getD_mem (by omega) _)))] at this
   ·refine YX WY ZQ W3 rfl rfl (by decide) fun b3 w7 a5 z a8 h7=>?_;have O:=(B.ext f).ext z;have hlen:((t.ks.take i).map (M.sortM ds)).length=i:=by rw[List.length_map,List.length_take];omega
    refine O.app1 U7 h7 (by rw[hlen];omega) (by rw[hlen];omega) fun a1 w8 q a0 X=>?_
    try simp only[push_cast]
    rw[inc64' (by omega)];rw[ZU _ (by omega)] at q;refine R (by omega) _ _ ⟨a1,rfl,Ext.then ((d.trans f).trans z) a0 fun y P=>L y P,q,fun y P=>?_,fun x r=>?_⟩
    ·rcases X y P with h|h
     ·exact L y h
     ·have:=(d.trans f).size;have:=z.size;omega
    ·rw[<-ZU _ (by omega) default] at r;rcases List.mem_append.1 r with r|r
     ·exact n x r
     ·rw[List.mem_singleton.1 r];exact b
  ·have W:i=t.ks.length:=(by omega);subst W;rw[List.take_length] at B n;have Q:=E.ext d;simp(disch:=(simp only[push_cast];done)) only[push_cast,Q.ldAgg (t:=za) zo];refine I.sort _ _ F G _ _ _ _ ds t _ rfl (hd.ext k) ⟨ksv,rfl,o⟩ B.ints (by rw[List.length_map];omega) (fun j=>?_) fun w4 e=>?_
   ·by_cases hj:j<t.ks.length
    ·rw[M.getD_map _ hj 0 default];exact M.sort_range N _
    ·rw[List.getD_eq_getElem?_getD,List.getElem?_eq_none (by simpa using hj)];simp
   ·have:=U _ (k.trans e);rw[M.sortM_eq] at this;unfold M.sortF at this;rwa[if_pos ⟨hf,fun h=>n _ h rfl⟩] at this
theorem count_spec:∀(t:M.Tm) {w:World} {K:Value->World->Prop} {F:Nat->Prop} {v:Value} {m deep mb:Nat} {ty:TypeId},TermR F w v t->Blk w mb [.int .i64 m] ty->(∀b,F b->b≠mb)->m<=20->1<=deep->deep<=8->
  (∀w' (r B:Nat),Same (· =mb) w w'->Blk w' mb [.int .i64 B] ty->m<B->B<=21->deep<=r->r<=8->(m+M.sizeM t<=20/\deep-1+M.deepM t<=7->B=m+M.sizeM t/\r=deep-1+M.deepM t)->(¬(m+M.sizeM t<=20/\deep-1+M.deepM t<=7)->20<B\/7<r)->K (.int .i64 r) w')->
  vcall PP qX #[v,.int .i64 deep,.pointer (some ⟨mb,0,none⟩)] w K:=by
 refine M.Tm.ind fun t ih w K F v m deep mb ty ht E hF hm a2 a3 J=>?_;apply Ju;unfold YM;obtain⟨ksv,rfl,n⟩:=ht;refine zr fun b1 w1 a0 p a9 W=>?_;have o:=E.ext p;have U:=E.lt;have ab:=n.small;have hS:=M.szT_all t;have hD:=M.dpT_all t;simp(disch:=(simp only[push_cast];done)) only[push_cast,o.ld0];rw[inc64' (by omega)];refine o.st (i:=0) rfl rfl ZQ rfl fun G A ac D=>?_;have s:Same (· =mb) w G:=(Same.of_ext p).trans A;have q2:=W.same A (by omega);replace D:Blk G mb [.int .i64 (m+1:Nat)] ty:=D;refine zd (fun a=>?_) (fun a=>?_)
 ·exact J G deep (m+1) s D (by omega) (by omega) (by omega) (by omega) (fun h=>by omega) (fun h=>by omega)
 simp(disch:=(simp only[push_cast];done)) only[push_cast,q2.ld4,n.len];refine vloop_up t.ks.length (fun i u w'=> ∃r mi:Nat,u=[.int .i64 r,.int .i64 i]/\Same (· =mb) G w'/\Blk w' mb [.int .i64 mi] ty/\m<mi/\mi<=21/\deep<=r/\r<=8/\(m+1+M.szT t.ks i<=20/\deep+M.dpT t.ks i<=7->mi=m+1+M.szT t.ks i/\r=deep+M.dpT t.ks i)/\(¬(m+1+M.szT t.ks i<=20/\deep+M.dpT t.ks i<=7)->20<mi\/7<r))
  ⟨deep,m+1,rfl,Same.refl _ _,D,by omega,by omega,by omega,by omega,fun h=>by simp[M.szT,M.dpT],fun h=>by
   have S:M.szT t.ks 0=0:=rfl;have e2:M.dpT t.ks 0=0:=rfl;omega⟩ ?_
 rintro i _ _ H C hi ⟨r,mi,rfl,z,I,Q,c2,c3,c4,c5,R⟩ hC;have d:Same (· =mb) w H:=s.trans z;have g:TmsR F H ksv t.ks:=n.same d fun b E _ e=>hF b E e;have ad:=d.size;simp only[push_cast];refine zd (fun b=>?_) (fun b=>?_)
 ·have a5:=M.szT_mono (ks:=t.ks) (i:=i) (j:=t.ks.length) (by omega) (Nat.le_refl _);have a6:=M.dpT_mono (ks:=t.ks) (i:=i) (j:=t.ks.length) (by omega) (Nat.le_refl _);have a7:=M.szT_succ (ks:=t.ks) (i:=i) (by omega);have a8:=M.dpT_succ (ks:=t.ks) (i:=i) (by omega);simp(disch:=first|(simp only[push_cast];done)|omega) only[push_cast,g.iaddr];refine g.load zo (by omega) fun x hx=>?_;obtain⟨cs,rfl,l⟩:=hx.cells;refine zx zy fun b2 w4 a1 q aa X=>?_;refine stTerm X rfl (l.ext q) fun V O ae Y=>?_;have f:Ext H V:=Ext.then q O fun y hy=>by subst hy;omega
  have k:=I.ext f;have a4:=I.lt;simp(disch:=(simp only[push_cast];done)) only[push_cast,k.ld0];refine zd (fun c=>?_) (fun c=>?_)
  ·exact J V r mi (d.trans (Same.of_ext f)) k Q c2 c3 c4 (fun h=>by omega) (fun h=>by omega)
  ·rw[Y.ldAgg (t:=za) (by rw[yr l];exact zo)];have S:IntKind.i64.wrap ((deep:Int)+1)=((deep+1:Nat):Int):=inc64' (by omega);rw[S];refine ih _ (M.getD_mem (by omega) _) (l.ext f).term k hF (by omega) (by omega) (by omega) fun w6 P m2 N Z d1 d2 d3 d4 d5 d6=>?_;simp only[push_cast];rw[inc64' (by omega),show max (r:Int) (P:Int)=((max r P:Nat):Int) by omega];refine hC (by omega) _ _ ⟨max r P,m2,rfl,(z.trans (Same.of_ext f)).trans N,Z,by omega,d2,by omega,by omega,fun h=>?_,fun h=>?_⟩
   ·have:=c5 (by omega);have:=d5 (by omega);omega
   ·by_cases T:m+1+M.szT t.ks i<=20/\deep+M.dpT t.ks i<=7
    ·have:=c5 T;have:=d6 (by omega);omega
    ·have:=R T;omega
 ·have L:i=t.ks.length:=(by omega);subst L;refine J H r mi d I Q c2 c3 c4 (fun h=>?_) (fun h=>?_)
  ·have:=c5 (by omega);omega
  ·exact R (by omega)
theorem TermMany_spec {v:Value} {t:M.Tm} (A:TermR F w v t) (H:∀w',Ext w w'->K (.tuple #[.int .i64 (M.manyM t),.int .i64 (M.lvlM t)]) w'):vcall PP qH #[v] w K:=by
 apply XC;unfold kF;have q:=A.weaken (F':=fun b=>b<w.heap.size) fun b _ h=>h;obtain⟨ksv,rfl,L⟩:=A;refine zr fun b1 W I n N E=>?_;refine kK W3 fun x S J f O k=>?_;replace k:Blk S x [.int .i64 0] zb:=k;refine k.st (i:=0) rfl rfl ZQ rfl fun B j P l=>?_;replace l:Blk B x [.int .i64 ((0:Nat):Int)] zb:=l;have R:=(E.ext f).same j (by omega);have g:Ext w B:=Ext.then (n.trans f) j fun y u=>by subst u;omega
 rw[R.ldAgg (t:=za) zo];refine count_spec t (m:=0) (deep:=1) (q.ext g) l (fun b V e=>by omega) (by omega) (by omega) (by omega) fun C r Q p G T c2 c3 c4 c5 D=>?_;have o:Ext w C:=Ext.then g p fun y u=>by subst u;omega
 have d:=H C o;have c:M.fits t=true↔M.sizeM t<=20/\M.deepM t<=7:=M.fits_iff;unfold M.manyM M.lvlM at d;simp(disch:=(simp only[push_cast];done)) only[push_cast,G.ld0];refine zd (fun a=>?_) (fun a=>?_)
 ·rw[if_neg (fun h=>by have s:=c.1 h;have:=c5 (by omega);omega),if_neg (fun h=>by have s:=c.1 h;have:=c5 (by omega);omega)] at d;exact d
 ·refine zd (fun b=>?_) (fun b=>?_)
  ·rw[if_neg (fun h=>by have s:=c.1 h;have:=c5 (by omega);omega),if_neg (fun h=>by have s:=c.1 h;have:=c5 (by omega);omega)] at d;exact d
  ·have z:M.sizeM t<=20/\M.deepM t<=7:=by
    by_cases h:M.sizeM t<=20/\M.deepM t<=7
    ·exact h
    ·have:=D (by omega);omega
   have U:=c5 (by omega);rw[if_pos (c.2 z),if_pos (c.2 z)] at d;rw[show Q=M.sizeM t by omega,show r=M.deepM t by omega];exact d
end Go.Proofs.YtaemeijeaajoeaaGreatDoor
end
section
namespace Go.Proofs
open Go.Shelf
def YtaemeijeaajoeaaGreatDoor.trimL_ren:Go.Shelf.Ren:=⟨fun|160=>75 |232=>99 |231=>98 |227=>100 |234=>102 |233=>101 |236=>104 |235=>103 |228=>115 |271=>118 |151=>117 |197=>116 |120=>131 |152=>119 |260=>130 |137=>132 |119=>133 |224=>134 |225=>135 |217=>146 |266=>152 |n=>n,fun|9=>9 |4=>4 |3=>3 |5=>5 |117=>151 |116=>150 |0=>0 |124=>154 |21=>21 |105=>162 |46=>177 |119=>189 |139=>192 |138=>191 |n=>n,fun|3=>2 |4=>3 |n=>n⟩
theorem YtaemeijeaajoeaaGreatDoor.trimL:Go.Proofs.Lays.n160 Tryz.prog YtaemeijeaajoeaaGreatDoor.trimL_ren:={
 mixed:=by kernel_rfl
 f119:=Tryz.func133.trans (congrArg some (by kernel_rfl))
 f120:=Tryz.func131.trans (congrArg some (by kernel_rfl))
 f137:=Tryz.func132.trans (congrArg some (by kernel_rfl))
 f151:=Tryz.func117.trans (congrArg some (by kernel_rfl))
 f152:=Tryz.func119.trans (congrArg some (by kernel_rfl))
 f160:=Tryz.func75.trans (congrArg some (by kernel_rfl))
 f197:=Tryz.func116.trans (congrArg some (by kernel_rfl))
 f217:=Tryz.func146.trans (congrArg some (by kernel_rfl))
 f224:=Tryz.func134.trans (congrArg some (by kernel_rfl))
 f225:=Tryz.func135.trans (congrArg some (by kernel_rfl))
 f227:=Tryz.func100.trans (congrArg some (by kernel_rfl))
 f228:=Tryz.func115.trans (congrArg some (by kernel_rfl))
 f231:=Tryz.func98.trans (congrArg some (by kernel_rfl))
 f232:=Tryz.func99.trans (congrArg some (by kernel_rfl))
 f233:=Tryz.func101.trans (congrArg some (by kernel_rfl))
 f234:=Tryz.func102.trans (congrArg some (by kernel_rfl))
 f235:=Tryz.func103.trans (congrArg some (by kernel_rfl))
 f236:=Tryz.func104.trans (congrArg some (by kernel_rfl))
 f260:=Tryz.func130.trans (congrArg some (by kernel_rfl))
 f266:=Tryz.func152.trans (congrArg some (by kernel_rfl))
 f271:=Tryz.func118.trans (congrArg some (by kernel_rfl))
 t0:=Tryz.underlying0
 a0:=Tryz.isAgg0
 z0:=Tryz.sizeOf0
 v0:=Tryz.zeroValue0
 t3:=Tryz.underlying3
 a3:=Tryz.isAgg3
 z3:=Tryz.sizeOf3
 v3:=Tryz.zeroValue3
 t4:=Tryz.underlying4
 a4:=Tryz.isAgg4
 z4:=Tryz.sizeOf4
 v4:=Tryz.zeroValue4
 t5:=Tryz.underlying5
 a5:=Tryz.isAgg5
 z5:=Tryz.sizeOf5
 v5:=Tryz.zeroValue5
 t9:=Tryz.underlying9
 a9:=Tryz.isAgg9
 z9:=Tryz.sizeOf9
 v9:=Tryz.zeroValue9
 t21:=Tryz.underlying21
 a21:=Tryz.isAgg21
 z21:=Tryz.sizeOf21
 v21:=Tryz.zeroValue21
 t46:=Tryz.underlying177
 a46:=Tryz.isAgg177
 z46:=Tryz.sizeOf177
 v46:=Tryz.zeroValue177
 t105:=Tryz.underlying162
 a105:=Tryz.isAgg162
 z105:=Tryz.sizeOf162
 v105:=Tryz.zeroValue162
 t116:=Tryz.underlying150
 a116:=Tryz.isAgg150
 z116:=Tryz.sizeOf150
 t117:=Tryz.underlying151
 a117:=Tryz.isAgg151
 z117:=Tryz.sizeOf151
 v117:=Tryz.zeroValue151
 t119:=Tryz.underlying189
 a119:=Tryz.isAgg189
 z119:=Tryz.sizeOf189
 t124:=Tryz.underlying154
 a124:=Tryz.isAgg154
 z124:=Tryz.sizeOf154
 v124:=Tryz.zeroValue154
 t138:=Tryz.underlying191
 a138:=Tryz.isAgg191
 z138:=Tryz.sizeOf191
 v138:=Tryz.zeroValue191
 t139:=Tryz.underlying192
 a139:=Tryz.isAgg192
 z139:=Tryz.sizeOf192
 v139:=Tryz.zeroValue192
 g3:=by kernel_rfl
 g4:=by kernel_rfl}
def YtaemeijeaajoeaaGreatDoor.joinL_ren:Go.Shelf.Ren:=⟨fun|156=>63 |165=>92 |166=>93 |169=>94 |240=>113 |241=>114 |276=>128 |277=>129 |n=>n,fun|31=>72 |9=>9 |3=>3 |4=>4 |0=>0 |20=>20 |72=>142 |76=>146 |70=>140 |37=>36 |75=>145 |127=>160 |164=>172 |5=>5 |80=>114 |n=>n,fun|n=>n⟩
theorem YtaemeijeaajoeaaGreatDoor.joinL:Go.Proofs.Lays.n156 Tryz.prog YtaemeijeaajoeaaGreatDoor.joinL_ren:={
 mixed:=by kernel_rfl
 f156:=Tryz.func63.trans (congrArg some (by kernel_rfl))
 f165:=Tryz.func92.trans (congrArg some (by kernel_rfl))
 f166:=Tryz.func93.trans (congrArg some (by kernel_rfl))
 f169:=Tryz.func94.trans (congrArg some (by kernel_rfl))
 f240:=Tryz.func113.trans (congrArg some (by kernel_rfl))
 f241:=Tryz.func114.trans (congrArg some (by kernel_rfl))
 f276:=Tryz.func128.trans (congrArg some (by kernel_rfl))
 f277:=Tryz.func129.trans (congrArg some (by kernel_rfl))
 t0:=Tryz.underlying0
 a0:=Tryz.isAgg0
 z0:=Tryz.sizeOf0
 v0:=Tryz.zeroValue0
 t3:=Tryz.underlying3
 a3:=Tryz.isAgg3
 z3:=Tryz.sizeOf3
 v3:=Tryz.zeroValue3
 t4:=Tryz.underlying4
 a4:=Tryz.isAgg4
 z4:=Tryz.sizeOf4
 v4:=Tryz.zeroValue4
 t9:=Tryz.underlying9
 a9:=Tryz.isAgg9
 z9:=Tryz.sizeOf9
 v9:=Tryz.zeroValue9
 t20:=Tryz.underlying20
 a20:=Tryz.isAgg20
 z20:=Tryz.sizeOf20
 v20:=Tryz.zeroValue20
 t31:=Tryz.underlying72
 a31:=Tryz.isAgg72
 z31:=Tryz.sizeOf72
 v31:=Tryz.zeroValue72
 t37:=Tryz.underlying36
 a37:=Tryz.isAgg36
 z37:=Tryz.sizeOf36
 v37:=Tryz.zeroValue36
 t70:=Tryz.underlying140
 a70:=Tryz.isAgg140
 z70:=Tryz.sizeOf140
 v70:=Tryz.zeroValue140
 t72:=Tryz.underlying142
 a72:=Tryz.isAgg142
 z72:=Tryz.sizeOf142
 v72:=Tryz.zeroValue142
 t75:=Tryz.underlying145
 a75:=Tryz.isAgg145
 z75:=Tryz.sizeOf145
 v75:=Tryz.zeroValue145
 t76:=Tryz.underlying146
 a76:=Tryz.isAgg146
 z76:=Tryz.sizeOf146
 v76:=Tryz.zeroValue146
 t127:=Tryz.underlying160
 a127:=Tryz.isAgg160
 z127:=Tryz.sizeOf160
 v127:=Tryz.zeroValue160
 t164:=Tryz.underlying172
 a164:=Tryz.isAgg172
 z164:=Tryz.sizeOf172
 v164:=Tryz.zeroValue172}
def YtaemeijeaajoeaaGreatDoor.cutL_ren:Go.Shelf.Ren:=⟨fun|103=>109 |210=>121 |206=>106 |n=>n,fun|9=>9 |4=>4 |24=>157 |3=>3 |n=>n,fun|n=>n⟩
theorem YtaemeijeaajoeaaGreatDoor.cutL:Go.Proofs.Lays.n103 Tryz.prog YtaemeijeaajoeaaGreatDoor.cutL_ren:={
 mixed:=by kernel_rfl
 f103:=Tryz.func109.trans (congrArg some (by kernel_rfl))
 f206:=Tryz.func106.trans (congrArg some (by kernel_rfl))
 f210:=Tryz.func121.trans (congrArg some (by kernel_rfl))
 t3:=Tryz.underlying3
 a3:=Tryz.isAgg3
 z3:=Tryz.sizeOf3
 v3:=Tryz.zeroValue3
 t4:=Tryz.underlying4
 a4:=Tryz.isAgg4
 z4:=Tryz.sizeOf4
 v4:=Tryz.zeroValue4
 t9:=Tryz.underlying9
 a9:=Tryz.isAgg9
 z9:=Tryz.sizeOf9
 v9:=Tryz.zeroValue9
 t24:=Tryz.underlying157
 a24:=Tryz.isAgg157
 z24:=Tryz.sizeOf157
 v24:=Tryz.zeroValue157}
def YtaemeijeaajoeaaGreatDoor.hasL_ren:Go.Shelf.Ren:=⟨fun|99=>81 |206=>106 |n=>n,fun|9=>9 |4=>4 |3=>3 |n=>n,fun|n=>n⟩
theorem YtaemeijeaajoeaaGreatDoor.hasL:Go.Proofs.Lays.n99 Tryz.prog YtaemeijeaajoeaaGreatDoor.hasL_ren:={
 mixed:=by kernel_rfl
 f99:=Tryz.func81.trans (congrArg some (by kernel_rfl))
 f206:=Tryz.func106.trans (congrArg some (by kernel_rfl))
 t3:=Tryz.underlying3
 a3:=Tryz.isAgg3
 z3:=Tryz.sizeOf3
 v3:=Tryz.zeroValue3
 t4:=Tryz.underlying4
 a4:=Tryz.isAgg4
 z4:=Tryz.sizeOf4
 v4:=Tryz.zeroValue4
 t9:=Tryz.underlying9
 a9:=Tryz.isAgg9
 z9:=Tryz.sizeOf9
 v9:=Tryz.zeroValue9}
def YtaemeijeaajoeaaGreatDoor.anyL_ren:Go.Shelf.Ren:=⟨fun|153=>108 |152=>119 |226=>120 |227=>100 |228=>115 |137=>132 |119=>133 |224=>134 |225=>135 |217=>146 |266=>152 |n=>n,fun|9=>9 |3=>3 |4=>4 |5=>5 |21=>21 |117=>151 |116=>150 |0=>0 |46=>177 |124=>154 |n=>n,fun|n=>n⟩
theorem YtaemeijeaajoeaaGreatDoor.anyL:Go.Proofs.Lays.n153 Tryz.prog YtaemeijeaajoeaaGreatDoor.anyL_ren:={
 mixed:=by kernel_rfl
 f119:=Tryz.func133.trans (congrArg some (by kernel_rfl))
 f137:=Tryz.func132.trans (congrArg some (by kernel_rfl))
 f152:=Tryz.func119.trans (congrArg some (by kernel_rfl))
 f153:=Tryz.func108.trans (congrArg some (by kernel_rfl))
 f217:=Tryz.func146.trans (congrArg some (by kernel_rfl))
 f224:=Tryz.func134.trans (congrArg some (by kernel_rfl))
 f225:=Tryz.func135.trans (congrArg some (by kernel_rfl))
 f226:=Tryz.func120.trans (congrArg some (by kernel_rfl))
 f227:=Tryz.func100.trans (congrArg some (by kernel_rfl))
 f228:=Tryz.func115.trans (congrArg some (by kernel_rfl))
 f266:=Tryz.func152.trans (congrArg some (by kernel_rfl))
 t0:=Tryz.underlying0
 a0:=Tryz.isAgg0
 z0:=Tryz.sizeOf0
 v0:=Tryz.zeroValue0
 t3:=Tryz.underlying3
 a3:=Tryz.isAgg3
 z3:=Tryz.sizeOf3
 v3:=Tryz.zeroValue3
 t4:=Tryz.underlying4
 a4:=Tryz.isAgg4
 z4:=Tryz.sizeOf4
 v4:=Tryz.zeroValue4
 t5:=Tryz.underlying5
 a5:=Tryz.isAgg5
 z5:=Tryz.sizeOf5
 v5:=Tryz.zeroValue5
 t9:=Tryz.underlying9
 a9:=Tryz.isAgg9
 z9:=Tryz.sizeOf9
 v9:=Tryz.zeroValue9
 t21:=Tryz.underlying21
 a21:=Tryz.isAgg21
 z21:=Tryz.sizeOf21
 v21:=Tryz.zeroValue21
 t46:=Tryz.underlying177
 a46:=Tryz.isAgg177
 z46:=Tryz.sizeOf177
 v46:=Tryz.zeroValue177
 t116:=Tryz.underlying150
 a116:=Tryz.isAgg150
 z116:=Tryz.sizeOf150
 t117:=Tryz.underlying151
 a117:=Tryz.isAgg151
 z117:=Tryz.sizeOf151
 v117:=Tryz.zeroValue151
 t124:=Tryz.underlying154
 a124:=Tryz.isAgg154
 z124:=Tryz.sizeOf154
 v124:=Tryz.zeroValue154}
def YtaemeijeaajoeaaGreatDoor.atoiL_ren:Go.Shelf.Ren:=⟨fun|172=>110 |244=>122 |245=>123 |247=>136 |279=>137 |280=>138 |281=>139 |282=>140 |287=>147 |316=>148 |171=>62 |205=>149 |321=>153 |322=>154 |243=>91 |246=>112 |283=>124 |284=>125 |285=>126 |286=>127 |129=>142 |317=>141 |318=>143 |319=>144 |320=>145 |337=>150 |338=>151 |n=>n,fun|9=>9 |3=>3 |75=>145 |76=>146 |4=>4 |5=>5 |167=>178 |37=>36 |0=>0 |85=>179 |2=>2 |168=>181 |53=>136 |175=>193 |46=>177 |210=>197 |127=>160 |145=>203 |143=>201 |21=>21 |171=>167 |173=>170 |212=>185 |51=>186 |20=>20 |213=>187 |232=>204 |233=>205 |80=>114 |n=>n,fun|15=>4 |16=>5 |17=>0 |18=>6 |19=>7 |n=>n⟩
theorem YtaemeijeaajoeaaGreatDoor.atoiL:Go.Proofs.LaysC.n172 Tryz.prog YtaemeijeaajoeaaGreatDoor.atoiL_ren:={
 mixed:=by kernel_rfl
 f129:=Tryz.func142.trans (congrArg some (by kernel_rfl))
 f171:=Tryz.func62.trans (congrArg some (by kernel_rfl))
 f172:=Tryz.func110.trans (congrArg some (by kernel_rfl))
 f205:=Tryz.func149.trans (congrArg some (by kernel_rfl))
 f243:=Tryz.func91.trans (congrArg some (by kernel_rfl))
 f244:=Tryz.func122.trans (congrArg some (by kernel_rfl))
 f245:=Tryz.func123.trans (congrArg some (by kernel_rfl))
 f246:=Tryz.func112.trans (congrArg some (by kernel_rfl))
 f247:=Tryz.func136.trans (congrArg some (by kernel_rfl))
 f279:=Tryz.func137.trans (congrArg some (by kernel_rfl))
 f280:=Tryz.func138.trans (congrArg some (by kernel_rfl))
 f281:=Tryz.func139.trans (congrArg some (by kernel_rfl))
 f282:=Tryz.func140.trans (congrArg some (by kernel_rfl))
 f283:=Tryz.func124.trans (congrArg some (by kernel_rfl))
 f284:=Tryz.func125.trans (congrArg some (by kernel_rfl))
 f285:=Tryz.func126.trans (congrArg some (by kernel_rfl))
 f286:=Tryz.func127.trans (congrArg some (by kernel_rfl))
 f287:=Tryz.func147.trans (congrArg some (by kernel_rfl))
 f316:=Tryz.func148.trans (congrArg some (by kernel_rfl))
 f317:=Tryz.func141.trans (congrArg some (by kernel_rfl))
 f318:=Tryz.func143.trans (congrArg some (by kernel_rfl))
 f319:=Tryz.func144.trans (congrArg some (by kernel_rfl))
 f320:=Tryz.func145.trans (congrArg some (by kernel_rfl))
 f321:=Tryz.func153.trans (congrArg some (by kernel_rfl))
 f322:=Tryz.func154.trans (congrArg some (by kernel_rfl))
 f337:=Tryz.func150.trans (congrArg some (by kernel_rfl))
 f338:=Tryz.func151.trans (congrArg some (by kernel_rfl))
 t0:=Tryz.underlying0
 a0:=Tryz.isAgg0
 z0:=Tryz.sizeOf0
 v0:=Tryz.zeroValue0
 t2:=Tryz.underlying2
 a2:=Tryz.isAgg2
 z2:=Tryz.sizeOf2
 v2:=Tryz.zeroValue2
 t3:=Tryz.underlying3
 a3:=Tryz.isAgg3
 z3:=Tryz.sizeOf3
 v3:=Tryz.zeroValue3
 t4:=Tryz.underlying4
 a4:=Tryz.isAgg4
 z4:=Tryz.sizeOf4
 v4:=Tryz.zeroValue4
 t5:=Tryz.underlying5
 a5:=Tryz.isAgg5
 z5:=Tryz.sizeOf5
 v5:=Tryz.zeroValue5
 t9:=Tryz.underlying9
 a9:=Tryz.isAgg9
 z9:=Tryz.sizeOf9
 v9:=Tryz.zeroValue9
 t20:=Tryz.underlying20
 a20:=Tryz.isAgg20
 z20:=Tryz.sizeOf20
 v20:=Tryz.zeroValue20
 t21:=Tryz.underlying21
 a21:=Tryz.isAgg21
 z21:=Tryz.sizeOf21
 v21:=Tryz.zeroValue21
 t37:=Tryz.underlying36
 a37:=Tryz.isAgg36
 z37:=Tryz.sizeOf36
 v37:=Tryz.zeroValue36
 t46:=Tryz.underlying177
 a46:=Tryz.isAgg177
 z46:=Tryz.sizeOf177
 v46:=Tryz.zeroValue177
 t51:=Tryz.underlying186
 a51:=Tryz.isAgg186
 z51:=Tryz.sizeOf186
 v51:=Tryz.zeroValue186
 t53:=Tryz.underlying136
 a53:=Tryz.isAgg136
 z53:=Tryz.sizeOf136
 v53:=Tryz.zeroValue136
 t75:=Tryz.underlying145
 a75:=Tryz.isAgg145
 z75:=Tryz.sizeOf145
 v75:=Tryz.zeroValue145
 t76:=Tryz.underlying146
 a76:=Tryz.isAgg146
 z76:=Tryz.sizeOf146
 v76:=Tryz.zeroValue146
 t85:=Tryz.underlying179
 a85:=Tryz.isAgg179
 z85:=Tryz.sizeOf179
 v85:=Tryz.zeroValue179
 t127:=Tryz.underlying160
 a127:=Tryz.isAgg160
 z127:=Tryz.sizeOf160
 v127:=Tryz.zeroValue160
 t143:=Tryz.underlying201
 a143:=Tryz.isAgg201
 z143:=Tryz.sizeOf201
 v143:=Tryz.zeroValue201
 t145:=Tryz.underlying203
 a145:=Tryz.isAgg203
 z145:=Tryz.sizeOf203
 v145:=Tryz.zeroValue203
 t167:=Tryz.underlying178
 a167:=Tryz.isAgg178
 z167:=Tryz.sizeOf178
 v167:=Tryz.zeroValue178
 t168:=Tryz.underlying181
 a168:=Tryz.isAgg181
 z168:=Tryz.sizeOf181
 v168:=Tryz.zeroValue181
 t171:=Tryz.underlying167
 a171:=Tryz.isAgg167
 z171:=Tryz.sizeOf167
 v171:=Tryz.zeroValue167
 t173:=Tryz.underlying170
 a173:=Tryz.isAgg170
 z173:=Tryz.sizeOf170
 v173:=Tryz.zeroValue170
 t175:=Tryz.underlying193
 a175:=Tryz.isAgg193
 z175:=Tryz.sizeOf193
 v175:=Tryz.zeroValue193
 t210:=Tryz.underlying197
 a210:=Tryz.isAgg197
 z210:=Tryz.sizeOf197
 v210:=Tryz.zeroValue197
 t212:=Tryz.underlying185
 a212:=Tryz.isAgg185
 z212:=Tryz.sizeOf185
 v212:=Tryz.zeroValue185
 t213:=Tryz.underlying187
 a213:=Tryz.isAgg187
 z213:=Tryz.sizeOf187
 t232:=Tryz.underlying204
 a232:=Tryz.isAgg204
 z232:=Tryz.sizeOf204
 v232:=Tryz.zeroValue204
 t233:=Tryz.underlying205
 a233:=Tryz.isAgg205
 z233:=Tryz.sizeOf205
 v233:=Tryz.zeroValue205
 g15:=by kernel_rfl
 g16:=by kernel_rfl
 g17:=by kernel_rfl
 g18:=by kernel_rfl
 g19:=by kernel_rfl
 t80:=Tryz.underlying114
 a80:=Tryz.isAgg114
 z80:=Tryz.sizeOf114
 v80:=Tryz.zeroValue114
 i0:=by kernel_rfl
 i2:=by kernel_rfl
 i3:=by kernel_rfl
 i4:=by kernel_rfl
 i5:=by kernel_rfl
 i9:=by kernel_rfl
 i20:=by kernel_rfl
 i21:=by kernel_rfl
 i37:=by kernel_rfl
 i46:=by kernel_rfl
 i51:=by kernel_rfl
 i53:=by kernel_rfl
 i75:=by kernel_rfl
 i76:=by kernel_rfl
 i80:=by kernel_rfl
 i85:=by kernel_rfl
 i127:=by kernel_rfl
 i143:=by kernel_rfl
 i145:=by kernel_rfl
 i167:=by kernel_rfl
 i168:=by kernel_rfl
 i171:=by kernel_rfl
 i173:=by kernel_rfl
 i175:=by kernel_rfl
 i210:=by kernel_rfl
 i212:=by kernel_rfl
 i232:=by kernel_rfl
 i233:=by kernel_rfl
 m15:=by kernel_rfl
 m16:=by kernel_rfl
 m17:=by kernel_rfl
 m18:=by kernel_rfl
 m19:=by kernel_rfl
 c0:=by kernel_rfl
 c2:=by kernel_rfl
 c3:=by kernel_rfl
 c4:=by kernel_rfl
 c5:=by kernel_rfl
 c9:=by kernel_rfl
 c20:=by kernel_rfl
 c21:=by kernel_rfl
 c37:=by kernel_rfl
 c46:=by kernel_rfl
 c51:=by kernel_rfl
 c53:=by kernel_rfl
 c75:=by kernel_rfl
 c76:=by kernel_rfl
 c80:=by kernel_rfl
 c85:=by kernel_rfl
 c127:=by kernel_rfl
 c143:=by kernel_rfl
 c145:=by kernel_rfl
 c167:=by kernel_rfl
 c168:=by kernel_rfl
 c171:=by kernel_rfl
 c173:=by kernel_rfl
 c175:=by kernel_rfl
 c210:=by kernel_rfl
 c212:=by kernel_rfl
 c213:=by kernel_rfl
 c232:=by kernel_rfl
 c233:=by kernel_rfl}
end Go.Proofs
end
section
namespace Go.Proofs.YtaemeijeaajoeaaGreatDoor
open Go Go.Vc Go.Proofs
variable {w:World} {K:Value→World→Prop} {F G:Nat→Prop}
theorem dw_nil {α:Type} {p:α->Bool}:∀{l:List α},l.dropWhile p=[]↔ ∀x,x∈l->p x=true
 |[]=>by simp
 |a::l=>by
  rw[List.dropWhile_cons];split
  ·rename_i h;rw[dw_nil];constructor
   ·intro b x c;rcases List.mem_cons.1 c with rfl|c
    ·exact h
    ·exact b x c
   ·intro b x c;exact b x (List.mem_cons_of_mem _ c)
  ·rename_i h;constructor
   ·intro b;cases b
   ·intro b;exact absurd (b a List.mem_cons_self) h
theorem dw_head {α:Type} {p:α->Bool}:∀{l:List α},l.dropWhile p≠[]->∃x,x∈l.dropWhile p/\p x=false
 |[],h=>absurd rfl h
 |a::l,h=>by
  rw[List.dropWhile_cons] at h⊢;split
  ·rename_i b;rw[if_pos b] at h;exact dw_head h
  ·rename_i b;exact⟨a,List.mem_cons_self,by simpa using b⟩
theorem dw_sub {α:Type} {p:α->Bool}:∀{l:List α} {x:α},x∈l.dropWhile p->x∈l
 |[],_,h=>h
 |a::l,x,h=>by
  rw[List.dropWhile_cons] at h;split at h
  ·exact List.mem_cons_of_mem _ (dw_sub h)
  ·exact h
theorem VB {l cs:List UInt8}:Lib.trimS l cs=[]↔ ∀x,x∈l->cs.contains x=true:=by
 unfold Lib.trimS Lib.trimLeftS Lib.trimRightS;rw[dw_nil];constructor
 ·intro h;by_cases a:∀x,x∈l->cs.contains x=true
  ·exact a
  ·exfalso;have b:List.dropWhile (fun x=>cs.contains x) l.reverse≠[]:=fun e=>a fun x c=>dw_nil.1 e x (List.mem_reverse.2 c);obtain⟨y,g,f⟩:=dw_head b;have d:=h y (List.mem_reverse.2 g);rw[f] at d;cases d
 ·intro h x c;exact h x (List.mem_reverse.1 (dw_sub (List.mem_reverse.1 c)))
def abc:ByteArray:=⟨#[97,98,99,100,101,102,103,104,105,106,107,108,109,110,111,112,113,114,115,116,117,118,119,120,121,122]⟩
theorem abc_in (x:UInt8):abc.data.toList.contains x=(decide (97<=x.toNat)&&decide (x.toNat<=122)):=by
 have a:∀n:Fin 256,abc.data.toList.contains (UInt8.ofNat n.1)=(decide (97<=(UInt8.ofNat n.1).toNat)&&decide ((UInt8.ofNat n.1).toNat<=122)):=by decide+kernel
 have:=a ⟨x.toNat,x.toNat_lt⟩;simpa using this
theorem kr {w w':World} (h:Go.RowKit.Below w.heap.size w w'):Ext w w':=⟨h.os,h.tape,h.output,h.size,fun b a _=>h.block b a⟩
def Jf (s:ByteArray):Bool:=s.data.all fun c=>decide (97≤c.toNat)&&decide (c.toNat≤122)
theorem Vf {s:ByteArray} (i:s.size<=9223372036854775807) (f:∀w' r,Ext w w'->(r=⟨#[]⟩↔Jf s=true)->K (.string r) w'):vcall PP Z3 #[.string s,.string abc] w K:=by
 refine⟨by kernel_rfl,?_⟩;refine(Any.strings_Trim_laid YtaemeijeaajoeaaGreatDoor.trimL (by kernel_rfl) s abc w i (by decide) (ascii_of_all (by decide))).mono ?_;rintro e w' ⟨rfl,g⟩;refine f w' _ (kr g) ?_;have c:((⟨(Lib.trimS s.data.toList abc.data.toList).toArray⟩:ByteArray)=⟨#[]⟩)↔Lib.trimS s.data.toList abc.data.toList=[]:=by
  constructor
  ·intro h;have d:=congrArg (fun b:ByteArray=>b.data.toList) h;simpa using d
  ·intro h;rw[h]
 rw[c,VB];unfold Jf;rw[Array.all_eq_true_iff_forall_mem];constructor
 ·intro h x a;rw[<-abc_in];exact h x (Array.mem_toList_iff.2 a)
 ·intro h x a;rw[abc_in];exact h x (Array.mem_toList_iff.1 a)
theorem stDecl {b:Nat} {x y:Value} {t:TypeId} {s:ByteArray} {n:Int} (h:Blk w b [x,y] t) (c:∀w',Same (· =b) w w'->w'.heap.size=w.heap.size->Blk w' b [.string s,.int .i64 n] t->K undef w'):zn PP zk (.pointer (some ⟨b,0,none⟩)) (.agg ⟨[.string s,.int .i64 n]⟩) w K:=
 h.stAgg rfl (by kernel_rfl) (by intro v a;simp only[List.mem_cons,List.not_mem_nil,or_false] at a;rcases a with rfl|rfl<;>rfl) c
theorem k9 (s:ByteArray):M.nameOk s=(decide (1<=s.size)&&decide (s.size<=4)&&decide (s≠M.tru)&&Jf s):=rfl
theorem DeclOk_spec {v:Value} {ds:List M.Dcl} (L:DclsR F w v ds) (D:∀w',Ext w w'->K (.bool (M.declOk ds)) w'):vcall PP jK #[v] w K:=by
 apply J2;unfold Yn;simp(disch:=(simp only[push_cast];done)) only[push_cast,L.len];refine zd (fun a=>?_) (fun a=>?_)
 ·have:=D w (Same.refl _ _);rwa[show M.declOk ds=false from by rw[Bool.eq_false_iff];intro h;have:=(M.decl_iff.1 h).1;omega] at this
 refine vloop_up ds.length (fun i u w'=>u=[.int .i64 (M.bitT ds i),.int .i64 i]/\Ext w w'/\(∀j,j<i->M.dclOk ds j=true)/\ -4*(i:Int)<=M.bitT ds i/\M.bitT ds i<=4*i) ⟨rfl,Same.refl _ _,by omega,by simp[M.bitT],by simp[M.bitT]⟩ ?_;rintro i _ _ w1 C hi ⟨rfl,o,q,a0,a1⟩ hC;have E:=L.ext o;simp only[push_cast];refine zd (fun b=>?_) (fun b=>?_)
 ·have z:i<ds.length:=(by omega);have d:M.dclOk ds i=false->∀w',Ext w w'->K (.bool false) w':=fun e w' he=>by
   have:=D w' he;rwa[show M.declOk ds=false from by rw[Bool.eq_false_iff];intro h;have:=(M.decl_iff.1 h).2.1 i z;rw[e] at this;cases this] at this
  unfold M.dclOk at d;rw[k9] at d;simp(disch:=first|(simp only[push_cast];done)|omega) only[push_cast,E.iaddr,E.load];obtain⟨s,n,B⟩:∃s n,ds.getD i K9=(s,n):=⟨_,_,rfl⟩;simp only[B] at d⊢;refine zx qS fun b1 w2 S N a4 W=>?_;refine stDecl W fun U P _ Q=>?_;have a6:=o.size;have k:Ext w U:=Ext.then (o.trans N) P fun y hy=>by subst hy;omega
  refine zL (fun u w'=>u=[]/\Ext U w'/\M.nameOk s=true) (fun C' J=>?_) ?_
  ·simp(disch:=first|(simp only[push_cast];done)|omega) only[push_cast,Q.ld0,zY jn];refine zd (fun c=>?_) (fun c=>?_)
   ·exact d (by rw[decide_eq_false (show¬1<=s.size by omega)];simp) _ k
   refine zd (fun c2=>?_) (fun c2=>?_)
   ·exact d (by rw[decide_eq_false (show¬s.size<=4 by omega)];simp) _ k
   refine zd (fun c3=>?_) (fun c3=>?_)
   ·exact d (by rw[show decide (s≠M.tru)=false from decide_eq_false (fun h=>h c3)];simp) _ k
   refine Vf (by omega) fun w4 r l T=>?_;simp only[push_cast];refine zd (fun c4=>?_) (fun c4=>?_)
   ·have:Jf s=false:=by
     rw[Bool.eq_false_iff];exact fun h=>c4 (T.2 h)
    exact d (by rw[this];simp) _ (k.trans l)
   ·have I:r=⟨#[]⟩:=by
     by_cases h:r=⟨#[]⟩
     ·exact h
     ·exact absurd h c4
    refine J _ _ ⟨rfl,l,?_⟩;rw[k9,decide_eq_true (show 1<=s.size by omega),decide_eq_true (show s.size<=4 by omega),show decide (s≠M.tru)=true from decide_eq_true c3,T.1 I];rfl
  ·rintro u g w4 ⟨rfl,l,A⟩;have R:=Q.ext l;have f:=k.trans l;have G:=L.ext f;rw[k9] at A;rw[A] at d;rw[G.cut (by intro e;subst e;simp at z) (by kernel_rfl) (by omega)];simp only[push_cast];have a3:(ds.take i).length=i:=by rw[List.length_take];omega
   refine Yy (p:=fun j=>decide (((ds.take i).getD j K9).1=s)) (G.taken (by omega)) (fun j hj=>?_) fun w5 m=>?_
   ·intro w' K he D;simp only[push_cast];apply XD;unfold kG;refine zr fun b3 w6 a2 H a5 Y=>?_;have Z:=(R.ext he).ext H;simp(disch:=first|(simp only[push_cast];done)|omega) only[push_cast,Y.ld0,Z.ld0];exact D _ H
   ·rw[<-ZC];have X:=R.ext m;have efd:idxI (ds.take i).length (fun j=>decide (((ds.take i).getD j K9).1=s))=M.findD (ds.take i) s:=rfl;rw[efd];refine zd (fun c=>?_) (fun c=>?_)
    ·exact d (by rw[decide_eq_false (show¬M.findD (ds.take i) s<0 by omega)];simp) _ (f.trans m)
    simp(disch:=first|(simp only[push_cast];done)|omega) only[push_cast,X.ld1];refine zd (fun V=>?_) (fun V=>?_)
    ·exact d (by rw[decide_eq_false (show¬1<=n by omega)];simp) _ (f.trans m)
    refine zd (fun c2=>?_) (fun c2=>?_)
    ·exact d (by rw[decide_eq_false (show¬n<=4 by omega)];simp) _ (f.trans m)
    have t:=M.bitT_succ z;rw[show ds.getD i (M.nada,0)=(s,n) from B] at t;rw[yb (x:=M.bitT ds i+n) (by omega) (by omega),inc64' (by omega),show M.bitT ds i+n=M.bitT ds (i+1) from t.symm];refine hC (by omega) _ _ ⟨rfl,f.trans m,fun j hj=>?_,by omega,by omega⟩;by_cases e:j=i
    ·subst e;unfold M.dclOk;rw[show ds.getD j (M.nada,0)=(s,n) from B,k9,A];simp only[Bool.true_and,Bool.and_eq_true,decide_eq_true_eq];exact⟨⟨by omega,by omega⟩,by omega⟩
    ·exact q j (by omega)
 ·have O:i=ds.length:=(by omega);subst O;have:=D w1 o;rw[M.bitT_all];have e:M.declOk ds=decide (M.bits ds<=8):=by
   rw[Bool.eq_iff_iff,M.decl_iff,decide_eq_true_eq];exact⟨fun h=>h.2.2,fun h=>⟨by omega,q,h⟩⟩
  rwa[e] at this
theorem TermSort_spec {dv v:Value} {ds:List M.Dcl} {t:M.Tm} (r:DclsR F w dv ds) (z:TermR G w v t) (q:∀w',Ext w w'->K (.int .i64 (M.tsort ds t)) w'):vcall PP xw #[dv,v] w K:=by
 apply XA;unfold kD;obtain⟨cs,rfl,c⟩:=z.cells;refine zr fun b1 C u g y n=>?_;rw[n.ldAgg (t:=za) (by rw[yr c];exact zo)];refine TermMany_spec (c.ext g).term fun D i=>?_;simp only[push_cast];have e:=g.trans i;refine DeclOk_spec (r.ext e) fun A j=>?_;have f:=e.trans j;have m:=q A f;unfold M.tsort at m;simp only[push_cast];refine zE (fun a=>?_) (fun a=>?_)
 ·rwa[if_neg (fun h=>by rw[h.2] at a;cases a)] at m
 ·rw[Bool.not_eq_false'] at a;refine zd (fun b=>?_) (fun b=>?_)
  ·rw[if_neg (fun h=>by
    have n:=M.fits_iff.1 h.1;unfold M.manyM at b;rw[if_pos h.1] at b;omega)] at m
   exact m
  ·have x:M.fits t=true:=by
    by_cases h:M.fits t=true
    ·exact h
    ·unfold M.manyM at b;rw[if_neg h] at b;omega
   refine zN fun E k _=>?_;have p:=((n.ext i).ext j).ext k;rw[p.ldAgg (t:=za) (by rw[yr c];exact zo)];refine⟨rfl,Qs fun H mb l hm=>?_⟩;have s:=p.ext l;rw[s.ldAgg (t:=za) (by rw[yr c];exact zo)];have d:=(f.trans k).trans l;refine⟨⟨rfl,rfl⟩,sortOf_spec t hm (r.ext d) a (c.ext d).term fun B o=>?_⟩;have:=q B (d.trans o);unfold M.tsort at this;rwa[if_pos ⟨x,a⟩] at this
end Go.Proofs.YtaemeijeaajoeaaGreatDoor
end
section
namespace Go.Proofs.YtaemeijeaajoeaaGreatDoor
open Go Go.Vc Go.Proofs
variable {w:World} {K:Value→World→Prop} {F G:Nat→Prop}
theorem l2Name_spec {s:ByteArray} (t:s.size<=9223372036854775807) (d:K (.bool (M.nameOk s)) w):vcall PP jD #[.string s] w K:=by
 apply QN;unfold Y8;rw[k9] at d;refine vloop_up s.size (fun i u w'=>u=[.int .i64 i]/\w'=w/\∀j,j<i->(decide (97<=(s.data.getD j 0).toNat)&&decide ((s.data.getD j 0).toNat<=122))=true) ⟨rfl,rfl,by omega⟩ ?_;rintro i _ _ v C r ⟨rfl,rfl,g⟩ o;simp(disch:=first|(simp only[push_cast];done)|omega) only[push_cast,zY jn];have l:i<s.size->(decide (97<=(s.data.getD i 0).toNat)&&decide ((s.data.getD i 0).toNat<=122))=false->Jf s=false:=fun f h=>by
  rw[Bool.eq_false_iff];intro k;unfold Jf at k;rw[Array.all_eq_true_iff_forall_mem] at k;have m:i<s.data.size:=f;have:=k (s.data.getD i 0) (by rw[Array.getD_eq_getD_getElem?,Array.getElem?_eq_getElem m];exact Array.getElem_mem m);rw[h] at this;cases this
 refine zd (fun a=>?_) (fun a=>?_)
 ·have f:i<s.size:=(by omega);rw[vindex_str jn (by omega) (by omega),Int.toNat_natCast];simp only[push_cast];refine zd (fun b=>?_) (fun b=>?_)
  ·rw[l f (by rw[decide_eq_false (show¬97<=(s.data.getD i 0).toNat by omega)];rfl),Bool.and_false] at d;exact d
  rw[vindex_str jn (by omega) (by omega),Int.toNat_natCast];simp only[push_cast];refine zd (fun c=>?_) (fun c=>?_)
  ·rw[l f (by rw[decide_eq_false (show¬(s.data.getD i 0).toNat<=122 by omega)];simp),Bool.and_false] at d;exact d
  rw[inc64' (by omega)];refine o f _ _ ⟨rfl,rfl,fun j n=>?_⟩;by_cases e:j=i
  ·subst e;simp only[Bool.and_eq_true,decide_eq_true_eq];omega
  ·exact g j (by omega)
 ·have p:i=s.size:=(by omega);have k:Jf s=true:=by
   unfold Jf;rw[Array.all_eq_true_iff_forall_mem];intro x q;obtain⟨j,n,rfl⟩:=Array.getElem_of_mem q;have:=g j (by have:s.data.size=s.size:=rfl;omega);rwa[Array.getD_eq_getD_getElem?,Array.getElem?_eq_getElem n] at this
  rw[k,Bool.and_true] at d
  try simp(disch:=first|(simp only[push_cast];done)|omega) only[push_cast,zY jn]
  refine zd (fun b=>?_) (fun b=>?_)
  ·refine zd (fun c=>?_) (fun c=>?_)
   ·rw[decide_eq_true (show 1<=s.size by omega),decide_eq_true (show s.size<=4 by omega)] at d;exact d
   ·rw[decide_eq_false (show¬s.size<=4 by omega)] at d;simpa using d
  ·rw[decide_eq_false (show¬1<=s.size by omega)] at d;simpa using d
theorem l2Find_spec {v:Value} {ds:List M.Dcl} {s:ByteArray} (f:DclsR F w v ds) (d:K (.int .i64 (M.findD ds s)) w):vcall PP qk #[v,.string s] w K:=by
 apply QQ;unfold Yb;have k:=f.small;refine vloop_up ds.length (fun i u w'=>u=[.int .i64 i]/\w'=w/\∀j,j<i->(ds.getD j K9).1≠s) ⟨rfl,rfl,by omega⟩ ?_;rintro i _ _ m C l ⟨rfl,rfl,c⟩ g;simp(disch:=(simp only[push_cast];done)) only[push_cast,f.len];refine zd (fun a=>?_) (fun a=>?_)
 ·try simp(disch:=first|(simp only[push_cast];done)|omega) only[push_cast,f.iaddr]
  try simp(disch:=first|(simp only[push_cast];done)|omega) only[push_cast,f.load0]
  refine zd (fun b=>?_) (fun b=>?_)
  ·rw[M.findD_of (by omega) b c] at d;exact d
  ·rw[inc64' (by omega)];refine g (by omega) _ _ ⟨rfl,rfl,fun j h=>?_⟩;by_cases e:j=i
   ·subst e;exact b
   ·exact c j (by omega)
 ·rw[M.findD_none (fun j h=>c j (by omega))] at d;exact d
theorem spec_DeclOk_spec {v:Value} {ds:List M.Dcl} (G:DclsR F w v ds) (E:∀i,i<ds.length->(ds.getD i K9).1.size<=9223372036854775807) (B:∀w',Ext w w'->K (.bool (M.declOk ds)) w'):vcall PP jG #[v] w K:=by
 apply QU;unfold Yf;simp(disch:=(simp only[push_cast];done)) only[push_cast,G.len];refine zd (fun a=>?_) (fun a=>?_)
 ·have:=B w (Same.refl _ _);rwa[show M.declOk ds=false from by rw[Bool.eq_false_iff];intro h;have:=(M.decl_iff.1 h).1;omega] at this
 refine vloop_up ds.length (fun i u w'=>u=[.int .i64 (M.bitT ds i),.int .i64 i]/\Ext w w'/\(∀j,j<i->M.dclOk ds j=true)/\ -4*(i:Int)<=M.bitT ds i/\M.bitT ds i<=4*i) ⟨rfl,Same.refl _ _,by omega,by simp[M.bitT],by simp[M.bitT]⟩ ?_;rintro i _ _ N C O ⟨rfl,p,m,J,L⟩ I;have r:=G.ext p;simp(disch:=(simp only[push_cast];done)) only[push_cast,r.len];refine zd (fun b=>?_) (fun b=>?_)
 ·have g:i<ds.length:=(by omega);have f:M.dclOk ds i=false->∀w',Ext w w'->K (.bool false) w':=fun e w' he=>by
   have:=B w' he;rwa[show M.declOk ds=false from by rw[Bool.eq_false_iff];intro h;have:=(M.decl_iff.1 h).2.1 i g;rw[e] at this;cases this] at this
  unfold M.dclOk at f;refine zN fun z t _=>?_;have d:=r.ext t;have k:=p.trans t;simp(disch:=first|(simp only[push_cast];done)|omega) only[push_cast,d.iaddr,true_and];simp(disch:=first|(simp only[push_cast];done)|omega) only[push_cast,d.load0,d.load1,true_and];have y:=E i g;have o:=M.bitT_succ g;obtain⟨s,n,l⟩:∃s n,ds.getD i K9=(s,n):=⟨_,_,rfl⟩;rw[show ds.getD i (M.nada,0)=(s,n) from l] at o;simp only[l] at f y⊢;refine l2Name_spec y ?_;simp only[push_cast,true_and];refine zE (fun c=>?_) (fun c=>?_)
  ·exact f (by rw[show M.nameOk s=false by simpa using c];simp) _ k
  rw[Bool.not_eq_false'] at c;rw[c] at f;have ecut:∀(w:World) (K:Value->World->Prop),yJ PP zp v none (some (.int .i64 (i:Int))) none w K=K (cutV v i) w:=fun w K=>d.cut (by intro e;subst e;simp at g) (by kernel_rfl) (by omega);have A:∀(K:Value->World->Prop),zh PP zc (.pointer (some ((eaddr v 2 i).add 0))) z K=K (.string s) z:=fun K=>(by rw[d.load0 K2 g,l]);have q:∀(K:Value->World->Prop),zh PP zb (.pointer (some ((eaddr v 2 i).add 1))) z K=K (.int .i64 n) z:=fun K=>by rw[d.load1 VK g,l]
  try simp(disch:=first|(simp only[push_cast];done)|omega) only[push_cast,d.iaddr,true_and]
  try simp(disch:=first|(simp only[push_cast];done)|omega) only[push_cast,d.iaddr,A,q,ecut,true_and]
  refine zd (fun H=>?_) (fun H=>?_)
  ·exact f (by rw[decide_eq_false (show¬1<=n by omega)];simp) _ k
  refine zd (fun c2=>?_) (fun c2=>?_)
  ·exact f (by rw[decide_eq_false (show¬n<=4 by omega)];simp) _ k
  refine l2Find_spec (d.taken (by omega)) ?_;simp only[push_cast,true_and];refine zd (fun c3=>?_) (fun c3=>?_)
  ·exact f (by rw[decide_eq_false (show¬M.findD (ds.take i) s<0 by omega)];simp) _ k
  try simp(disch:=first|(simp only[push_cast];done)|omega) only[push_cast,d.iaddr]
  try simp(disch:=first|(simp only[push_cast];done)|omega) only[push_cast,q]
  rw[yb (x:=M.bitT ds i+n) (by omega) (by omega),inc64' (by omega),show M.bitT ds i+n=M.bitT ds (i+1) from o.symm];refine I (by omega) _ _ ⟨rfl,k,fun j P=>?_,by omega,by omega⟩;by_cases e:j=i
  ·subst e;unfold M.dclOk;rw[show ds.getD j (M.nada,0)=(s,n) from l,c];simp only[Bool.true_and,Bool.and_eq_true,decide_eq_true_eq];exact⟨⟨by omega,by omega⟩,by omega⟩
  ·exact m j (by omega)
 ·have D:i=ds.length:=(by omega);subst D;have:=B N p;rw[M.bitT_all];have e:M.declOk ds=decide (M.bits ds<=8):=by
   rw[Bool.eq_iff_iff,M.decl_iff,decide_eq_true_eq];exact⟨fun h=>h.2.2,fun h=>⟨by omega,m,h⟩⟩
  rwa[e] at this
theorem spec_TermMany_spec:∀(t:M.Tm) {w:World} {K:Value->World->Prop} {F:Nat->Prop} {v:Value},TermR F w v t->(∀w',Ext w w'->K (.tuple #[.int .i64 (M.manyM t),.int .i64 (M.lvlM t)]) w')->vcall PP xq #[v] w K:=by
 refine M.Tm.ind fun t ih w K F v ht Q=>?_;apply Xv;unfold ky;obtain⟨ksv,rfl,y⟩:=ht;refine zr fun b1 w1 R D a0 O=>?_;have a1:=y.small;have hS:=M.szT_all t;have hD:=M.dpT_all t;have k:M.fits t=true↔M.sizeM t<=20/\M.deepM t<=7:=M.fits_iff;refine vloop_up t.ks.length (fun i u w'=> ∃n d:Nat,u=[.int .i64 n,.int .i64 d,.int .i64 i]/\Ext w1 w'/\n<=41/\d<=8/\(1+M.szT t.ks i<=20/\M.dpT t.ks i<=7->n=1+M.szT t.ks i/\d=M.dpT t.ks i)/\(¬(1+M.szT t.ks i<=20/\M.dpT t.ks i<=7)->20<n\/7<d))
  ⟨1,0,rfl,Same.refl _ _,by omega,by omega,fun h=>⟨rfl,rfl⟩,fun h=>by
   have I:M.szT t.ks 0=0:=rfl;have e2:M.dpT t.ks 0=0:=rfl;omega⟩ ?_
 rintro i _ _ z C hi ⟨n,d,rfl,o,c1,c2,c3,c4⟩ P;have J:=O.ext o;have L:=D.trans o;have l:=y.ext L;have U:=M.szT_mono (ks:=t.ks) (i:=i) (j:=t.ks.length) (by omega) (Nat.le_refl _);have V:=M.dpT_mono (ks:=t.ks) (i:=i) (j:=t.ks.length) (by omega) (Nat.le_refl _);have I:IntKind.i64.wrap ((d:Int)+1)=((d+1:Nat):Int):=inc64' (by omega);have m:(20<n\/i=t.ks.length)->∀q,(q=K)->vif (.bool (decide ((20:Int)<n))) (q (.tuple #[.int .i64 21,.int .i64 8]) z) (vif (.bool (decide ((7:Int)<((d+1:Nat):Int)))) (q (.tuple #[.int .i64 21,.int .i64 8]) z) (q (.tuple #[.int .i64 (n:Int),.int .i64 ((d+1:Nat):Int)]) z)):=by
  rintro Z q rfl;have p:=Q z L;unfold M.manyM M.lvlM at p;have c:(20<n\/7<d+1)->¬(M.fits t=true):=fun h S=>by
   have N:=k.1 S;have:=c3 (by omega);omega
  refine zd (fun a=>?_) (fun a=>?_)
  ·rw[if_neg (c (by omega)),if_neg (c (by omega))] at p;exact p
  refine zd (fun b=>?_) (fun b=>?_)
  ·rw[if_neg (c (by omega)),if_neg (c (by omega))] at p;exact p
  ·have G:i=t.ks.length:=(by omega);subst G;have r:M.sizeM t<=20/\M.deepM t<=7:=by
    by_cases h:1+M.szT t.ks t.ks.length<=20/\M.dpT t.ks t.ks.length<=7
    ·have:=c3 h;omega
    ·have:=c4 h;omega
   have h3:=c3 (by omega);rw[if_pos (k.2 r),if_pos (k.2 r)] at p;rw[show n=M.sizeM t by omega,show d+1=M.deepM t by omega];exact p
 refine zL (fun u w'=>u=[]/\w'=z/\i<t.ks.length/\n<=20) (fun C' A=>?_) ?_
 ·simp(disch:=(simp only[push_cast];done)) only[push_cast,J.ld4,l.len,I];refine zd (fun a=>?_) (fun a=>?_)
  ·refine zd (fun b=>?_) (fun b=>?_)
   ·exact A _ _ ⟨rfl,rfl,by omega,by omega⟩
   ·exact m (.inl (by omega)) K rfl
  ·exact m (.inr (by omega)) K rfl
 ·rintro u g w3 ⟨rfl,rfl,T,hn⟩;have W:=M.szT_succ (ks:=t.ks) (i:=i) (by omega);have X:=M.dpT_succ (ks:=t.ks) (i:=i) (by omega);have Y:=M.szT_mono (ks:=t.ks) (i:=i+1) (j:=t.ks.length) (by omega) (Nat.le_refl _);simp(disch:=first|(simp only[push_cast];done)|omega) only[push_cast,J.ld4,l.iaddr];refine l.load zo (by omega) fun x N=>?_;refine ih _ (M.getD_mem (by omega) _) N fun w4 E=>?_;have f:=M.fits_iff (t:=t.ks.getD i default);have H:M.manyM (t.ks.getD i default)<=21:=by
   unfold M.manyM;split
   ·have:=f.1 (by assumption);omega
   ·omega
  have B:M.lvlM (t.ks.getD i default)<=8:=by
   unfold M.lvlM;split
   ·have:=f.1 (by assumption);omega
   ·omega
  have e:M.sizeM (t.ks.getD i default)<=20/\M.deepM (t.ks.getD i default)<=7->M.manyM (t.ks.getD i default)=M.sizeM (t.ks.getD i default)/\M.lvlM (t.ks.getD i default)=M.deepM (t.ks.getD i default):=fun h=>by
   unfold M.manyM M.lvlM;rw[if_pos (f.2 h),if_pos (f.2 h)];exact⟨rfl,rfl⟩
  have c: ¬(M.sizeM (t.ks.getD i default)<=20/\M.deepM (t.ks.getD i default)<=7)->M.manyM (t.ks.getD i default)=21/\M.lvlM (t.ks.getD i default)=8:=fun h=>by
   unfold M.manyM M.lvlM;rw[if_neg (fun x=>h (f.1 x)),if_neg (fun x=>h (f.1 x))];exact⟨rfl,rfl⟩
  generalize M.manyM (t.ks.getD i default)=nk at H e c⊢;generalize M.lvlM (t.ks.getD i default)=dk at B e c⊢;simp only[push_cast];refine l1Max_spec ?_
  try simp only[push_cast]
  rw[inc64' (by omega),yb (x:=(n:Int)+nk) (by omega) (by omega),show(n:Int)+(nk:Int)=((n+nk:Nat):Int) by omega,show max (d:Int) (dk:Int)=((max d dk:Nat):Int) by omega];refine P (by omega) _ _ ⟨n+nk,max d dk,rfl,o.trans E,by omega,by omega,fun h=>?_,fun h=>?_⟩
  ·have:=c3 (by omega);have:=e (by omega);omega
  ·by_cases r:M.sizeM (t.ks.getD i default)<=20/\M.deepM (t.ks.getD i default)<=7
   ·have h5:=e r;by_cases s:1+M.szT t.ks i<=20/\M.dpT t.ks i<=7
    ·have:=c3 s;omega
    ·have:=c4 s;omega
   ·have:=c r;omega
end Go.Proofs.YtaemeijeaajoeaaGreatDoor
end
section
namespace Go.Proofs.YtaemeijeaajoeaaGreatDoor
open Go Go.Vc Go.Proofs
variable {w:World} {K:Value→World→Prop} {F G:Nat→Prop}
theorem l2Arity_spec {o:Int} (f:K (.int .i64 (M.arity o)) w):vcall PP j8 #[.int .i64 o] w K:=by
 apply XW;unfold Za;have d:∀c,M.arity o=c->K (.int .i64 c) w:=by grind
 refine zL (fun u w'=>u=[.bool (decide (o=20\/o=21\/o=24))]/\w'=w) (fun C e=>?_) ?_
 ·simp only[push_cast];refine zd (fun a=>?_) (fun a=>?_)
  ·grind
  refine zd (fun b=>?_) (fun b=>?_)
  ·grind
  grind
 ·rintro u g h ⟨rfl,rfl⟩;simp only[push_cast]
  repeat' first
   |exact d _ (by
    unfold M.arity;repeat' split
    all_goals omega)
   |refine zd (fun _=>?_) (fun _=>?_)
theorem l2Plain_spec {v:Value} {t:M.Tm} (y:TermR F w v t) (n:∀w',Ext w w'->K (.bool (M.formed t)) w'):vcall PP j7 #[v] w K:=by
 apply XV;unfold Z9;obtain⟨ksv,rfl,m⟩:=y;refine zr fun b1 o q f x j=>?_;have A:=n _ f;have k:M.plainM t=false->K (.bool false) o:=fun h=>by
  simp_all[M.formed]
 unfold M.plainM at k;refine zL (fun u w'=>u=[]/\w'=o/\(decide (t.op=21)||decide (t.s=M.nada))=true) (fun C p=>?_) ?_
 ·simp(disch:=(simp only[push_cast];done)) only[push_cast,j.ld0,j.ld3];refine zd (fun a=>?_) (fun a=>?_)
  ·refine zd (fun b=>?_) (fun b=>?_)
   ·grind [M.nada]
   grind [M.nada]
  grind
 rintro u g z ⟨rfl,rfl,r⟩;rw[r,Bool.and_true] at k;refine zL (fun u w'=>u=[]/\w'=z/\(decide (t.op=20)||decide (t.op=22)||(decide (t.a=0)&&decide (t.b=0)))=true) (fun C p=>?_) ?_
 ·simp(disch:=(simp only[push_cast];done)) only[push_cast,j.ld0,j.ld1,j.ld2];refine zd (fun a=>?_) (fun a=>?_)
  ·refine zd (fun b=>?_) (fun b=>?_)
   ·refine zd (fun c=>?_) (fun c=>?_)
    ·grind
    grind [zd]
   grind
  grind
 rintro u g B ⟨rfl,rfl,hm⟩;refine zN fun D i _=>?_;have l:=j.ext i;have d:=m.ext (f.trans i);simp(disch:=(simp only[push_cast];done)) only[push_cast,l.ld0,l.ld4,d.len,true_and];refine l2Arity_spec ?_;simp(disch:=(simp only[push_cast];done)) only[push_cast,l.ld4,d.len,true_and,and_self];have:=n _ (f.trans i);have e:M.formed t=decide ((t.ks.length:Int)=M.arity t.op):=by
  unfold M.formed M.plainM
  grind
 grind
theorem l2One_spec {v:Value} {t:M.Tm} {a:Int} (o:TermR F w v t) (s: -1<=a/\a<=4) (r:∀w',Ext w w'->K (.int .i64 (M.oneM t a)) w'):vcall PP kc #[v,.int .i64 a] w K:=by
 apply Jm;unfold YE;obtain⟨ksv,rfl,m⟩:=o;refine zr fun b1 i j k n f=>?_;have l:∀c,M.oneM t a=c->K (.int .i64 c) i:=by grind
 unfold M.oneM at l;refine zL (fun u w'=>u=[.bool (decide (t.op=25/\a=0))]/\w'=i) (fun C h=>?_) ?_
 ·simp(disch:=(simp only[push_cast];done)) only[push_cast,f.ld0]
  grind [zd]
 rintro u g p ⟨rfl,rfl⟩;simp only[push_cast];refine zd (fun b=>?_) (fun b=>?_)
 ·grind
 refine zL (fun u w'=>u=[.bool (decide (t.op=25\/a<1))]/\w'=p) (fun C h=>?_) ?_
 ·simp(disch:=(simp only[push_cast];done)) only[push_cast,f.ld0]
  grind [zd]
 rintro u g q ⟨rfl,rfl⟩;simp only[push_cast];refine zd (fun c=>?_) (fun c=>?_)
 ·grind
 simp(disch:=(simp only[push_cast];done)) only[push_cast,f.ld0];refine zd (fun d=>?_) (fun d=>?_)
 ·refine zL (fun u w'=>u=[.bool (decide (0<=t.b/\t.b<=t.a/\t.a<a))]/\w'=q) (fun C h=>?_) ?_
  ·simp(disch:=(simp only[push_cast];done)) only[push_cast,f.ld1,f.ld2]
   grind [zd]
  rintro u g x ⟨rfl,rfl⟩;simp only[push_cast];refine zd (fun e=>?_) (fun e=>?_)
  ·simp(disch:=(simp only[push_cast];done)) only[push_cast,f.ld1,f.ld2]
   grind [yb]
  grind
 grind
theorem l2Both_spec {o a b:Int} (k: -1<=a/\a<=4) (h: -1<=b/\b<=4) (j:K (.int .i64 (M.bothM o a b)) w):vcall PP jF #[.int .i64 o,.int .i64 a,.int .i64 b] w K:=by
 apply QR;unfold Yc;have d:∀c,M.bothM o a b=c->K (.int .i64 c) w:=by grind
 unfold M.bothM at d;refine zL (fun u w'=>u=[.bool (decide (o=26\/o=27))]/\w'=w) (fun C f=>?_) ?_
 ·simp only[push_cast]
  grind [zd]
 rintro u g i ⟨rfl,rfl⟩;simp only[push_cast];refine zd (fun c=>?_) (fun c=>?_)
 ·grind [zd]
 refine zL (fun u w'=>u=[.bool (decide (a<1\/b<1))]/\w'=i) (fun C f=>?_) ?_
 ·grind [zd]
 rintro u g l ⟨rfl,rfl⟩;have e:IntKind.i64.wrap (a+b)=a+b:=yb (by omega) (by omega);simp only[push_cast,e]
 repeat' first
  |exact d _ (by
   repeat' split
   all_goals omega)
  |refine zd (fun _=>?_) (fun _=>?_)
theorem l2Sort_spec:∀(t:M.Tm) {w:World} {K:Value->World->Prop} {F G:Nat->Prop} {dv v:Value} {ds:List M.Dcl},DclsR F w dv ds->M.declOk ds=true->TermR G w v t->(∀w',Ext w w'->K (.int .i64 (M.sortM ds t)) w')->vcall PP yW #[dv,v] w K:=by
 refine M.Tm.ind fun t L w K F G dv v ds D f U Z=>?_;apply QM;unfold Y7;obtain⟨ksv,rfl,l⟩:=U;refine zr fun b1 w1 P q S N=>?_;have y:∀c w',M.sortM ds t=c->Ext w w'->K (.int .i64 c) w':=by grind
 rw[N.ldAgg (t:=za) zo];refine l2Plain_spec (F:=G) (t:=t) ⟨ksv,rfl,l.ext q⟩ fun w2 r=>?_;have p:=q.trans r;have n:=N.ext r;simp only[push_cast];refine zE (fun a=>?_) (fun a=>?_)
 ·grind [M.sort_bad]
 have x:M.formed t=true:=by simpa using a
 have O:=(M.formed_iff.1 x).1;have j:=D.ext p;simp(disch:=(simp only[push_cast];done)) only[push_cast,n.ld0];refine zd (fun c20=>?_) (fun c20=>?_)
 ·have B:t.ks.length=0:=(by grind [M.arity]);have R:=M.sort_leaf (ds:=ds) x B;simp(disch:=(simp only[push_cast];done)) only[push_cast,n.ld1,n.ld2];refine spec_VecOk_spec fun X e=>?_;have o:=n.ext e;refine zE (fun b=>?_) (fun b=>?_)
  ·simp(disch:=(simp only[push_cast];done)) only[push_cast,o.ld1];exact y _ _ (by simp_all[M.sortK]) (p.trans e)
  ·exact y _ _ (by simp_all[M.sortK]) (p.trans e)
 refine zd (fun c21=>?_) (fun c21=>?_)
 ·have B:t.ks.length=0:=(by grind [M.arity]);have R:=M.sort_leaf (ds:=ds) x B;have Q:=M.findD_lt ds t.s;simp(disch:=(simp only[push_cast];done)) only[push_cast,n.ld3];refine l2Find_spec j ?_
  try simp only[push_cast]
  refine zd (fun b=>?_) (fun b=>?_)
  ·grind [M.sortK]
  ·try simp(disch:=first|(simp only[push_cast];done)|omega) only[push_cast,j.iaddr]
   try simp(disch:=first|(simp only[push_cast];done)|omega) only[push_cast,j.load1]
   grind [M.sortK]
 refine zd (fun c24=>?_) (fun c24=>?_)
 ·have B:t.ks.length=0:=(by grind [M.arity]);simp_all[M.sort_leaf,M.sortK]
 have hlen:t.ks.length=1\/t.ks.length=2\/t.ks.length=3:=by
  grind [M.arity]
 have m:=l.ext p;simp(disch:=first|(simp only[push_cast];done)|omega) only[push_cast,n.ld4,m.iaddr];refine m.load zo (by omega) fun x0 H=>?_;refine L (M.kid t 0) (M.kid_mem (by omega)) j f H fun X e=>?_;have o:=n.ext e;have h:=p.trans e;have d:=l.ext h;have A:=M.sort_range f (M.kid t 0);simp(disch:=first|(simp only[push_cast];done)|omega) only[push_cast,o.ld4,d.len];refine zd (fun V=>?_) (fun V=>?_)
 ·rw[o.ldAgg (t:=za) zo];refine l2One_spec (F:=G) (t:=t) ⟨ksv,rfl,d⟩ A fun Y k=>?_;exact y _ _ (M.sort_one f x (by omega)) (h.trans k)
 simp(disch:=first|(simp only[push_cast];done)|omega) only[push_cast,o.ld4,d.iaddr];refine d.load zo (by omega) fun x1 I=>?_;refine L (M.kid t 1) (M.kid_mem (by omega)) (D.ext h) f I fun Y k=>?_;have C:=o.ext k;have i:=h.trans k;have g:=l.ext i;have E:=M.sort_range f (M.kid t 1);simp(disch:=first|(simp only[push_cast];done)|omega) only[push_cast,C.ld4,C.ld0,g.len];refine zd (fun W=>?_) (fun W=>?_)
 ·refine l2Both_spec A E ?_
  grind [M.sort_two]
 have T:=M.sort_three (ds:=ds) x (by omega);refine zd (fun z=>?_) (fun z=>?_)
 ·grind
 simp(disch:=first|(simp only[push_cast];done)|omega) only[push_cast,C.ld4,g.iaddr];refine g.load zo (by omega) fun x2 J=>?_;refine L (M.kid t 2) (M.kid_mem (by omega)) (D.ext i) f J fun w5 u=>?_;simp only[push_cast];refine zd (fun z2=>?_) (fun z2=>?_)
 ·exact y _ _ (by omega) (i.trans u)
 ·exact y _ _ (by omega) (i.trans u)
def J6 (ds:List M.Dcl):Prop:=∀i,i<ds.length→(ds.getD i K9).1.size≤9223372036854775807
theorem spec_TermSort_spec {dv v:Value} {ds:List M.Dcl} {t:M.Tm} (n:J6 ds) (p:DclsR F w dv ds) (x:TermR G w v t) (o:∀w',Ext w w'->K (.int .i64 (M.tsort ds t)) w'):vcall PP qD #[dv,v] w K:=by
 apply Xt;unfold kw;obtain⟨cs,rfl,e⟩:=x.cells;refine zr fun b1 A s g u k=>?_;rw[k.ldAgg (t:=za) (by rw[yr e];exact zo)];refine spec_TermMany_spec t (e.ext g).term fun B i=>?_;simp only[push_cast];have f:=g.trans i;refine spec_DeclOk_spec (p.ext f) n fun y j=>?_;have d:=f.trans j;have m:=o y d;unfold M.tsort at m;simp only[push_cast];refine zE (fun a=>?_) (fun a=>?_)
 ·grind
 rw[Bool.not_eq_false'] at a;refine zd (fun b=>?_) (fun b=>?_)
 ·rw[if_neg (fun h=>by
   have k:=M.fits_iff.1 h.1;unfold M.manyM at b
   grind)] at m
  exact m
 have q:M.fits t=true:=by
  grind [M.manyM]
 refine zd (fun c=>?_) (fun c=>?_)
 ·unfold M.lvlM at c;rw[if_pos q] at c;have:=M.fits_iff.1 q;omega
 have r:=(k.ext i).ext j;rw[r.ldAgg (t:=za) (by rw[yr e];exact zo)];refine l2Sort_spec t (p.ext d) a (e.ext d).term fun z l=>?_;have:=o z (d.trans l);simp_all[M.tsort]
end Go.Proofs.YtaemeijeaajoeaaGreatDoor
end
section
namespace Go.Proofs.YtaemeijeaajoeaaGreatDoor
open Go Go.Vc Go.Proofs
variable {w:World} {K:Value→World→Prop} {F F' D:Nat→Prop}
@[push_cast] theorem bd_T3 (o a b:Int):zq PP za [(0,.int .i64 o),(1,.int .i64 a),(2,.int .i64 b)] w K=K (.agg ⟨[.int .i64 o,.int .i64 a,.int .i64 b,.string ⟨#[]⟩,.slice none 0 0]⟩) w:=yd jN (us:=[[.int .i64 o],[.int .i64 a],[.int .i64 b]]) rfl rfl
@[push_cast] theorem WI (o:Int):zq PP za [(0,.int .i64 o)] w K=K (.agg ⟨[.int .i64 o,.int .i64 0,.int .i64 0,.string ⟨#[]⟩,.slice none 0 0]⟩) w:=yd jN (us:=[[.int .i64 o]]) rfl rfl
@[push_cast] theorem Ue (o:Int) (s:ByteArray):zq PP za [(0,.int .i64 o),(3,.string s)] w K=K (.agg ⟨[.int .i64 o,.int .i64 0,.int .i64 0,.string s,.slice none 0 0]⟩) w:=yd jN (us:=[[.int .i64 o],[.string s]]) rfl rfl
theorem Yr {b:Nat} {cs cs':List Value} {t:TypeId} {G:Nat->Prop} {f:M.Tm} (h:Blk w b cs t) (k:cs.length=5) (c:TmR G w cs' f) (i:∀x,G x->x≠b) (j:∀w',Same (· =b) w w'->w'.heap.size=w.heap.size->TermR G w' (.agg ⟨cs'⟩) f->K (.agg ⟨cs'⟩) w'):
  zn PP za (.pointer (some ⟨b,0,none⟩)) (.agg ⟨cs'⟩) w fun _ m=>vlv PP za (.pointer (some ⟨b,0,none⟩)) m fun r n=>K r n:=by
 refine stTerm h k c fun w' a d g=>?_;rw[g.lv (by rw[yr c];exact zo)];exact j w' a d (c.same a fun x l _ e=>i x l e).term
theorem Ki {G:Nat->Prop} (o a b:Int) (s:ByteArray):TmR G w [.int .i64 o,.int .i64 a,.int .i64 b,.string s,.slice none 0 0] (.mk o a b s []):=TmR.of (t:= .mk o a b s []) TmsR.nil
end Go.Proofs.YtaemeijeaajoeaaGreatDoor
end
section
namespace Go.Proofs.YtaemeijeaajoeaaGreatDoor
open Go Go.Vc Go.Proofs
variable {w:World} {K:Value→World→Prop} {F F' D G:Nat→Prop}
abbrev X2:List Value:=[.int .i64 0,.int .i64 0,.int .i64 0,.string ⟨#[]⟩,.slice none 0 0]
section
variable {w0:World} {b b1 p:Nat} {v dv:Value} {xs:List Nat} {ds:List M.Dcl}
end
end Go.Proofs.YtaemeijeaajoeaaGreatDoor
end
section
namespace Go.Proofs.YtaemeijeaajoeaaGreatDoor
open Go Go.Vc Go.Proofs
variable {w:World} {K:Value→World→Prop} {F F' D G:Nat→Prop}
theorem flatten_setEl {k:Nat}:∀{xs:List (List Value)} (_:∀x,x∈xs->x.length=k) {i:Nat} {y:List Value},y.length=k->i<xs.length->(xs.set i y).flatten=xs.flatten.take (i*k)++y++xs.flatten.drop (i*k+k)
 |[],_,i,y,_,a=>by simp at a
 |x::r,h,i,y,d,a=>by
  have f:=h x List.mem_cons_self;cases i with
  |zero=>
   simp only[List.set_cons_zero,List.flatten_cons,Nat.zero_mul,List.take_zero,List.nil_append,Nat.zero_add];rw[List.drop_append,List.drop_of_length_le (by omega),List.nil_append,show k-x.length=0 by omega,List.drop_zero]
  |succ i=>
   simp only[List.set_cons_succ,List.flatten_cons];have b:(i+1)*k=x.length+i*k:=by rw[Nat.add_mul];omega
   have c:x.length+i*k+k=x.length+(i*k+k):=(by omega);rw[flatten_setEl (fun z e=>h z (List.mem_cons_of_mem _ e)) d (by simpa using a),b,c,List.take_length_add_append,List.drop_length_add_append];simp only[List.append_assoc]
theorem own_stEl {P:Program} {v:Value} {k:Nat} {t e:TypeId} {xs:List (List Value)} {y:List Value} (h:Own P 0 k t w v xs) (L:0<k) (n:y.length=k) (C:∀c,c∈y->c.oneCell'=true) (u:aggB P e k=true) {i:Nat} (A:i<xs.length)
  (D:∀w',Own P 0 k t w' v (xs.set i y)->Same (fun b=>v.ownBlock=some b) w w'->w'.heap.size=w.heap.size->K undef w'):zn P e (.pointer (some (eaddr v k i))) (.agg ⟨y⟩) w K:=by
 have F:=flatten_len h.wide;rcases h.row with⟨I,s⟩;rcases s with⟨rfl,M⟩|⟨g,cap,cur,rfl,o,x,j,p,r,f⟩
 ·omega
 ·have G:i*k+k<=xs.length*k:=by rw[<-Nat.succ_mul];exact Nat.mul_le_mul_right _ A
  have H:xs.length*k<=cap*k:=Nat.mul_le_mul_right _ j;have d:=run_storeCells_at (P:=P) g (i*k) (JQ P t) y 0 cur w x (by omega) C;have he:eaddr (.slice (some ⟨g,0,none⟩) xs.length cap) k i=⟨g,i*k,none⟩:=by
   simp only[eaddr,Nat.zero_add]
  rw[he];have E:cur.toList.length=cap*k:=(by simpa using r);have m:(cur.toList.take (i*k+0)++y++cur.toList.drop (i*k+0+y.length)).toArray.size=cap*k:=by
   simp only[List.size_toArray,List.length_append,List.length_take,List.length_drop];omega
  have a:(cur.toList.take (i*k+0)++y++cur.toList.drop (i*k+0+y.length)).toArray.toList.take (xs.length*k)=(xs.set i y).flatten:=by
   rw[flatten_setEl h.wide n A,<-f,n];simp only[Nat.add_zero];have J:(cur.toList.take (i*k)).length=i*k:=by rw[List.length_take];omega
   rw[List.take_append,List.take_append,List.take_of_length_le (l:=List.take (i*k) cur.toList) (by omega),List.take_of_length_le (l:=y) (by omega),List.take_take,Nat.min_eq_left (by omega),List.drop_take];congr 2;rw[List.length_append,List.length_take];omega
  refine⟨(),_,?_,D (w.setRow g (cur.toList.take (i*k+0)++y++cur.toList.drop (i*k+0+y.length)).toArray) ⟨?_,?_⟩ ⟨rfl,rfl,rfl,by simp,fun q _ B=>setRow_other w g q _ (fun e=>B (by rw[e];rfl))⟩ (by simp)⟩
  ·simp only[Instr.storeAt,Instr.sureAddr,Sem.run_bind,Sem.run_pure,Result.andThen_ok,storeVar,j6 u,Value.cells];simp only[List.size_toArray,n,ne_eq,not_true_eq_false,if_false];rw[n] at d;exact d
  ·rw[List.length_set];refine⟨?_,.inr ⟨g,cap,_,rfl,o,setRow_heap w g _ _ _ _ x,j,p,m,a⟩⟩;rw[<-a,List.length_take];have:=m;simp only[List.size_toArray] at this;simp only[List.toList_toArray,this];omega
  ·intro z u;obtain⟨q,B,rfl⟩:=List.getElem_of_mem u;rw[List.getElem_set];split
   ·exact n
   ·exact h.wide _ (List.getElem_mem _)
end Go.Proofs.YtaemeijeaajoeaaGreatDoor
end
section
namespace Go.Proofs.YtaemeijeaajoeaaGreatDoor
open Go Go.Vc Go.Proofs
variable {w:World} {K:Value→World→Prop} {F F' D G:Nat→Prop}
theorem qp {α:Type} {xs:List α} {i j:Nat} {x d:α} (a:i<xs.length):(xs.set i x).getD j d=if i=j then x else xs.getD j d:=by
 simp only[List.getD_eq_getElem?_getD,List.getElem?_set];by_cases e:i=j
 ·subst e;simp[a]
 ·simp[e]
theorem vmkS_agg {P:Program} {bs n k:Nat} {t:TypeId} {cs:List Value} {B C:IntKind} (E:elZ P t k bs=true) (I:0<k) (g:yT P (JQ P t) (.agg ⟨cs⟩)) (m:bs*n<=281474976710656) (o:n<=9223372036854775807)
  (D:∀y w',Own P 0 k t w' y (List.replicate n cs)->Ext w w'->(∀b,y.ownBlock=some b->w.heap.size<=b)->K y w'):vmkS P t (.int B n) (.int C n) w K:=by
 obtain⟨hu,i,M,z,f,u,p,v⟩:=We E;have:M= .agg ⟨cs⟩:=by
  unfold yT at g;rw[z] at g;simp only[f,Option.some.injEq] at g;exact g
 subst this;subst p;have c:cs.length=k:=v;obtain⟨w',J,a,r⟩:=run_make_full (P:=P) w 0 t (JQ P t) i _ k hu z f u B C n m (by simpa[maxLen] using o) (by omega);have hw:∀x,x∈List.replicate n cs->x.length=k:=fun x L=>by rw[List.eq_of_mem_replicate L];exact c
 refine⟨_,w',J,D _ w' ⟨?_,hw⟩ ((Same.of_grown r).mono fun _ _ h=>by cases h) fun b F=>by cases F;exact Nat.le_refl _⟩;have e:(madeCells (Value.agg ⟨cs⟩).cells (n*k)).toList=(List.replicate n cs).flatten:=by
  refine List.ext_getElem (by rw[flatten_len hw];simp[madeCells]) fun j N l=>?_;have H:j<n*k:=by rw[flatten_len hw,List.length_replicate] at l;exact l
  have A:j/k<n:=Nat.div_lt_of_lt_mul (by rw[Nat.mul_comm];exact H);have d:=Nat.mod_lt j I;have q:=flatten_get hw (i:=j/k) (j:=j%k) (by simpa using A) d;have s:j/k*k+j%k=j:=by rw[Nat.mul_comm];exact Nat.div_add_mod j k
  rw[s,List.getElem?_eq_getElem l] at q;have G:(List.replicate n cs).getD (j/k) []=cs:=(by simp[List.getD_eq_getElem?_getD,A]);rw[G,List.getElem?_eq_getElem (by omega)] at q;rw[Option.some.inj q];simp[madeCells,Value.cells,c,d]
 rw[List.length_replicate];rw[e] at a;exact a
theorem tmR_one {cs:List Value} {t:M.Tm} (h:TmR F w cs t):∀c,c∈cs->c.oneCell'=true:=fun c e=>by
 obtain⟨f,rfl,d,b,_⟩:=h.inv;obtain⟨a,l,rfl,_⟩:=b.shape;simp only[List.mem_cons,List.not_mem_nil,or_false] at e;rcases e with rfl|rfl|rfl|rfl|rfl<;>rfl
end Go.Proofs.YtaemeijeaajoeaaGreatDoor
end
section
namespace Go.Proofs.YtaemeijeaajoeaaGreatDoor
open Go Go.Vc Go.Proofs Go.Shelf
variable {w:World} {K:Value→World→Prop} {F F' Fx Fy X Q:Nat→Prop}
def WE:ByteArray:=⟨#[48,49,50,51,52,53,54,55,56,57,97,98,99,100,101,102,103,104,105,106,107,108,109,110,111,112,113,114,115,116,117,118,119,120,121,122]⟩
theorem digit_text:∀k:Fin 10,(WE.extract k.1 (k.1+1)).data.toList=M.digL (k.1:Int):=by decide+kernel
theorem Itoa_spec {k:Nat} (c:k<10) (b:∀s:ByteArray,s.data.toList=M.digL (k:Int)->K (.string s) w):vcall PP x6 #[.int .i64 k] w K:=by
 apply XT;unfold Z7;apply jM;unfold xz;apply qq;unfold yM;simp only[push_cast];refine zd (fun _=>?_) (fun h=>absurd trivial h);refine zL (fun _ _=>False) ?_ (fun _ _ _ h=>h.elim);intro J d;refine zd (fun _=>?_) (fun h=>by omega);refine zd (fun _=>?_) (fun h=>by omega);apply jr;unfold xl;simp(disch:=omega) only[push_cast,yb];refine zd (fun _=>?_) (fun h=>by omega);have a:WE.size=36:=by decide+kernel
 show yJ PP zc (.string WE) _ _ _ w _;rw[Qm (by kernel_rfl) (by omega) (by omega) (by rw[a];omega)];rw[show((k:Int)).toNat=k by omega,show((k:Int)+1).toNat=k+1 by omega];exact b _ (digit_text ⟨k,c⟩)
def byV (c:UInt8):Value:= .int .u8 c.toNat
theorem Qt {v:Value} {l:List UInt8} (h:OwnV PP zC w v (l.map byV)) (g:l≠[]):qh PP zC zc v w K=K (.string ⟨l.toArray⟩) w:=by
 obtain⟨a,c,k,p,n,d⟩:=(OwnV.vals h).shape;have f:(l.map byV).map (fun x=>[x])≠[]:=by simpa using g
 obtain⟨b,o,m,_,_,e⟩:=d f;simp only[List.length_map] at k e;subst m;subst k;refine y6 (run_convert_bytes_back w zC zc zQ ⟨b,o,none⟩ c l kL (by kernel_rfl) (by kernel_rfl) fun j i=>?_);have:=e j i 0 (byV l[j]) (by
  rw[List.getD_eq_getElem?_getD,List.getElem?_map,List.getElem?_map,List.getElem?_eq_getElem i];rfl)
 rw[yG] at this⊢;rw[Nat.mul_one,Nat.add_zero] at this;exact this
def Qb (n:Nat) (i:Nat):UInt8:=if n/2^i%2=1 then 49 else 48
theorem bitC_take {wd n j:Nat} (a:j<wd):((List.range wd).reverse.map (Qb n)).take (j+1)=((List.range wd).reverse.map (Qb n)).take j++[Qb n (wd-1-j)]:=by
 have b:j<((List.range wd).reverse.map (Qb n)).length:=by simpa using a
 rw[M.take_add b 0];congr 1;rw[List.getD_eq_getElem?_getD,List.getElem?_map,List.getElem?_reverse (by simpa using a),List.length_range,List.getElem?_range (by omega)];rfl
theorem VecText_spec {wd n:Int} (C:M.vok wd n=true) (hK:∀w' s,Ext w w'->s.data.toList=M.vecL wd.toNat n.toNat->K (.string s) w'):vcall PP jk #[Jy wd n] w K:=by
 apply Q9;unfold Zn;obtain⟨W,X,Y,Z⟩:=M.vok_iff.1 C;have hp:(2:Int)^wd.toNat<=16:=by
  have:=pow4 (k:=wd.toNat) (by omega) (by omega);have e:=Qr wd.toNat;omega
 refine zr fun b1 G a0 z aa g=>?_;have y:∀w':World,Blk w' b1 [.int .i64 wd,.int .i64 n] zf->∀K:Value->World->Prop,zh PP zf (.pointer (some ⟨b1,0,none⟩)) w' K=K (Jy wd n) w':=fun w' hB K=>Blk.ldAgg hB (by exact xM);rw[y G g];refine VecOk_spec fun w2 o=>?_;rw[C];simp only[push_cast,Bool.not_true];refine qx kL (by kernel_rfl) (show yT PP zQ (.int .u8 0) by unfold yT;kernel_rfl) rfl rfl fun V w3 a5 A ab J=>?_;have D:=g.ext (o.trans A);have e3:=z.trans (o.trans A);have s1:=z.size;have s2:=o.size;have T:OwnV PP zC w3 (.slice (some ⟨V,0,none⟩) 1 1) ([(35:UInt8)].map byV):=Blk.own1 (P:=PP) (t:=zC) (cs:=[byV 35]) (by rw[Jk];exact J) (Nat.zero_le _) rfl rfl (by omega);simp(disch:=first|(simp only[push_cast];done)|omega) only[push_cast,D.ld0,yb];refine jz (fun m u w'=> ∃j r,u=[r,.int .i64 ((m:Int)-1)]/\(m:Int)+(j:Nat)=wd/\Ext w w'/\Blk w' b1 [.int .i64 wd,.int .i64 n] zf/\OwnV PP zC w' r ((35::((List.range wd.toNat).reverse.map (Qb n.toNat)).take j).map byV)/\∀b,r.ownBlock=some b->G.heap.size<=b) wd.toNat
  ⟨0,_,by rw[show((wd.toNat:Nat):Int)=wd by omega],by omega,e3,D,T,fun b l=>by have e:V=b:=Option.some.inj l;omega⟩ ?_
 rintro m _ _ w5 C5 ⟨j,r,rfl,a9,p,i,v,q⟩ N;simp only[push_cast];refine zd (fun a7=>?_) (fun a8=>?_)
 ·rw[y w5 i];rw[show n=((n.toNat:Nat):Int) by omega];refine raw_spec (by omega) fun w6 Q=>?_;rw[show(m:Int)-1=((m-1:Nat):Int) by omega];refine bit_spec (by omega) (by omega) ?_;have step:∀(x:UInt8) (H:Value->World->Prop),x=Qb n.toNat (wd.toNat-1-j)->(∀d a,Ext w a->Blk a b1 [.int .i64 wd,.int .i64 n] zf->OwnV PP zC a d ((35::((List.range wd.toNat).reverse.map (Qb n.toNat)).take (j+1)).map byV)->(∀b,d.ownBlock=some b->G.heap.size<=b)->H d a)->
    vbuildS PP zC 1 [(0,.int .u8 x.toNat)] w6 fun t21 F=>vbi PP .append [zC,zC] zC [r,t21] F H:=by
   intro x H hx O;refine qx kL (by kernel_rfl) (show yT PP zQ (.int .u8 0) by unfold yT;kernel_rfl) rfl rfl fun b7 a a6 R ad L=>?_;have f:=Q.trans R;have hl:((35::((List.range wd.toNat).reverse.map (Qb n.toNat)).take j).map byV).length<=20:=by
    simp only[List.length_map,List.length_cons,List.length_take,List.length_reverse,List.length_range];omega
   refine(v.ext f).app1 VN L rfl (by omega) (by omega) fun r8 w8 U E S=>?_;have ac:=p.size;have ae:=f.size;refine O r8 w8 (Ext.then (p.trans f) E fun b l=>by have:=q b l;omega) ((i.ext f).same E fun l=>by have:=q b1 l;have:=g.lt;omega) ?_ fun b l=>(S b l).elim (q b) fun h=>by have:=i.lt;omega
   rw[bitC_take (by omega),<-hx,<-List.cons_append,List.map_append];exact U
  have B:wd.toNat-1-j=m-1:=(by omega);have fin:∀d a,Ext w a->Blk a b1 [.int .i64 wd,.int .i64 n] zf->OwnV PP zC a d ((35::((List.range wd.toNat).reverse.map (Qb n.toNat)).take (j+1)).map byV)->(∀b,d.ownBlock=some b->G.heap.size<=b)->C5 [d,.int .i64 (((m-1:Nat):Int)-1)] a:=fun d a W X Y Z=>
   N (m-1) _ _ (by omega) ⟨j+1,d,rfl,by omega,W,X,Y,Z⟩
  refine zd (fun c=>?_) (fun c=>?_)
  ·refine step 49 _ (by rw[B];unfold Qb;rw[if_pos c]) fun d a I a2 a3 a4=>?_;rw[yb (by omega) (by omega)];exact fin d a I a2 a3 a4
  ·refine step 48 _ (by rw[B];unfold Qb;rw[if_neg c]) fun d a I a2 a3 a4=>?_;rw[yb (by omega) (by omega)];exact fin d a I a2 a3 a4
 ·rw[List.take_of_length_le (by simp;omega)] at v;rw[Qt v (by simp)];exact hK w5 _ p rfl
theorem joinX:Builder.Extra PP YtaemeijeaajoeaaGreatDoor.joinL_ren where
 sizeBuilder:=by kernel_rfl
 liesBuilder:=by kernel_rfl
 t5:=by kernel_rfl
 a5:=fun w=>by kernel_rfl
 z5:=fun w=>by kernel_rfl
 v5:=fun w=>by kernel_rfl
 infoByte:=by kernel_rfl
 cellsByte:=by kernel_rfl
 sizeByte:=by kernel_rfl
 neB5:=by decide+kernel
def joinB:List (List UInt8)→List UInt8
 |[]=>[]
 |x::xs=>x++xs.flatMap fun y=>32::y
theorem KW (xs:List (List UInt8)):Lib.join xs [32]=joinB xs:=by
 unfold Lib.join joinB;induction xs with
 |nil=>rfl
 |cons x xs a=>
  cases xs with
  |nil=>simp[List.intercalate,List.intersperse]
  |cons y ys=>
   simp only[List.intercalate,List.intersperse_cons_cons,List.flatten_cons] at a⊢;rw[a];simp
theorem Join_spec {v:Value} {xs:List ByteArray} (h:OwnV PP zJ w v (xs.map .string)) (n:2<=xs.length) (y:xs.length<=1000) (g:(joinB (xs.map (·.data.toList))).length<=1000000)
  (q:∀w' s,Ext w w'->s.data.toList=joinB (xs.map (·.data.toList))->K (.string s) w'):vcall PP Z4 #[v,.string ⟨#[32]⟩] w K:=by
 obtain⟨a,c,m,l,u,d⟩:=(OwnV.vals h).shape;have k:(xs.map Value.string).map (fun x=>[x])≠[]:=by intro e;have:=congrArg List.length e;simp only[List.length_map,List.length_nil] at this;omega
 obtain⟨b,o,r,_,t,f⟩:=d k;simp only[List.length_map] at m f l;subst r;subst m;refine⟨by kernel_rfl,?_⟩;refine(Any.strings_Join_many YtaemeijeaajoeaaGreatDoor.joinL joinX b o c xs ⟨#[32]⟩ w (fun j x g=>?_) t n (by omega) l (by rw[show(⟨#[32]⟩:ByteArray).data.toList=[32] from rfl,KW];omega)).mono ?_
 ·have i:j<xs.length:=(List.getElem?_eq_some_iff.1 g).1;have:=f j i 0 (.string x) (by
   rw[List.getD_eq_getElem?_getD,List.getElem?_map,List.getElem?_map,g];rfl)
  rw[yG,Nat.mul_one,Nat.add_zero] at this;exact this
 ·rintro e w' ⟨rfl,p⟩;refine q w' _ (kr p) ?_;rw[show(⟨#[32]⟩:ByteArray).data.toList=[32] from rfl,KW]
end Go.Proofs.YtaemeijeaajoeaaGreatDoor
end
section
namespace Go.Proofs.YtaemeijeaajoeaaGreatDoor
open Go Go.Vc Go.Proofs
variable {w:World} {K:Value→World→Prop} {F F' Fx Fy X Q:Nat→Prop}
theorem k7 {s:ByteArray} {m:Value} (c:∀w',Ext w w'->K (.string s) w'):vcall PP zD #[.agg ⟨[.string s,m]⟩] w K:=by
 apply Yu;unfold ju;refine zr fun b d e he f a=>?_;simp(disch:=first|(simp only[push_cast];done)|omega) only[push_cast,a.ld0];exact c d he
theorem word_spec {o:Int} {v:Value} (k:KindR o v) (l:(1<=o/\o<=17)\/(22<=o/\o<=27)) (a:o≠24) (i:∀w' s,Ext w w'->s.data.toList=M.wordL o->K (.string s) w'):vinvoke PP v xL #[] w K:=by
 obtain⟨s,m,r,rfl,d,e,g⟩:=k.word;have j:s.data.toList=M.wordL o:=by
  rcases g with h|h|h|h
  ·omega
  ·omega
  ·exact absurd h a
  ·exact h
 have fin:vcall PP zD #[.agg ⟨[.string s,.int .i64 m]⟩] w K:=k7 fun w' he=>i w' s he j;unfold kTy;by_cases c:24<=o
 ·obtain⟨f,rfl,_⟩:=e c
  repeat rw[if_neg (by omega)]
  exact zw (xW _ _ _) fin
 ·have:=d (by omega);subst this;by_cases b:o<=2
  ·rw[if_pos b];exact zw (qJ _ _) fin
  rw[if_neg b];by_cases c2:o<=13
  ·rw[if_pos c2];exact zw (qc _ _) fin
  rw[if_neg c2];by_cases c3:o=14
  ·rw[if_pos c3];exact zw (qb _ _) fin
  rw[if_neg c3];by_cases c4:o<=17
  ·rw[if_pos c4];exact zw (qa _ _) fin
  rw[if_neg c4,if_neg (by omega),if_neg (by omega)];by_cases c5:o=22
  ·rw[if_pos c5];exact zw (q8 _ _) fin
  rw[if_neg c5,if_pos (by omega)];exact zw (qK _ _) fin
theorem wordL_len (o:Int):(M.wordL o).length<=5:=by
 by_cases h:0<=o/\o<28
 ·have a:∀k:Fin 28,(M.wordL (k.1:Int)).length<=5:=(by decide+kernel);have:=a ⟨o.toNat,by omega⟩;rwa[show((o.toNat:Nat):Int)=o by omega] at this
 ·unfold M.wordL
  repeat rw[if_neg (by omega)]
  decide
theorem YW (wd n:Nat):(M.vecL wd n).length=wd+1:=by unfold M.vecL;simp
theorem kids_sum {f:M.Tm->Nat} {ks:List M.Tm} {g:M.Tm->List UInt8} (h:∀k,k∈ks->(g k).length+1<=f k):((ks.map g).flatMap (fun x=>32::x)).length<=(ks.map f).sum:=by
 induction ks with
 |nil=>simp
 |cons k ks b=>
  have:=h k List.mem_cons_self;have:=b fun y a=>h y (List.mem_cons_of_mem _ a);simp only[List.map_cons,List.flatMap_cons,List.length_append,List.length_cons,List.sum_cons];omega
theorem text_len {ds:List M.Dcl} (j:M.declOk ds=true):∀t,M.sortM ds t≠ -1->(M.textL t).length+1<=20*M.sizeM t:=by
 refine M.Tm.ind fun t o e=>?_;obtain⟨i,w,v⟩:=M.right_op e;rw[M.sizeM_eq,M.textL_eq];have f:((t.ks.map M.textL).flatMap (fun x=>32::x)).length<=(t.ks.map fun k=>20*M.sizeM k).sum:=kids_sum fun k f=>o k f ((M.sort_parts e).2.1 k f);have h:(t.ks.map fun k=>20*M.sizeM k).sum=20*(t.ks.map M.sizeM).sum:=by
  generalize t.ks=l;induction l with
  |nil=>rfl
  |cons k l ihl=>simp only[List.map_cons,List.sum_cons,ihl];omega
 unfold M.textF;by_cases c:t.op=20
 ·rw[if_pos c,YW];have:=M.vok_iff.1 (M.vec_ok e c);omega
 rw[if_neg c];by_cases c:t.op=21
 ·rw[if_pos c];have m:=M.name_found e c;have n:(M.findD ds t.s).toNat<ds.length:=by have:=(M.findD_lt ds t.s).2;omega
  have d:=(M.decl_iff.1 j).2.1 _ n;unfold M.dclOk at d;rw[M.findD_get m] at d;simp only[Bool.and_eq_true,decide_eq_true_eq,M.nameOk] at d;obtain⟨⟨⟨⟨⟨⟨p,q⟩,r⟩,u⟩,_⟩,_⟩,_⟩:=d;have:t.s.data.toList.length=t.s.size:=by rw[Array.length_toList];rfl
  omega
 rw[if_neg c];by_cases c:t.op=24
 ·rw[if_pos c];simp;omega
 rw[if_neg c];have:=wordL_len t.op;have g:(if t.op=22 then(32:UInt8)::(M.digL t.a++32::M.digL t.b) else[]).length<=4:=by
  split
  ·simp[M.digL]
  ·simp
 simp only[List.length_cons,List.length_append,List.length_nil];omega
theorem Itoa_int {k:Int} (b:0<=k) (c:k<10) (a:∀s:ByteArray,s.data.toList=M.digL k->K (.string s) w):vcall PP x6 #[.int .i64 k] w K:=by
 obtain⟨j,rfl⟩:∃j:Nat,k=j:=⟨k.toNat,by omega⟩;exact Itoa_spec (by omega) a
theorem textOf_spec {ds:List M.Dcl} (hd:M.declOk ds=true) {kb:Nat}:∀(t:M.Tm),M.sortM ds t≠ -1->M.sizeM t<=1000->∀{w:World} {K:Value->World->Prop} {F:Nat->Prop} {tv:Value},KindsR w kb->TermR F w tv t->
  (∀w' s,Ext w w'->s.data.toList=M.textL t->K (.string s) w')->vcall PP qn #[.map (some kb),tv] w K:=by
 refine M.Tm.ind fun t ih hs bg w K F tv hk ht n=>?_;obtain⟨ad,hp,ho⟩:=M.right_op hs;have hlen:=text_len hd t hs;obtain⟨kv,rfl,af⟩:=ht;apply QZ;unfold Yk;refine zr fun b1 O b6 f bi m=>?_;have Z:=hk.ext f;have H:=af.ext f;rw[M.textL_eq] at n hlen;unfold M.textF at n hlen;simp(disch:=first|(simp only[push_cast];done)|omega) only[push_cast,m.ld0,m.ld1,m.ld2,m.ld3];refine zd (fun c=>?_) (fun c=>?_)
 ·rw[if_pos c] at n;have hv:=M.vec_ok hs c;have e:zq PP zf [(0,.int .i64 t.a),(1,.int .i64 t.b)] O=fun K=>K (Jy t.a t.b) O:=by
   funext K;exact yd js (us:=[[.int .i64 t.a],[.int .i64 t.b]]) rfl rfl
  try rw[e]
  exact VecText_spec hv fun w2 s B al=>n w2 s (f.trans B) al
 rw[if_neg c] at n hlen;refine zd (fun c=>?_) (fun c=>?_)
 ·rw[if_pos c] at n;exact n O _ f rfl
 rw[if_neg c] at n hlen;refine zd (fun c=>?_) (fun c=>?_)
 ·rw[if_pos c] at n;exact n O _ f rfl
 rw[if_neg c] at n hlen;have aj:(1<=t.op/\t.op<=17)\/(22<=t.op/\t.op<=27):=by omega
 refine Xe (ok:=false) Z (by rw[ad];omega) fun bn ag=>?_;simp only[Bool.false_eq_true,if_false];refine word_spec ag aj (by omega) fun w2 ws B a7=>?_;refine qx k4 (by kernel_rfl) jY rfl rfl fun b3 w3 b8 X bj aa=>?_;have Q:=B.trans X;have s1:=f.size;have s2:=B.size;have k:=m.ext Q;have a3:OwnV PP zJ w3 (.slice (some ⟨b3,0,none⟩) 1 1) ([ws].map .string):=Blk.own1 (P:=PP) (t:=zJ) (cs:=[Value.string ws]) (by rw[Km];exact aa) (Nat.zero_le _) rfl rfl (by omega);have bf:1<=t.ks.length:=by
  have:=M.node_arity ho (by omega);omega
 have bd:t.ks.length<=3:=by
  have h:M.arity t.op<=3:=by
   unfold M.arity;repeat' split
   all_goals omega
  omega
 refine zL (fun u w'=> ∃(wv:Value) (wl:List ByteArray),u=[wv]/\Ext O w'/\OwnV PP zJ w' wv (wl.map .string)/\(∀b,wv.ownBlock=some b->O.heap.size<=b)/\wl.length<=3/\wl.map (·.data.toList)=M.wordL t.op::(if t.op=22 then[M.digL t.a,M.digL t.b] else[])) ?_ ?_
 ·intro J hJ;simp(disch:=first|(simp only[push_cast];done)|omega) only[push_cast,k.ld0,k.ld1,k.ld2];refine zd (fun z=>?_) (fun z=>?_)
  ·obtain⟨b4,bb,b2⟩:=M.cut_ab hd hs z;refine zN fun w4 Y _=>?_;have p:=k.ext Y;simp(disch:=first|(simp only[push_cast];done)|omega) only[push_cast,p.ld1,p.ld2,true_and];refine Itoa_int (by omega) (by omega) fun sa an=>?_;simp(disch:=first|(simp only[push_cast];done)|omega) only[push_cast,p.ld2,true_and,and_self];refine Itoa_int (by omega) (by omega) fun sb ao=>?_;refine vbuildS_row1 (xs:=[.string sa,.string sb]) k4 kI jY (fun x a9=>by
    simp only[List.mem_cons,List.not_mem_nil,or_false] at a9;rcases a9 with rfl|rfl<;>rfl) (by simp) fun b5 w5 b9 q bk T=>?_
   have aq:Vals (· =b5) w5 (.slice (some ⟨b5,0,none⟩) 2 2) [.string sa,.string sb]:=T.sl1 rfl (by simp);have R:=Y.trans q;refine(a3.ext R).app Jg aq (fun u hu=>by
    simp only[List.mem_cons,List.not_mem_nil,or_false] at hu;rcases hu with rfl|rfl<;>rfl) (by simp) (by simp) fun r6 w6 G am E=>?_
   have bq:=R.size;have z3:=X.size;refine hJ _ _ ⟨r6,[ws,sa,sb],rfl,Ext.then (Q.trans R) am fun b A=>by have e:b3=b:=Option.some.inj A;omega,by simpa using G,fun b A=>(E b A).elim (fun h=>by have e:b3=b:=Option.some.inj h;omega) fun h=>by omega,by simp,?_⟩;rw[if_pos z];simp[a7,an,ao]
  ·exact hJ _ _ ⟨_,[ws],rfl,Q,a3,fun b A=>by have e:b3=b:=Option.some.inj A;omega,by simp,by rw[if_neg z];simp[a7]⟩
 rintro _ _ w5 ⟨wv,wl,rfl,q,ak,ai,bh,a8⟩;have T:=m.ext q;have a0:=H.ext q;simp(disch:=first|(simp only[push_cast];done)|omega) only[push_cast,T.ld4,a0.len];refine vloop_up t.ks.length (fun i u w'=> ∃(r:Value) (kl:List ByteArray),u=[r,.int .i64 i]/\Ext O w'/\OwnV PP zJ w' r ((wl++kl).map .string)/\(∀b,r.ownBlock=some b->O.heap.size<=b)/\kl.map (·.data.toList)=(t.ks.take i).map M.textL) ⟨wv,[],rfl,q,by simpa using ak,ai,rfl⟩ ?_;rintro i _ g w6 C hi ⟨r,kl,rfl,v,G,E,l⟩ hC;have I:=H.ext v;have aw:kl.length=i:=by
  have:=congrArg List.length l;simp only[List.length_map,List.length_take] at this;omega
 simp only[push_cast];refine zd (fun a=>?_) (fun a=>?_)
 ·have d:i<t.ks.length:=(by omega);simp(disch:=first|(simp only[push_cast];done)|omega) only[push_cast,I.iaddr];refine I.load zo d fun x hx=>?_;obtain⟨cx,rfl,U⟩:=hx.cells;refine zx zy fun b7 w7 ba D bl ab=>?_;refine stTerm ab rfl (U.ext D) fun w8 ar bm ac=>?_;have S:Ext w6 w8:=Ext.then D ar fun y hy=>by subst hy;omega
  have v8:=U.ext S;simp(disch:=(simp only[push_cast];done)) only[push_cast,ac.ldAgg (t:=za) (by rw[yr U];exact zo)];have L:t.ks.getD i default∈t.ks:=M.getD_mem d _;have ap:M.sizeM (t.ks.getD i default)<=1000:=by
   have h1:=M.szT_succ d;have h2:=M.szT_mono (ks:=t.ks) (i:=i+1) (j:=t.ks.length) d (Nat.le_refl _);have h3:=M.szT_all t;omega
  refine ih _ L ((M.sort_parts hs).2.1 _ L) ap (Z.ext (v.trans S)) v8.term fun w9 sk ae a6=>?_;refine qx k4 (by kernel_rfl) jY rfl rfl fun b0 bo av W ay V=>?_;have o:=S.trans (ae.trans W);have be:((wl++kl).map Value.string).length<=6:=by rw[List.length_map,List.length_append];omega
  refine(G.ext o).app1 Jg V rfl (by omega) (by omega) fun au bp a2 a4 a1=>?_;have z6:=v.size;have az:=o.size
  try simp(disch:=omega) only[push_cast,yb]
  refine hC d _ _ ⟨au,kl++[sk],by simp<;>exact⟨rfl,rfl⟩,Ext.then (v.trans o) a4 fun b A=>E b A,?_,fun b A=>(a1 b A).elim (E b) fun h=>by omega,?_⟩
  ·rw[<-List.append_assoc,List.map_append];exact a2
  ·rw[M.take_add d default,List.map_append,List.map_append,l];simp[a6]
 ·have d:i=t.ks.length:=(by omega);subst d;rw[List.take_length] at l;have N:joinB ((wl++kl).map (·.data.toList))=M.wordL t.op++((if t.op=22 then(32:UInt8)::(M.digL t.a++32::M.digL t.b) else[])++(t.ks.map M.textL).flatMap fun x=>32::x):=by
   rw[List.map_append,a8,l];show joinB (M.wordL t.op::((if t.op=22 then[M.digL t.a,M.digL t.b] else[])++t.ks.map M.textL))=_;rw[show ∀(x:List UInt8) xs,joinB (x::xs)=x++xs.flatMap (fun y=>32::y) from fun _ _=>rfl,List.flatMap_append];split<;>simp
  have ah:2<=(wl++kl).length:=by
   have h1:1<=wl.length:=by
    have:=congrArg List.length a8;simp only[List.length_map,List.length_cons] at this;omega
   rw[List.length_append];omega
  simp only[List.length_cons,List.length_append,List.length_nil] at hlen;have bc:(joinB ((wl++kl).map (·.data.toList))).length<=20000:=by
   rw[N];simp only[List.length_append];omega
  refine Join_spec G ah (by rw[List.length_append];omega) (by omega) fun w7 sj D a5=>?_;have ax:sj.size<=20000:=by
   have:sj.data.toList.length=sj.size:=by rw[Array.length_toList];rfl
   rw[a5] at this;omega
  have h1:(⟨#[40]⟩:ByteArray).size=1:=(by decide+kernel);have h3:(⟨#[41]⟩:ByteArray).size=1:=(by decide+kernel);have h2:((⟨#[40]⟩:ByteArray)++sj).size=1+sj.size:=(by rw[ByteArray.size_append,h1]);rw[yc (by omega),yc (by omega)];refine n w7 _ (f.trans (v.trans D)) ?_;rw[ByteArray.data_append,ByteArray.data_append,Array.toList_append,Array.toList_append,a5,N];simp
end Go.Proofs.YtaemeijeaajoeaaGreatDoor
end
section
namespace Go.Proofs.YtaemeijeaajoeaaGreatDoor
open Go Go.Vc Go.Proofs
variable {w w':World} {K:Value→World→Prop} {F F' G:Nat→Prop} {v tv dv:Value} {ds:List M.Dcl} {t:M.Tm} {n k:Nat}
theorem ya:PP.underlying zc=some .string:=by kernel_rfl
theorem str_ext {a b:ByteArray} (h:a.data.toList=b.data.toList):a=b:=by
 cases a;cases b;simp only[Array.toList_inj] at h;rw[h]
theorem j5 (a b:ByteArray):(a++b).data.toList=a.data.toList++b.data.toList:=by rw[ByteArray.data_append,Array.toList_append]
theorem yw (a:ByteArray):a.data.toList.length=a.size:=by rw[Array.length_toList];rfl
theorem wrapB {n:Int} (a:0<=n) (h:n<256):IntKind.u8.wrap n=n:=by
 simp only[IntKind.wrap,IntKind.bits,IntKind.signed,Bool.false_and,Bool.false_eq_true,if_false];omega
theorem strs_lit {ss:List ByteArray} (g:ss.length<=1000) (f:∀a w',a=w.heap.size->Ext w w'->Vals (· =a) w' (.slice (some ⟨a,0,none⟩) ss.length ss.length) (ss.map Value.string)->K (.slice (some ⟨a,0,none⟩) ss.length ss.length) w'):
  vbuildS PP zJ ss.length ((ss.map Value.string).zipIdx.map fun p=>(p.2,p.1)) w K:=by
 have:=vbuildS_row1 (w:=w) (K:=K) (t:=zJ) (xs:=ss.map Value.string) k4 kI jY (fun x h=>by obtain⟨y,_,rfl⟩:=List.mem_map.1 h;rfl) (by rw[List.length_map];omega) fun a w' c d i e=>by
  have b:Vals (· =a) w' (.slice (some ⟨a,0,none⟩) (ss.map Value.string).length (ss.map Value.string).length) (ss.map Value.string):=e.sl1 rfl (by rw[List.length_map];omega);rw[List.length_map] at b⊢;exact f a w' c d b
 rwa[List.length_map] at this
theorem sign_text {c:UInt8} {x:Int} (i:x=c.toNat) (g:∀w' s,Ext w w'->s.data.toList=[c]->K (.string s) w'):vbuildS PP zC 1 [(0,.int .u8 x)] w fun t k=>qh PP zC zc t k K:=by
 subst i;refine qx kL (by kernel_rfl) (show yT PP zQ (.int .u8 0) by unfold yT;kernel_rfl) rfl rfl fun f e h b j a=>?_;have d:OwnV PP zC e (.slice (some ⟨f,0,none⟩) 1 1) ([c].map byV):=Blk.own1 (P:=PP) (t:=zC) (cs:=[byV c]) (by rw[Jk];exact a) (Nat.zero_le _) rfl rfl (by omega);rw[Qt d (by simp)];exact g e _ b rfl
theorem l12Dec_spec {k:Nat} (m:k<10) (e:∀w' s,Ext w w'->s.data.toList=M.digL (k:Int)->K (.string s) w'):vcall PP yX #[.int .i64 k] w K:=by
 apply QT;unfold Ye;simp only[push_cast];refine zd (fun h=>by omega) (fun _=>?_);refine zd (fun h=>by omega) (fun _=>?_);refine vloop_up 0 (fun i u w'=>u=[.int .i64 k,.string ⟨#[]⟩]/\w'=w) ⟨rfl,rfl⟩ ?_;rintro i _ _ n C l ⟨rfl,rfl⟩ j;simp only[push_cast];refine zd (fun h=>by omega) (fun _=>?_);rw[jm KG K5,yb (by omega) (by omega),wrapB (by omega) (by omega)];refine sign_text (c:=UInt8.ofNat (48+k)) (by
  have:(UInt8.ofNat (48+k)).toNat=48+k:=by simp[UInt8.toNat_ofNat];omega
  rw[this];omega) fun f s a d=>?_
 have g:(⟨#[]⟩:ByteArray).size=0:=rfl;have b:=yw s;rw[d] at b;simp only[List.length_cons,List.length_nil] at b;rw[yc (by omega)];refine e f _ a ?_;rw[j5,d];show[UInt8.ofNat (48+k)]++[]=[UInt8.ofNat (48+((k:Int)).toNat)];rw[Int.toNat_natCast];rfl
theorem JD {b:Nat} {wd n:Int} (h:Blk w b [.int .i64 wd,.int .i64 n] zf):zh PP zf (.pointer (some ⟨b,0,none⟩)) w K=K (Jy wd n) w:=h.ldAgg xM
theorem spec_VecText_spec {wd n:Int} (f:M.vok wd n=true) (v:∀w' s,Ext w w'->s.data.toList=M.vecL wd.toNat n.toNat->K (.string s) w'):vcall PP j9 #[Jy wd n] w K:=by
 apply XX;unfold Zb;obtain⟨H,I,J,L⟩:=M.vok_iff.1 f;have P:n<16:=by
  have N:(2:Nat)^wd.toNat<=2^4:=Nat.pow_le_pow_right (by omega) (by omega);have t:(((2:Nat)^wd.toNat:Nat):Int)<=16:=(by omega);have O:(2:Int)^wd.toNat<=16:=(by simpa using t);omega
 refine zr fun b1 Q y o D b=>?_;rw[JD b];refine spec_VecOk_spec fun E e=>?_;rw[f];simp only[push_cast,Bool.not_true];have c:=b.ext e;simp(disch:=first|(simp only[push_cast];done)|omega) only[push_cast,c.ld0,yb];have hle:(M.vecL wd.toNat n.toNat).length=wd.toNat+1:=YW _ _;refine jz (fun m u w'=> ∃(j:Nat) (s:ByteArray),u=[.string s,.int .i64 ((m:Int)-1)]/\(m:Int)+j=wd/\Ext E w'/\s.data.toList=35::((List.range wd.toNat).reverse.map (Qb n.toNat)).take j) wd.toNat
  ⟨0,_,by rw[show((wd.toNat:Nat):Int)=wd by omega],by omega,Same.refl _ _,rfl⟩ ?_
 rintro m _ _ F G ⟨j,s,rfl,B,a,h⟩ k;have i:=c.ext a;have g:=yw s;rw[h] at g;simp only[List.length_cons,List.length_take,List.length_map,List.length_reverse,List.length_range] at g;simp only[push_cast];refine zd (fun z=>?_) (fun A=>?_)
 ·simp(disch:=first|(simp only[push_cast];done)|omega) only[push_cast,i.ld1];rw[show n=((n.toNat:Nat):Int) by omega,show(m:Int)-1=((m-1:Nat):Int) by omega];refine l1Bit_spec (by omega) (by omega) ?_;have x:n.toNat/2^(m-1)%2<2:=Nat.mod_lt _ (by decide);generalize C:n.toNat/2^(m-1)%2=q at x;refine l12Dec_spec (by omega) fun R d p r=>?_;have l:=yw d;rw[r] at l;have:(M.digL (q:Int)).length=1:=rfl;rw[yc (by omega)];simp(disch:=omega) only[push_cast,yb];refine k (m-1) _ _ (by omega) ⟨j+1,s++d,by rw[show(m:Int)-(0+1)-1=((m-1:Nat):Int)-1 by omega],by omega,a.trans p,?_⟩;rw[j5,h,r,bitC_take (by omega),List.cons_append];congr 2;unfold Qb;rw[show wd.toNat-1-j=m-1 by omega,C];have:q=0\/q=1:=(by omega);rcases this with rfl|rfl<;>rfl
 ·rw[List.take_of_length_le (by simp;omega)] at h;exact v F s ((o.trans e).trans a) h
def WV:List ByteArray:=[⟨#[]⟩,⟨#[110,111,116]⟩,⟨#[110,101,103]⟩,⟨#[97,110,100]⟩,⟨#[111,114]⟩,⟨#[120,111,114]⟩,⟨#[97,100,100]⟩,⟨#[115,117,98]⟩,⟨#[109,117,108]⟩,⟨#[100,105,118]⟩,⟨#[114,101,109]⟩,⟨#[115,104,108]⟩,⟨#[115,104,114]⟩,⟨#[115,97,114]⟩,⟨#[99,97,116]⟩,⟨#[115,97,109,101]⟩,⟨#[108,101,115,115]⟩,⟨#[117,110,100,101,114]⟩,⟨#[]⟩,⟨#[]⟩,⟨#[]⟩,⟨#[]⟩,⟨#[99,117,116]⟩,⟨#[105,102]⟩,⟨#[116,114,117,101]⟩,⟨#[110,111]⟩,⟨#[98,111,116,104]⟩,⟨#[97,110,121]⟩]
theorem wordsL_get:∀i:Fin 28,i.1≠24->(WV.getD i.1 ⟨#[]⟩).data.toList=M.wordL (i.1:Int):=by decide+kernel
theorem wordsL_len:∀i:Fin 28,(WV.getD i.1 ⟨#[]⟩).size<=5:=by decide+kernel
theorem l2Words_spec (a:∀w' v,Ext w w'->Vals (fun x=>w.heap.size<=x) w' v (WV.map Value.string)->K v w'):vcall PP xQ #[] w K:=by
 apply XU;unfold Z8;refine strs_lit (ss:=WV) (by decide) fun d w' e he b=>?_;exact a w' _ he (b.weaken fun x c _=>by subst c;omega)
theorem spec_l2Text_spec (hd:M.declOk ds=true):∀(t:M.Tm),M.sortM ds t≠ -1->M.sizeM t<=1000->∀{w:World} {K:Value->World->Prop} {F:Nat->Prop} {tv:Value},TermR F w tv t->
  (∀w' s,Ext w w'->s.data.toList=M.textL t->K (.string s) w')->vcall PP qj #[tv] w K:=by
 refine M.Tm.ind fun t ih R bb w K F tv ht hK=>?_;have hlen:=text_len hd t R;obtain⟨cs,rfl,al⟩:=ht.cells;obtain⟨kv,rfl,an⟩:=al.inv;apply QK;unfold Y6;refine zr fun b1 S b3 h be f=>?_;have a5:=an.ext h;simp(disch:=first|(simp only[push_cast];done)|omega) only[push_cast,f.ld0,f.ld1,f.ld2,f.ld3];by_cases n:M.leafT t
 ·obtain⟨_,_,d,_⟩:=M.leaf_ok hd R n;unfold M.textF at d;refine zd (fun c=>?_) (fun c=>?_)
  ·rw[if_pos c] at d;have hv:=M.vec_ok R c;have e:zq PP zf [(0,.int .i64 t.a),(1,.int .i64 t.b)] S=fun K=>K (Jy t.a t.b) S:=by
    funext K;exact yd js (us:=[[.int .i64 t.a],[.int .i64 t.b]]) rfl rfl
   try rw[e]
   exact spec_VecText_spec hv fun w2 s r v=>hK w2 s (h.trans r) (by rw[v,d])
  rw[if_neg c] at d;refine zd (fun c=>?_) (fun c=>?_)
  ·rw[if_pos c] at d;exact hK S _ h (by rw[d])
  rw[if_neg c] at d;refine zd (fun c=>?_) (fun c=>?_)
  ·rw[if_pos c] at d;exact hK S _ h (by rw[d])
  ·exact absurd n (by unfold M.leafT;omega)
 ·have d:=M.node_text n;obtain⟨b7,b8,ba,av,b0,b9⟩:=M.node_arity' R n;unfold M.leafT at n;refine zd (fun c=>by omega) (fun _=>?_);refine zd (fun c=>by omega) (fun _=>?_);refine zd (fun c=>by omega) (fun _=>?_);refine zN fun w2 r _=>?_;have V:=f.ext r;simp(disch:=first|(simp only[push_cast];done)|omega) only[push_cast,V.ld0,true_and];refine l2Words_spec fun w3 v3 a1 ah=>?_;have G:=V.ext a1;obtain⟨o,ho⟩:∃o:Nat,t.op=o:=⟨t.op.toNat,by omega⟩;have p:o<28:=(by omega);have ai:(WV.getD o ⟨#[]⟩).data.toList=M.wordL (o:Int):=wordsL_get ⟨o,p⟩ (by show o≠24;omega);have ap:(WV.getD o ⟨#[]⟩).size<=5:=wordsL_len ⟨o,p⟩;have a4:(WV.map Value.string).getD o undef= .string (WV.getD o ⟨#[]⟩):=M.getD_map _ (show o<WV.length from p) _ ⟨#[]⟩;have ak:(⟨#[40]⟩:ByteArray).size=1:=(by decide+kernel);have au:(WV.map Value.string).length=28:=rfl;simp(disch:=first|(simp only[push_cast];done)|omega) only[push_cast,G.ld0,ho,ah.iaddr,ah.load,Int.toNat_natCast,a4,true_and,and_self];rw[yc (by omega)];have E:(⟨#[32]⟩:ByteArray).size=1:=(by decide+kernel);have ay:(⟨#[41]⟩:ByteArray).size=1:=(by decide+kernel);generalize bd:WV.getD o ⟨#[]⟩=wd at ai ap;have ac:((⟨#[40]⟩:ByteArray)++wd).size=1+wd.size:=(by rw[ByteArray.size_append,ak]);have N:((⟨#[40]⟩:ByteArray)++wd).data.toList=40::M.wordL t.op:=by rw[j5,ai,ho];rfl
  generalize (⟨#[40]⟩:ByteArray)++wd=Q at ac N;have T:=r.trans a1;refine⟨rfl,?_⟩;refine zL (fun u w'=> ∃s:ByteArray,u=[.string s]/\Ext S w'/\s.data.toList=40::(M.wordL t.op++M.cutL t)) (fun J hJ=>?_) ?_
  ·try simp(disch:=first|(simp only[push_cast];done)|omega) only[push_cast,G.ld0]
   refine zd (fun aj=>?_) (fun aj=>hJ _ _ ⟨Q,rfl,T,by rw[N];unfold M.cutL;rw[if_neg (by omega),List.append_nil]⟩);obtain⟨b2,b4,az⟩:=M.cut_ab hd R (by omega);refine zN fun w4 a2 _=>?_;have H:=G.ext a2;rw[yc (by omega)];refine⟨rfl,?_⟩;have a6:(Q++(⟨#[32]⟩:ByteArray)).data.toList=40::(M.wordL t.op++[32]):=by rw[j5,N];rfl
   have ad:(Q++(⟨#[32]⟩:ByteArray)).size=Q.size+1:=(by rw[ByteArray.size_append,E]);have A:∀(w':World) (K:Value->World->Prop),zj PP .add zc true (.string Q) (.string ⟨#[32]⟩) w' K=K (.string (Q++⟨#[32]⟩)) w':=fun w' K=>yc (by omega);generalize Q++(⟨#[32]⟩:ByteArray)=s1 at a6 ad A;simp(disch:=first|(simp only[push_cast];done)|omega) only[push_cast,H.ld1,H.ld2,true_and];obtain⟨ta,ag⟩:∃ta:Nat,t.a=ta:=⟨t.a.toNat,by omega⟩;obtain⟨tb,P⟩:∃tb:Nat,t.b=tb:=⟨t.b.toNat,by omega⟩;rw[ag,P];refine l12Dec_spec (by omega) fun w5 da a3 X=>?_;have g:=H.ext a3;rw[P] at g;have Z:=yw da;rw[X] at Z;have W:∀x:Int,(M.digL x).length=1:=fun _=>rfl;rw[W] at Z;simp(disch:=first|(simp only[push_cast];done)|omega) only[push_cast,g.ld2,A,true_and,and_self];have B:∀(w':World) (K:Value->World->Prop),zj PP .add zc false (.string s1) (.string da) w' K=K (.string (s1++da)) w':=fun w' K=>yc (by omega);have v:(s1++da).data.toList=40::(M.wordL t.op++(32::M.digL t.a)):=by rw[j5,a6,X,ag];simp
   have ae:(s1++da).size=s1.size+1:=by rw[ByteArray.size_append];omega
   rw[B];refine⟨rfl,?_⟩;generalize s1++da=s2 at v ae B;have D:∀(w':World) (K:Value->World->Prop),zj PP .add zc true (.string s2) (.string ⟨#[32]⟩) w' K=K (.string (s2++⟨#[32]⟩)) w':=fun w' K=>yc (by omega);have a7:(s2++(⟨#[32]⟩:ByteArray)).data.toList=40::(M.wordL t.op++(32::(M.digL t.a++[32]))):=by rw[j5,v];simp
   have af:(s2++(⟨#[32]⟩:ByteArray)).size=s2.size+1:=(by rw[ByteArray.size_append,E]);rw[D];refine⟨rfl,?_⟩;generalize s2++(⟨#[32]⟩:ByteArray)=s3 at a7 af D;refine l12Dec_spec (by omega) fun w6 db I Y=>?_;have a0:=yw db;rw[Y,W] at a0;simp(disch:=first|(simp only[push_cast];done)|omega) only[push_cast,A,B,D,true_and,and_self];rw[yc (by omega)];refine⟨rfl,hJ _ _ ⟨_,rfl,T.trans (a2.trans (a3.trans I)),?_⟩⟩;rw[j5,a7,Y,<-P];unfold M.cutL;rw[if_pos (by omega)];simp
  rintro _ _ w4 ⟨s4,rfl,U,ao⟩;have aq:Blk w4 b1 [.int .i64 t.op,.int .i64 t.a,.int .i64 t.b,.string t.s,kv] za:=f.ext U;have b6:∀{i:Nat} {k:M.Tm},(M.kidsL (t.ks.take i)).length<=20000->True:=fun _=>trivial;have L:∀i,i<=t.ks.length->(M.kidsL (t.ks.take i)).length<=(M.textL t).length:=fun i hi=>by
   have e:M.kidsL t.ks=M.kidsL (t.ks.take i)++M.kidsL (t.ks.drop i):=by
    unfold M.kidsL;rw[<-List.flatMap_append,<-List.map_append,List.take_append_drop]
   rw[d,e];simp only[List.length_cons,List.length_append];omega
  have b5:(M.cutL t).length<=4:=by
   unfold M.cutL;split
   ·simp[M.digL]
   ·simp
  have ax:=wordL_len t.op;refine vloop_up t.ks.length (fun i u w'=> ∃s:ByteArray,u=[.string s,.int .i64 i]/\Ext S w'/\s.data.toList=40::(M.wordL t.op++(M.cutL t++M.kidsL (t.ks.take i)))) ⟨s4,rfl,U,by rw[ao];simp[M.kidsL]⟩ ?_;rintro i _ _ w5 C hi ⟨s5,rfl,q,O⟩ hC;have g:=f.ext q;have m:=a5.ext q;have aa:=yw s5;rw[O] at aa;simp only[List.length_cons,List.length_append] at aa;have ar:=L i (by omega);simp(disch:=first|(simp only[push_cast];done)|omega) only[push_cast,g.ld4,m.len];refine zd (fun a=>?_) (fun a=>?_)
  ·have l:i<t.ks.length:=(by omega);have z:t.ks.getD i default∈t.ks:=M.getD_mem l _;rw[yc (by omega)];have aw:(s5++(⟨#[32]⟩:ByteArray)).size=s5.size+1:=(by rw[ByteArray.size_append,E]);simp(disch:=first|(simp only[push_cast];done)|omega) only[push_cast,g.ld4,m.iaddr,Int.toNat_natCast];refine m.load zo l fun x hx=>?_;have y:=(M.sort_parts R).2.1 _ z;have ab:M.sizeM (t.ks.getD i default)<=1000:=by
    have h1:=M.szT_succ l;have h2:=M.szT_mono (ks:=t.ks) (i:=i+1) (j:=t.ks.length) (by omega) (Nat.le_refl _);have h3:=M.szT_all t;omega
   have bc:=text_len hd _ y;refine ih _ z y ab hx fun w6 sk I a8=>?_;have a9:=yw sk;rw[a8] at a9;rw[yc (by omega),inc64' (by omega)];refine hC l _ _ ⟨_,rfl,q.trans I,?_⟩;rw[j5,j5,O,a8,M.take_add l default];unfold M.kidsL;simp
  ·have am:i=t.ks.length:=(by omega);rw[yc (by omega)];refine hK w5 _ (h.trans q) ?_;rw[j5,O,d,am,List.take_length];simp
def W2 (ds:List M.Dcl) (t:M.Tm) (s:ByteArray):Prop:=(M.tsort ds t= -1→s=⟨#[]⟩)∧(M.tsort ds t≠ -1→s.data.toList=M.textL t)
theorem yO (h:M.tsort ds t≠ -1):M.sortM ds t≠ -1/\M.declOk ds=true/\M.sizeM t<=20/\M.deepM t<=7/\M.sortM ds t=M.tsort ds t:=by
 unfold M.tsort at h⊢;split at h
 ·next a=>exact⟨h,a.2,(M.fits_iff.1 a.1).1,(M.fits_iff.1 a.1).2,by rw[if_pos a]⟩
 ·exact absurd rfl h
theorem tsort_low (ds:List M.Dcl) (t:M.Tm):M.tsort ds t= -1\/0<=M.tsort ds t:=by
 by_cases h:M.tsort ds t= -1
 ·exact .inl h
 ·have a:=yO h;have:=(M.sort_range a.2.1 t).1;omega
theorem spec_TermText_spec (p:J6 ds) (l:DclsR F w dv ds) (o:TermR G w tv t) (i:∀w' s,Ext w w'->W2 ds t s->K (.string s) w'):vcall PP qC #[dv,tv] w K:=by
 apply Xs;unfold ku;obtain⟨cs,rfl,a⟩:=o.cells;have j:aggB PP za cs.length=true:=by rw[yr a];exact zo
 refine zr fun b1 v k b q d=>?_;rw[d.ldAgg j];refine spec_TermSort_spec p (l.ext b) (a.ext b).term fun r e=>?_;simp only[push_cast];have f:=b.trans e;have m:=tsort_low ds t;refine zd (fun c=>i r _ f ⟨fun _=>rfl,fun h=>absurd (m.resolve_right (by omega)) h⟩) (fun c=>?_);have h:=yO (ds:=ds) (t:=t) (by omega);rw[(d.ext e).ldAgg j];refine spec_l2Text_spec h.2.1 t h.1 (by omega) (a.ext f).term fun u s g n=>?_;exact i u s (f.trans g) ⟨fun h=>by omega,fun _=>n⟩
end Go.Proofs.YtaemeijeaajoeaaGreatDoor
end
section
namespace Go.Proofs.YtaemeijeaajoeaaGreatDoor
open Go Go.Vc Go.Proofs
variable {w:World} {K:Value→World→Prop} {F F' D G:Nat→Prop}
theorem one_tms {ks:List M.Tm} {css:List (List Value)} (l:css.length=ks.length) (h:∀i,i<ks.length->TmR G w (css.getD i []) (ks.getD i default)):∀y,y∈css->∀c,c∈y->c.oneCell'=true:=fun y j c a=>by
 obtain⟨i,g,rfl⟩:=List.getElem_of_mem j;have f:=h i (by omega);rw[List.getD_eq_getElem?_getD,List.getElem?_eq_getElem g] at f;obtain⟨k,he,b⟩:=f.inv;obtain⟨e,d,_⟩:=b;rw[show css[i]=(some css[i]).getD [] from rfl,he] at a;simp only[List.mem_cons,List.not_mem_nil,or_false] at a;rcases a with rfl|rfl|rfl|rfl|rfl
 ·rfl
 ·rfl
 ·rfl
 ·rfl
 ·exact d.one
end Go.Proofs.YtaemeijeaajoeaaGreatDoor
end
section
namespace Go.Vc
open Go Go.M
variable {P:Program} {w w':World} {K:Value→World→Prop} {F:Nat→Prop} {k:Nat} {v tv dv mv:Value} {xs:List (List Value)} {t:TypeId} {ts:List Tm} {ds:List Dcl}
theorem TmsR.one (h:TmsR F w tv ts):tv.oneCell'=true:=by
 obtain⟨_,h,_⟩:=h;obtain⟨a,c,rfl,_⟩:=h.shape;rfl
theorem TmsR.cellsV (h:TmsR F w tv ts):tv.cells= #[tv]:=by
 obtain⟨_,h,_⟩:=h;obtain⟨a,c,rfl,_⟩:=h.shape;rfl
end Go.Vc
end
section
namespace Go.M
open Go.Vc
mutual
def sameT:Tm→Tm→Bool
 | .mk o a b s ks,.mk o' a' b' s' ks'=>decide (o=o')&&decide (a=a')&&decide (b=b')&&decide (s=s')&&sameL ks ks'
def sameL:List Tm→List Tm→Bool
 |[],[]=>true
 |x::xs,y::ys=>sameT x y&&sameL xs ys
 |[],_::_=>false
 |_::_,[]=>false
end
theorem sameL_of {xs:List Tm} (a:∀k,k∈xs->∀y,sameT k y=true↔k=y):∀ys,sameL xs ys=true↔xs=ys:=by
 induction xs with
 |nil=>intro ys;cases ys<;>simp[sameL]
 |cons x xs ihx=>
  intro ys;cases ys with
  |nil=>simp[sameL]
  |cons y ys=>
   grind [sameL]
theorem sameT_iff:∀t u:Tm,sameT t u=true↔t=u:=by
 refine Tm.ind fun t c u=>?_;cases t with
 |mk o a b s ks=>
  cases u with
  |mk o' e f g d=>
   rw[sameT,Bool.and_eq_true,sameL_of (xs:=ks) c]
   grind
instance:DecidableEq Tm:=fun t u=>decidable_of_iff _ (sameT_iff t u)
section
variable {ds:List Dcl} {env:List Int} {t u:Tm} {w n:Int}
def binT (w n:Nat):Prop:=
 (Qc 3 w n n=n∧Qc 4 w n n=n∧Qc 5 w n n=0∧Qc 7 w n n=0)∧
 (Qc 4 w n 0=n∧Qc 5 w n 0=n∧Qc 6 w n 0=n∧Qc 7 w n 0=n∧Qc 11 w n 0=n∧Qc 12 w n 0=n∧Qc 13 w n 0=n)∧
 (Qc 3 w n 0=0∧Qc 8 w n 0=0∧Qc 8 w n 1=n)∧
 (Qc 4 w 0 n=n∧Qc 5 w 0 n=n∧Qc 6 w 0 n=n∧Qc 3 w 0 n=0∧Qc 8 w 0 n=0∧Qc 8 w 1 n=n)
instance (w n:Nat):Decidable (binT w n):=by unfold binT;infer_instance
end
end Go.M
end
section
namespace Go.M
open Go.Vc
section
variable {ds:List Dcl} {env:List Int} {t u:Tm} {w n:Int}
theorem size_pos:1<=sizeM t/\1<=deepM t:=by rw[sizeM_eq,K8];omega
end
end Go.M
end
section
namespace Go.M
open Go.Vc
section
variable {ds:List Dcl} {env:List Int} {t u:Tm} {d:Dcl} {x:Int}
theorem app_getD {α:Type} {l r:List α} {i:Nat} {e:α} (h:i<l.length):(l++r).getD i e=l.getD i e:=by
 grind
end
end Go.M
end
section
namespace Go.M
open Go.Vc
abbrev Lay:=List Dcl×List Tm
section
variable {c:List Lay} {d:Dcl} {t:Tm} {l:Lay} {ds es:List Dcl} {i:Nat}
end
end Go.M
end
section
namespace Go.Proofs.YtaemeijeaajoeaaGreatDoor
open Go Go.Vc Go.Proofs
variable {w w':World} {K:Value→World→Prop} {F F' F2 H H2 S:Nat→Prop} {k:Nat} {v uv tv dv:Value} {xs:List (List Value)} {t:TypeId} {ts us:List M.Tm} {ds es:List M.Dcl}
def LstH (H:Nat→Prop) (w:World) (tv:Value) (ts:List M.Tm):Prop:= ∃css,Own PP 0 5 ze w tv css∧css.length=ts.length∧∀i,i<ts.length→TmR H w (css.getD i []) (ts.getD i default)
theorem LstH.nil:LstH H w (.slice none 0 0) []:=⟨[],Own.nil PP 0 5 _ w,rfl,fun i a=>absurd a (Nat.not_lt_zero _)⟩
theorem LstH.lt (h:LstH H w tv ts) {b:Nat} (a:tv.ownBlock=some b):b<w.heap.size:=by obtain⟨_,c,_⟩:=h;exact(c.lt a).2
theorem LstH.same (h:LstH H w tv ts) (hw:Same S w w') (b:∀x,tv.ownBlock=some x->¬S x) (c:∀x,H x->x<w.heap.size->¬S x):LstH H w' tv ts:=by
 obtain⟨css,f,e,d⟩:=h;exact⟨css,f.same hw b,e,fun i a=>(d i a).same hw c⟩
theorem LstH.ext (h:LstH H w tv ts) (hw:Ext w w'):LstH H w' tv ts:=h.same hw (fun _ _ h=>h) fun _ _ _ h=>h
theorem LstH.weaken (h:LstH H w tv ts) (c:∀b,H b->b<w.heap.size->F b):LstH F w tv ts:=by
 obtain⟨css,f,e,d⟩:=h;exact⟨css,f,e,fun i a=>(d i a).weaken c⟩
theorem LstH.tms (h:LstH H w tv ts):TmsR (fun x=>H x\/tv.ownBlock=some x) w tv ts:=by
 obtain⟨css,e,d,c⟩:=h;exact⟨css,e.sl.weaken fun x b _=> .inr b,d,fun i a=>(c i a).weaken fun x b _=> .inl b⟩
theorem Vd {α:Type} {l r:List α} {i:Nat} {e:α} (h:l.length<=i):(l++r).getD i e=r.getD (i-l.length) e:=by
 rw[List.getD_eq_getElem?_getD,List.getElem?_append_right h,<-List.getD_eq_getElem?_getD]
theorem LstH.app {ty:Nat} {c:List (List Value)} (h:LstH H w tv ts) (o:∀x,tv.ownBlock=some x->¬H x/\¬H2 x) (hu:Sl F2 w 5 uv c) (j:c.length=us.length) (g:∀i,i<us.length->TmR H2 w (c.getD i []) (us.getD i default))
  (s:ts.length+us.length<=1000000000)
  (p:∀w' b,Same (fun x=>tv.ownBlock=some x) w w'->(∀x,b.ownBlock=some x->tv.ownBlock=some x\/w.heap.size<=x)->LstH (fun x=>(H x\/H2 x)/\x<w.heap.size) w' b (ts++us)->K b w'):
  vbi PP .append [ze,ze] ty [tv,uv] w K:=by
 obtain⟨css,r,f,q⟩:=h;refine vappend YD (by decide) r hu (one_tms j g) (Nat.zero_le _) (by omega) (by omega) fun b t m d l=>p t b d l ⟨css++c,m,by simp[f,j],fun i k=>?_⟩;rw[List.length_append] at k;by_cases n:i<ts.length
 ·rw[M.app_getD (by omega),M.app_getD n];exact((q i n).weaken (F':=fun x=>(H x\/H2 x)/\x<w.heap.size/\H x) fun x a f=>⟨.inl a,f,a⟩).same d (fun x a _ e=>(o x e).1 a.2.2)|>.weaken fun x a _=>⟨a.1,a.2.1⟩
 ·rw[Vd (by omega),Vd (by omega),f];exact((g _ (by omega)).weaken (F':=fun x=>(H x\/H2 x)/\x<w.heap.size/\H2 x) fun x a f=>⟨.inr a,f,a⟩).same d (fun x a _ e=>(o x e).2 a.2.2)|>.weaken fun x a _=>⟨a.1,a.2.1⟩
theorem LstH.push {ty:Nat} {t:M.Tm} (h:LstH H w tv ts) (m:∀x,tv.ownBlock=some x->¬H x/\¬H2 x) (u:TermR H2 w uv t) (r:ts.length<=2000000)
  (p:∀w' a,Same (fun x=>tv.ownBlock=some x) w w'->(∀x,a.ownBlock=some x->tv.ownBlock=some x\/w.heap.size<=x)->LstH (fun x=>(H x\/H2 x)/\x<w.heap.size) w' a (ts++[t])->K a w'):
  vbuildS PP ze 1 [(0,uv)] w fun s n=>vbi PP .append [ze,ze] ty [tv,s] n K:=by
 obtain⟨cs,rfl,f⟩:=u.cells;refine YX YB X3 zy rfl (yr f) (by decide) fun b n z d v g=>?_;have A:=d.size;refine LstH.app (H2:=fun x=>H2 x/\x<w.heap.size) (us:=[t]) ((h.weaken (F:=fun x=>H x/\x<w.heap.size) fun x c j=>⟨c,j⟩).ext d) (fun x c=>⟨fun e=>(m x c).1 e.1,fun e=>(m x c).2 e.1⟩) (g.sl1k (yr f)) rfl (fun i q=>?_) (by simp;omega) fun y a l k o=>?_
 ·have:i=0:=(by simpa using q);subst this;exact(f.weaken fun x c j=>⟨c,j⟩).ext d
 ·refine p y a ((Same.of_ext d).trans l) (fun x c=>(k x c).imp id fun h=>by omega) (o.weaken fun x c _=>?_);rcases c.1 with h|h
  ·exact⟨.inl h.1,h.2⟩
  ·exact⟨.inr h.1,h.2⟩
end Go.Proofs.YtaemeijeaajoeaaGreatDoor
end
