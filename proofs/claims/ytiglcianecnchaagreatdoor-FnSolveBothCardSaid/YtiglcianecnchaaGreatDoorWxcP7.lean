import Derived.Test.YtiglcianecnchaaGreatDoorWxcP6
import Derived.Ground.NamesProg
import Derived.Ground.SlsfProg
import Derived.Shelf.SlSortCmp.Whole1
import Derived.Shelf.Strings.OnBuilder
import Derived.Shelf.Strings.SlTrimAscii
import Derived.Shelf.SlGeneric
/- A part of the proof. -/
set_option linter.all false
set_option maxRecDepth 9999
set_option maxHeartbeats 2000000
noncomputable section
namespace Go.Proofs.YtiglcianecnchaaGreatDoor
open Go Go.Vc Go.Proofs
section
variable {w:World} {K:oK} {F G:Nat->Prop}
theorem stTerm {b:Nat} {cs cs':List Value} {t:TypeId} {t':M.Tm} (h:Blk w b cs t) (f:cs.length=5) (d:TmR F w cs' t') (c:∀w',Same (· =b) w w'->w'.heap.size=w.heap.size->Blk w' b cs' t->K undef w'):zT za (oP b 0) (.agg ⟨cs'⟩) w K:=by
 obtain⟨kv,rfl,e⟩:=d.inv;obtain⟨css,hs,_⟩:=e;refine h.stAgg (by simp[f]) zc ?_ c;intro v a;simp only[V0,gq,or_false] at a;rcases a with rfl|rfl|rfl|rfl|rfl
 ·rfl
 ·rfl
 ·rfl
 ·rfl
 ·exact hs.one
theorem zU {cs:List Value} {t:M.Tm} (h:TmR F w cs t):cs.length=5:=by
 obtain⟨kv,rfl,_⟩:=h.inv;rfl
theorem xj0 {v:Value} {t:M.Tm} (m:TermR F w v t) (i:∀w',Ext w w'->K (.bool (M.plainM t)) w'):vcall QS #[v] w K:=by
 refine zf {cuts:=[(8194,[3])]} Tryz.func148 ?_;obtain⟨ksv,rfl,k⟩:=m;refine zk λb1 w1 j h l e=>?_;have d:=i _ h;unfold M.plainM at d;refine zo (λu w'=>u=[.bool (decide (t.op=20)||decide (t.op=22)||(decide (t.a=0)&&decide (t.b=0)))]/\w'=w1) (λC f=>?_) ?_
 ·simp only[push_cast,e.ld0,e.ld1,e.ld2];refine zb (λa=>?_) (λa=>?_)
  ·exact f _ _ ⟨by rw[decide_eq_true a];rfl,rfl⟩
  refine zb (λb=>?_) (λb=>?_)
  ·exact f _ _ ⟨by rw[decide_eq_true b];simp,rfl⟩
  refine zb (λc=>?_) (λc=>?_)
  ·exact f _ _ ⟨by rw[decide_eq_false a,decide_eq_false b,decide_eq_true c];rfl,rfl⟩
  ·exact f _ _ ⟨by rw[decide_eq_false a,decide_eq_false b,decide_eq_false c];rfl,rfl⟩
 ·rintro u g w2 ⟨rfl,rfl⟩;simp only[push_cast,e.ld0,e.ld3];refine zn (λa=>?_) (λa=>?_)
  ·rw[a,pI] at d;refine zb (λb=>?_) (λb=>?_)
   ·rwa[decide_eq_true b,Bool.true_or] at d
   ·rw[decide_eq_false b,P7] at d;exact d
  ·rwa[a,GL] at d
theorem Kd {mb:Nat} {o:Int} {ok:Bool} (h:KindsR w mb) (d:0<=M.arity o) (b:∀v,KindR o v->K (if ok then .tuple #[v,.bool true] else v) w):Xk zR (.map (some mb)) (nI o) ok w K:=by
 obtain⟨f,hm,a,g⟩:=h;obtain⟨v,e,c⟩:=a o d;rw[Xj jF hm (xt o) e];exact b v c
theorem qH0 {mb:Nat} {o:Int} (h:KindsR w mb) (d: ¬0<=M.arity o) (b:K (.tuple #[.nilIface,.bool false]) w):Xk zR (.map (some mb)) (nI o) true w K:=by
 obtain⟨f,hm,i,a⟩:=h;rw[UM jF (z:= .nilIface) (by unfold yi;kernel_rfl) hm (xt o) λv g=>?_]
 ·exact b
 ·obtain⟨o',e,c⟩:=a _ g;cases e;exact d c
theorem xr0 {mb:Nat} {o:Int} {w w2:World} {N:oK} (h:KindsR w mb) (i:0<=M.arity o) (he:Ext w w2) (e:∀v,KindR o v->(∀a,Ext w a->Xk zR (.map (some mb)) (nI o) false a λx y=>x=v/\y=a)->N v w):Xk zR (.map (some mb)) (nI o) false w N:=by
 obtain⟨f,hm,d,j⟩:=h;obtain⟨v,c,g⟩:=d o i;rw[Xj jF hm (xt o) c];refine e v g λa b=>?_;rw[Xj jF (hm.ext b) (xt o) c];exact⟨rfl,rfl⟩
theorem Z1 {α β:Type} (f:α->β) {l:List α} {i:Nat} (h:i<l.length) (d:α):(l.take i).map f++[f (l.getD i d)]=(l.take (i+1)).map f:=by
 rw[G6,gg h,gw,k6,gg h];rfl
theorem sortOf_spec:∀(t:M.Tm) {w:World} {K:oK} {F G:Nat->Prop} {mb:Nat} {dv v:Value} {ds:List M.Dcl},KindsR w mb->DclsR F w dv ds->M.declOk ds=true->TermR G w v t->
  (∀w',Ext w w'->K (nI (M.sortM ds t)) w')->vcall jC #[.map (some mb),dv,v] w K:=by
 refine M.Tm.ind λt ih w K F G mb dv v ds hm hd N ht U=>?_;apply Uz;obtain⟨ksv,rfl,m⟩:=ht;refine zk λb1 w1 a3 l a6 D=>?_;have J:=hm.ext l;simp only[push_cast,D.ld0];have A: ¬(M.formed t=true)->∀w',Ext w w'->K (nI (-1)) w':=λhn w' he=>by
  have:=U w' he;rw[M.sortM_eq] at this;unfold M.sortF at this;rwa[if_neg (λh=>hn h.1)] at this
 by_cases Y: ¬0<=M.arity t.op
 ·have T:=Y;refine qH0 J T ?_;simp only[push_cast];refine zo (λ_ _=>False) (λC S=>?_) (λ_ _ _ h=>h.elim);refine zd λw2 c _=>?_;simp only[push_cast,true_and];refine A (λh=>T ?_) _ (l.trans c);simp only[M.formed,gh,decide_eq_true_eq] at h;omega
 have T:0<=M.arity t.op:=oM
 refine Kd J T λkv I=>?_;simp only[push_cast,if_true];have a9:=m.small;refine zo (λu w'=>u=[]/\Ext w1 w'/\M.formed t=true) (λC S=>?_) ?_
 ·refine zd λw2 c _=>?_;have E:=D.ext c;simp only[push_cast,E.ld4,m.len,true_and];refine I.kids _ _ λw3 d=>?_;have R:=E.ext d;simp only[push_cast,R.ld4,m.len,true_and,and_self];refine zb (λa=>?_) (λa=>?_)
  ·refine A (λh=>?_) _ ((l.trans c).trans d);simp only[M.formed,gh,decide_eq_true_eq] at h;omega
  ·simp only[push_cast,R.ldAgg (t:=za) zc,true_and];refine xj0 (F:=G) (t:=t) ⟨ksv,rfl,m.ext ((l.trans c).trans d)⟩ λw4 e=>?_;simp only[push_cast,true_and];refine zn (λb=>?_) (λb=>?_)
   ·refine A (λh=>?_) _ (((l.trans c).trans d).trans e);simp only[M.formed,gh] at h;rw[h.2] at b;cases b
   ·refine S _ _ ⟨rfl,(c.trans d).trans e,?_⟩;simp only[M.formed,gh,decide_eq_true_eq];exact⟨oM,by simpa using b⟩
 ·rintro u g w2 ⟨rfl,c,hf⟩;have E:=D.ext c;have hE:=l.trans c;have ab:=hE.size;simp only[push_cast,E.ld4,m.len];have H:=hf;simp only[M.formed,gh,decide_eq_true_eq] at H;have a2:t.ks.length<=3:=by
   have D:=H.1;unfold M.arity at D
   repeat' split at D
   all_goals omega
  refine vloop_up t.ks.length (λi u w'=> ∃sv,u=[sv,nI i]/\Ext w2 w'/\OwnI zh w' sv ((t.ks.take i).map (M.sortM ds))/\(∀b,sv.ownBlock=some b->w2.heap.size<=b)/\(∀x,x∈(t.ks.take i).map (M.sortM ds)->x≠ -1)) ⟨_,rfl,Same.refl _ _,OwnI.nil,(λb h=>by cases h),by simp⟩ ?_;rintro i _ _ w3 C hi ⟨sv,rfl,d,B,L,n⟩ S;have k:=hE.trans d;have o:=m.ext k;simp only[push_cast];refine zb (λa=>?_) (λa=>?_)
  ·simp(disch:=first|omega|simp only[push_cast]) only[push_cast,o.iaddr];refine o.load zc oM λx r=>?_;obtain⟨cs,rfl,s⟩:=r.cells;refine zi zp λb2 w4 a4 e a7 h4=>?_;refine stTerm h4 rfl (s.ext e) λw5 Z aa h5=>?_;have p:Ext w3 w5:=Ext.then e Z λy Q=>by subst Q;omega
   rw[h5.ldAgg (t:=za) (by rw[zU s];exact zc)];refine ih _ (M.getD_mem oM _) (hm.ext (k.trans p)) (hd.ext (k.trans p)) N (s.ext p).term λw6 V=>?_;simp only[push_cast];have f:=p.trans V;refine zb (λb=>?_) (λb=>?_)
   ·have:=U _ (k.trans f);rw[M.sortM_eq] at this;unfold M.sortF at this;rwa[if_neg (λh=>h.2 (b▸gZ (M.getD_mem oM _)))] at this
   ·refine qn x6 yT xo rfl rfl dC λb3 w7 a5 z a8 h7=>?_;have O:=(B.ext f).ext z;have hlen:((t.ks.take i).map (M.sortM ds)).length=i:=by rw[X0,gd];omega
    refine O.app1 xy h7 (by rw[hlen];omega) (by rw[hlen];omega) λa1 w8 q a0 X=>?_
    try simp only[push_cast]
    rw[inc64' oM];rw[Z1 _ oM] at q;refine S oM _ _ ⟨a1,rfl,Ext.then ((d.trans f).trans z) a0 λy Q=>L y Q,q,λy Q=>?_,λx r=>?_⟩
    ·rcases X y Q with h|h
     ·exact L y h
     ·have:=(d.trans f).size;have:=z.size;omega
    ·rw[<-Z1 _ oM default] at r;rcases gj.1 r with r|r
     ·exact n x r
     ·rw[gr.1 r];exact b
  ·have W:i=t.ks.length:=oM;subst W;rw[gz] at B n;have R:=E.ext d;simp only[push_cast,R.ldAgg (t:=za) zc];refine I.sort _ _ F G _ _ _ _ ds t _ rfl (hd.ext k) ⟨ksv,rfl,o⟩ B.ints (by rw[X0];omega) (λj=>?_) λw4 e=>?_
   ·by_cases hj:j<t.ks.length
    ·rw[M.getD_map _ hj 0 default];exact M.sort_range N _
    ·rw[k6,Pe (by simpa using hj)];simp
   ·have:=U _ (k.trans e);rw[M.sortM_eq] at this;unfold M.sortF at this;rwa[if_pos ⟨hf,λh=>n _ h rfl⟩] at this
def nnB:M.Tm->Bool:=M.Tm.fold λt xs=>decide (t.op≠21)&&xs.all id
theorem Y40 (t:M.Tm):nnB t=(decide (t.op≠21)&&(t.ks.map nnB).all id):=M.Tm.fold_eq _ t
theorem nnB_iff {t:M.Tm}:nnB t=true↔t.op≠21/\∀k,k∈t.ks->nnB k=true:=by
 rw[Y40,gh,decide_eq_true_eq,gV];refine and_congr_right λ_=>⟨λh k a=>h _ (gZ a),λh y b=>?_⟩;obtain⟨k,a,rfl⟩:=gn.1 b;exact h k a
theorem valueOf_specG:∀(t:M.Tm) {w:World} {K:oK} {F G:Nat->Prop} {mb:Nat} {dv v ev:Value} {ds:List M.Dcl} {env:List Int},KindsR w mb->DclsR F w dv ds->M.envOk ds env=true->((∃eb,ev= .map (some eb)/\EnvM w eb ds env)\/nnB t=true)->TermR G w v t->M.sortM ds t≠ -1->
  (∀w',Ext w w'->K (xS (M.sortM ds t) (M.evalM ds env t)) w')->vcall kI #[.map (some mb),dv,v,ev] w K:=by
 refine M.Tm.ind λt ih w K F G mb dv v ev ds env hm hd B hE ht p hK=>?_;have a4:=(M.env_ok B).1;apply Vu;obtain⟨ksv,rfl,o⟩:=ht;obtain⟨hf,n,a5⟩:=M.sort_parts p;have L:=hf;simp only[M.formed,gh,decide_eq_true_eq] at L;have a9:t.ks.length<=3:=by
  have Y:=L.1;unfold M.arity at Y
  repeat' split at Y
  all_goals omega
 have ho:0<=M.arity t.op:=oM
 refine zk λb1 w1 aa I ae Y=>?_;refine zi zW λb2 w2 ab J af h2=>?_;have q1:=Y.ext J;have H:=I.trans J;have aj:=H.size;have ai:=o.small;simp only[push_cast,q1.ld4,o.len];refine vloop_up t.ks.length (λi u w'=> ∃sv,u=[sv,nI i]/\Ext w2 w'/\OwnP xG w' sv ((t.ks.take i).map (M.vecM ds env))/\(∀b,sv.ownBlock=some b->w2.heap.size<=b)) ⟨_,rfl,Same.refl _ _,OwnP.nil _,λb h=>by cases h⟩ ?_;rintro i _ _ w3 C hi ⟨sv,rfl,l,D,T⟩ hC;have f:=H.trans l;have r:=o.ext f;have ak:=l.size;simp only[push_cast];refine zb (λa=>?_) (λa=>?_)
 ·simp(disch:=first|omega|simp only[push_cast]) only[push_cast,r.iaddr];refine r.load zc oM λx hx=>?_;obtain⟨cs,rfl,z⟩:=hx.cells;refine zi zp λb3 w4 ac d ag h4=>?_;refine stTerm h4 rfl (z.ext d) λw5 a6 al h5=>?_;have c:Ext w3 w5:=Ext.then d a6 λy E=>by subst E;omega
  rw[h5.ldAgg (t:=za) (by rw[zU z];exact zc)];refine ih _ (M.getD_mem oM _) (hm.ext (f.trans c)) (hd.ext (f.trans c)) B (hE.imp (λ⟨eb,e,h⟩=>⟨eb,e,h.ext (f.trans c)⟩) λh=>(nnB_iff.1 h).2 _ (M.getD_mem oM _)) (z.ext c).term (n _ (M.getD_mem oM _)) λw6 q=>?_;have m:=c.trans q;refine qn y60 x80 zW rfl rfl dC λb4 w7 ad A ah h7=>?_;have W:=(D.ext m).ext A;have hlen:((t.ks.take i).map (M.vecM ds env)).length=i:=by rw[X0,gd];omega
  refine Own.app1k W yr0 dC h7 rfl (by intro v hv;simp only[V0,gq,or_false] at hv;rcases hv with rfl|rfl<;>rfl) (by rw[X0,hlen];omega) (by rw[X0,hlen];omega) λX w8 U a8 a3=>?_;rw[inc64' oM];have V:OwnP xG w8 X ((t.ks.take (i+1)).map (M.vecM ds env)):=by
   unfold OwnP;rw[<-Z1 _ oM default,gw,M.vecM_pair ds env (t.ks.getD i default)];exact U
  refine hC oM _ _ ⟨X,rfl,Ext.then ((l.trans m).trans A) a8 λy E=>T y E,V,λy E=>?_⟩;rcases a3 y E with h|h
  ·exact T y h
  ·have:=m.size;have:=A.size;omega
 ·have a0:i=t.ks.length:=oM;subst a0;rw[gz] at D;refine zd λw4 d _=>?_;have q4:=(q1.ext l).ext d;have g:=f.trans d;have R:=o.ext g;simp only[push_cast,q4.ld0,q4.ldAgg (t:=za) zc,true_and];refine xr0 (hm.ext g) ho (Same.refl _ _) λkv a1 a2=>⟨rfl,?_⟩;refine sortOf_spec t (hm.ext g) (hd.ext g) a4 ⟨ksv,rfl,R⟩ λw5 c=>?_;have q5:=q4.ext c;simp only[push_cast,q5.ld0,q5.ldAgg (t:=za) zc,true_and,and_self];refine⟨a2 _ c,?_⟩;have s:=g.trans c;have S:(t.ks.map (M.vecM ds env)).length=t.ks.length:=X0 _;have O:∀j,j<t.ks.length->(t.ks.map (M.vecM ds env)).getD j (0,0)=(M.sortM ds (t.ks.getD j default),M.evalM ds env (t.ks.getD j default)):=λj Q=>(by rw[M.getD_map _ Q _ default,M.vecM_pair]);have N:(t.ks.map (M.vecM ds env)).map (·.1)=t.ks.map (M.sortM ds):=by
   rw[GM];exact Gj λk _=>M.vecM_sort ds env k
  refine a1.value _ _ G _ _ _ _ ds env t _ rfl (λZ=>hE.elim (λ⟨eb,e,h⟩=>⟨eb,e,h.ext s⟩) λh=>absurd Z (nnB_iff.1 h).1) ⟨ksv,rfl,o.ext s⟩ ((D.ext (d.trans c)).pairs) (by rw[S];omega) (λj Q=>?_) (by rw[N,<-a5];exact p) λw6 q=>?_
  ·rw[S] at Q;rw[O j Q];exact M.eval_in B _ (n _ (M.getD_mem Q _))
  ·simp only[push_cast,true_and];have h6:=(((h2.ext l).ext d).ext c).ext q;refine stVec h6 λw7 a7 _ h7=>?_;rw[h7.lv rK];have hX:Ext w w7:=Ext.then (s.trans q) a7 λy E=>by subst E;have:=I.size;omega
   have:=hK w7 hX;rw[M.evalM_eq] at this;exact this
theorem count_spec:∀(t:M.Tm) {w:World} {K:oK} {F:Nat->Prop} {v:Value} {m deep mb:Nat} {ty:TypeId},TermR F w v t->Blk w mb [nI m] ty->(∀b,F b->b≠mb)->m<=20->1<=deep->deep<=8->
  (∀w' (r B:Nat),Same (· =mb) w w'->Blk w' mb [nI B] ty->m<B->B<=21->deep<=r->r<=8->(m+M.sizeM t<=20/\deep-1+M.deepM t<=7->B=m+M.sizeM t/\r=deep-1+M.deepM t)->(¬(m+M.sizeM t<=20/\deep-1+M.deepM t<=7)->20<B\/7<r)->K (nI r) w')->
  vcall zx0 #[v,nI deep,oP mb 0] w K:=by
 refine M.Tm.ind λt ih w K F v m deep mb ty ht E hF hm a2 a3 J=>?_;refine zf {loops:=[(6,[7,22])]} Tryz.func147 ?_;obtain⟨ksv,rfl,n⟩:=ht;refine zk λb1 w1 a0 p a9 X=>?_;have o:=E.ext p;have V:=E.lt;have ab:=n.small;have hS:=M.szT_all t;have hD:=M.dpT_all t;simp only[push_cast,o.ld0];rw[inc64' oM];refine o.st (i:=0) rfl rfl yT rfl λw2 A ac D=>?_;have s:Same (· =mb) w w2:=(Same.of_ext p).trans A;have q2:=X.same A oM;replace D:Blk w2 mb [nI (m+1:Nat)] ty:=D;refine zb (λa=>?_) (λa=>?_)
 ·exact J w2 deep (m+1) s D oM oM oM oM (λh=>oM) (λh=>oM)
 simp only[push_cast,q2.ld4,n.len];refine vloop_up t.ks.length (λi u w'=> ∃r mi:Nat,u=[nI r,nI i]/\Same (· =mb) w2 w'/\Blk w' mb [nI mi] ty/\m<mi/\mi<=21/\deep<=r/\r<=8/\(m+1+M.szT t.ks i<=20/\deep+M.dpT t.ks i<=7->mi=m+1+M.szT t.ks i/\r=deep+M.dpT t.ks i)/\(¬(m+1+M.szT t.ks i<=20/\deep+M.dpT t.ks i<=7)->20<mi\/7<r))
  ⟨deep,m+1,rfl,Same.refl _ _,D,oM,oM,oM,oM,λh=>by simp[M.szT,M.dpT],λh=>by
   have T:M.szT t.ks 0=0:=rfl;have e2:M.dpT t.ks 0=0:=rfl;omega⟩ ?_
 rintro i _ _ G C hi ⟨r,mi,rfl,z,I,c1,c2,c3,R,H,S⟩ hC;have d:Same (· =mb) w G:=s.trans z;have g:TmsR F G ksv t.ks:=n.same d λb E _ e=>hF b E e;have ad:=d.size;simp only[push_cast];refine zb (λb=>?_) (λb=>?_)
 ·have a5:=M.szT_mono (ks:=t.ks) (i:=i) (j:=t.ks.length) oM (gp _);have a6:=M.dpT_mono (ks:=t.ks) (i:=i) (j:=t.ks.length) oM (gp _);have a7:=M.szT_succ (ks:=t.ks) (i:=i) oM;have a8:=M.dpT_succ (ks:=t.ks) (i:=i) oM;simp(disch:=first|omega|simp only[push_cast]) only[push_cast,g.iaddr];refine g.load zc oM λx hx=>?_;obtain⟨cs,rfl,l⟩:=hx.cells;refine zi zp λb2 w4 a1 q aa Y=>?_;refine stTerm Y rfl (l.ext q) λW O ae Z=>?_;have f:Ext G W:=Ext.then q O λy hy=>by subst hy;omega
  have k:=I.ext f;have a4:=I.lt;simp only[push_cast,k.ld0];refine zb (λc=>?_) (λc=>?_)
  ·exact J W r mi (d.trans (Same.of_ext f)) k c1 c2 c3 R (λh=>oM) (λh=>oM)
  ·rw[Z.ldAgg (t:=za) (by rw[zU l];exact zc)];have T:IntKind.i64.wrap ((deep:Int)+1)=((deep+1:Nat):Int):=inc64' oM;rw[T];refine ih _ (M.getD_mem oM _) (l.ext f).term k hF oM oM oM λw6 Q m2 N h6 d1 d2 d3 d4 d5 d6=>?_;simp only[push_cast];rw[inc64' oM,show max (r:Int) (Q:Int)=((max r Q:Nat):Int) by omega];refine hC oM _ _ ⟨max r Q,m2,rfl,(z.trans (Same.of_ext f)).trans N,h6,oM,d2,oM,oM,λh=>?_,λh=>?_⟩
   ·have:=H oM;have:=d5 oM;omega
   ·by_cases U:m+1+M.szT t.ks i<=20/\deep+M.dpT t.ks i<=7
    ·have:=H U;have:=d6 oM;omega
    ·have:=S U;omega
 ·have L:i=t.ks.length:=oM;subst L;refine J G r mi d I c1 c2 c3 R (λh=>?_) (λh=>?_)
  ·have:=H oM;omega
  ·exact S oM
theorem TermMany_spec {v:Value} {t:M.Tm} (A:TermR F w v t) (H:∀w',Ext w w'->K (.tuple #[nI (M.manyM t),nI (M.lvlM t)]) w'):vcall K8 #[v] w K:=by
 refine zf {} Tryz.func101 ?_;have s:=A.weaken (F':=λb=>b<w.heap.size) λb _ h=>h;obtain⟨ksv,rfl,L⟩:=A;refine zk λb1 w1 I o N E=>?_;refine qg xo λb2 w2 J g O l=>?_;replace l:Blk w2 b2 [nI 0] y0:=l;refine l.st (i:=0) rfl rfl yT rfl λB k Q n=>?_;replace n:Blk B b2 [nI ((0:Nat):Int)] y0:=n;have S:=(E.ext g).same k oM;have j:Ext w B:=Ext.then (o.trans g) k λy x=>by subst x;omega
 rw[S.ldAgg (t:=za) zc];refine count_spec t (m:=0) (deep:=1) (s.ext j) n (λb V e=>oM) oM oM oM λC r R q G c1 c2 c3 T f D=>?_;have p:Ext w C:=Ext.then j q λy x=>by subst x;omega
 have d:=H C p;have c:M.fits t=true↔M.sizeM t<=20/\M.deepM t<=7:=M.fits_iff;unfold M.manyM M.lvlM at d;simp only[push_cast,G.ld0];refine zb (λa=>?_) (λa=>?_)
 ·rw[if_neg (λh=>by have u:=c.1 h;have:=f oM;omega),if_neg (λh=>by have u:=c.1 h;have:=f oM;omega)] at d;exact d
 ·refine zb (λb=>?_) (λb=>?_)
  ·rw[if_neg (λh=>by have u:=c.1 h;have:=f oM;omega),if_neg (λh=>by have u:=c.1 h;have:=f oM;omega)] at d;exact d
  ·have z:M.sizeM t<=20/\M.deepM t<=7:=by
    by_cases h:M.sizeM t<=20/\M.deepM t<=7
    ·exact h
    ·have:=D oM;omega
   have U:=f oM;rw[if_pos (c.2 z),if_pos (c.2 z)] at d;rw[show R=M.sizeM t by omega,show r=M.deepM t by omega];exact d
end
end Go.Proofs.YtiglcianecnchaaGreatDoor
namespace Go.Proofs
open Go.Shelf
def YtiglcianecnchaaGreatDoor.sortL_ren:Go.Shelf.Ren:=⟨λ|6=>257 |15=>284 |14=>283 |28=>310 |29=>311 |20=>302 |21=>303 |22=>304 |23=>305 |24=>306 |25=>307 |26=>308 |27=>309 |46=>317 |47=>318 |48=>319 |49=>320 |50=>321 |57=>324 |n=>n,λ|22=>27 |24=>3 |25=>86 |3=>3 |39=>295 |0=>0 |53=>354 |55=>199 |4=>4 |46=>364 |45=>363 |50=>83 |5=>5 |9=>9 |66=>372 |70=>227 |76=>377 |77=>77 |n=>n,λ|n=>n⟩
theorem YtiglcianecnchaaGreatDoor.sortL:Go.Proofs.SlLaysF.n6 Tryz.prog YtiglcianecnchaaGreatDoor.sortL_ren:={
 mixed:=rK
 f6:=⟨Tryz.f257.name,dC,Tryz.func257.trans (congrArg some rK)⟩
 f14:=⟨Tryz.f283.name,dC,Tryz.func283.trans (congrArg some rK)⟩
 f15:=Tryz.func284.trans (congrArg some rK)
 f20:=⟨Tryz.f302.name,dC,Tryz.func302.trans (congrArg some rK)⟩
 f21:=⟨Tryz.f303.name,dC,Tryz.func303.trans (congrArg some rK)⟩
 f22:=⟨Tryz.f304.name,dC,Tryz.func304.trans (congrArg some rK)⟩
 f23:=⟨Tryz.f305.name,dC,Tryz.func305.trans (congrArg some rK)⟩
 f24:=⟨Tryz.f306.name,dC,Tryz.func306.trans (congrArg some rK)⟩
 f25:=⟨Tryz.f307.name,dC,Tryz.func307.trans (congrArg some rK)⟩
 f26:=⟨Tryz.f308.name,dC,Tryz.func308.trans (congrArg some rK)⟩
 f27:=⟨Tryz.f309.name,dC,Tryz.func309.trans (congrArg some rK)⟩
 f28:=Tryz.func310.trans (congrArg some rK)
 f29:=Tryz.func311.trans (congrArg some rK)
 f46:=⟨Tryz.f317.name,dC,Tryz.func317.trans (congrArg some rK)⟩
 f47:=Tryz.func318.trans (congrArg some rK)
 f48:=Tryz.func319.trans (congrArg some rK)
 f49:=⟨Tryz.f320.name,dC,Tryz.func320.trans (congrArg some rK)⟩
 f50:=⟨Tryz.f321.name,dC,Tryz.func321.trans (congrArg some rK)⟩
 f57:=⟨Tryz.f324.name,dC,Tryz.func324.trans (congrArg some rK)⟩
 t0:=Tryz.underlying0
 a0:=Tryz.isAgg0
 z0:=Tryz.sizeOf0
 v0:=Tryz.zeroValue0
 t3:=Tryz.underlying3
 a3:=Tryz.isAgg3
 z3:=Tryz.sizeOf3
 v3:=Tryz.zeroValue3
 t4:=Tryz.underlying4
 a4:=Tryz.isAgg4
 z4:=Tryz.sizeOf4
 v4:=Tryz.zeroValue4
 t5:=Tryz.underlying5
 a5:=Tryz.isAgg5
 z5:=Tryz.sizeOf5
 v5:=Tryz.zeroValue5
 t9:=Tryz.underlying9
 a9:=Tryz.isAgg9
 z9:=Tryz.sizeOf9
 v9:=Tryz.zeroValue9
 t22:=Tryz.underlying27
 a22:=Tryz.isAgg27
 z22:=Tryz.sizeOf27
 v22:=Tryz.zeroValue27
 a24:=Tryz.isAgg3
 z24:=Tryz.sizeOf3
 t25:=Tryz.underlying86
 a25:=Tryz.isAgg86
 z25:=Tryz.sizeOf86
 v25:=Tryz.zeroValue86
 t39:=Tryz.underlying295
 a39:=Tryz.isAgg295
 z39:=Tryz.sizeOf295
 v39:=Tryz.zeroValue295
 t45:=Tryz.underlying363
 a45:=Tryz.isAgg363
 z45:=Tryz.sizeOf363
 v45:=Tryz.zeroValue363
 t46:=Tryz.underlying364
 a46:=Tryz.isAgg364
 z46:=Tryz.sizeOf364
 v46:=Tryz.zeroValue364
 t50:=Tryz.underlying83
 a50:=Tryz.isAgg83
 z50:=Tryz.sizeOf83
 v50:=Tryz.zeroValue83
 t53:=Tryz.underlying354
 a53:=Tryz.isAgg354
 z53:=Tryz.sizeOf354
 v53:=Tryz.zeroValue354
 t55:=Tryz.underlying199
 a55:=Tryz.isAgg199
 z55:=Tryz.sizeOf199
 v55:=Tryz.zeroValue199
 t66:=Tryz.underlying372
 a66:=Tryz.isAgg372
 z66:=Tryz.sizeOf372
 v66:=Tryz.zeroValue372
 t70:=Tryz.underlying227
 a70:=Tryz.isAgg227
 z70:=Tryz.sizeOf227
 v70:=Tryz.zeroValue227
 t76:=Tryz.underlying377
 a76:=Tryz.isAgg377
 z76:=Tryz.sizeOf377
 v76:=Tryz.zeroValue377
 t77:=Tryz.underlying77
 a77:=Tryz.isAgg77
 z77:=Tryz.sizeOf77
 v77:=Tryz.zeroValue77}
def YtiglcianecnchaaGreatDoor.trimL_ren:Go.Shelf.Ren:=⟨λ|160=>64 |232=>94 |231=>93 |227=>95 |234=>97 |233=>96 |236=>99 |235=>98 |228=>143 |271=>146 |151=>145 |197=>144 |120=>181 |152=>180 |260=>179 |137=>217 |119=>218 |224=>219 |225=>220 |217=>263 |266=>287 |n=>n,λ|9=>9 |4=>4 |3=>3 |5=>5 |117=>158 |116=>157 |0=>0 |124=>161 |21=>21 |105=>223 |46=>295 |119=>294 |139=>298 |138=>297 |n=>n,λ|3=>4 |4=>5 |n=>n⟩
theorem YtiglcianecnchaaGreatDoor.trimL:Go.Proofs.Lays.n160 Tryz.prog YtiglcianecnchaaGreatDoor.trimL_ren:={
 mixed:=rK
 f119:=Tryz.func218.trans (congrArg some rK)
 f120:=Tryz.func181.trans (congrArg some rK)
 f137:=Tryz.func217.trans (congrArg some rK)
 f151:=Tryz.func145.trans (congrArg some rK)
 f152:=Tryz.func180.trans (congrArg some rK)
 f160:=Tryz.func64.trans (congrArg some rK)
 f197:=Tryz.func144.trans (congrArg some rK)
 f217:=Tryz.func263.trans (congrArg some rK)
 f224:=Tryz.func219.trans (congrArg some rK)
 f225:=Tryz.func220.trans (congrArg some rK)
 f227:=Tryz.func95.trans (congrArg some rK)
 f228:=Tryz.func143.trans (congrArg some rK)
 f231:=Tryz.func93.trans (congrArg some rK)
 f232:=Tryz.func94.trans (congrArg some rK)
 f233:=Tryz.func96.trans (congrArg some rK)
 f234:=Tryz.func97.trans (congrArg some rK)
 f235:=Tryz.func98.trans (congrArg some rK)
 f236:=Tryz.func99.trans (congrArg some rK)
 f260:=Tryz.func179.trans (congrArg some rK)
 f266:=Tryz.func287.trans (congrArg some rK)
 f271:=Tryz.func146.trans (congrArg some rK)
 t0:=Tryz.underlying0
 a0:=Tryz.isAgg0
 z0:=Tryz.sizeOf0
 v0:=Tryz.zeroValue0
 t3:=Tryz.underlying3
 a3:=Tryz.isAgg3
 z3:=Tryz.sizeOf3
 v3:=Tryz.zeroValue3
 t4:=Tryz.underlying4
 a4:=Tryz.isAgg4
 z4:=Tryz.sizeOf4
 v4:=Tryz.zeroValue4
 t5:=Tryz.underlying5
 a5:=Tryz.isAgg5
 z5:=Tryz.sizeOf5
 v5:=Tryz.zeroValue5
 t9:=Tryz.underlying9
 a9:=Tryz.isAgg9
 z9:=Tryz.sizeOf9
 v9:=Tryz.zeroValue9
 t21:=Tryz.underlying21
 a21:=Tryz.isAgg21
 z21:=Tryz.sizeOf21
 v21:=Tryz.zeroValue21
 t46:=Tryz.underlying295
 a46:=Tryz.isAgg295
 z46:=Tryz.sizeOf295
 v46:=Tryz.zeroValue295
 t105:=Tryz.underlying223
 a105:=Tryz.isAgg223
 z105:=Tryz.sizeOf223
 v105:=Tryz.zeroValue223
 t116:=Tryz.underlying157
 a116:=Tryz.isAgg157
 z116:=Tryz.sizeOf157
 t117:=Tryz.underlying158
 a117:=Tryz.isAgg158
 z117:=Tryz.sizeOf158
 v117:=Tryz.zeroValue158
 t119:=Tryz.underlying294
 a119:=Tryz.isAgg294
 z119:=Tryz.sizeOf294
 t124:=Tryz.underlying161
 a124:=Tryz.isAgg161
 z124:=Tryz.sizeOf161
 v124:=Tryz.zeroValue161
 t138:=Tryz.underlying297
 a138:=Tryz.isAgg297
 z138:=Tryz.sizeOf297
 v138:=Tryz.zeroValue297
 t139:=Tryz.underlying298
 a139:=Tryz.isAgg298
 z139:=Tryz.sizeOf298
 v139:=Tryz.zeroValue298
 g3:=rK
 g4:=rK}
def YtiglcianecnchaaGreatDoor.joinL_ren:Go.Shelf.Ren:=⟨λ|156=>188 |165=>230 |166=>231 |169=>232 |240=>273 |241=>274 |276=>295 |277=>296 |n=>n,λ|31=>85 |9=>9 |3=>3 |4=>4 |0=>0 |20=>20 |72=>305 |76=>306 |70=>303 |37=>22 |75=>67 |127=>335 |164=>351 |5=>5 |80=>264 |n=>n,λ|n=>n⟩
theorem YtiglcianecnchaaGreatDoor.joinL:Go.Proofs.Lays.n156 Tryz.prog YtiglcianecnchaaGreatDoor.joinL_ren:={
 mixed:=rK
 f156:=Tryz.func188.trans (congrArg some rK)
 f165:=Tryz.func230.trans (congrArg some rK)
 f166:=Tryz.func231.trans (congrArg some rK)
 f169:=Tryz.func232.trans (congrArg some rK)
 f240:=Tryz.func273.trans (congrArg some rK)
 f241:=Tryz.func274.trans (congrArg some rK)
 f276:=Tryz.func295.trans (congrArg some rK)
 f277:=Tryz.func296.trans (congrArg some rK)
 t0:=Tryz.underlying0
 a0:=Tryz.isAgg0
 z0:=Tryz.sizeOf0
 v0:=Tryz.zeroValue0
 t3:=Tryz.underlying3
 a3:=Tryz.isAgg3
 z3:=Tryz.sizeOf3
 v3:=Tryz.zeroValue3
 t4:=Tryz.underlying4
 a4:=Tryz.isAgg4
 z4:=Tryz.sizeOf4
 v4:=Tryz.zeroValue4
 t9:=Tryz.underlying9
 a9:=Tryz.isAgg9
 z9:=Tryz.sizeOf9
 v9:=Tryz.zeroValue9
 t20:=Tryz.underlying20
 a20:=Tryz.isAgg20
 z20:=Tryz.sizeOf20
 v20:=Tryz.zeroValue20
 t31:=Tryz.underlying85
 a31:=Tryz.isAgg85
 z31:=Tryz.sizeOf85
 v31:=Tryz.zeroValue85
 t37:=Tryz.underlying22
 a37:=Tryz.isAgg22
 z37:=Tryz.sizeOf22
 v37:=Tryz.zeroValue22
 t70:=Tryz.underlying303
 a70:=Tryz.isAgg303
 z70:=Tryz.sizeOf303
 v70:=Tryz.zeroValue303
 t72:=Tryz.underlying305
 a72:=Tryz.isAgg305
 z72:=Tryz.sizeOf305
 v72:=Tryz.zeroValue305
 t75:=Tryz.underlying67
 a75:=Tryz.isAgg67
 z75:=Tryz.sizeOf67
 v75:=Tryz.zeroValue67
 t76:=Tryz.underlying306
 a76:=Tryz.isAgg306
 z76:=Tryz.sizeOf306
 v76:=Tryz.zeroValue306
 t127:=Tryz.underlying335
 a127:=Tryz.isAgg335
 z127:=Tryz.sizeOf335
 v127:=Tryz.zeroValue335
 t164:=Tryz.underlying351
 a164:=Tryz.isAgg351
 z164:=Tryz.sizeOf351
 v164:=Tryz.zeroValue351}
end Go.Proofs
namespace Go.Proofs.YtiglcianecnchaaGreatDoor
open Go Go.Vc Go.Proofs
section
variable {w:World} {K:oK} {F G:Nat->Prop}
theorem dw_nil {α:Type} {p:α->Bool}:∀{l:List α},l.dropWhile p=[]↔ ∀x,x∈l->p x=true
 |[]=>by simp
 |a::l=>by
  rw[Pv];split
  ·rename_i h;rw[dw_nil];constructor
   ·intro b x c;rcases V0.1 c with rfl|c
    ·exact h
    ·exact b x c
   ·intro b x c;exact b x (gl _ c)
  ·rename_i h;constructor
   ·intro b;cases b
   ·intro b;exact absurd (b a gi) h
theorem dw_head {α:Type} {p:α->Bool}:∀{l:List α},l.dropWhile p≠[]->∃x,x∈l.dropWhile p/\p x=false
 |[],h=>absurd rfl h
 |a::l,h=>by
  rw[Pv] at h⊢;split
  ·rename_i b;rw[if_pos b] at h;exact dw_head h
  ·rename_i b;exact⟨a,gi,by simpa using b⟩
theorem dw_sub {α:Type} {p:α->Bool}:∀{l:List α} {x:α},x∈l.dropWhile p->x∈l
 |[],_,h=>h
 |a::l,x,h=>by
  rw[Pv] at h;split at h
  ·exact gl _ (dw_sub h)
  ·exact h
theorem jW0 {l cs:List UInt8}:Lib.trimS l cs=[]↔ ∀x,x∈l->cs.contains x=true:=by
 unfold Lib.trimS Lib.trimLeftS Lib.trimRightS;rw[dw_nil];constructor
 ·intro h;by_cases a:∀x,x∈l->cs.contains x=true
  ·exact a
  ·exfalso;have b:List.dropWhile (λx=>cs.contains x) l.reverse≠[]:=λe=>a λx c=>dw_nil.1 e x (Pj.2 c);obtain⟨y,g,f⟩:=dw_head b;have d:=h y (Pj.2 g);rw[f] at d;cases d
 ·intro h x c;exact h x (Pj.1 (dw_sub (Pj.1 c)))
def abc:ByteArray:=⟨#[97,98,99,100,101,102,103,104,105,106,107,108,109,110,111,112,113,114,115,116,117,118,119,120,121,122]⟩
theorem abc_in (x:UInt8):abc.data.toList.contains x=(decide (97<=x.toNat)&&decide (x.toNat<=122)):=by
 have a:∀n:Fin 256,abc.data.toList.contains (UInt8.ofNat n.1)=(decide (97<=(UInt8.ofNat n.1).toNat)&&decide ((UInt8.ofNat n.1).toNat<=122)):=by decide+kernel
 have:=a ⟨x.toNat,x.toNat_lt⟩;simpa using this
theorem zV0 {w w':World} (h:Go.RowKit.Below w.heap.size w w'):Ext w w':=⟨h.os,h.tape,h.output,h.size,λb a _=>h.block b a⟩
def zC0 (s:ByteArray):Bool:=s.data.all λc=>decide (97<=c.toNat)&&decide (c.toNat<=122)
theorem jo0 {s:ByteArray} (hs:s.size<=9223372036854775807) (f:∀w' r,Ext w w'->(r=⟨#[]⟩↔zC0 s=true)->K (.string r) w'):vcall KI #[.string s,.string abc] w K:=by
 refine⟨rK,?_⟩;refine(Any.strings_Trim_laid YtiglcianecnchaaGreatDoor.trimL rK s abc w hs dC (ascii_of_all dC)).mono ?_;rintro e w' ⟨rfl,g⟩;refine f w' _ (zV0 g) ?_;have c:((⟨(Lib.trimS s.data.toList abc.data.toList).toArray⟩:ByteArray)=⟨#[]⟩)↔Lib.trimS s.data.toList abc.data.toList=[]:=by
  constructor
  ·intro h;have d:=congrArg (λb:ByteArray=>b.data.toList) h;simpa using d
  ·intro h;rw[h]
 rw[c,jW0];unfold zC0;rw[pw];constructor
 ·intro h x a;rw[<-abc_in];exact h x (pO.2 a)
 ·intro h x a;rw[abc_in];exact h x (pO.1 a)
theorem stDecl {b:Nat} {x y:Value} {t:TypeId} {s:ByteArray} {n:Int} (h:Blk w b [x,y] t) (c:∀w',Same (· =b) w w'->w'.heap.size=w.heap.size->Blk w' b [.string s,nI n] t->K undef w'):zT yO (oP b 0) (.agg ⟨[.string s,nI n]⟩) w K:=
 h.stAgg rfl rK (by intro v a;simp only[V0,gq,or_false] at a;rcases a with rfl|rfl<;>rfl) c
theorem Zy (s:ByteArray):M.nameOk s=(decide (1<=s.size)&&decide (s.size<=4)&&decide (s≠M.tru)&&zC0 s):=rfl
theorem DeclOk_spec {v:Value} {ds:List M.Dcl} (N:DclsR F w v ds) (D:∀w',Ext w w'->K (.bool (M.declOk ds)) w'):vcall WW #[v] w K:=by
 refine zf {loops:=[(5,[3,11])],cuts:=[(32777,[])]} Tryz.func41 ?_;simp only[push_cast,N.len];refine zb (λa=>?_) (λa=>?_)
 ·have:=D w (Same.refl _ _);rwa[show M.declOk ds=false from by rw[GS];intro h;have:=(M.decl_iff.1 h).1;omega] at this
 refine vloop_up ds.length (λi u w'=>u=[nI (M.bitT ds i),nI i]/\Ext w w'/\(∀j,j<i->M.dclOk ds j=true)/\ -4*(i:Int)<=M.bitT ds i/\M.bitT ds i<=4*i) ⟨rfl,Same.refl _ _,oM,by simp[M.bitT],by simp[M.bitT]⟩ ?_;rintro i _ _ w1 C hi ⟨rfl,o,q,a0,a1⟩ hC;have E:=N.ext o;simp only[push_cast];refine zb (λb=>?_) (λb=>?_)
 ·have z:i<ds.length:=oM;have d:M.dclOk ds i=false->∀w',Ext w w'->K (.bool false) w':=λe w' he=>by
   have:=D w' he;rwa[show M.declOk ds=false from by rw[GS];intro h;have:=(M.decl_iff.1 h).2.1 i z;rw[e] at this;cases this] at this
  unfold M.dclOk at d;rw[Zy] at d;simp(disch:=first|omega|simp only[push_cast]) only[push_cast,E.iaddr,E.load];obtain⟨s,n,B⟩:∃s n,ds.getD i QV=(s,n):=⟨_,_,rfl⟩;simp only[B] at d⊢;refine zi xp λb1 w2 U O a4 X=>?_;refine stDecl X λW R _ S=>?_;have a6:=o.size;have k:Ext w W:=Ext.then (o.trans O) R λy hy=>by subst hy;omega
  refine zo (λu w'=>u=[]/\Ext W w'/\M.nameOk s=true) (λC' L=>?_) ?_
  ·simp(disch:=first|omega|simp only[push_cast]) only[push_cast,S.ld0,W0 kR];refine zb (λc=>?_) (λc=>?_)
   ·exact d (by rw[decide_eq_false (show¬1<=s.size by omega)];simp) _ k
   refine zb (λc2=>?_) (λc2=>?_)
   ·exact d (by rw[decide_eq_false (show¬s.size<=4 by omega)];simp) _ k
   refine zb (λc3=>?_) (λc3=>?_)
   ·exact d (by rw[show decide (s≠M.tru)=false from decide_eq_false (λh=>h c3)];simp) _ k
   refine jo0 oM λw4 r l V=>?_;simp only[push_cast];refine zb (λI=>?_) (λI=>?_)
   ·have:zC0 s=false:=by
     rw[GS];exact λh=>I (V.2 h)
    exact d (by rw[this];simp) _ (k.trans l)
   ·have J:r=⟨#[]⟩:=by
     by_cases h:r=⟨#[]⟩
     ·exact h
     ·exact absurd h I
    refine L _ _ ⟨rfl,l,?_⟩;rw[Zy,decide_eq_true (show 1<=s.size by omega),decide_eq_true (show s.size<=4 by omega),show decide (s≠M.tru)=true from decide_eq_true c3,V.1 J];rfl
  ·rintro u g w4 ⟨rfl,l,A⟩;have T:=S.ext l;have f:=k.trans l;have G:=N.ext f;rw[Zy] at A;rw[A] at d;rw[G.cut (by intro e;subst e;simp at z) rK oM];simp only[push_cast];have a3:(ds.take i).length=i:=by rw[gd];omega
   refine QK (p:=λj=>decide (((ds.take i).getD j QV).1=s)) (G.taken oM) (λj hj=>?_) λw5 m=>?_
   ·intro w' K he D;simp only[push_cast];refine zf {} Tryz.func66 ?_;refine zk λb3 w6 a2 H a5 Z=>?_;have h7:=(T.ext he).ext H;simp(disch:=first|omega|simp only[push_cast]) only[push_cast,Z.ld0,h7.ld0];exact D _ H
   ·rw[<-Xf];have Y:=T.ext m;have efd:idxI (ds.take i).length (λj=>decide (((ds.take i).getD j QV).1=s))=M.findD (ds.take i) s:=rfl;rw[efd];refine zb (λc=>?_) (λc=>?_)
    ·exact d (by rw[decide_eq_false (show¬M.findD (ds.take i) s<0 by omega)];simp) _ (f.trans m)
    simp(disch:=first|omega|simp only[push_cast]) only[push_cast,Y.ld1];refine zb (λc1=>?_) (λc1=>?_)
    ·exact d (by rw[decide_eq_false (show¬1<=n by omega)];simp) _ (f.trans m)
    refine zb (λc2=>?_) (λc2=>?_)
    ·exact d (by rw[decide_eq_false (show¬n<=4 by omega)];simp) _ (f.trans m)
    have t:=M.bitT_succ z;rw[show ds.getD i (M.nada,0)=(s,n) from B] at t;rw[zj (x:=M.bitT ds i+n) oM oM,inc64' oM,show M.bitT ds i+n=M.bitT ds (i+1) from t.symm];refine hC oM _ _ ⟨rfl,f.trans m,λj hj=>?_,oM,oM⟩;by_cases e:j=i
    ·subst e;unfold M.dclOk;rw[show ds.getD j (M.nada,0)=(s,n) from B,Zy,A];simp only[pI,gh,decide_eq_true_eq];exact⟨⟨oM,oM⟩,oM⟩
    ·exact q j oM
 ·have Q:i=ds.length:=oM;subst Q;have:=D w1 o;rw[M.bitT_all];have e:M.declOk ds=decide (M.bits ds<=8):=by
   rw[P0,M.decl_iff,decide_eq_true_eq];exact⟨λh=>h.2.2,λh=>⟨oM,q,h⟩⟩
  rwa[e] at this
theorem TermSort_spec {dv v:Value} {ds:List M.Dcl} {t:M.Tm} (r:DclsR F w dv ds) (z:TermR G w v t) (q:∀w',Ext w w'->K (nI (M.tsort ds t)) w'):vcall K6 #[dv,v] w K:=by
 refine zf {ord:=[oz 4 [1,2,0,3,4] [(1,[2,0]),(2,[0])]]} Tryz.func68 ?_;obtain⟨cs,rfl,c⟩:=z.cells;refine zk λb1 w1 u g y n=>?_;rw[n.ldAgg (t:=za) (by rw[zU c];exact zc)];refine TermMany_spec (c.ext g).term λw2 i=>?_;simp only[push_cast];have e:=g.trans i;refine DeclOk_spec (r.ext e) λA j=>?_;have f:=e.trans j;have m:=q A f;unfold M.tsort at m;simp only[push_cast];refine zn (λa=>?_) (λa=>?_)
 ·rwa[if_neg (λh=>by rw[h.2] at a;cases a)] at m
 ·rw[Ga] at a;refine zb (λb=>?_) (λb=>?_)
  ·rw[if_neg (λh=>by
    have n:=M.fits_iff.1 h.1;unfold M.manyM at b;rw[if_pos h.1] at b;omega)] at m
   exact m
  ·have x:M.fits t=true:=by
    by_cases h:M.fits t=true
    ·exact h
    ·unfold M.manyM at b;rw[if_neg h] at b;omega
   refine zd λC k _=>?_;have p:=((n.ext i).ext j).ext k;rw[p.ldAgg (t:=za) (by rw[zU c];exact zc)];refine⟨rfl,VO λD mb l hm=>?_⟩;have s:=p.ext l;rw[s.ldAgg (t:=za) (by rw[zU c];exact zc)];have d:=(f.trans k).trans l;refine⟨⟨rfl,rfl⟩,sortOf_spec t hm (r.ext d) a (c.ext d).term λB o=>?_⟩;have:=q B (d.trans o);unfold M.tsort at this;rwa[if_pos ⟨x,a⟩] at this
end
section
variable {w:World} {K:oK} {F G:Nat->Prop}
theorem l2Name_spec {s:ByteArray} (hs:s.size<=9223372036854775807) (d:K (.bool (M.nameOk s)) w):vcall Wz #[.string s] w K:=by
 refine zf {loops:=[(2,[3])]} Tryz.func36 ?_;rw[Zy] at d;refine vloop_up s.size (λi u w'=>u=[nI i]/\w'=w/\∀j,j<i->(decide (97<=(s.data.getD j 0).toNat)&&decide ((s.data.getD j 0).toNat<=122))=true) ⟨rfl,rfl,oM⟩ ?_;rintro i _ _ w1 C hi ⟨rfl,rfl,g⟩ o;simp(disch:=first|omega|simp only[push_cast]) only[push_cast,W0 kR];have l:i<s.size->(decide (97<=(s.data.getD i 0).toNat)&&decide ((s.data.getD i 0).toNat<=122))=false->zC0 s=false:=λf h=>by
  rw[GS];intro k;unfold zC0 at k;rw[pw] at k;have m:i<s.data.size:=f;have:=k (s.data.getD i 0) (by rw[gQ,Gu m];exact Array.getElem_mem m);rw[h] at this;cases this
 refine zb (λa=>?_) (λa=>?_)
 ·have f:i<s.size:=oM;rw[vindex_str kR oM oM,gk];simp only[push_cast];refine zb (λb=>?_) (λb=>?_)
  ·rw[l f (by rw[decide_eq_false (show¬97<=(s.data.getD i 0).toNat by omega)];rfl),pC] at d;exact d
  rw[vindex_str kR oM oM,gk];simp only[push_cast];refine zb (λc=>?_) (λc=>?_)
  ·rw[l f (by rw[decide_eq_false (show¬(s.data.getD i 0).toNat<=122 by omega)];simp),pC] at d;exact d
  rw[inc64' oM];refine o f _ _ ⟨rfl,rfl,λj n=>?_⟩;by_cases e:j=i
  ·subst e;simp only[gh,decide_eq_true_eq];omega
  ·exact g j oM
 ·have p:i=s.size:=oM;have k:zC0 s=true:=by
   unfold zC0;rw[pw];intro x q;obtain⟨j,n,rfl⟩:=Array.getElem_of_mem q;have:=g j (by have:s.data.size=s.size:=rfl;omega);rwa[gQ,Gu n] at this
  rw[k,Pn] at d
  try simp(disch:=first|omega|simp only[push_cast]) only[push_cast,W0 kR]
  refine zb (λb=>?_) (λb=>?_)
  ·refine zb (λc=>?_) (λc=>?_)
   ·rw[decide_eq_true (show 1<=s.size by omega),decide_eq_true (show s.size<=4 by omega)] at d;exact d
   ·rw[decide_eq_false (show¬s.size<=4 by omega)] at d;simpa using d
  ·rw[decide_eq_false (show¬1<=s.size by omega)] at d;simpa using d
theorem l2Find_spec {v:Value} {ds:List M.Dcl} {s:ByteArray} (f:DclsR F w v ds) (d:K (nI (M.findD ds s)) w):vcall WA #[v,.string s] w K:=by
 refine zf {loops:=[(2,[5])]} Tryz.func37 ?_;have k:=f.small;refine vloop_up ds.length (λi u w'=>u=[nI i]/\w'=w/\∀j,j<i->(ds.getD j QV).1≠s) ⟨rfl,rfl,oM⟩ ?_;rintro i _ _ w1 C hi ⟨rfl,rfl,c⟩ g;simp only[push_cast,f.len];refine zb (λa=>?_) (λa=>?_)
 ·try simp(disch:=first|omega|simp only[push_cast]) only[push_cast,f.iaddr]
  try simp(disch:=first|omega|simp only[push_cast]) only[push_cast,f.load0]
  refine zb (λb=>?_) (λb=>?_)
  ·rw[M.findD_of oM b c] at d;exact d
  ·rw[inc64' oM];refine g oM _ _ ⟨rfl,rfl,λj h=>?_⟩;by_cases e:j=i
   ·subst e;exact b
   ·exact c j oM
 ·rw[M.findD_none (λj h=>c j oM)] at d;exact d
theorem spec_DeclOk_spec {v:Value} {ds:List M.Dcl} (E:DclsR F w v ds) (D:∀i,i<ds.length->(ds.getD i QV).1.size<=9223372036854775807) (A:∀w',Ext w w'->K (.bool (M.declOk ds)) w'):vcall WK #[v] w K:=by
 refine zf {ord:=[oz 7 (oR 35) [(0,[1]),(8,[9]),(16,[17]),(24,[25,27,28,29,30,31]),(25,[27,28,29,30,31]),(26,[27,28,29,30,31]),(27,[28])]],loops:=[(5,[3,4])]} Tryz.func19 ?_;simp only[push_cast,E.len];refine zb (λa=>?_) (λa=>?_)
 ·have:=A w (Same.refl _ _);rwa[show M.declOk ds=false from by rw[GS];intro h;have:=(M.decl_iff.1 h).1;omega] at this
 refine vloop_up ds.length (λi u w'=>u=[nI (M.bitT ds i),nI i]/\Ext w w'/\(∀j,j<i->M.dclOk ds j=true)/\ -4*(i:Int)<=M.bitT ds i/\M.bitT ds i<=4*i) ⟨rfl,Same.refl _ _,oM,by simp[M.bitT],by simp[M.bitT]⟩ ?_;rintro i _ _ w1 C hi ⟨rfl,p,m,H,I⟩ G;have r:=E.ext p;simp only[push_cast,r.len];refine zb (λb=>?_) (λb=>?_)
 ·have g:i<ds.length:=oM;have f:M.dclOk ds i=false->∀w',Ext w w'->K (.bool false) w':=λe w' he=>by
   have:=A w' he;rwa[show M.declOk ds=false from by rw[GS];intro h;have:=(M.decl_iff.1 h).2.1 i g;rw[e] at this;cases this] at this
  unfold M.dclOk at f;refine zd λw2 t _=>?_;have d:=r.ext t;have k:=p.trans t;simp(disch:=first|omega|simp only[push_cast]) only[push_cast,d.iaddr,true_and];simp(disch:=first|omega|simp only[push_cast]) only[push_cast,d.load0,d.load1,true_and];have y:=D i g;have o:=M.bitT_succ g;obtain⟨s,n,l⟩:∃s n,ds.getD i QV=(s,n):=⟨_,_,rfl⟩;rw[show ds.getD i (M.nada,0)=(s,n) from l] at o;simp only[l] at f y⊢;refine l2Name_spec y ?_;simp only[push_cast,true_and];refine zn (λc=>?_) (λc=>?_)
  ·exact f (by rw[show M.nameOk s=false by simpa using c];simp) _ k
  rw[Ga] at c;rw[c] at f;have ecut:∀(w:World) (K:oK),yL xw v none (some (nI (i:Int))) none w K=K (cutV v i) w:=λw K=>d.cut (by intro e;subst e;simp at g) rK oM;have z:∀(K:oK),zt x7 (.pointer (some ((eaddr v 2 i).add 0))) w2 K=K (.string s) w2:=λK=>(by rw[d.load0 k70 g,l]);have q:∀(K:oK),zt y0 (.pointer (some ((eaddr v 2 i).add 1))) w2 K=K (nI n) w2:=λK=>by rw[d.load1 Wa g,l]
  try simp(disch:=first|omega|simp only[push_cast]) only[push_cast,d.iaddr,true_and]
  try simp(disch:=first|omega|simp only[push_cast]) only[push_cast,d.iaddr,z,q,ecut,true_and]
  refine zb (λc1=>?_) (λc1=>?_)
  ·exact f (by rw[decide_eq_false (show¬1<=n by omega)];simp) _ k
  refine zb (λc2=>?_) (λc2=>?_)
  ·exact f (by rw[decide_eq_false (show¬n<=4 by omega)];simp) _ k
  refine l2Find_spec (d.taken oM) ?_;simp only[push_cast,true_and];refine zb (λc3=>?_) (λc3=>?_)
  ·exact f (by rw[decide_eq_false (show¬M.findD (ds.take i) s<0 by omega)];simp) _ k
  try simp(disch:=first|omega|simp only[push_cast]) only[push_cast,d.iaddr]
  try simp(disch:=first|omega|simp only[push_cast]) only[push_cast,q]
  rw[zj (x:=M.bitT ds i+n) oM oM,inc64' oM,show M.bitT ds i+n=M.bitT ds (i+1) from o.symm];refine G oM _ _ ⟨rfl,k,λj J=>?_,oM,oM⟩;by_cases e:j=i
  ·subst e;unfold M.dclOk;rw[show ds.getD j (M.nada,0)=(s,n) from l,c];simp only[pI,gh,decide_eq_true_eq];exact⟨⟨oM,oM⟩,oM⟩
  ·exact m j oM
 ·have B:i=ds.length:=oM;subst B;have:=A w1 p;rw[M.bitT_all];have e:M.declOk ds=decide (M.bits ds<=8):=by
   rw[P0,M.decl_iff,decide_eq_true_eq];exact⟨λh=>h.2.2,λh=>⟨oM,m,h⟩⟩
  rwa[e] at this
theorem spec_TermMany_spec:∀(t:M.Tm) {w:World} {K:oK} {F:Nat->Prop} {v:Value},TermR F w v t->(∀w',Ext w w'->K (.tuple #[nI (M.manyM t),nI (M.lvlM t)]) w')->vcall JT #[v] w K:=by
 refine M.Tm.ind λt ih w K F v ht R=>?_;refine zf {loops:=[(4,[4,5,6])],cuts:=[(20486,[])]} Tryz.func39 ?_;obtain⟨ksv,rfl,y⟩:=ht;refine zk λb1 w1 S B a1 O=>?_;have a2:=y.small;have hS:=M.szT_all t;have hD:=M.dpT_all t;have k:M.fits t=true↔M.sizeM t<=20/\M.deepM t<=7:=M.fits_iff;refine vloop_up t.ks.length (λi u w'=> ∃n d:Nat,u=[nI n,nI d,nI i]/\Ext w1 w'/\n<=41/\d<=8/\(1+M.szT t.ks i<=20/\M.dpT t.ks i<=7->n=1+M.szT t.ks i/\d=M.dpT t.ks i)/\(¬(1+M.szT t.ks i<=20/\M.dpT t.ks i<=7)->20<n\/7<d))
  ⟨1,0,rfl,Same.refl _ _,oM,oM,λh=>⟨rfl,rfl⟩,λh=>by
   have I:M.szT t.ks 0=0:=rfl;have e2:M.dpT t.ks 0=0:=rfl;omega⟩ ?_
 rintro i _ _ w2 C hi ⟨n,d,rfl,o,c1,c2,c3,H⟩ Q;have J:=O.ext o;have L:=B.trans o;have l:=y.ext L;have V:=M.szT_mono (ks:=t.ks) (i:=i) (j:=t.ks.length) oM (gp _);have W:=M.dpT_mono (ks:=t.ks) (i:=i) (j:=t.ks.length) oM (gp _);have I:IntKind.i64.wrap ((d:Int)+1)=((d+1:Nat):Int):=inc64' oM;have m:(20<n\/i=t.ks.length)->∀q,(q=K)->vif (.bool (decide ((20:Int)<n))) (q (.tuple #[nI 21,nI 8]) w2) (vif (.bool (decide ((7:Int)<((d+1:Nat):Int)))) (q (.tuple #[nI 21,nI 8]) w2) (q (.tuple #[nI (n:Int),nI ((d+1:Nat):Int)]) w2)):=by
  rintro a0 q rfl;have p:=R w2 L;unfold M.manyM M.lvlM at p;have c:(20<n\/7<d+1)->¬(M.fits t=true):=λh T=>by
   have N:=k.1 T;have:=c3 oM;omega
  refine zb (λa=>?_) (λa=>?_)
  ·rw[if_neg (c oM),if_neg (c oM)] at p;exact p
  refine zb (λb=>?_) (λb=>?_)
  ·rw[if_neg (c oM),if_neg (c oM)] at p;exact p
  ·have E:i=t.ks.length:=oM;subst E;have r:M.sizeM t<=20/\M.deepM t<=7:=by
    by_cases h:1+M.szT t.ks t.ks.length<=20/\M.dpT t.ks t.ks.length<=7
    ·have:=c3 h;omega
    ·have:=H h;omega
   have h3:=c3 oM;rw[if_pos (k.2 r),if_pos (k.2 r)] at p;rw[show n=M.sizeM t by omega,show d+1=M.deepM t by omega];exact p
 refine zo (λu w'=>u=[]/\w'=w2/\i<t.ks.length/\n<=20) (λC' z=>?_) ?_
 ·simp only[push_cast,J.ld4,l.len,I];refine zb (λa=>?_) (λa=>?_)
  ·refine zb (λb=>?_) (λb=>?_)
   ·exact z _ _ ⟨rfl,rfl,oM,oM⟩
   ·exact m (.inl oM) K rfl
  ·exact m (.inr oM) K rfl
 ·rintro u g w3 ⟨rfl,rfl,U,hn⟩;have X:=M.szT_succ (ks:=t.ks) (i:=i) oM;have Y:=M.dpT_succ (ks:=t.ks) (i:=i) oM;have Z:=M.szT_mono (ks:=t.ks) (i:=i+1) (j:=t.ks.length) oM (gp _);simp(disch:=first|omega|simp only[push_cast]) only[push_cast,J.ld4,l.iaddr];refine l.load zc oM λx N=>?_;refine ih _ (M.getD_mem oM _) N λw4 D=>?_;have f:=M.fits_iff (t:=t.ks.getD i default);have G:M.manyM (t.ks.getD i default)<=21:=by
   unfold M.manyM;split
   ·have:=f.1 (by assumption);omega
   ·omega
  have A:M.lvlM (t.ks.getD i default)<=8:=by
   unfold M.lvlM;split
   ·have:=f.1 (by assumption);omega
   ·omega
  have e:M.sizeM (t.ks.getD i default)<=20/\M.deepM (t.ks.getD i default)<=7->M.manyM (t.ks.getD i default)=M.sizeM (t.ks.getD i default)/\M.lvlM (t.ks.getD i default)=M.deepM (t.ks.getD i default):=λh=>by
   unfold M.manyM M.lvlM;rw[if_pos (f.2 h),if_pos (f.2 h)];exact⟨rfl,rfl⟩
  have c: ¬(M.sizeM (t.ks.getD i default)<=20/\M.deepM (t.ks.getD i default)<=7)->M.manyM (t.ks.getD i default)=21/\M.lvlM (t.ks.getD i default)=8:=λh=>by
   unfold M.manyM M.lvlM;rw[if_neg (λx=>h (f.1 x)),if_neg (λx=>h (f.1 x))];exact⟨rfl,rfl⟩
  generalize M.manyM (t.ks.getD i default)=nk at G e c⊢;generalize M.lvlM (t.ks.getD i default)=dk at A e c⊢;simp only[push_cast];refine l1Max_spec ?_
  try simp only[push_cast]
  rw[inc64' oM,zj (x:=(n:Int)+nk) oM oM,show(n:Int)+(nk:Int)=((n+nk:Nat):Int) by omega,show max (d:Int) (dk:Int)=((max d dk:Nat):Int) by omega];refine Q oM _ _ ⟨n+nk,max d dk,rfl,o.trans D,oM,oM,λh=>?_,λh=>?_⟩
  ·have:=c3 oM;have:=e oM;omega
  ·by_cases r:M.sizeM (t.ks.getD i default)<=20/\M.deepM (t.ks.getD i default)<=7
   ·have h5:=e r;by_cases s:1+M.szT t.ks i<=20/\M.dpT t.ks i<=7
    ·have:=c3 s;omega
    ·have:=H s;omega
   ·have:=c r;omega
end
section
variable {w:World} {K:oK} {F G:Nat->Prop}
theorem l2Arity_spec {o:Int} (h:K (nI (M.arity o)) w):vcall KZ #[nI o] w K:=by
 refine zf {cuts:=[(12293,[4])]} Tryz.func120 ?_;have f:∀c,M.arity o=c->K (nI c) w:=λc e=>e▸h;refine zo (λu w'=>u=[.bool (decide (o=20\/o=21\/o=24))]/\w'=w) (λC d=>?_) ?_
 ·simp only[push_cast];refine zb (λa=>?_) (λa=>?_)
  ·exact d _ _ ⟨by rw[decide_eq_true a,decide_eq_true (.inl a)],rfl⟩
  refine zb (λb=>?_) (λb=>?_)
  ·exact d _ _ ⟨by rw[decide_eq_true b,decide_eq_true (.inr (.inl b))],rfl⟩
  ·refine d _ _ ⟨?_,rfl⟩;by_cases c:o=24
   ·rw[decide_eq_true c,decide_eq_true (.inr (.inr c))]
   ·rw[decide_eq_false c,decide_eq_false oM]
 ·rintro u g w1 ⟨rfl,rfl⟩;simp only[push_cast]
  repeat' first
   |exact f _ (by
    unfold M.arity;repeat' split
    all_goals omega)
   |refine zb (λ_=>?_) (λ_=>?_)
theorem zF0 {v:Value} {t:M.Tm} (A:TermR F w v t) (p:∀w',Ext w w'->K (.bool (M.formed t)) w'):vcall KX #[v] w K:=by
 refine zf {ord:=[oz 5 (oR 8) [(0,[3,4,5]),(1,[3,4,5]),(2,[3,4,5])]],cuts:=[(8195,[]),(16389,[])]} Tryz.func80 ?_;obtain⟨ksv,rfl,o⟩:=A;refine zk λb1 w1 y j z l=>?_;have q:=p _ j;have f:M.plainM t=false->K (.bool false) w1:=λh=>by
  unfold M.formed at q;rwa[h,pC] at q
 unfold M.plainM at f;refine zo (λu w'=>u=[]/\w'=w1/\(decide (t.op=21)||decide (t.s=M.nada))=true) (λC m=>?_) ?_
 ·simp only[push_cast,l.ld0,l.ld3];refine zb (λa=>?_) (λa=>?_)
  ·refine zb (λb=>?_) (λb=>?_)
   ·exact f (by rw[decide_eq_false a,show decide (t.s=M.nada)=false from decide_eq_false b];simp)
   ·exact m _ _ ⟨rfl,rfl,by rw[show decide (t.s=M.nada)=true from decide_eq_true (G7.1 b)];simp⟩
  ·exact m _ _ ⟨rfl,rfl,by rw[decide_eq_true (G7.1 a)];simp⟩
 rintro u g w2 ⟨rfl,rfl,r⟩;rw[r,Pn] at f;refine zo (λu w'=>u=[]/\w'=w2/\(decide (t.op=20)||decide (t.op=22)||(decide (t.a=0)&&decide (t.b=0)))=true) (λC m=>?_) ?_
 ·simp only[push_cast,l.ld0,l.ld1,l.ld2];refine zb (λa=>?_) (λa=>?_)
  ·refine zb (λb=>?_) (λb=>?_)
   ·refine zb (λc=>?_) (λc=>?_)
    ·exact f (by rw[decide_eq_false a,decide_eq_false b,decide_eq_false c];simp)
    refine zb (λd=>?_) (λd=>?_)
    ·exact f (by rw[decide_eq_false a,decide_eq_false b,decide_eq_false d];simp)
    ·exact m _ _ ⟨rfl,rfl,by rw[decide_eq_true (G7.1 c),decide_eq_true (G7.1 d)];simp⟩
   ·exact m _ _ ⟨rfl,rfl,by rw[decide_eq_true (G7.1 b)];simp⟩
  ·exact m _ _ ⟨rfl,rfl,by rw[decide_eq_true (G7.1 a)];simp⟩
 rintro u g B ⟨rfl,rfl,hm⟩;refine zd λD k _=>?_;have n:=l.ext k;have i:=o.ext (j.trans k);simp only[push_cast,n.ld0,n.ld4,i.len,true_and];refine l2Arity_spec ?_;simp only[push_cast,n.ld4,i.len,true_and,and_self];have:=p _ (j.trans k);have e:M.formed t=decide ((t.ks.length:Int)=M.arity t.op):=by
  unfold M.formed M.plainM;rw[hm,r];simp only[Pn];by_cases h:M.arity t.op=t.ks.length
  ·rw[decide_eq_true h,decide_eq_true h.symm]
  ·rw[decide_eq_false h,decide_eq_false (λx=>h x.symm)]
 rwa[e] at this
theorem l2One_spec {v:Value} {t:M.Tm} {a:Int} (q:TermR F w v t) (s: -1<=a/\a<=4) (m:∀w',Ext w w'->K (nI (M.oneM t a)) w'):vcall zn0 #[v,nI a] w K:=by
 refine zf {cuts:=[(8194,[5]),(16388,[13]),(28679,[40])]} Tryz.func82 ?_;obtain⟨ksv,rfl,o⟩:=q;refine zk λb1 w1 n l p j=>?_;have k:∀c,M.oneM t a=c->K (nI c) w1:=λc e=>e▸m _ l;unfold M.oneM at k;refine zo (λu w'=>u=[.bool (decide (t.op=25/\a=0))]/\w'=w1) (λC i=>?_) ?_
 ·simp only[push_cast,j.ld0];refine zb (λb=>?_) (λb=>?_)
  ·refine i _ _ ⟨?_,rfl⟩;simp only[b,true_and]
  ·exact i _ _ ⟨by rw[decide_eq_false (λh=>b h.1)],rfl⟩
 rintro u g w2 ⟨rfl,rfl⟩;simp only[push_cast];refine zb (λb=>?_) (λb=>?_)
 ·exact k _ (by rw[if_pos b.1,if_pos b.2])
 refine zo (λu w'=>u=[.bool (decide (t.op=25\/a<1))]/\w'=w2) (λC i=>?_) ?_
 ·simp only[push_cast,j.ld0];refine zb (λc=>?_) (λc=>?_)
  ·exact i _ _ ⟨by rw[decide_eq_true (.inl c)],rfl⟩
  ·refine i _ _ ⟨?_,rfl⟩;simp only[c,false_or]
 rintro u g r ⟨rfl,rfl⟩;simp only[push_cast];refine zb (λc=>?_) (λc=>?_)
 ·exact k _ (by
   repeat' split
   all_goals omega)
 simp only[push_cast,j.ld0];refine zb (λd=>?_) (λd=>?_)
 ·refine zo (λu w'=>u=[.bool (decide (0<=t.b/\t.b<=t.a/\t.a<a))]/\w'=r) (λC i=>?_) ?_
  ·simp only[push_cast,j.ld1,j.ld2];refine zb (λe=>?_) (λe=>?_)
   ·refine zb (λf=>?_) (λf=>?_)
    ·refine i _ _ ⟨?_,rfl⟩;simp only[e,f,true_and]
    ·exact i _ _ ⟨by rw[decide_eq_false (λh=>f h.2.1)],rfl⟩
   ·exact i _ _ ⟨by rw[decide_eq_false (λh=>e h.1)],rfl⟩
  rintro u g y ⟨rfl,rfl⟩;simp only[push_cast];refine zb (λe=>?_) (λe=>?_)
  ·simp only[push_cast,j.ld1,j.ld2];rw[zj (x:=t.a-t.b) oM oM,zj oM oM];exact k _ (by rw[if_neg oM,if_neg oM,if_pos d,if_pos e])
  ·exact k _ (by rw[if_neg oM,if_neg oM,if_pos d,if_neg e])
 ·exact k _ (by rw[if_neg oM,if_neg oM,if_neg d])
theorem l2Both_spec {o a b:Int} (l: -1<=a/\a<=4) (k: -1<=b/\b<=4) (j:K (nI (M.bothM o a b)) w):vcall WC #[nI o,nI a,nI b] w K:=by
 refine zf {cuts:=[(12291,[8]),(24582,[21])]} Tryz.func83 ?_;have h:∀c,M.bothM o a b=c->K (nI c) w:=λc e=>e▸j;unfold M.bothM at h;refine zo (λu w'=>u=[.bool (decide (o=26\/o=27))]/\w'=w) (λC f=>?_) ?_
 ·simp only[push_cast];refine zb (λc=>?_) (λc=>?_)
  ·exact f _ _ ⟨by rw[decide_eq_true (.inl c)],rfl⟩
  ·refine f _ _ ⟨?_,rfl⟩;simp only[c,false_or]
 rintro u g w2 ⟨rfl,rfl⟩;simp only[push_cast];refine zb (λc=>?_) (λc=>?_)
 ·repeat' first
   |exact h _ (by
    repeat' split
    all_goals omega)
   |refine zb (λ_=>?_) (λ_=>?_)
 refine zo (λu w'=>u=[.bool (decide (a<1\/b<1))]/\w'=w2) (λC f=>?_) ?_
 ·try simp only[push_cast]
  refine zb (λd=>?_) (λd=>?_)
  ·exact f _ _ ⟨by rw[decide_eq_true (.inl d)],rfl⟩
  ·refine f _ _ ⟨?_,rfl⟩;simp only[d,false_or]
 rintro u g m ⟨rfl,rfl⟩;have i:IntKind.i64.wrap (a+b)=a+b:=zj oM oM;simp only[push_cast,i]
 repeat' first
  |exact h _ (by
   repeat' split
   all_goals omega)
  |refine zb (λ_=>?_) (λ_=>?_)
theorem l2Sort_spec:∀(t:M.Tm) {w:World} {K:oK} {F G:Nat->Prop} {dv v:Value} {ds:List M.Dcl},DclsR F w dv ds->M.declOk ds=true->TermR G w v t->(∀w',Ext w w'->K (nI (M.sortM ds t)) w')->vcall Wx #[dv,v] w K:=by
 refine M.Tm.ind λt U w K F G dv v ds O f ht W=>?_;refine zf {} Tryz.func53 ?_;obtain⟨ksv,rfl,u⟩:=ht;refine zk λb1 w1 X E Z V=>?_;have m:∀c w',M.sortM ds t=c->Ext w w'->K (nI c) w':=λc w' e he=>e▸W _ he;rw[V.ldAgg (t:=za) zc];refine zF0 (F:=G) (t:=t) ⟨ksv,rfl,u.ext E⟩ λw2 H=>?_;have o:=E.trans H;have y:=V.ext H;simp only[push_cast];refine zn (λa=>?_) (λa=>?_)
 ·exact m _ _ (M.sort_bad (by rw[Bool.not_eq_true];simpa using a)) o
 have A:M.formed t=true:=by simpa using a
 have j:=(M.formed_iff.1 A).1;have q:=O.ext o;simp only[push_cast,y.ld0];refine zb (λd=>?_) (λd=>?_)
 ·have J:t.ks.length=0:=by rw[d] at j;simp[M.arity] at j;omega
  have hs:=M.sort_leaf (ds:=ds) A J;simp only[push_cast,y.ld1,y.ld2];refine spec_VecOk_spec λw3 k=>?_;have C:=y.ext k;refine zn (λb=>?_) (λb=>?_)
  ·simp only[push_cast,C.ld1];exact m _ _ (by rw[hs];unfold M.sortK;rw[if_pos d,if_pos b]) (o.trans k)
  ·exact m _ _ (by rw[hs];unfold M.sortK;rw[if_pos d,b];rfl) (o.trans k)
 refine zb (λl=>?_) (λl=>?_)
 ·have J:t.ks.length=0:=by rw[l] at j;simp[M.arity] at j;omega
  have hs:=M.sort_leaf (ds:=ds) A J;have Y:=M.findD_lt ds t.s;simp only[push_cast,y.ld3];refine l2Find_spec q ?_
  try simp only[push_cast]
  refine zb (λb=>?_) (λb=>?_)
  ·exact m _ _ (by rw[hs];unfold M.sortK;rw[if_neg d,if_pos l,if_pos b]) o
  ·try simp(disch:=first|omega|simp only[push_cast]) only[push_cast,q.iaddr]
   try simp(disch:=first|omega|simp only[push_cast]) only[push_cast,q.load1]
   exact m _ _ (by rw[hs];unfold M.sortK;rw[if_neg d,if_pos l,if_neg b]) o
 refine zb (λD=>?_) (λD=>?_)
 ·have J:t.ks.length=0:=by rw[D] at j;simp[M.arity] at j;omega
  have hs:=M.sort_leaf (ds:=ds) A J;exact m _ _ (by rw[hs];unfold M.sortK;rw[if_neg d,if_neg l,if_pos oM];rfl) o
 have hlen:t.ks.length=1\/t.ks.length=2\/t.ks.length=3:=by
  have h0:M.arity t.op≠0:=λh=>by have:=M.arity_zero h;omega
  have N:M.arity t.op<=3:=by
   unfold M.arity
   repeat' split
   all_goals omega
  omega
 have x:=u.ext o;simp(disch:=first|omega|simp only[push_cast]) only[push_cast,y.ld4,x.iaddr];refine x.load zc oM λx0 R=>?_;refine U (M.kid t 0) (M.kid_mem oM) q f R λw3 k=>?_;have C:=y.ext k;have p:=o.trans k;have g:=u.ext p;have L:=M.sort_range f (M.kid t 0);simp(disch:=first|omega|simp only[push_cast]) only[push_cast,C.ld4,g.len];refine zb (λl1=>?_) (λl1=>?_)
 ·rw[C.ldAgg (t:=za) zc];refine l2One_spec (F:=G) (t:=t) ⟨ksv,rfl,g⟩ L λw4 r=>?_;exact m _ _ (M.sort_one f A oM) (p.trans r)
 simp(disch:=first|omega|simp only[push_cast]) only[push_cast,C.ld4,g.iaddr];refine g.load zc oM λx1 S=>?_;refine U (M.kid t 1) (M.kid_mem oM) (O.ext p) f S λw4 r=>?_;have N:=C.ext r;have i:=p.trans r;have n:=u.ext i;have Q:=M.sort_range f (M.kid t 1);simp(disch:=first|omega|simp only[push_cast]) only[push_cast,N.ld4,N.ld0,n.len];refine zb (λl2=>?_) (λl2=>?_)
 ·refine l2Both_spec L Q ?_;exact m _ _ (M.sort_two f A oM) i
 have B:=M.sort_three (ds:=ds) A oM;refine zb (λz=>?_) (λz=>?_)
 ·exact m _ _ (by rw[B,if_pos (.inl z)]) i
 simp(disch:=first|omega|simp only[push_cast]) only[push_cast,N.ld4,n.iaddr];refine n.load zc oM λx2 T=>?_;refine U (M.kid t 2) (M.kid_mem oM) (O.ext i) f T λw5 I=>?_;simp only[push_cast];refine zb (λz2=>?_) (λz2=>?_)
 ·exact m _ _ (by rw[B,if_pos (.inr z2)]) (i.trans I)
 ·exact m _ _ (by rw[B,if_neg (λh=>h.elim z z2)]) (i.trans I)
def y00 (ds:List M.Dcl):Prop:=∀i,i<ds.length->(ds.getD i QV).1.size<=9223372036854775807
theorem spec_TermSort_spec {dv v:Value} {ds:List M.Dcl} {t:M.Tm} (o:y00 ds) (q:DclsR F w dv ds) (x:TermR G w v t) (p:∀w',Ext w w'->K (nI (M.tsort ds t)) w'):vcall JR #[dv,v] w K:=by
 refine zf {} Tryz.func32 ?_;obtain⟨cs,rfl,e⟩:=x.cells;refine zk λb1 w1 s g u l=>?_;rw[l.ldAgg (t:=za) (by rw[zU e];exact zc)];refine spec_TermMany_spec t (e.ext g).term λw2 i=>?_;simp only[push_cast];have f:=g.trans i;refine spec_DeclOk_spec (q.ext f) o λy j=>?_;have d:=f.trans j;have k:=p y d;unfold M.tsort at k;simp only[push_cast];refine zn (λa=>?_) (λa=>?_)
 ·rwa[if_neg (λh=>by rw[h.2] at a;cases a)] at k
 rw[Ga] at a;refine zb (λb=>?_) (λb=>?_)
 ·rw[if_neg (λh=>by
   have l:=M.fits_iff.1 h.1;unfold M.manyM at b;rw[if_pos h.1] at b;omega)] at k
  exact k
 have n:M.fits t=true:=by
  by_cases h:M.fits t=true
  ·exact h
  ·unfold M.manyM at b;rw[if_neg h] at b;omega
 refine zb (λc=>?_) (λc=>?_)
 ·unfold M.lvlM at c;rw[if_pos n] at c;have:=M.fits_iff.1 n;omega
 have r:=(l.ext i).ext j;rw[r.ldAgg (t:=za) (by rw[zU e];exact zc)];refine l2Sort_spec t (q.ext d) a (e.ext d).term λz m=>?_;have:=p z (d.trans m);unfold M.tsort at this;rwa[if_pos ⟨n,a⟩] at this
theorem Xe {b:Bool} (a:K (nI (M.b2i b)) w):vcall WD #[.bool b] w K:=by
 refine zf {} Tryz.func92 ?_;refine zn (λh=>?_) (λh=>?_)<;>subst h<;>exact a
def Z10 (H:Nat->Prop) (w:World) (ev:Value) (env:List Int) (t:M.Tm):Prop:=Ints H w ev env\/nnB t=true
theorem qo {H:Nat->Prop} {ev:Value} {env:List Int} {t:M.Tm} {w w':World} (h:Z10 H w ev env t) (he:Ext w w'):Z10 H w' ev env t:=h.imp (λh=>h.ext he) id
theorem j5 {H:Nat->Prop} {ev:Value} {env:List Int} {t k:M.Tm} (h:Z10 H w ev env t) (a:k∈t.ks):Z10 H w ev env k:=h.imp id λh=>(nnB_iff.1 h).2 k a
theorem j50 {H:Nat->Prop} {ev:Value} {env:List Int} {t:M.Tm} (h:Z10 H w ev env t) (a:t.op=21):Ints H w ev env:=h.elim id λh=>absurd a (nnB_iff.1 h).1
def jr0 (t:M.Tm):Prop:=∀{w:World} {K:oK} {F G H:Nat->Prop} {dv v ev:Value} {ds:List M.Dcl} {env:List Int},DclsR F w dv ds->M.envOk ds env=true->TermR G w v t->Z10 H w ev env t->M.sortM ds t≠ -1->(∀w',Ext w w'->K (nI (M.evalM ds env t)) w')->vcall WB #[dv,v,ev] w K
theorem l2Vec_spec {t:M.Tm} (B:jr0 t) {H:Nat->Prop} {dv v ev:Value} {ds:List M.Dcl} {env:List Int} (l:DclsR F w dv ds) (he:M.envOk ds env=true) (x:TermR G w v t) (z:Z10 H w ev env t) (hs:M.sortM ds t≠ -1) (p:∀w',Ext w w'->K (xS (M.sortM ds t) (M.evalM ds env t)) w'):vcall zm0 #[dv,v,ev] w K:=by
 refine zf {ord:=[oz 1 [0,1,3,4,5,2,6,7,8] [(0,[1,3,4,5]),(1,[3,4,5]),(3,[4,5,2]),(4,[5,2]),(5,[2])]]} Tryz.func207 ?_;obtain⟨cs,rfl,c⟩:=x.cells;refine zk λb1 w1 q f s m=>?_;refine zi zW λb2 w2 r g u n=>?_;refine zd λC d _=>?_;have k:=(m.ext g).ext d;have b:=(f.trans g).trans d;have i:aggB za cs.length=true:=by rw[zU c];exact zc
 rw[k.ldAgg (t:=za) i];refine⟨rfl,?_⟩;rw[k.ldAgg (t:=za) i];refine⟨rfl,l2Sort_spec t (l.ext b) (M.env_ok he).1 (c.ext b).term λD e=>?_⟩;rw[(k.ext e).ldAgg (t:=za) i];have a:=b.trans e;refine⟨⟨rfl,rfl⟩,B (l.ext a) he (c.ext a).term (qo z a) hs λE h=>?_⟩;simp only[push_cast,true_and];refine stVec (((n.ext d).ext e).ext h) λI j _ o=>?_;rw[o.lv rK];exact p _ (Ext.then (a.trans h) j λy A=>by subst A;have:=f.size;omega)
theorem l2Do_spec {t:M.Tm} (W:∀k,k∈t.ks->jr0 k) {H:Nat->Prop} {dv v ev:Value} {ds:List M.Dcl} {env:List Int} (T:DclsR F w dv ds) (he:M.envOk ds env=true) (ht:TermR G w v t) (V:Z10 H w ev env t) (hs:M.sortM ds t≠ -1)
  (ho:(1<=t.op/\t.op<=17)\/t.op=22) (I:∀w',Ext w w'->K (nI (M.evalM ds env t)) w'):vcall yp0 #[dv,v,ev] w K:=by
 refine zf {} Tryz.func167 ?_;obtain⟨ksv,rfl,z⟩:=ht;have a3:1<=t.ks.length:=by
  rcases(by omega:t.op=22\/(t.op=1\/t.op=2)\/(3<=t.op/\t.op<=14)\/(15<=t.op/\t.op<=17)) with h|h|h|h
  ·have:=(M.eval_cut he hs h).1;omega
  ·have:=(M.eval_un he hs h).1;omega
  ·have:=(M.eval_bin he hs h.1 h.2).1;omega
  ·have:=(M.eval_cmp he hs h.1 h.2).1;omega
 refine zk λb1 w1 a0 f a7 L=>?_;have m:=z.ext f;simp(disch:=first|omega|simp only[push_cast]) only[push_cast,L.ld4,m.iaddr];refine m.load zc oM λx0 Q=>?_;refine l2Vec_spec (W (M.kid t 0) (M.kid_mem oM)) (T.ext f) he Q (j5 (qo V f) (M.kid_mem oM)) (M.good_kid hs oM) λw2 p=>?_;refine zi zW λb2 w3 a1 x a8 h3=>?_;refine stVec h3 λw4 C _ E=>?_;have aa:=f.size;have ab:=p.size;have b:Ext w w4:=Ext.then ((f.trans p).trans x) C λy l=>by subst l;omega
 have a4:=L.lt;have n:=((L.ext p).ext x).same C oM;simp only[push_cast,n.ld0];refine zb (λr=>?_) (λr=>?_)
 ·obtain⟨hl,hv,d⟩:=M.eval_cut he hs r;simp only[push_cast,E.ldAgg (t:=zg) zr,n.ld1,n.ld2];refine spec_VecCut_spec λY a=>?_;simp only[push_cast];refine zi zW λb3 Z u c A s=>?_;refine stVec s λD e _ q=>?_;simp only[push_cast,q.ld1];have:=I D (Ext.then ((b.trans a).trans c) e λy l=>by subst l;have:=(b.trans a).size;omega);rwa[d] at this
 have g:=z.ext b;simp only[push_cast,n.ld4,g.len];refine zb (λl1=>?_) (λl1=>?_)
 ·have j:t.op=1\/t.op=2:=by
   rcases(by omega:(t.op=1\/t.op=2)\/(3<=t.op/\t.op<=14)\/(15<=t.op/\t.op<=17)) with h|h|h
   ·exact h
   ·have:=(M.eval_bin he hs h.1 h.2).1;omega
   ·have:=(M.eval_cmp he hs h.1 h.2).1;omega
  obtain⟨hl,hv,d⟩:=M.eval_un he hs j;simp only[push_cast,E.ldAgg (t:=zg) zr,n.ld0];refine spec_VecUn_spec λY a=>?_;simp only[push_cast];refine zi zW λb3 Z u c A s=>?_;refine stVec s λD e _ q=>?_;simp only[push_cast,q.ld1];have:=I D (Ext.then ((b.trans a).trans c) e λy l=>by subst l;have:=(b.trans a).size;omega);rwa[d] at this
 have j:3<=t.op/\t.op<=17:=by
  rcases(by omega:(t.op=1\/t.op=2)\/(3<=t.op/\t.op<=17)) with h|h
  ·have:=(M.eval_un he hs h).1;omega
  ·exact h
 have a5:t.ks.length=2:=by
  rcases(by omega:(3<=t.op/\t.op<=14)\/(15<=t.op/\t.op<=17)) with h|h
  ·exact(M.eval_bin he hs h.1 h.2).1
  ·exact(M.eval_cmp he hs h.1 h.2).1
 simp(disch:=first|omega|simp only[push_cast]) only[push_cast,n.ld4,g.iaddr];refine g.load zc oM λx1 R=>?_;refine l2Vec_spec (W (M.kid t 1) (M.kid_mem oM)) (T.ext b) he R (j5 (qo V b) (M.kid_mem oM)) (M.good_kid hs oM) λY a=>?_;refine zi zW λb3 Z u c A s=>?_;refine stVec s λD e _ q=>?_;have ac:=b.size;have ad:=a.size;have o:Ext w D:=Ext.then ((b.trans a).trans c) e λy l=>by subst l;omega
 have a6:=E.lt;have U:=n.lt;have S:=((n.ext a).ext c).same e oM;have X:=((E.ext a).ext c).same e oM;simp only[push_cast,S.ld0];refine zb (λJ=>?_) (λJ=>?_)
 ·obtain⟨_,_,_,d⟩:=M.eval_cmp he hs oM j.2;simp only[push_cast,X.ldAgg (t:=zg) zr,q.ldAgg (t:=zg) zr,S.ld0];refine spec_VecCmp_spec λw8 i=>?_;simp only[push_cast];refine Xe ?_;have:=I _ (o.trans i);rwa[d] at this
 ·obtain⟨_,_,_,d⟩:=M.eval_bin he hs j.1 oM;simp only[push_cast,X.ldAgg (t:=zg) zr,q.ldAgg (t:=zg) zr,S.ld0];refine spec_VecBin_spec λw8 i=>?_;simp only[push_cast];refine zi zW λb4 w9 a2 O a9 h9=>?_;refine stVec h9 λw10 B _ N=>?_;simp only[push_cast,N.ld1];have:=I w10 (Ext.then ((o.trans i).trans O) B λy l=>by subst l;have:=(o.trans i).size;omega);rwa[d] at this
theorem l2Eval_spec:∀(t:M.Tm),jr0 t:=by
 refine M.Tm.ind λt E=>?_;intro w K F G H dv v ev ds env z he ht B hs Y;refine zf {ord:=[oz 11 [0,1,2,3,4,5,7,8,9,10,11,12,6,13,14,15] [(0,[1,2,3,4,5,7,8,9,10,11,12]),(1,[5,7,8,9,10,11,12]),(2,[5,7,8,9,10,11,12]),(3,[5,7,8,9,10,11,12]),(4,[5,7,8,9,10,11,12]),(5,[7,8,9,10,11,12]),(7,[8,9,10,11,12,6]),(8,[12,6]),(9,[12,6]),(10,[12,6]),(11,[12,6]),(12,[6])],oz 13 [0,1,2,3,4,5,7,8,9,10,11,12,6,13,14,15] [(0,[1,2,3,4,5,7,8,9,10,11,12]),(1,[5,7,8,9,10,11,12]),(2,[5,7,8,9,10,11,12]),(3,[5,7,8,9,10,11,12]),(4,[5,7,8,9,10,11,12]),(5,[7,8,9,10,11,12]),(7,[8,9,10,11,12,6]),(8,[12,6]),(9,[12,6]),(10,[12,6]),(11,[12,6]),(12,[6])]]} Tryz.func136 ?_;obtain⟨ksv,rfl,p⟩:=ht;refine zk λb1 w1 a0 f a5 D=>?_;have l:=p.ext f;have A:∀c w',M.evalM ds env t=c->Ext w w'->K (nI c) w':=λc w' e he=>e▸Y _ he;have Z:=M.arity_ops (o:=t.op) (by have:=(M.formed_iff.1 (M.sort_parts hs).1).1;omega);simp only[push_cast,D.ld0];refine zb (λr=>?_) (λr=>?_)
 ·simp only[push_cast,D.ld2];exact A _ _ (by rw[M.eval_leaf (.inl r),if_pos r]) f
 refine zb (λn=>?_) (λn=>?_)
 ·have a4:=M.findD_lt ds t.s;have a3:=M.name_found hs n;have a2:=(M.env_ok he).2.1;have q:=(j50 B n).ext f;simp only[push_cast,D.ld3];refine l2Find_spec (z.ext f) ?_;simp(disch:=first|omega|simp only[push_cast]) only[push_cast,q.iaddr,q.load];exact A _ _ (by rw[M.eval_leaf (.inr (.inl n)),if_neg r,if_pos n]) f
 refine zb (λO=>?_) (λO=>?_)
 ·exact A _ _ (by rw[M.eval_leaf (.inr (.inr O)),if_neg r,if_neg n]) f
 refine zb (λP=>?_) (λP=>?_)
 ·obtain⟨V,R,j⟩:=M.eval_no he hs P;simp(disch:=first|omega|simp only[push_cast]) only[push_cast,D.ld4,l.iaddr];refine l.load zc oM λx0 L=>?_;refine E (M.kid t 0) (M.kid_mem oM) (z.ext f) he L (j5 (qo B f) (M.kid_mem oM)) (M.good_kid hs oM) λw2 h=>?_;simp only[push_cast];have a1:=M.inS_zero R;rw[zj oM oM];exact A _ _ j (f.trans h)
 refine zb (λC=>?_) (λC=>?_)
 ·obtain⟨V,R,S,j⟩:=M.eval_two he hs (.inl C);rw[if_pos C] at j;refine zd λw2 h _=>?_;have I:=D.ext h;have a:=f.trans h;have g:=p.ext a;simp(disch:=first|omega|simp only[push_cast]) only[push_cast,I.ld4,g.iaddr,true_and];obtain⟨css,m,U,u⟩:=g;rw[m.ldAgg zc (i:=0) oM];simp only[true_and];rw[m.ldAgg zc (i:=1) oM];simp only[true_and];refine E (M.kid t 0) (M.kid_mem oM) (z.ext a) he (u 0 oM).term (j5 (qo B a) (M.kid_mem oM)) (M.good_kid hs oM) λW d=>?_;have T:=I.ext d;have x:=p.ext (a.trans d);have y:=m.ext d;simp(disch:=first|omega|simp only[push_cast]) only[push_cast,T.ld4,x.iaddr,true_and];rw[y.ldAgg zc (i:=1) oM];refine⟨⟨rfl,rfl⟩,?_⟩
  try simp only[true_and,and_self]
  refine E (M.kid t 1) (M.kid_mem oM) (z.ext (a.trans d)) he ((u 1 oM).ext d).term (j5 (qo B (a.trans d)) (M.kid_mem oM)) (M.good_kid hs oM) λw4 J=>?_;simp only[push_cast,true_and];have e:IntKind.i64.wrap (M.evalM ds env (M.kid t 0)*M.evalM ds env (M.kid t 1))=M.evalM ds env (M.kid t 0)*M.evalM ds env (M.kid t 1):=by
   rcases M.inS_zero R with e|e<;>rcases M.inS_zero S with X|X<;>rw[e,X]<;>rfl
  rw[e];exact A _ _ j ((a.trans d).trans J)
 refine zb (λQ=>?_) (λQ=>?_)
 ·obtain⟨V,R,S,j⟩:=M.eval_two he hs (.inr Q);rw[if_neg C] at j;refine zd λw2 h _=>?_;have I:=D.ext h;have a:=f.trans h;have g:=p.ext a;simp(disch:=first|omega|simp only[push_cast]) only[push_cast,I.ld4,g.iaddr,true_and];obtain⟨css,m,U,u⟩:=g;rw[m.ldAgg zc (i:=0) oM];simp only[true_and];rw[m.ldAgg zc (i:=1) oM];simp only[true_and];refine E (M.kid t 0) (M.kid_mem oM) (z.ext a) he (u 0 oM).term (j5 (qo B a) (M.kid_mem oM)) (M.good_kid hs oM) λW d=>?_;have T:=I.ext d;have x:=p.ext (a.trans d);have y:=m.ext d;simp(disch:=first|omega|simp only[push_cast]) only[push_cast,T.ld4,x.iaddr,true_and];rw[y.ldAgg zc (i:=1) oM];refine⟨⟨rfl,rfl⟩,?_⟩
  try simp only[true_and,and_self]
  refine E (M.kid t 1) (M.kid_mem oM) (z.ext (a.trans d)) he ((u 1 oM).ext d).term (j5 (qo B (a.trans d)) (M.kid_mem oM)) (M.good_kid hs oM) λw4 J=>?_;refine l1Max_spec ?_;exact A _ _ j ((a.trans d).trans J)
 refine zb (λN=>?_) (λN=>?_)
 ·obtain⟨V,R,j⟩:=M.eval_if he hs N;simp(disch:=first|omega|simp only[push_cast]) only[push_cast,D.ld4,l.iaddr];refine l.load zc oM λx0 L=>?_;refine E (M.kid t 0) (M.kid_mem oM) (z.ext f) he L (j5 (qo B f) (M.kid_mem oM)) (M.good_kid hs oM) λw2 h=>?_;have I:=D.ext h;have a:=f.trans h;have g:=p.ext a;simp only[push_cast];refine zb (λb=>?_) (λb=>?_)
  ·rw[if_pos b] at j;simp(disch:=first|omega|simp only[push_cast]) only[push_cast,I.ld4,g.iaddr];refine g.load zc oM λx1 q=>?_;refine E (M.kid t 1) (M.kid_mem oM) (z.ext a) he q (j5 (qo B a) (M.kid_mem oM)) (M.good_kid hs oM) λW d=>?_;exact A _ _ j (a.trans d)
  ·rw[if_neg b] at j;simp(disch:=first|omega|simp only[push_cast]) only[push_cast,I.ld4,g.iaddr];refine g.load zc oM λx1 q=>?_;refine E (M.kid t 2) (M.kid_mem oM) (z.ext a) he q (j5 (qo B a) (M.kid_mem oM)) (M.good_kid hs oM) λW d=>?_;exact A _ _ j (a.trans d)
 ·rw[D.ldAgg (t:=za) zc];refine l2Do_spec (G:=G) (t:=t) (λk A=>E k A) (z.ext f) he ⟨ksv,rfl,l⟩ (qo B f) hs oM λw2 h=>?_;exact Y _ (f.trans h)
end
section
variable {w:World} {K:oK} {F F':Nat->Prop}
def Bytes (F:Nat->Prop) (w:World) (v:Value) (xs:List Nat):Prop:=Vals F w v (xs.map λx=>Value.int .u8 (x:Nat))/\∀x,x∈xs->x<256
theorem Bytes.same {S:Nat->Prop} {w':World} {v:Value} {xs:List Nat} (h:Bytes F w v xs) (hw:Same S w w') (hs:∀b,F b->b<w.heap.size->¬S b):Bytes F w' v xs:=⟨h.1.same hw hs,h.2⟩
theorem Bytes.ext {w':World} {v:Value} {xs:List Nat} (h:Bytes F w v xs) (hw:Ext w w'):Bytes F w' v xs:=⟨h.1.ext hw,h.2⟩
theorem Bytes.load {v:Value} {xs:List Nat} (h:Bytes F w v xs) {e:TypeId} (he:oneB e=true) {i:Nat} (hi:i<xs.length):zt e (.pointer (some (eaddr v 1 i))) w K=K (.int .u8 (xs.getD i 0:Nat)) w:=by
 rw[Vals.load h.1 he (by simpa using hi)];simp[k6,hi]
theorem Bytes.len {w':World} {v:Value} {xs:List Nat} (h:Bytes F w v xs) {t:TypeId} (a:isSl t=true) (ty:TypeId):vbi .len [t] ty [v] w' K=K (nI xs.length) w':=by
 have:=Vals.len (K:=K) (w':=w') h.1 a ty;rwa[X0] at this
theorem Bytes.iaddr {w':World} {v:Value} {xs:List Nat} (h:Bytes F w v xs) {t:TypeId} (c:elB t 1=true) {kd:IntKind} {i:Int} (a:0<=i) (b:i<xs.length):
  y1 t v (.int kd i) w' K=K (.pointer (some (eaddr v 1 i.toNat))) w':=Vals.iaddr h.1 c a (by simpa using b)
structure RdR (F:Nat->Prop) (w:World) (b:Nat) (v:Value) (xs:List Nat) (p:Nat):Prop where
 blk:Blk w b [v,nI p] yW
 bytes:Bytes F w v xs
 apart: ¬F b
 few:xs.length<=2000
theorem RdR.same {S:Nat->Prop} {w':World} {b p:Nat} {v:Value} {xs:List Nat} (h:RdR F w b v xs p) (hw:Same S w w') (a: ¬S b) (hs:∀b,F b->b<w.heap.size->¬S b):RdR F w' b v xs p:=
 ⟨h.blk.same hw a,h.bytes.same hw hs,h.apart,h.few⟩
theorem RdR.ext {w':World} {b p:Nat} {v:Value} {xs:List Nat} (h:RdR F w b v xs p) (hw:Ext w w'):RdR F w' b v xs p:=h.same hw id λ_ _ _ h=>h
theorem l12Open_spec {v:Value} {xs:List Nat} (n:Bytes F w v xs) (hF:∀b,F b->b<w.heap.size)
  (C:∀w' b v' ys,Ext w w'->RdR F w' b v' ys 0->w.heap.size<=b->K (oP b 0) w'):vcall V3 #[v] w K:=by
 refine zf {} Tryz.func15 ?_;simp only[push_cast,n.len];have fin:∀(v':Value) (ys:List Nat),Bytes F w v' ys->ys.length<=2000->yh yW [(0,v')] w λt9 f=>UN yW t9 f λt10 g=>K t10 g:=λv' ys j E=>by
  refine Y6 zW0 (us:=[[v']]) (by simp[j.1.cells1]) rfl ?_;refine ye λb w1 L m H B=>?_;exact C w1 b v' ys m ⟨B,j.ext m,λh=>by have:=hF b h;omega,E⟩ oM
 refine zb (λa=>?_) (λa=>fin v xs n oM);have k:yL x8 v none (some (nI (2000:Nat))) none w λt7 r=>yh yW [(0,t7)] r λt9 f=>UN yW t9 f λt10 g=>K t10 g:=by
  obtain⟨a0,c0,rfl,D,q,d⟩:=n.1.shape;rw[Sl.cut n.1 (λa l c e=>?_) kF0 (by simp;omega)]
  ·refine fin _ (xs.take 2000) ⟨⟨⟨a0,c0,?_,?_,q,λG=>?_⟩,λy j=>?_⟩,λy j=>n.2 y (gM j)⟩ (by simp;omega)
   ·simp only[cutV,X0,gd];rw[Gx oM]
   ·simp at D⊢;omega
   ·obtain⟨b,o,p,t,z,A⟩:=d (λe=>by simp at e;subst e;simp at a);refine⟨b,o,p,t,z,λi hi=>?_⟩;simp only[X0,gd] at hi;have:=A i (by simp;omega);have e:(((xs.take 2000).map λx=>Value.int .u8 (x:Nat)).map λx=>[x]).getD i []=((xs.map λx=>Value.int .u8 (x:Nat)).map λx=>[x]).getD i []:=by
     simp only[k6,Gz,PE];rw[if_pos oM]
    rw[e];exact this
   ·obtain⟨u,_,rfl⟩:=gn.1 j;rfl
  ·injection e with s I J
   obtain⟨b,o,p,_⟩:=d (λe=>by simp at e;subst e;simp at a);exact⟨b,o,by rw[p] at s;exact(K3 s).symm⟩
 exact k
theorem pick_spec {b p:Nat} {v:Value} {xs:List Nat} {n:Int} (h:RdR F w b v xs p) (hn:n<=1099511627776) (hp:p<1099511627776)
  (B:∀w' (k:Nat),Same (· =b) w w'->w'.heap.size=w.heap.size->RdR F w' b v xs (p+1)->(1<=n->(k:Int)<n)->(n<1->k=0)->K (nI k) w'):vcall qU #[oP b 0,nI n] w K:=by
 refine zf {ord:=[(7,[0,1,2,3,4,5,6,7,8,9,10,11,12,13,14,15,16,17,18,19,20,21,22,23,24,25,26,27,28,29,30,31,32,33,34,35,36,37,38,39,40,41,42,43,44,45],[(0,[1,2,3,11,12,13,14,32,35,44,45]),(1,[2,3,11,12,13,14,32,35,44,45]),(2,[3,11,12,13,14,32,35,44,45]),(3,[11,12,13,14,32,35,44,45]),(4,[10,11,12,13,14,32,35,44,45]),(5,[6,7,8,9,10,11,12,13,14,32,35,44,45]),(6,[7,8,9,10,11,12,13,14,32,35,44,45]),(7,[8,9,10,11,12,13,14,32,35,44,45]),(8,[9,10,11,12,13,14,32,35,44,45]),(9,[10,11,12,13,14,32,35,44,45]),(10,[11,12,13,14,32,35,44,45]),(11,[12,13,14,32,35,44,45]),(12,[13,14,32,35,44,45]),(13,[14,32,35,44,45]),(14,[32,35,44,45]),(15,[16,17,18,28,29,30,31,32,35,44,45]),(16,[17,18,28,29,30,31,32,35,44,45]),(17,[18,28,29,30,31,32,35,44,45]),(18,[28,29,30,31,32,35,44,45]),(19,[20,21,27,28,29,30,31,32,35,44,45]),(20,[21,27,28,29,30,31,32,35,44,45]),(21,[27,28,29,30,31,32,35,44,45]),(22,[23,24,25,26,27,28,29,30,31,32,35,44,45]),(23,[24,25,26,27,28,29,30,31,32,35,44,45]),(24,[25,26,27,28,29,30,31,32,35,44,45]),(25,[26,27,28,29,30,31,32,35,44,45]),(26,[27,28,29,30,31,32,35,44,45]),(27,[28,29,30,31,32,35,44,45]),(28,[29,30,31,32,35,44,45]),(29,[30,31,32,35,44,45]),(30,[31,32,35,44,45]),(31,[32,35,44,45]),(32,[35,44,45]),(33,[34,35,44,45]),(34,[35,44,45]),(35,[44,45]),(36,[42,43,44,45]),(37,[38,39,40,41,42,43,44,45]),(38,[39,40,41,42,43,44,45]),(39,[40,41,42,43,44,45]),(40,[41,42,43,44,45]),(41,[42,43,44,45]),(42,[43,44,45]),(43,[44,45]),(44,[45])])],cuts:=[(12292,[])]} Tryz.func21 ?_;have R:=h.few;simp only[push_cast,h.blk.ld1];have y:IntKind.i64.wrap ((p:Int)+1)=((p+1:Nat):Int):=by rw[zj oM oM];omega
 rw[y];refine h.blk.st rfl rfl yT rfl λw1 g l L=>?_;have t:Blk w1 b [v,nI (p+1:Nat)] yW:=L;have u:RdR F w1 b v xs (p+1):=⟨t,h.bytes.same g λx q _ e=>h.apart (e▸q),h.apart,h.few⟩;have q:=u.bytes;refine zo (λ_ w'=>w'=w1/\1<=n/\xs.length≠0) ?_ ?_
 ·intro J hJ;refine zb (λa=>?_) (λa=>?_)
  ·exact B w1 0 g l u (λh=>oM) λ_=>rfl
  ·simp only[push_cast,t.ld0,q.len];refine zb (λa2=>?_) (λa2=>?_)
   ·exact B w1 0 g l u (λh=>oM) λ_=>rfl
   ·exact hJ _ _ ⟨rfl,oM,oM⟩
 rintro _ _ _ ⟨rfl,h1,a0⟩;simp(disch:=(simp only[push_cast])) only[t.ld0,t.ld1,yA0,ZX,Kv,yl,gS,Z0,q.len];rw[show((p+1:Nat):Int)-1=(p:Int) from by omega,zj oM oM];simp only[yH0];have f:∀i,i<xs.length->xs.getD i 0<256:=λi hi=>q.2 _ (by rw[k6,gg hi];exact GH hi);have o:∀x:Nat,((x:Int).tmod n)=((x%n.toNat:Nat):Int)/\((x%n.toNat:Nat):Int)<n:=λx=>by
  obtain⟨m,rfl⟩:∃m:Nat,n=m:=⟨n.toNat,oM⟩;rw[gk];exact⟨rfl,by have:=pg x (show 0<m by omega);omega⟩
 refine zb (λa=>?_) (λa=>?_)
 ·simp(disch:=first|omega|simp only[push_cast]) only[t.ld0,q.iaddr,gk,q.load,qx yL0 VR];have hb:=f p oM;rw[zj oM oM,qY oM];obtain⟨m1,m2⟩:=o (xs.getD p 0);rw[m1];exact B _ _ g l u (λ_=>m2) λh=>oM
 ·refine zd λw2 j r=>?_;have S:=t.ext j;have s:=q.ext j;have z:(xs.length:Int)≠0:=oM;have T:((p:Int).tmod xs.length)=((p%xs.length:Nat):Int):=by rw[pk oM];rfl
  have l1:p%xs.length<xs.length:=pg _ oM;have U:IntKind.i64.wrap ((p:Int)*7)=((p*7:Nat):Int):=by rw[zj oM oM];omega
  have V:IntKind.i64.wrap (((p*7:Nat):Int)+3)=((p*7+3:Nat):Int):=by rw[zj oM oM];omega
  have W:(((p*7+3:Nat):Int).tmod xs.length)=(((p*7+3)%xs.length:Nat):Int):=by rw[pk oM];rfl
  have l2:(p*7+3)%xs.length<xs.length:=pg _ oM;have b1:=f _ l1;have b2:=f _ l2;generalize M:xs.getD (p%xs.length) 0=c at b1;generalize A:xs.getD ((p*7+3)%xs.length) 0=d at b2;have Y:IntKind.i64.wrap ((c:Nat):Int)=((c:Nat):Int):=zj oM oM;have Z:IntKind.i64.wrap ((d:Nat):Int)=((d:Nat):Int):=zj oM oM;have e7:IntKind.i64.wrap (((c:Nat):Int)*131)=((c*131:Nat):Int):=by rw[zj oM oM];omega
  have e8:IntKind.i64.wrap (((d:Nat):Int)*1117)=((d*1117:Nat):Int):=by rw[zj oM oM];omega
  have e9:IntKind.i64.wrap (((c*131:Nat):Int)+((d*1117:Nat):Int))=((c*131+d*1117:Nat):Int):=by rw[zj oM oM];omega
  have C:IntKind.i64.wrap ((p:Int)*29)=((p*29:Nat):Int):=by rw[zj oM oM];omega
  have D:IntKind.i64.wrap (((c*131+d*1117:Nat):Int)+((p*29:Nat):Int))=((c*131+d*1117+p*29:Nat):Int):=by rw[zj oM oM];omega
  obtain⟨Q,N⟩:∃Q,Q=p/xs.length:=⟨_,rfl⟩;have hq:Q<=p:=by rw[N];exact Gy _ _
  have E:IntKind.i64.wrap ((p:Int).tdiv xs.length)=((Q:Nat):Int):=by
   have:(p:Int).tdiv xs.length=(Q:Int):=by rw[N];rfl
   rw[this];exact zj oM oM
  have G:IntKind.i64.wrap (((Q:Nat):Int)*53)=((Q*53:Nat):Int):=by rw[zj oM oM];omega
  have H:IntKind.i64.wrap (((c*131+d*1117+p*29:Nat):Int)+((Q*53:Nat):Int))=((c*131+d*1117+p*29+Q*53:Nat):Int):=by rw[zj oM oM];omega
  simp(disch:=first|omega|simp only[push_cast]) only[S.ld0,yA0,ZX,yl,gS,true_and,s.len,qY z,jy z,yG0,Xn,T,U,V,W,E,s.iaddr,gk,s.load,M,A,qx yL0 VR,Y,Z,e7,e8,e9,C,D,G,H];have O:c*131+d*1117+p*29+Q*53<9223372036854775808:=oM;generalize c*131+d*1117+p*29+Q*53=X at O⊢;have I:IntKind.i64.wrap ((X:Int).tdiv 64)=((X/64:Nat):Int):=by
   have:(X:Int).tdiv 64=((X/64:Nat):Int):=rfl;rw[this];exact zj oM oM
  rw[jy oM,I,xd0 O oM,qY oM];obtain⟨m1,m2⟩:=o (X^^^X/64);rw[m1];exact B _ _ (g.trans (Same.of_ext j)) (by rw[r];exact l) (u.ext j) (λ_=>m2) λh=>oM
theorem num_spec {b p:Nat} {v vs:Value} {xs:List Nat} {ns:List Int} (h:RdR F w b v xs p) (g:Ints F' w vs ns) (d:ns≠[]) (o:ns.length<=1000) (n:p<1099511627776) (c:∀x,F' x->x≠b)
  (j:∀w' m,Same (· =b) w w'->w'.heap.size=w.heap.size->RdR F w' b v xs (p+1)->m∈ns->K (nI m) w'):vcall xI #[oP b 0,vs] w K:=by
 refine zf {} Tryz.func27 ?_;have f:=Gq.2 d;simp only[push_cast,g.len];refine pick_spec h oM n λw1 k hs r l i _=>?_;have s:=i oM;have a:=g.same hs λx q _ e=>c x q e;simp(disch:=first|omega|simp only[push_cast]) only[push_cast,a.iaddr,a.load];exact j w1 _ hs r l (M.getD_mem oM _)
end
section
variable {w:World} {K:oK} {F D:Nat->Prop}
@[push_cast] theorem bd_Decl (s:ByteArray) (n:Int):yh yO [(0,.string s),(1,nI n)] w K=K (.agg ⟨[.string s,nI n]⟩) w:=zQ yx0 (us:=[[.string s],[nI n]]) rfl rfl
abbrev OwnD (w:World) (v:Value) (ds:List M.Dcl):Prop:=Own 0 2 xw w v (ds.map λd=>[.string d.1,nI d.2])
def Dok (ds:List M.Dcl):Prop:=ds.length<=5/\∀i,i<ds.length->1<=(ds.getD i QV).2/\(ds.getD i QV).2<=4/\(ds.getD i QV).1.size<=5
theorem OwnD.dcls {v:Value} {ds:List M.Dcl} (h:OwnD w v ds):DclsR (λb=>v.ownBlock=some b) w v ds:=Own.sl h
def Yd0:List ByteArray:=[⟨#[120]⟩,⟨#[121]⟩,⟨#[122]⟩,⟨#[119]⟩]
set_option maxRecDepth 20000 in
theorem gd_ok {ds:List M.Dcl} (h:Dok ds) (l:ds.length<=4) (m:ds.map (·.1)=Yd0.take ds.length) (f:M.bits ds<=8):M.declOk ds=true:=by
 have nm:∀i,i<ds.length->(ds.getD i (M.nada,0)).1=Yd0.getD i M.nada:=λi hi=>by
  rw[<-M.getD_map (·.1) hi M.nada (M.nada,0),m,M.take_getD hi]
 refine M.decl_iff.2 ⟨l,λi hi=>?_,f⟩;have hw:=h.2 i hi;have c:∀j,j<i->(ds.getD j (M.nada,0)).1≠(ds.getD i (M.nada,0)).1:=λj d=>by
  rw[nm j oM,nm i hi];have:∀a b:Fin 4,b.1<a.1->Yd0.getD b.1 M.nada≠Yd0.getD a.1 M.nada:=dC;exact this ⟨i,oM⟩ ⟨j,oM⟩ d
 have g:M.findD (ds.take i) (ds.getD i (M.nada,0)).1= -1:=M.findD_none λj d=>by
  rw[gd] at d;rw[M.take_getD oM];exact c j oM
 have k:M.nameOk (ds.getD i (M.nada,0)).1=true:=by
  rw[nm i hi];have:∀a:Fin 4,M.nameOk (Yd0.getD a.1 M.nada)=true:=(by decide+kernel);exact this ⟨i,oM⟩
 unfold M.dclOk;rw[k,g];have e:1<=(ds.getD i (M.nada,0)).2/\(ds.getD i (M.nada,0)).2<=4:=⟨hw.1,hw.2.1⟩;rw[decide_eq_true e.1,decide_eq_true e.2];rfl
set_option maxRecDepth 20000 in
theorem l2Decls_spec3 {b p:Nat} {v:Value} {xs:List Nat} (h:RdR F w b v xs p) (hF:∀x,F x->x<w.heap.size) (hp:p+100<1099511627776)
  (hK:∀w' D dv ds,Same (· =b) w w'->RdR F w' b v xs D->D<=p+100->DclsR (λx=>w.heap.size<=x) w' dv ds->Dok ds->M.declOk ds=true->0<ds.length->K dv w'):vcall KY #[oP b 0] w K:=by
 refine zf {loops:=[(5,[4,5,6])],cuts:=[(24583,[])]} Tryz.func26 ?_;have lb:=h.blk.lt;refine vbuildS_row1 (xs:=Yd0.map .string) kM rK kL (λx o=>by obtain⟨s,_,rfl⟩:=gn.1 o;rfl) dC λb1 w1 ab A ak Z=>?_;have a2:Vals (· =b1) w1 (.slice (some ⟨b1,0,none⟩) (Yd0.map Value.string).length (Yd0.map Value.string).length) (Yd0.map Value.string):=Z.sl1 rfl dC;refine vbuildS_row (xs:=[]) (us:=[]) (k:=2) j8 jI xp rfl (by simp) dC λb2 w2 ac H al h2=>?_;have ho:OwnD w2 (.slice (some ⟨b2,0,none⟩) 0 0) []:=Blk.ownk (css:=[]) h2 (by simp) rfl dC;have W:=(h.ext A).ext H;refine vloop_up 4 (λi u w'=> ∃sv ds D,∃bits:Int,u=[sv,nI bits,nI i]/\Same (· =b) w w'/\RdR F w' b v xs D/\D<=p+2*i/\OwnD w' sv ds/\(∀x,sv.ownBlock=some x->w1.heap.size<=x)/\ds.length=i/\Dok ds/\0<=bits/\bits<=4*i/\Vals (· =b1) w' (.slice (some ⟨b1,0,none⟩) (Yd0.map Value.string).length (Yd0.map Value.string).length) (Yd0.map Value.string)/\ds.map (·.1)=Yd0.take i/\bits=M.bits ds/\bits<=8)
  ⟨_,[],p,0,rfl,Same.of_ext (A.trans H),W,oM,ho,λx o=>by have e:x=b2:=(K3 o).symm;omega,rfl,⟨by simp,λi hi=>by simp at hi⟩,oM,oM,a2.ext H,rfl,rfl,oM⟩ ?_
 rintro i _ _ w3 C hi ⟨sv,ds,D,bits,rfl,m,X,ai,R,l,B,G,aa,ae,a6,E,L,af⟩ hC;have ao:=m.size;have an:=A.size;have t:∀z U,Same (· =b) w3 z->RdR F z b v xs U->U<=p+2*i+2->0<i->K sv z:=λz U hs hR aj ag=>by
  refine hK z U sv ds (m.trans hs) hR oM ?_ G (gd_ok G oM (by rw[B];exact E) oM) oM;exact((R.same hs λx o e=>by have:=l x o;omega).sl).weaken λx o _=>by have:=l x o;omega
 refine zo (λu z=>u=[]/\Same (· =b) w3 z/\RdR F z b v xs (D+1)/\i<4) (λC' V=>?_) ?_
 ·refine pick_spec X oM oM λz k y ap r hk _=>?_;have:=hk oM;simp only[push_cast];rw[zj (x:=1+(k:Int)) oM oM];refine zb (λa=>?_) (λa=>?_)
  ·refine zb (λc=>?_) (λc=>?_)
   ·exact V _ _ ⟨rfl,y,r,oM⟩
   ·exact t _ _ y r oM oM
  ·exact t _ _ y r oM oM
 ·rintro u g z ⟨rfl,y,r,N⟩;refine pick_spec r oM oM λw5 k a5 a8 J hk _=>?_;have ah:=hk oM;have d:=y.trans a5;simp only[push_cast];rw[zj (x:=1+(k:Int)) oM oM,zj (x:=8-bits) oM oM];refine l1Min_spec ?_;obtain⟨n,hn⟩:∃n:Int,n=min (1+(k:Int)) (8-bits):=⟨_,rfl⟩;rw[<-hn];simp only[push_cast];refine zb (λa=>?_) (λa=>?_)
  ·exact t _ _ d J oM oM
  ·have I:=a6.same d λx o _ e=>by have:=h.blk.lt;have:=A.size;omega
   have hlen:(Yd0.map Value.string).length=4:=rfl;have e1:(Yd0.map Value.string).getD i undef= .string (Yd0.getD i ⟨#[]⟩):=M.getD_map _ (show i<Yd0.length from N) _ _;rw[I.iaddr rK oM (by rw[hlen];omega),gk,I.load rK (by rw[hlen];omega),e1];have T:(Yd0.getD i ⟨#[]⟩).size<=1:=by
    rcases(by omega:i=0\/i=1\/i=2\/i=3) with rfl|rfl|rfl|rfl<;>decide
   generalize Q:Yd0.getD i ⟨#[]⟩=nm at T⊢;simp only[push_cast];refine qn j8 jI xp rfl rfl dC λb3 w6 ad f am h6=>?_;have a3:=(R.same d λx o e=>by have:=l x o;omega).ext f;refine Own.app1k a3 ZS dC h6 rfl (by intro v hv;simp only[V0,gq,or_false] at hv;rcases hv with rfl|rfl<;>rfl) (by rw[X0,B];omega) (by rw[X0,B];omega) λa9 w7 a4 q a0=>?_;have a8:=d.size;have aq:=f.size;have S:Same (· =b) w w7:=by
    refine⟨q.os.trans (f.os.trans (d.os.trans m.os)),q.tape.trans (f.tape.trans (d.tape.trans m.tape)),q.output.trans (f.output.trans (d.output.trans m.output)),gH (((m.trans d).trans (Same.of_ext f)).size) q.size,λx o a1=>?_⟩;rw[q.block x (by have:=((m.trans d).trans (Same.of_ext f)).size;omega) (λe=>by have:=l x e;omega)];exact((m.trans d).trans (Same.of_ext f)).block x o a1
   have Y:RdR F w7 b v xs (D+1+1):=(J.ext f).same q (λe=>by have:=l b e;omega) λx o _ e=>by have:=l x e;have:=hF x o;omega
   have a7:=(I.ext f).same q (λx o _ e=>by have:=l x e;omega);rw[inc64' oM,zj (x:=bits+n) oM oM];refine hC oM _ _ ⟨a9,ds++[(nm,n)],D+1+1,bits+n,rfl,S,Y,oM,by rw[OwnD,gw];exact a4,λx o=>?_,by rw[Q1];simp[B],⟨by rw[Q1];simp;omega,λj hj=>?_⟩,oM,oM,a7,?_,?_,oM⟩
   ·rcases a0 x o with h|h
    ·exact l x h
    ·omega
   ·rw[Q1] at hj;by_cases O:j<ds.length
    ·rw[k6,gD O,<-k6];exact G.2 j O
    ·have:j=ds.length:=by simp at hj;omega
     subst this;rw[k6,gO oM];simp only[GI,pY,Gn];exact⟨oM,oM,gH T dC⟩
   ·rw[gw,E,M.take_add (show i<Yd0.length from N) ⟨#[]⟩,Q];rfl
   ·rw[L];unfold M.bits;rw[gw,List.sum_append];simp
@[push_cast] theorem bd_T3 (o a b:Int):yh za [(0,nI o),(1,nI a),(2,nI b)] w K=K (.agg ⟨[nI o,nI a,nI b,.string ⟨#[]⟩,.slice none 0 0]⟩) w:=zQ qf (us:=[[nI o],[nI a],[nI b]]) rfl rfl
@[push_cast] theorem bd_T1 (o:Int):yh za [(0,nI o)] w K=K (.agg ⟨[nI o,nI 0,nI 0,.string ⟨#[]⟩,.slice none 0 0]⟩) w:=zQ qf (us:=[[nI o]]) rfl rfl
@[push_cast] theorem bd_Tn (o:Int) (s:ByteArray):yh za [(0,nI o),(3,.string s)] w K=K (.agg ⟨[nI o,nI 0,nI 0,.string s,.slice none 0 0]⟩) w:=zQ qf (us:=[[nI o],[.string s]]) rfl rfl
@[push_cast] theorem bd_Tk (o:Int) (a:Option Addr) (l c:Nat):yh za [(0,nI o),(4,.slice a l c)] w K=K (.agg ⟨[nI o,nI 0,nI 0,.string ⟨#[]⟩,.slice a l c]⟩) w:=zQ qf (us:=[[nI o],[.slice a l c]]) rfl rfl
@[push_cast] theorem bd_Tc (o x y:Int) (a:Option Addr) (l c:Nat):yh za [(0,nI o),(1,nI x),(2,nI y),(4,.slice a l c)] w K=K (.agg ⟨[nI o,nI x,nI y,.string ⟨#[]⟩,.slice a l c]⟩) w:=zQ qf (us:=[[nI o],[nI x],[nI y],[.slice a l c]]) rfl rfl
theorem xC {b:Nat} {cs cs':List Value} {t:TypeId} {G:Nat->Prop} {t':M.Tm} (h:Blk w b cs t) (j:cs.length=5) (c:TmR G w cs' t') (g:∀x,G x->x≠b) (i:∀w',Same (· =b) w w'->w'.heap.size=w.heap.size->TermR G w' (.agg ⟨cs'⟩) t'->K (.agg ⟨cs'⟩) w'):
  zT za (oP b 0) (.agg ⟨cs'⟩) w λ_ w1=>vlv za (oP b 0) w1 λr w2=>K r w2:=by
 refine stTerm h j c λw' a d f=>?_;rw[f.lv (by rw[zU c];exact zc)];exact i w' a d (c.same a λx k _ e=>g x k e).term
theorem J8 {G:Nat->Prop} (o a b:Int) (s:ByteArray):TmR G w [nI o,nI a,nI b,.string s,.slice none 0 0] (.mk o a b s []):=TmR.of (t:= .mk o a b s []) TmsR.nil
abbrev yz0 (K:oK) (F:Nat->Prop) (w:World) (b p c:Nat) (v:Value) (xs:List Nat):Prop:=∀w' p' tv t,Same (· =b) w w'->RdR F w' b v xs p'->p'<=p+c->TermR (λx=>w.heap.size<=x) w' tv t->t.ks.length<=3->K tv w'
theorem same_new {b b2:Nat} {w w1 w2:World} (h:Same (· =b) w w1) (a:Same (· =b2) w1 w2) (f:w.heap.size<=b2):Same (· =b) w w2:=
 ⟨a.os.trans h.os,a.tape.trans h.tape,a.output.trans h.output,gH h.size a.size,λx d c=>by
  rw[a.block x (gE d h.size) (λe=>by subst e;omega)];exact h.block x d c⟩
theorem RdR.new {b b2 p:Nat} {v:Value} {xs:List Nat} {w1:World} (h:RdR F w b v xs p) (hs:Same (· =b2) w w1) (a:b≠b2) (hF:∀x,F x->x≠b2):RdR F w1 b v xs p:=h.same hs a λx c _ e=>hF x c e
theorem l2Leafy_spec {b p:Nat} {v dv:Value} {xs:List Nat} {ds:List M.Dcl} {sort:Int} (h:RdR F w b v xs p) (hF:∀x,F x->x<w.heap.size) (hd:DclsR D w dv ds) (hD:∀x,D x->x≠b) (a0:Dok ds) (a8:0<=sort) (E:sort<=4) (hp:p+100<1099511627776)
  (hK:yz0 K F w b p 100 v xs):vcall YK #[oP b 0,dv,nI sort] w K:=by
 refine zf {loops:=[(6,[9])],cuts:=[(28680,[])]} Tryz.func40 ?_;have lb:=h.blk.lt;refine zi zp λb1 w1 a5 n a9 h1=>?_;have H:=h.ext n;have J:=hd.ext n;have o:∀w2 p2 cs t,Same (· =b) w w2->RdR F w2 b v xs p2->p2<=p+100->Blk w2 b1 [nI 0,nI 0,nI 0,.string ⟨#[]⟩,.slice none 0 0] za->TmR (λ_=>False) w2 cs t->t.ks.length<=3->
   zT za (oP b1 0) (.agg ⟨cs⟩) w2 λ_ w1=>vlv za (oP b1 0) w1 λr w2=>K r w2:=by
  intro w2 p2 cs t hs W a1 U hc Z;refine xC U rfl hc (λx y=>y.elim) λA l ab ht=>?_;exact hK A p2 _ t (same_new hs l oM) (W.new l oM λx y e=>by have:=hF x y;omega) a1 (ht.weaken λx y _=>y.elim) Z
 simp only[push_cast];refine zb (λa=>?_) (λa=>?_)
 ·exact o _ _ _ _ (Same.of_ext n) H oM h1 (J8 24 0 0 _) (gJ _)
 simp only[push_cast,J.len];have hlen:=a0.1;refine pick_spec H oM oM λw2 at_ B aa X hk _=>?_;have h2:=h1.same B oM;have z:∀A p3,Same (· =b) w A->RdR F A b v xs p3->p3<=p+50->Blk A b1 [nI 0,nI 0,nI 0,.string ⟨#[]⟩,.slice none 0 0] za->
   vcall Zz #[nI sort] A λt52 O=>vcall qU #[oP b 0,t52] O λt53 Q=>yh za [(0,(nI 20)),(1,nI sort),(2,t53)] Q λt54 R=>zT za (oP b1 0) t54 R λ_ S=>vlv za (oP b1 0) S λN T=>K N T:=by
  intro A p3 hs W a2 U;refine l1Two_spec oM ?_;have a7:2^sort.toNat<=2^4:=gL oM oM;refine pick_spec W oM oM λw4 k E a3 f _ _=>?_;simp only[push_cast];exact o _ _ _ _ (hs.trans E) f oM (U.same E (by have:=n.size;omega)) (J8 20 sort k _) (gJ _)
 refine vloop_up ds.length (λi u w'=> ∃L,u=[nI i]/\Same (· =b) w w'/\RdR F w' b v xs L/\L<=p+1+i/\Blk w' b1 [nI 0,nI 0,nI 0,.string ⟨#[]⟩,.slice none 0 0] za/\DclsR D w' dv ds)
  ⟨p+1,rfl,(Same.of_ext n).trans B,X,oM,h2,J.same B λx y _ e=>hD x y e⟩ ?_
 rintro i _ _ A C hi ⟨L,rfl,l,I,a2,G,Y⟩ hC;refine zo (λu w'=>u=[]/\i<ds.length/\Same (· =b) w w'/\RdR F w' b v xs (L+1)/\Blk w' b1 [nI 0,nI 0,nI 0,.string ⟨#[]⟩,.slice none 0 0] za/\DclsR D w' dv ds) (λC' V=>?_) ?_
 ·simp only[push_cast];refine zb (λc=>?_) (λc=>?_)
  ·refine pick_spec I oM oM λw4 k d a3 f _ _=>?_;have m:=G.same d oM;simp only[push_cast];refine zb (λe=>?_) (λe=>?_)
   ·exact V _ _ ⟨rfl,oM,l.trans d,f,m,Y.same d λx y _ e=>hD x y e⟩
   ·exact z _ _ (l.trans d) f oM m
  ·exact z _ _ l I oM G
 ·rintro u g w4 ⟨rfl,a6,d,f,m,s⟩;have a4:at_<ds.length:=by have:=hk oM;omega
  have e1:IntKind.i64.wrap ((at_:Int)+(i:Int))=((at_+i:Nat):Int):=by rw[zj oM oM];omega
  have eR:∀(w:World) (K:oK),qr .rem y0 false (nI ((at_+i:Nat):Int)) (nI (ds.length:Int)) w K=K (nI (((at_+i)%ds.length:Nat):Int)) w:=λw K=>by rw[qY oM];rfl
  have hm:(at_+i)%ds.length<ds.length:=pg _ oM;obtain⟨q,hq⟩:∃q,q=at_+i:=⟨_,rfl⟩;rw[<-hq] at e1 eR hm;obtain⟨j,hj⟩:∃j,j=q%ds.length:=⟨_,rfl⟩;rw[<-hj] at eR hm;simp(disch:=first|omega|simp only[push_cast]) only[push_cast,e1,eR,s.iaddr]
  try simp(disch:=first|omega|simp only[push_cast]) only[push_cast,s.load0,s.load1]
  refine zb (λc=>?_) (λc=>?_)
  ·exact o _ _ _ _ d f oM m (J8 21 0 0 _) (gJ _)
  ·rw[inc64' oM];exact hC oM _ _ ⟨L+1,rfl,d,f,oM,m,s⟩
end
section
variable {w:World} {K:oK} {F D G:Nat->Prop}
theorem kidsL {css:List (List Value)} {ts:List M.Tm} (l:css.length=ts.length) (n:css.length<=100) (h:∀i,i<ts.length->TmR G w (css.getD i []) (ts.getD i default))
  (j:∀w' a,Ext w w'->w'.heap.size=w.heap.size+1->TmsR (λz=>G z\/z=w.heap.size) w' (.slice a css.length css.length) ts->K (.slice a css.length css.length) w'):
  vbuildS zl (css.map λc=>Value.agg ⟨c⟩).length ((css.map λc=>Value.agg ⟨c⟩).zipIdx.map λp=>(p.2,p.1)) w K:=by
 have d:∀u,u∈css->u.length=5:=λu hu=>by
  obtain⟨i,hi,rfl⟩:=gm hu;have:=zU (h i oM);rwa[k6,gg hi] at this
 refine vbuildS_row (us:=css) (k:=5) xq xB zp (by rw[GM];rfl) d (by rw[X0];omega) λb w' o he hs g=>?_;rw[X0];refine j w' _ he hs ⟨css,?_,l,λi hi=>((h i hi).ext he).weaken λx f _=> .inl f⟩;have m:Own 0 5 zl w' (.slice (some ⟨b,0,none⟩) css.length css.length) css:=Blk.ownk (by rw[qG];exact g) d rfl oM;exact m.sl.weaken λx f _=> .inr (by have e:x=b:=(K3 f).symm;omega)
theorem zG0 {v0:Value} {t0:M.Tm} (b:TermR G w v0 t0) (c:∀w' a,Ext w w'->w'.heap.size=w.heap.size+1->TmsR (λz=>G z\/z=w.heap.size) w' (.slice a 1 1) [t0]->K (.slice a 1 1) w'):vbuildS zl 1 [(0,v0)] w K:=by
 obtain⟨c0,rfl,d⟩:=b.cells;refine kidsL (css:=[c0]) (ts:=[t0]) rfl (by simp) (λi hi=>?_) c;have:i=0:=by simpa using hi
 subst this;exact d
theorem kids2 {v0 v1:Value} {t0 t1:M.Tm} (b:TermR G w v0 t0) (c:TermR G w v1 t1) (d:∀w' a,Ext w w'->w'.heap.size=w.heap.size+1->TmsR (λz=>G z\/z=w.heap.size) w' (.slice a 2 2) [t0,t1]->K (.slice a 2 2) w'):vbuildS zl 2 [(0,v0),(1,v1)] w K:=by
 obtain⟨c0,rfl,e⟩:=b.cells;obtain⟨c1,rfl,f⟩:=c.cells;refine kidsL (css:=[c0,c1]) (ts:=[t0,t1]) rfl (by simp) (λi hi=>?_) d
 match i,hi with
 |0,_=>exact e
 |1,_=>exact f
theorem kids3 {v0 v1 v2:Value} {t0 t1 t2:M.Tm} (b:TermR G w v0 t0) (c:TermR G w v1 t1) (d:TermR G w v2 t2) (e:∀w' a,Ext w w'->w'.heap.size=w.heap.size+1->TmsR (λz=>G z\/z=w.heap.size) w' (.slice a 3 3) [t0,t1,t2]->K (.slice a 3 3) w'):vbuildS zl 3 [(0,v0),(1,v1),(2,v2)] w K:=by
 obtain⟨c0,rfl,f⟩:=b.cells;obtain⟨c1,rfl,g⟩:=c.cells;obtain⟨c2,rfl,h⟩:=d.cells;refine kidsL (css:=[c0,c1,c2]) (ts:=[t0,t1,t2]) rfl (by simp) (λi hi=>?_) e
 match i,hi with
 |0,_=>exact f
 |1,_=>exact g
 |2,_=>exact h
abbrev Ju:List Value:=[nI 0,nI 0,nI 0,.string ⟨#[]⟩,.slice none 0 0]
structure Dw (F D:Nat->Prop) (w0:World) (b b1:Nat) (v dv:Value) (xs:List Nat) (ds:List M.Dcl) (w:World) (p:Nat):Prop where
 same:Same (· =b) w0 w
 rd:RdR F w b v xs p
 var:Blk w b1 Ju za
 dcl:DclsR D w dv ds
 old:b<w0.heap.size
 new:b1=w0.heap.size
 size:b1<w.heap.size
 hF:∀x,F x->x<w0.heap.size
 hD:∀x,D x->x≠b
 hD1:∀x,D x->x<w0.heap.size
section
variable {w0:World} {b b1 p:Nat} {v dv:Value} {xs:List Nat} {ds:List M.Dcl}
theorem Dw.step {w1:World} {p1:Nat} (h:Dw F D w0 b b1 v dv xs ds w p) (hs:Same (· =b) w w1) (a:RdR F w1 b v xs p1):Dw F D w0 b b1 v dv xs ds w1 p1:=
 ⟨h.same.trans hs,a,h.var.same hs (by have:=h.old;have:=h.new;omega),h.dcl.same hs λx c _ e=>h.hD x c e,h.old,h.new,gE h.size hs.size,h.hF,h.hD,h.hD1⟩
theorem Dw.ext {w1:World} (h:Dw F D w0 b b1 v dv xs ds w p) (he:Ext w w1):Dw F D w0 b b1 v dv xs ds w1 p:=h.step (Same.of_ext he) (h.rd.ext he)
theorem Dw.begin (h:RdR F w b v xs p) (hF:∀x,F x->x<w.heap.size) (f:DclsR D w dv ds) (hD:∀x,D x->x≠b) (hD1:∀x,D x->x<w.heap.size) {K:oK} (e:∀w1,Dw F D w b w.heap.size v dv xs ds w1 p->K (oP w.heap.size 0) w1):qi za w K:=by
 refine zi zp λb1 w1 c a g d=>?_;subst c;exact e w1 ⟨Same.of_ext a,h.ext a,d,f.ext a,h.blk.lt,rfl,oM,hF,hD,hD1⟩
abbrev Nw (b1:Nat) (x:Nat):Prop:=b1<x
theorem Dw.fin {c:Nat} {cs:List Value} {t:M.Tm} (h:Dw F D w0 b b1 v dv xs ds w p) {p0:Nat} (j:p<=p0+c) (k:TmR (Nw b1) w cs t) (f:t.ks.length<=3) (i:yz0 K F w0 b p0 c v xs):
  zT za (oP b1 0) (.agg ⟨cs⟩) w λ_ w1=>vlv za (oP b1 0) w1 λr w2=>K r w2:=by
 have:=h.old;have:=h.new;refine xC h.var rfl k (λx d e=>by subst e;exact Nat.lt_irrefl _ d) λn a m g=>?_;exact i n p _ t (same_new h.same a oM) (h.rd.new a oM λx d e=>by have:=h.hF x d;omega) j (g.weaken λx d _=>by have l:b1<x:=d;omega) f
theorem Dw.pick {n:Int} (h:Dw F D w0 b b1 v dv xs ds w p) (f:n<=1099511627776) (g:p<1099511627776) (d:∀w1 (k:Nat),Dw F D w0 b b1 v dv xs ds w1 (p+1)->Same (· =b) w w1->(1<=n->(k:Int)<n)->(n<1->k=0)->K (nI k) w1):vcall qU #[oP b 0,nI n] w K:=
 pick_spec h.rd f g λw1 k hs i e a c=>d w1 k (h.step hs e) hs a c
theorem Dw.sub {g:Nat} {args:Array Value} {c:Nat} (h:Dw F D w0 b b1 v dv xs ds w p) (i:∀d,yz0 d F w b p c v xs->vcall g args w d) (e:∀w1 p1 tv t,Dw F D w0 b b1 v dv xs ds w1 p1->Same (· =b) w w1->p1<=p+c->TermR (Nw b1) w1 tv t->t.ks.length<=3->K tv w1):vcall g args w K:=
 i K λw1 p1 tv t hs f j k a=>e w1 p1 tv t (h.step hs f) hs j (k.weaken λx l _=>by have:=h.size;show b1<x;omega) a
theorem Dw.keep {tv:Value} {t:M.Tm} {w1:World} (h:Dw F D w0 b b1 v dv xs ds w p) (a:TermR (Nw b1) w tv t) (hs:Same (· =b) w w1):TermR (Nw b1) w1 tv t:=
 a.same hs λx c _ e=>by subst e;have:=h.old;have:=h.new;have d:b1<x:=c;omega
theorem Dw.tms {kv:Value} {ks:List M.Tm} (h:Dw F D w0 b b1 v dv xs ds w p) {w1:World} (c:TmsR (λz=>Nw b1 z\/z=w.heap.size) w1 kv ks):TmsR (Nw b1) w1 kv ks:=
 c.weaken λx a _=>by
  rcases a with a|a
  ·exact a
  ·have:=h.size;show b1<x;omega
end
def Jg (d:Nat):Nat:=100*4^d
theorem cost_succ (d:Nat):Jg (d+1)=4*Jg d:=by unfold Jg;rw[Nat.pow_succ];omega
theorem cost_ge (d:Nat):100<=Jg d:=by
 have:1<=4^d:=PN oM;unfold Jg;omega
def Q3 (d:Nat):Prop:=∀{w:World} {K:oK} {F D:Nat->Prop} {b p:Nat} {v dv:Value} {xs:List Nat} {ds:List M.Dcl} {sort deep:Int},RdR F w b v xs p->(∀x,F x->x<w.heap.size)->DclsR D w dv ds->(∀x,D x->x≠b)->(∀x,D x->x<w.heap.size)->Dok ds->0<=sort->sort<=4-> -100<=deep->deep<=d->
 p+Jg d<1099511627776->yz0 K F w b p (Jg d) v xs->vcall Z5 #[oP b 0,dv,nI sort,nI deep] w K
theorem num_draw {w0:World} {b b1 p:Nat} {v dv:Value} {xs:List Nat} {ds:List M.Dcl} {ns:List Int} (h:Dw F D w0 b b1 v dv xs ds w p) (a:ns≠[]) (c:ns.length<=1000) (l:p<1099511627776) (j:∀w1 m,Dw F D w0 b b1 v dv xs ds w1 (p+1)->Same (· =b) w w1->m∈ns->K (nI m) w1):
  vbuildS zh ns.length ((ns.map λx=>nI x).zipIdx.map λp=>(p.2,p.1)) w λs w1=>vcall xI #[oP b 0,s] w1 K:=by
 have:=vbuildS_row1 (w:=w) (K:=λs w1=>vcall xI #[oP b 0,s] w1 K) (t:=zh) (xs:=ns.map λx=>nI x) x6 yT xo (λx d=>by obtain⟨y,_,rfl⟩:=gn.1 d;rfl) (by simp;omega) λb2 w' o f q i=>by
  have n:Ints (· =b2) w' (.slice (some ⟨b2,0,none⟩) (ns.map λx=>nI x).length (ns.map λx=>nI x).length) ns:=i.sl1 rfl (by simp;omega);have g:=h.ext f;have:=h.rd.blk.lt;refine num_spec g.rd n a c l (λx d e=>by subst d;omega) λw2 m hs r k hm=>?_;exact j w2 m (g.step hs k) ((Same.of_ext f).trans hs) hm
 rwa[X0] at this
theorem l2Asks_spec {d:Nat} (hT:Q3 d) {b p:Nat} {v dv:Value} {xs:List Nat} {ds:List M.Dcl} {deep:Int} (h:RdR F w b v xs p) (hF:∀x,F x->x<w.heap.size) (hd:DclsR D w dv ds) (hD:∀x,D x->x≠b) (hD1:∀x,D x->x<w.heap.size) (G:Dok ds) (aa:1<=deep) (ab:deep<=d+1) (ac:d<=9)
  (hp:p+2*Jg d+10<1099511627776) (U:yz0 K F w b p (2*Jg d+10) v xs):vcall WF #[oP b 0,dv,nI deep] w K:=by
 refine zf {cuts:=[(40971,[7])]} Tryz.func61 ?_;refine Dw.begin h hF hd hD hD1 λw1 h1=>?_;have hg:=h1.new;have e1:IntKind.i64.wrap (deep-1)=deep-1:=zj oM oM;have f:∀{w2:World} {p2:Nat} {s:Int} {V:oK},Dw F D w b w.heap.size v dv xs ds w2 p2->0<=s->s<=4->p2+Jg d<1099511627776->(∀B R tv t,Dw F D w b w.heap.size v dv xs ds B R->Same (· =b) w2 B->R<=p2+Jg d->TermR (Nw w.heap.size) B tv t->t.ks.length<=3->V tv B)->
   vcall Z5 #[oP b 0,dv,nI s,nI (deep-1)] w2 V:=λr y i a4 X=>
  r.sub (λV hk=>hT r.rd (λx hx=>gE (hF x hx) r.same.size) r.dcl hD (λx hx=>gE (hD1 x hx) r.same.size) G y i oM oM a4 hk) X
 refine h1.pick oM oM λw2 k r ag hk _=>?_;simp only[push_cast,e1];refine zb (λa=>?_) (λa=>?_)
 ·refine f r oM oM oM λB R I t0 o H O l _=>?_;refine zG0 l λJ sa Y aj j=>?_;have n:=o.ext Y;simp only[push_cast];exact n.fin (p0:=p) oM (TmR.of (t:= .mk 25 0 0 _ [t0]) (o.tms j)) (Gh rfl) U
 refine zb (λa1=>?_) (λa1=>?_)
 ·refine f r oM oM oM λB R I t0 o H O l _=>?_;refine f o oM oM oM λJ S T t1 n i Q q _=>?_;refine kids2 (o.keep l i) q λw5 sa E a7 j=>?_;have z:=n.ext E;simp only[push_cast];exact z.fin (p0:=p) oM (TmR.of (t:= .mk 26 0 0 _ [t0,t1]) (n.tms j)) (Gh rfl) U
 refine zb (λa2=>?_) (λa2=>?_)
 ·refine f r oM oM oM λB R I t0 o H O l _=>?_;refine f o oM oM oM λJ S T t1 n i Q q _=>?_;refine kids2 (o.keep l i) q λw5 sa E a7 j=>?_;have z:=n.ext E;simp only[push_cast];exact z.fin (p0:=p) oM (TmR.of (t:= .mk 27 0 0 _ [t0,t1]) (n.tms j)) (Gh rfl) U
 refine r.pick oM oM λB k3 o H a0 _=>?_;have a8:=a0 oM;simp only[push_cast];rw[zj (x:=1+(k3:Int)) oM oM];refine zo (λu J=> ∃s S,u=[nI s]/\0<=s/\s<=4/\S<=p+4/\Dw F D w b w.heap.size v dv xs ds J S) (λC W=>?_) ?_
 ·have hlen:=G.1;have L:=o.dcl;simp only[push_cast,L.len];refine zb (λc=>?_) (λc=>?_)
  ·refine o.pick oM oM λJ k4 n i ad _=>?_;have N:=n.dcl;simp only[push_cast];refine zb (λe=>?_) (λe=>?_)
   ·try simp only[push_cast,N.len]
    refine n.pick oM oM λw5 k5 z a5 a3 _=>?_;have a9:=a3 oM;have A:=z.dcl;simp(disch:=first|omega|simp only[push_cast]) only[push_cast,A.iaddr]
    try simp(disch:=first|omega|simp only[push_cast]) only[push_cast,A.load1]
    have ai:1<=(ds.getD k5 (M.nada,0)).2/\(ds.getD k5 (M.nada,0)).2<=4/\_:=G.2 k5 oM;exact W _ _ ⟨_,_,rfl,oM,oM,oM,z⟩
   ·exact W _ _ ⟨_,_,rfl,oM,oM,oM,n⟩
  ·exact W _ _ ⟨_,_,rfl,oM,oM,oM,o⟩
 ·rintro u g J ⟨s,S,rfl,y,i,Q,n⟩;refine num_draw (ns:=[15,16,17,15]) n (by simp) dC oM λw5 m z a5 hm=>?_;simp only[push_cast,e1];refine f z y i oM λw6 p6 I t0 h6 ah ae l _=>?_;refine f h6 y i oM λw7 p7 T t1 h7 a6 af q _=>?_;refine kids2 (h6.keep l a6) q λw8 sa Z ak j=>?_;have h8:=h7.ext Z;simp only[push_cast];exact h8.fin (p0:=p) oM (TmR.of (t:= .mk m 0 0 _ [t0,t1]) (h7.tms j)) (Gh rfl) U
end
section
variable {w:World} {K:oK} {F F' D G:Nat->Prop}
theorem l2Term_step {d:Nat} (an:d<=9) (hT:∀e,e<d->Q3 e):Q3 d:=by
 intro w K F D b p v dv xs ds sort deep h hF hd hD hD1 Y l m ap ao hp S;refine zf {cuts:=[(8195,[]),(53263,[]),(53261,[89])]} Tryz.func38 ?_;refine Dw.begin h hF hd hD hD1 λw1 h1=>?_;have a9:=cost_ge d;have G:∀{w2:World} {p2:Nat},Dw F D w b w.heap.size v dv xs ds w2 p2->p2<=p+1->Jg d=100\/0<d->p2+100<=p+Jg d\/d=0->(d=0->p2=p)->
   vcall YK #[oP b 0,dv,nI sort] w2 λt27 ak=>zT za (oP w.heap.size 0) t27 ak λ_ al=>vlv za (oP w.heap.size 0) al λr8 am=>K r8 am:=by
  intro w2 p2 n Z _ T hz;refine n.sub (c:=100) (λK' O=>l2Leafy_spec n.rd (λx M=>gE (hF x M) n.same.size) n.dcl hD Y l m (by rcases T with T|T<;>omega) O) λR p3 tv t y ag ar ht X=>?_;obtain⟨cs,rfl,U⟩:=ht.cells;refine y.fin (p0:=p) (c:=Jg d) ?_ U X S;rcases T with T|T
  ·omega
  ·have:=hz T;omega
 refine zo (λu w'=> ∃p',u=[]/\Dw F D w b w.heap.size v dv xs ds w' p'/\p'<=p+1/\1<=deep) (λC hC=>?_) ?_
 ·simp only[push_cast];refine zb (λa=>?_) (λa=>?_)
  ·refine G h1 oM (by
    by_cases h0:d=0
    ·subst h0;left;rfl
    ·right;omega) ?_ (λ_=>rfl)
   by_cases h0:d=0
   ·exact .inr h0
   ·left;omega
  ·have V:1<=d:=oM;have aa:Jg d=4*Jg (d-1):=by
    obtain⟨e,rfl⟩:∃e,d=e+1:=⟨d-1,oM⟩;exact cost_succ e
   have a4:=cost_ge (d-1);refine zb (λc=>?_) (λc=>?_)
   ·refine h1.pick oM oM λw2 k n av O _=>?_;simp only[push_cast];refine zb (λe=>?_) (λe=>?_)
    ·exact G n oM (.inr oM) (.inl oM) oM
    ·exact hC _ _ ⟨p+1,rfl,n,oM,oM⟩
   ·exact hC _ _ ⟨p,rfl,h1,oM,oM⟩
 rintro u g w2 ⟨p2,rfl,n,Z,ac⟩;have V:1<=d:=oM
 obtain⟨J,ab⟩:∃J,d=J+1:=⟨d-1,oM⟩;have aa:Jg d=4*Jg J:=by rw[ab,cost_succ]
 have a4:=cost_ge J;have e1:IntKind.i64.wrap (deep-1)=deep-1:=zj oM oM;have f:∀{w2:World} {p2:Nat} {s:Int} {K':oK},Dw F D w b w.heap.size v dv xs ds w2 p2->0<=s->s<=4->p2+Jg J<1099511627776->(∀R p3 tv t,Dw F D w b w.heap.size v dv xs ds R p3->Same (· =b) w2 R->p3<=p2+Jg J->TermR (Nw w.heap.size) R tv t->t.ks.length<=3->K' tv R)->
   vcall Z5 #[oP b 0,dv,nI s,nI (deep-1)] w2 K':=λn l m Z a8=>
  n.sub (λK' O=>hT J oM n.rd (λx M=>gE (hF x M) n.same.size) n.dcl hD (λx M=>gE (hD1 x M) n.same.size) Y l m oM oM Z O) a8
 refine n.pick oM oM λR k y ag O _=>?_;have aq:=O oM;simp only[push_cast,e1];refine zb (λa=>?_) (λa=>?_)
 ·refine f y oM oM oM λw4 p4 N t0 h4 Q ae j _=>?_;refine f h4 l m oM λw5 p5 a7 t1 z H au I _=>?_;refine f z l m oM λw6 p6 aw t2 q r L ah _=>?_;refine kids3 (z.keep (h4.keep j H) r) (z.keep I r) ah λw7 sa B a6 i=>?_;have A:=q.ext B;simp only[push_cast];exact A.fin (p0:=p) oM (TmR.of (t:= .mk 23 0 0 _ [t0,t1,t2]) (q.tms i)) (Gh rfl) S
 refine zb (λa0=>?_) (λa0=>?_)
 ·refine y.sub (c:=2*Jg J+10) (λK' O=>l2Asks_spec (hT J oM) y.rd (λx M=>gE (hF x M) y.same.size) y.dcl hD (λx M=>gE (hD1 x M) y.same.size) Y ac oM oM oM O) λw4 p4 tv t h4 Q ae ht X=>?_;obtain⟨cs,rfl,U⟩:=ht.cells;exact h4.fin (p0:=p) oM U X S
 refine zb (λa1=>?_) (λa1=>?_)
 ·rw[zj (x:=5-sort) oM oM];refine y.pick oM oM λw4 k4 h4 Q ad a5=>?_;have ai:sort+(k4:Int)<=4:=by
   by_cases hn:1<=5-sort
   ·have:=ad hn;omega
   ·have:=a5 oM;omega
  simp only[push_cast];rw[zj (x:=sort+(k4:Int)) oM oM,zj (x:=sort+(k4:Int)-sort) oM oM,zj (x:=sort+(k4:Int)-sort+1) oM oM];refine h4.pick oM oM λw5 k5 z H o _=>?_;have E:=o oM;simp only[push_cast];refine f z oM ai oM λw6 p6 N t0 q r L j _=>?_;refine zG0 j λw7 sa B a6 i=>?_;have A:=q.ext B;simp only[push_cast];exact A.fin (p0:=p) oM (TmR.of (t:= .mk 22 _ _ _ [t0]) (q.tms i)) (Gh rfl) S
 refine zo (λu w'=>u=[]/\w'=R) (λC hC=>?_) ?_
 ·refine zo (λu w'=>u=[.bool (decide (k=2/\1<sort))]/\w'=R) (λC' a3=>?_) ?_
  ·try simp only[push_cast]
   refine zb (λc=>?_) (λc=>?_)
   ·refine a3 _ _ ⟨?_,rfl⟩;have c':k=2:=oM;simp only[c',true_and]
   ·exact a3 _ _ ⟨by rw[decide_eq_false oM],rfl⟩
  rintro u g w4 ⟨rfl,rfl⟩;simp only[push_cast];refine zb (λc=>?_) (λc=>?_)
  ·rw[zj (x:=sort-1) oM oM];refine y.pick oM oM λw5 k5 z H o _=>?_;have E:=o oM
   try simp only[push_cast]
   rw[zj (x:=1+(k5:Int)) oM oM];refine f z oM oM oM λw6 p6 N t0 q r L j _=>?_
   try simp only[push_cast]
   rw[zj (x:=sort-(1+(k5:Int))) oM oM];refine f q oM oM oM λw7 p7 a7 t1 A a2 af I _=>?_;refine kids2 (q.keep j a2) I λw8 sa W aj i=>?_;have h8:=A.ext W;simp only[push_cast];exact h8.fin (p0:=p) oM (TmR.of (t:= .mk 14 0 0 _ [t0,t1]) (A.tms i)) (Gh rfl) S
  ·exact hC _ _ ⟨rfl,rfl⟩
 rintro u g w4 ⟨rfl,rfl⟩
 try simp only[push_cast]
 refine zb (λc=>?_) (λc=>?_)
 ·refine y.pick oM oM λw5 k5 z H o _=>?_;have E:=o oM
  try simp only[push_cast]
  rw[zj (x:=1+(k5:Int)) oM oM];refine f z l m oM λw6 p6 N t0 q r L j _=>?_;refine zG0 j λw7 sa B a6 i=>?_;have A:=q.ext B;simp only[push_cast];exact A.fin (p0:=p) oM (TmR.of (t:= .mk _ 0 0 _ [t0]) (q.tms i)) (Gh rfl) S
 ·refine y.pick oM oM λw5 k5 z H o _=>?_;have E:=o oM
  try simp only[push_cast]
  rw[zj (x:=3+(k5:Int)) oM oM];refine f z l m oM λw6 p6 N t0 q r L j _=>?_;refine f q l m oM λw7 p7 a7 t1 A a2 af I _=>?_;refine kids2 (q.keep j a2) I λw8 sa W aj i=>?_;have h8:=A.ext W;simp only[push_cast];exact h8.fin (p0:=p) oM (TmR.of (t:= .mk _ 0 0 _ [t0,t1]) (A.tms i)) (Gh rfl) S
theorem l2Term_spec:∀d,d<=9->Q3 d:=by
 intro d;induction d using Nat.strongRecOn with
 |_ d b=>intro a;exact l2Term_step a λe he=>b e he oM
theorem dok_sized {ds:List M.Dcl} (h:Dok ds):y00 ds:=λi hi=>by have:=(h.2 i hi).2.2;omega
theorem l2Some_spec {b p:Nat} {v dv:Value} {xs:List Nat} {ds:List M.Dcl} {sort:Int} (h:RdR F w b v xs p) (hF:∀x,F x->x<w.heap.size) (Z:DclsR D w dv ds) (hD:∀x,D x->x≠b) (hD1:∀x,D x->x<w.heap.size) (k:Dok ds) (r:0<=sort) (s:sort<=4)
  (hp:p+200000<1099511627776) (N:yz0 K F w b p 200000 v xs):vcall Wy #[oP b 0,dv,nI sort] w K:=by
 refine zf {loops:=[(2,[7])]} Tryz.func28 ?_;refine Dw.begin h hF Z hD hD1 λw1 V=>?_;have A:Jg 4=25600:=rfl;refine vloop_up 4 (λi u w'=> ∃S,u=[nI (4-(i:Int))]/\Dw F D w b w.heap.size v dv xs ds w' S/\S<=p+25600*i) ⟨p,rfl,V,oM⟩ ?_;rintro i _ _ w2 C hi ⟨p2,rfl,e,a0⟩ X;have hold:=e.old;have Q:=e.new;simp only[push_cast];refine zb (λa=>?_) (λa=>?_)
 ·refine e.sub (c:=Jg 4) (λU B=>l2Term_spec 4 oM e.rd (λx l=>gE (hF x l) e.same.size) e.dcl hD (λx l=>gE (hD1 x l) e.same.size) k r s oM oM oM B) λJ T tv t z G E H j=>?_;obtain⟨cs,rfl,d⟩:=H.cells;have o:=d.weaken (F':=λx=>Nw w.heap.size x/\x<J.heap.size) λx l hl=>⟨l,hl⟩;refine zi zp λb2 w4 Y q R W=>?_;refine stTerm W rfl (o.ext q) λw5 I _ L=>?_;have f:Ext J w5:=Ext.then q I λy hy=>by subst hy;omega
  have O:aggB za cs.length=true:=by rw[zU d];exact zc
  rw[L.ldAgg (t:=za) O];have m:=z.ext f;refine spec_TermSort_spec (dok_sized k) m.dcl (d.ext f).term λw6 g=>?_;have n:=m.ext g;simp only[push_cast];refine zb (λc=>?_) (λc=>?_)
  ·rw[(L.ext g).ldAgg (t:=za) O];exact n.fin (p0:=p) oM ((d.ext f).ext g) j N
  ·rw[zj oM oM,show 4-(i:Int)-1=4-((i+1:Nat):Int) by omega];exact X oM _ _ ⟨T,rfl,n,oM⟩
 ·refine e.sub (c:=100) (λU B=>l2Leafy_spec e.rd (λx l=>gE (hF x l) e.same.size) e.dcl hD k r s oM B) λJ T tv t z G E H j=>?_;obtain⟨cs,rfl,d⟩:=H.cells;exact z.fin (p0:=p) oM d j N
end
end Go.Proofs.YtiglcianecnchaaGreatDoor
end
