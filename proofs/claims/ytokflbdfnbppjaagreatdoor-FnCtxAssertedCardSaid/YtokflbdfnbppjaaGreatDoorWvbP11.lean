import Derived.Test.YtokflbdfnbppjaaGreatDoorWvbP10
/- A part of the proof. -/
set_option linter.all false
section
namespace Go.M
def Jr (v:Nat->Bool) (l:Int):Bool:=if 0<l then v l.natAbs else !v l.natAbs
def clT (v:Nat->Bool) (cl:List Int):Prop:= ∃l,l∈cl/\Jr v l=true
def Kt0 (v:Nat->Bool) (c:Cnf):Prop:=∀cl,cl∈c.list->clT v cl
def Flw (c:Cnf) (cl:List Int):Prop:=∀v,Kt0 v c->clT v cl
theorem litT_neg {v:Nat->Bool} {l:Int} (h:l≠0):Jr v (-l)= !Jr v l:=by
 unfold Jr;rw[GA];by_cases a:0<l
 ·rw[if_neg oM,if_pos a]
 ·rw[if_pos oM,if_neg a,Bool.not_not]
structure FairS (many:Nat) (c:Cnf) (s:Sat):Prop where
 ok:satOk many c s
 flw:∀cl,cl∈s.learned->Flw c cl
 dec:∀k,k<s.put.length->s.why.getD k 0= -1->s.put.getD k 0<0/\∀u,1<=u->u<(s.put.getD k 0).natAbs->∃l,l∈s.put.take k/\l.natAbs=u
 yes:s.code=1->s.put.length=many/\∀cl,cl∈c.list->¬X9 s.put cl
 no:s.code=2->∀v,¬Kt0 v c
variable {many:Nat} {c:Cnf} {s:Sat} {v:Nat->Bool}
theorem FairS.flwAt (h:FairS many c s) {k:Nat} (a:k<c.list.length+s.learned.length):Flw c (atM c s k):=
 (gj.1 (XN0 a)).elim (λhm v b=>b _ hm) (h.flw _)
theorem FairS.trail (h:FairS many c s) (x:Kt0 v c) (j:Nat):j<s.put.length->(∀i,i<=j->s.why.getD i 0= -1->Jr v (s.put.getD i 0)=true)->Jr v (s.put.getD j 0)=true:=by
 induction j using Nat.strongRecOn with
 |ind j y=>
  intro A n;have hlen:=h.ok.len;rcases h.ok.why j oM with e|⟨a,b,e⟩
  ·exact n j (gq _) e
  obtain⟨l,w,o⟩:=h.flwAt (k:=(s.why.getD j 0).toNat) oM v x;obtain⟨z,t⟩:=(impl_iff h.ok.mks).1 e;by_cases f:l=s.put.getD j 0
  ·rw[<-f];exact o
  ·have g:=t l w f;obtain⟨i,u,d⟩:=gl g;simp only[gi] at u;rw[pc] at d;have m:=y i oM oM λq B=>n q oM;rw[q0,Q1 oM,gI,d] at m;have r:l≠0:=λp=>h.ok.mks.zero (by rw[p] at g;exact gX g);rw[litT_neg r,o] at m;cases m
theorem joinM_flw {many:Nat} {c:Cnf} {s:Sat} (h:FairS many c s) (g:c.many=many) {cl:List Int} (hF:Fls s.put cl) (hs:Srt cl) (f:2<=(Xp0 s.put (qD s.why) cl).length) (q:Flw c cl):Flw c (X8 many c s cl):=by
 intro v n;have m:=topOf_tops (put:=s.put) (ds:=qD s.why) (srt_nodup hs);have j:cl≠[]:=λe=>by subst e;simp[Xp0] at f
 have w:=lastPl_pos hF j;obtain⟨k,i⟩:∃k,ji s.put cl=k+1:=⟨ji s.put cl-1,oM⟩;obtain⟨hm,-⟩:=learn_join h.ok g hF m f i;obtain⟨o,a2,a3,a4,-⟩:=last_reason h.ok hF m f i;have e:X8 many c s cl=qM0 many cl (atM c s (s.why.getD k 0).toNat) (s.put.getD k 0).natAbs:=by unfold X8;rw[i];rfl
 rw[e];obtain⟨l,t,a⟩:=q v n;obtain⟨r,u,d⟩:=h.flwAt (k:=(s.why.getD k 0).toNat) oM v n;have p:s.put.getD k 0≠0:=(h.ok.mks.2 _ (qi o)).1;by_cases b:l= -(s.put.getD k 0)
 ·refine⟨r,(hm r).2 (.inr ⟨u,λe=>?_⟩),d⟩;rw[b,litT_neg p,<-e,d] at a;cases a
 ·exact⟨l,(hm l).2 (.inl ⟨t,b⟩),a⟩
theorem learnM_flw (h:FairS many c s) (a:c.many=many):∀{f:Nat} {cl:List Int},Fls s.put cl->Srt cl->Flw c cl->Flw c (learnM many c s f cl)
 |0,cl,_,_,b=>b
 |f+1,cl,hF,hs,b=>by
  unfold learnM;by_cases d:(Xp0 s.put (qD s.why) cl).length<=1
  ·rw[if_pos d];exact b
  ·rw[if_neg d];obtain⟨e,a2,a3,a4⟩:=learnS_ok h.ok a hF hs oM;exact learnM_flw h a e a2 (joinM_flw h a hF hs oM b)
theorem lvl_zero {ds:List Bool} {i j:Nat} (h:lvl ds i=0) (b:j<=i) (a:j<ds.length):ds.getD j false=false:=by
 unfold lvl at h;rw[List.count_eq_zero] at h;cases e:ds.getD j false with
 |false=>rfl
 |true=>
  refine absurd ?_ h;rw[q0,Q1 a,gI] at e;have:(ds.take (i+1))[j]'(by simp;omega)=true:=by rw[pc];exact e
  rw[<-this];exact Gm _
theorem clash_none (h:FairS many c s) {k:Nat} (r:k<c.list.length+s.learned.length) (p:X9 s.put (atM c s k)) (u:q00 s.put (qD s.why) (atM c s k)=0): ¬Kt0 v c:=by
 intro m;obtain⟨l,g,e⟩:=h.flwAt r v m;have b:=zL0 p l g;have t:=xu b;have a:=(mem_iff_place h.ok.mks.1).1 b;have hle:=placeOf_le s.put (-l).natAbs;have f:lvM s.put (qD s.why) l<=q00 s.put (qD s.why) (atM c s k):=Kl (Ga g);unfold lvM at f;have hlen:=h.ok.len;rw[GA] at t a hle;have d:=h.trail m (placeOf s.put l.natAbs-1) oM λi q hw=>by
  have:=lvl_zero (ds:=qD s.why) (i:=placeOf s.put l.natAbs-1) (j:=i) oM q (by rw[Wr];omega);rw[Qk0 oM,hw] at this;cases this
 rw[a.2] at d;have o:l≠0:=λn=>h.ok.mks.zero (by rw[n] at b;exact b);rw[litT_neg o,e] at d;cases d
theorem qR0 {α:Type} {a:List α} {x d:α} {k:Nat} (h:k<a.length):(a++[x]).getD k d=a.getD k d:=XH h
theorem push_fair (h:FairS many c s) (j:s.code=0) {l y:Int} (b:satOk many c {s with put:=s.put++[l],why:=s.why++[y]}) (i:y= -1->l<0/\∀u,1<=u->u<l.natAbs->∃q,q∈s.put/\q.natAbs=u):FairS many c {s with put:=s.put++[l],why:=s.why++[y]}:=by
 have hlen:=h.ok.len;refine⟨b,h.flw,λk g hw=>?_,λe=>?_,λe=>?_⟩
 ·simp only[k6,gz] at g;by_cases a:k<s.put.length
  ·simp only[qR0 a,gY (Nat.le_of_lt a)] at hw⊢;rw[qR0 oM] at hw;exact h.dec k a hw
  ·have e:k=s.put.length:=oM;subst e;have d:(s.put++[l]).getD s.put.length 0=l:=(by simp);have f:(s.why++[y]).getD s.put.length 0=y:=by rw[hlen];simp
   simp only[d,f,gY (gq _),gA] at hw⊢;exact i hw
 ·simp only at e;omega
 ·simp only at e;omega
theorem clash_fair (h:FairS many c s) (o:s.code=0) (d:c.many=many) {k:Nat} (f:k<c.list.length+s.learned.length) (i:X9 s.put (atM c s k)):FairS many c (Uc many c s (atM c s k)):=by
 have a:=clash_ok h.ok d f i;have hlen:=h.ok.len;unfold Uc at a⊢;split
 ·rename_i g;rw[if_pos g] at a;exact⟨a,h.flw,h.dec,λe=>by simp at e,λ_ v=>clash_none h f i g⟩
 rename_i g;rw[if_neg g] at a;split
 ·rename_i hm;rw[if_pos hm] at a;exact⟨a,h.flw,h.dec,λe=>by simp at e,λe=>by simp at e⟩
 ·rename_i hm;rw[if_neg hm] at a;have l:Flw c (learnM many c s s.put.length (atM c s k)):=learnM_flw h d (zL0 i) (clauseOk_srt (h.ok.atOk f)) (h.flwAt f);generalize learnM many c s s.put.length (atM c s k)=cl at*;generalize backN (qD s.why) (jF0 s.put (qD s.why) cl) s.put.length=n at*;refine⟨a,λx b=>?_,λj m hw=>?_,λe=>?_,λe=>?_⟩
  ·rcases gj.1 b with b|b
   ·exact h.flw x b
   ·rw[gn] at b;subst b;exact l
  ·simp only[gi] at m;simp only[zG0 (show j<n by omega),GI,Gh (show j<=n by omega)] at hw⊢;exact h.dec j oM hw
  ·simp only at e;omega
  ·simp only at e;omega
theorem go_fair (h:FairS many c s) (l:s.code=0) (j:c.many=many):FairS many c (goM many c s):=by
 have g:=go_ok h.ok j;unfold goM at g⊢;rcases find_cases s.put (c.list++s.learned) with⟨i,u,x,n,e,r⟩|⟨t,⟨i,x,n,e,hu,-⟩|⟨e,-⟩⟩
 ·rw[e] at g⊢;simp only[Ph,if_true,gm];rw[k6] at n;exact clash_fair h l j n r
 ·rw[e] at g⊢;simp only[Ph,if_true,show¬(0:Int)<= -1 by omega,if_false] at g⊢;exact push_fair h l g λe=>oM
 ·rw[e] at g⊢;simp only[show¬(0:Int)<= -1 by omega,if_false] at g⊢;split
  ·rename_i k;rw[if_pos k] at g;exact⟨g,h.flw,h.dec,λ_=>⟨k,λcl m=>t cl (gW _ m)⟩,λe=>by simp at e⟩
  ·rename_i k;rw[if_neg k] at g;obtain⟨a,b,d,f⟩:=free_spec h.ok.mks k;refine push_fair h l g λ_=>⟨oM,λu o v=>?_⟩;have p:=f u o oM;obtain⟨w,q⟩:=jc p;exact⟨_,qi (show placeOf s.put u-1<s.put.length by omega),q⟩
theorem JD0 (h:FairS many c s) (a:c.many=many):FairS many c (qy0 many c s):=by
 unfold qy0;split
 ·exact go_fair h (by assumption) a
 ·exact h
theorem run_fair (a:c.many=many):∀{n:Nat} {s:Sat},FairS many c s->FairS many c (runM many c n s)
 |0,_,h=>h
 |n+1,_,h=>run_fair a (n:=n) (JD0 h a)
theorem QV0 (h:cnfOk c=true):FairS many c emptyS:=⟨Qg0 h,by simp[emptyS],by simp[emptyS],by simp[emptyS],by simp[emptyS]⟩
def LexLe (many:Nat) (a b:Nat->Bool):Prop:=(∀u,1<=u->u<=many->a u=b u)\/ ∃d,1<=d/\d<=many/\a d=false/\b d=true/\∀u,1<=u->u<d->a u=b u
def wayM (put:List Int) (u:Nat):Bool:=decide ((u:Int)∈put)
theorem wayM_true {put:List Int} (h:marksOk many put) {l:Int} (a:l∈put):Jr (wayM put) l=true:=by
 unfold Jr wayM;have c:=(h.2 l a).1;by_cases b:0<l
 ·rw[if_pos b,show((l.natAbs:Nat):Int)=l by omega];simpa using a
 ·rw[if_neg b,show((l.natAbs:Nat):Int)= -l by omega];have:=h.neg a;simpa using this
theorem K30 {a b:Nat->Bool} {l:Int} (c:Jr a l=true) (d:Jr b l=true):a l.natAbs=b l.natAbs:=by
 unfold Jr at c d;by_cases e:0<l
 ·rw[if_pos e] at c d;rw[c,d]
 ·rw[if_neg e] at c d;cases f:a l.natAbs<;>cases g:b l.natAbs<;>simp_all
theorem full {put:List Int} (h:marksOk many put) (a:put.length=many) {u:Nat} (c:1<=u) (d:u<=many):placeOf put u≠0:=by
 intro e;have:(u::put.map Int.natAbs).length<=(List.range' 1 many).length:=by
  refine Pw ?_ λx b=>?_
  ·rw[GY];refine⟨λhm=>?_,h.1⟩;obtain⟨l,a,rfl⟩:=gk.1 hm;exact xu a e
  ·rw[Po];rcases gd.1 b with rfl|b
   ·omega
   ·obtain⟨l,a,rfl⟩:=gk.1 b;have:=h.2 l a;omega
 simp at this;omega
theorem FairS.full (h:FairS many c s) (d:s.code=1) {u:Nat} (a:1<=u) (b:u<=many):∃l,l∈s.put/\l.natAbs=u:=by
 obtain⟨f,e⟩:=jc (Go.M.full h.ok.mks (h.yes d).1 a b);have:=Go.M.full h.ok.mks (h.yes d).1 a b;exact⟨_,qi (show placeOf s.put u-1<s.put.length by omega),e⟩
def Least (many:Nat) (c:Cnf) (a:Nat->Bool):Prop:=Kt0 a c/\∀v,Kt0 v c->LexLe many a v
theorem FairS.model (h:FairS many c s) (i:c.many=many) (d:s.code=1):Kt0 (wayM s.put) c:=λcl a=>by
 have b:=(h.yes d).2 cl a;unfold X9 at b;simp only[Classical.not_forall,Classical.not_imp] at b;obtain⟨l,e,f⟩:=b;have k:=YE (xK0 h.ok.cnf a) e;have g:=Go.M.full h.ok.mks (h.yes d).1 (u:=l.natAbs) oM oM;refine⟨l,e,wayM_true h.ok.mks ?_⟩;exact Gr λj=>f ⟨j,g⟩
theorem FairS.least (h:FairS many c s) (r:c.many=many) (w:s.code=1):Least many c (wayM s.put):=by
 refine⟨h.model r w,λv z=>?_⟩;by_cases d:∀j,j<s.put.length->Jr v (s.put.getD j 0)=true
 ·refine .inl λu a b=>?_;obtain⟨l,n,rfl⟩:=h.full w a b;refine K30 (wayM_true h.ok.mks n) ?_;obtain⟨j,f,rfl⟩:=gl n;have:=d j f;rwa[q0,Q1 f,gI] at this
 ·obtain⟨j,⟨f,o⟩,g⟩:∃j,(j<s.put.length/\Jr v (s.put.getD j 0)=false)/\∀i,i<j->Jr v (s.put.getD i 0)=true:=by
   have:∃j,j<s.put.length/\Jr v (s.put.getD j 0)=false:=by
    simp only[Classical.not_forall] at d;obtain⟨j,f,q⟩:=d;exact⟨j,f,by simpa using q⟩
   obtain⟨j,f⟩:=this;induction j using Nat.strongRecOn with
   |ind j A=>
    by_cases x:∃i,i<j/\Jr v (s.put.getD i 0)=false
    ·obtain⟨i,m,q⟩:=x;exact A i m ⟨oM,q⟩
    ·exact⟨j,f,λi m=>by
      cases e:Jr v (s.put.getD i 0) with
      |true=>rfl
      |false=>exact absurd ⟨i,m,e⟩ x⟩
  have hw:s.why.getD j 0= -1:=by
   refine Gr λt=>?_;have:=h.trail z j f λi m hw=>by
    by_cases e:i=j
    ·subst e;exact absurd hw t
    ·exact g i oM
   rw[o] at this;cases this
  obtain⟨d1,d2⟩:=h.dec j f hw;have hm:=qi (put:=s.put) f;have y:=h.ok.mks.2 _ hm;have k:=wayM_true h.ok.mks hm;generalize s.put.getD j 0=p at*;refine .inr ⟨p.natAbs,oM,y.2,?_,?_,λu a b=>?_⟩
  ·unfold Jr at k;rw[if_neg oM] at k;simpa using k
  ·unfold Jr at o;rw[if_neg oM] at o;simpa using o
  ·obtain⟨l,n,rfl⟩:=d2 u a b;refine K30 (wayM_true h.ok.mks (gX n)) ?_;obtain⟨i,m,rfl⟩:=gl n;simp only[gi] at m;have:=g i oM;rw[pc];rwa[q0,Q1 oM,gI] at this
end Go.M
namespace Go.M
end Go.M
namespace Go.M
end Go.M
end
section
namespace Go.M
def gateC (k:Int) (g:Gt):List (List Int):=if g.x then[[g.a,g.b,-k],[-g.a,-g.b,-k],[-g.a,g.b,k],[g.a,-g.b,k]] else[[g.a,-k],[g.b,-k],[-g.a,-g.b,k]]
def gatesC (n:Nat):Gs->Nat->List (List Int)
 |[],_=>[]
 |g::gs,i=>gateC (2+n+i) g++gatesC n gs (i+1)
def netC (n:Nat) (gs:Gs) (xs:List (List Int)):Cnf:=⟨1+n+gs.length,[1]::(gatesC n gs 0++xs)⟩
theorem clT_cons {v:Nat->Bool} {l:Int} {cl:List Int}:clT v (l::cl)↔Jr v l=true\/clT v cl:=by
 unfold clT;simp only[gd,exists_eq_or_imp]
theorem XI0 {v:Nat->Bool}:clT v []↔False:=by unfold clT;simp
theorem gate_says {v:Nat->Bool} {g:Gt} {k:Int} (c:g.a≠0) (d:g.b≠0) (e:k≠0):(∀cl,cl∈gateC k g->clT v cl)↔Jr v k=(if g.x then Jr v g.a != Jr v g.b else Jr v g.a&&Jr v g.b):=by
 unfold gateC;cases g.x
 ·simp only[gF,if_false,List.forall_mem_cons,clT_cons,XI0,litT_neg c,litT_neg d,litT_neg e];cases Jr v g.a<;>cases Jr v g.b<;>cases Jr v k<;>simp
 ·simp only[if_true,List.forall_mem_cons,clT_cons,XI0,litT_neg c,litT_neg d,litT_neg e];cases Jr v g.a<;>cases Jr v g.b<;>cases Jr v k<;>simp
theorem mem_gates {n:Nat} {cl:List Int}:∀{gs:Gs} {i0:Nat},cl∈gatesC n gs i0↔ ∃i,∃h:i<gs.length,cl∈gateC (2+n+(i0+i:Nat)) gs[i]
 |[],i0=>by simp[gatesC]
 |g::gs,i0=>by
  simp only[gatesC,gj,mem_gates (gs:=gs)];constructor
  ·rintro(h|⟨i,a,h⟩)
   ·exact⟨0,by simp,by simpa using h⟩
   ·refine⟨i+1,by simpa using a,?_⟩;rw[show i0+(i+1)=i0+1+i by omega];simpa using h
  ·rintro⟨i,a,h⟩;cases i with
   |zero=>exact .inl (by simpa using h)
   |succ i=>
    refine .inr ⟨i,by simpa using a,?_⟩;rw[show i0+1+i=i0+(i+1) by omega];simpa using h
theorem absI_nat (a:Int):absI a=(a.natAbs:Int):=by unfold absI;split<;>omega
theorem gate_nz {n k:Nat} {g:Gt} (h:xH0 n k g):g.a≠0/\g.b≠0:=by
 obtain⟨d,c,e,f⟩:=h;rw[absI_nat] at d c;rw[absI_nat] at c;omega
theorem lit_eq {v:Nat->Bool} {vals:List Bool} {m:Int} (b:m≠0) (h:v m.natAbs=vals.getD (m.natAbs-1) false):Jr v m=litV vals m:=by
 unfold Jr litV;rw[h];by_cases a:0<m
 ·rw[if_pos a,if_pos a,show m.natAbs-1=(m-1).toNat by omega]
 ·rw[if_neg a,if_neg a,show m.natAbs-1=(-m-1).toNat by omega]
def insV (v:Nat->Bool) (n:Nat):List Bool:=(List.range n).map λi=>v (i+2)
theorem insV_len (v:Nat->Bool) (n:Nat):(insV v n).length=n:=by unfold insV;rw[X0,Gz]
theorem Qw {v:Nat->Bool} {n i:Nat} (h:i<n):(insV v n).getD i false=v (i+2):=by
 unfold insV;rw[q0,Gk,GW h];rfl
theorem Q40 {α:Type} {a b:List α} {i:Nat} {d:α} (h:a<+:b) (c:i<a.length):b.getD i d=a.getD i d:=by
 obtain⟨t,rfl⟩:=h;rw[q0,gy c,<-q0]
theorem Z30 {ins:List Bool} {gs:Gs} {i:Nat} (a:i<ins.length):(valsG (true::ins) gs).getD (i+1) false=ins.getD i false:=by
 rw[Q40 (valsG_pre gs (true::ins)) (by simpa using a),GB]
theorem zs0 {ins:List Bool} {gs:Gs}:(valsG (true::ins) gs).getD 0 false=true:=by
 rw[Q40 (valsG_pre gs (true::ins)) (by simp)];rfl
def Follows (v:Nat->Bool) (n:Nat) (gs:Gs):Prop:=∀k,k<1+n+gs.length->v (k+1)=(valsG (true::insV v n) gs).getD k false
theorem Follows.lit {v:Nat->Bool} {n:Nat} {gs:Gs} (h:Follows v n gs) {m:Int} (hm:has (1+n+gs.length) m):Jr v m=litV (valsG (true::insV v n) gs) m:=by
 obtain⟨a,b,c⟩:=hm;refine lit_eq a ?_;have:=h (m.natAbs-1) oM;rwa[show m.natAbs-1+1=m.natAbs by omega] at this
theorem net_follows {v:Nat->Bool} {n:Nat} {gs:Gs} (j:NetG n gs):(v 1=true/\∀cl,cl∈gatesC n gs 0->clT v cl)↔Follows v n gs:=by
 have g:∀i:Nat,(2+(n:Int)+((0+i:Nat):Int))≠0:=λi=>oM
 have e:∀i:Nat,Jr v (2+(n:Int)+((0+i:Nat):Int))=v (2+n+i):=λi=>by
  unfold Jr;rw[if_pos oM];congr 1;omega
 constructor
 ·rintro⟨p,q⟩ k;induction k using Nat.strongRecOn with
  |ind k o=>
   intro t;rcases(by omega:k=0\/(1<=k/\k<=n)\/1+n<=k) with rfl|⟨r,s⟩|r
   ·rw[zs0];exact p
   ·obtain⟨i,rfl⟩:∃i,k=i+1:=⟨k-1,oM⟩;rw[Z30 (by rw[insV_len];omega),Qw oM]
   ·obtain⟨i,rfl⟩:∃i,k=1+n+i:=⟨k-1-n,oM⟩;have d:i<gs.length:=oM;have c:=j.gate i d;obtain⟨na,nb⟩:=gate_nz c;have hs:=(gate_says (v:=v) na nb (g i)).1 λcl f=>q cl (mem_gates.2 ⟨i,d,f⟩);rw[e] at hs;obtain⟨g1,g2,g3,_⟩:=c;rw[absI_nat] at g1 g2;rw[absI_nat] at g2 g3;have ea:=lit_eq (vals:=valsG (true::insV v n) gs) na (by have:=o (gs[i].a.natAbs-1) oM oM;rwa[show gs[i].a.natAbs-1+1=gs[i].a.natAbs by omega] at this);have eb:=lit_eq (vals:=valsG (true::insV v n) gs) nb (by have:=o (gs[i].b.natAbs-1) oM oM;rwa[show gs[i].b.natAbs-1+1=gs[i].b.natAbs by omega] at this);rw[valsG_at (insV_len v n) d (j.gate i d),show 1+n+i+1=2+n+i by omega,hs,ea,eb];rfl
 ·intro h;refine⟨by have:=h 0 oM;rwa[zs0] at this,λcl f=>?_⟩;obtain⟨i,d,hm⟩:=mem_gates.1 f;have c:=j.gate i d;obtain⟨na,nb⟩:=gate_nz c;refine(gate_says (v:=v) na nb (g i)).2 ?_ cl hm;obtain⟨g1,g2,g3,_⟩:=c;rw[absI_nat] at g1 g2;rw[absI_nat] at g2 g3;have l:=h (1+n+i) oM;rw[valsG_at (insV_len v n) d (j.gate i d),show 1+n+i+1=2+n+i by omega] at l;rw[e,l,h.lit (m:=gs[i].a) ⟨na,oM,oM⟩,h.lit (m:=gs[i].b) ⟨nb,oM,oM⟩];rfl
theorem net_sat {v:Nat->Bool} {n:Nat} {gs:Gs} {xs:List (List Int)} (e:NetG n gs):Kt0 v (netC n gs xs)↔Follows v n gs/\∀cl,cl∈xs->clT v cl:=by
 rw[<-net_follows e];unfold Kt0 netC;simp only[gd,gj];constructor
 ·intro h;refine⟨⟨?_,λcl a=>h cl (.inr (.inl a))⟩,λcl a=>h cl (.inr (.inr a))⟩;have:=h [1] (.inl rfl);rw[clT_cons,XI0] at this;simpa[Jr] using this
 ·rintro⟨⟨b,c⟩,d⟩ cl (rfl|a|a)
  ·rw[clT_cons];exact .inl (by simpa[Jr] using b)
  ·exact c cl a
  ·exact d cl a
def V60 (ins:List Bool) (gs:Gs) (u:Nat):Bool:=(valsG (true::ins) gs).getD (u-1) false
theorem wayG_ins {ins:List Bool} {gs:Gs}:insV (V60 ins gs) ins.length=ins:=by
 refine Ge (insV_len _ _) λi b a=>?_;have:=Qw (v:=V60 ins gs) (n:=ins.length) (i:=i) a;rw[q0,Q1 b] at this;rw[show(insV (V60 ins gs) ins.length)[i]=V60 ins gs (i+2) from this];unfold V60;rw[show i+2-1=i+1 by omega,Z30 a,q0,Q1 a];rfl
theorem Yq0 {ins:List Bool} {gs:Gs} {n:Nat} (a:ins.length=n):Follows (V60 ins gs) n gs:=λk b=>by
 subst a;rw[wayG_ins];rfl
theorem gatesC_len {n:Nat}:∀(gs:Gs) (i:Nat),(gatesC n gs i).length<=4*gs.length
 |[],_=>by simp[gatesC]
 |g::gs,i=>by
  have:=gatesC_len (n:=n) gs (i+1);simp only[gatesC,k6,gw];have:(gateC (2+n+i) g).length<=4:=by unfold gateC;split<;>simp
  omega
theorem clause_iff {m:Int} {xs:List Int}:qq m xs=true↔ ∀k,k<xs.length->yU0 m (xs.getD k 0)=true/\(k=0\/(xs.getD (k-1) 0).natAbs<(xs.getD k 0).natAbs):=by
 unfold qq Uv0;simp only[gH,gr,K3,gQ,beq_iff_eq,decide_eq_true_eq]
theorem gate_clause {n k:Nat} {g:Gt} {m:Int} (h:xH0 n k g) (hm:2+n+k<=m) {cl:List Int} (c:cl∈gateC (2+n+k) g):qq m cl=true:=by
 obtain⟨g1,g2,g3,_⟩:=h;rw[absI_nat] at g1 g2;rw[absI_nat] at g2 g3;have three:∀{p q r:Int},p.natAbs=g.a.natAbs->q.natAbs=g.b.natAbs->r.natAbs=2+n+k->qq m [p,q,r]=true:=λ{p q r} e i f=>by
  rw[clause_iff];intro j d;rcases(by simpa using d:j<3)|>(λh=>(by omega:j=0\/j=1\/j=2)) with rfl|rfl|rfl
  ·exact⟨by simp[yU0];omega,.inl rfl⟩
  ·exact⟨by simp[yU0];omega,.inr (by simp;omega)⟩
  ·exact⟨by simp[yU0];omega,.inr (by simp;omega)⟩
 have two:∀{p r:Int},(p.natAbs=g.a.natAbs\/p.natAbs=g.b.natAbs)->r.natAbs=2+n+k->qq m [p,r]=true:=λ{p r} e f=>by
  rw[clause_iff];intro j d;rcases(by simpa using d:j<2)|>(λh=>(by omega:j=0\/j=1)) with rfl|rfl
  ·exact⟨by simp[yU0];omega,.inl rfl⟩
  ·exact⟨by simp[yU0];omega,.inr (by simp;omega)⟩
 unfold gateC at c;split at c
 ·simp only[gd,gx,or_false] at c;rcases c with rfl|rfl|rfl|rfl<;>exact three oM oM oM
 ·simp only[gd,gx,or_false] at c;rcases c with rfl|rfl|rfl
  ·exact two (.inl rfl) oM
  ·exact two (.inr rfl) oM
  ·exact three oM oM oM
theorem net_ok {n:Nat} {gs:Gs} {xs:List (List Int)} (l:n<=8) (b:NetG n gs) (g:xs.length<=90) (f:∀cl,cl∈xs->qq (1+n+gs.length:Nat) cl=true):cnfOk (netC n gs xs)=true:=by
 have:=b.few;have hlen:=gatesC_len (n:=n) gs 0;have a:∀cl,cl∈(netC n gs xs).list->qq (netC n gs xs).many cl=true:=λcl h=>by
  unfold netC at h⊢;rcases gd.1 h with rfl|h
  ·rw[clause_iff];intro j e;have:j=0:=(by simpa using e);subst this;exact⟨by simp[yU0];omega,.inl rfl⟩
  ·rcases gj.1 h with h|h
   ·obtain⟨i,d,hm⟩:=mem_gates.1 h;rw[gS] at hm;exact gate_clause (b.gate i d) (by show(2+n+i:Int)<=((1+n+gs.length:Nat):Int);omega) hm
   ·have:=f cl h;exact_mod_cast this
 unfold cnfOk Uv0;simp only[K3,decide_eq_true_eq,gH,gr];refine⟨⟨⟨?_,?_⟩,?_⟩,λk c=>a _ ?_⟩
 ·show(0:Int)<=_;unfold netC;simp only;omega
 ·unfold netC;simp only;omega
 ·unfold netC;simp only[gw,k6];omega
 ·rw[q0,Q1 c];exact Gm c
end Go.M
end
section
namespace Go.M
variable {ds:List Dcl} {env:List Int}
theorem WP0 (ins:List Bool) (F:Gs):Rho (litV (valsG (true::ins) F)):=⟨λm h=>lit_neg _ h,by
 unfold litV;rw[if_pos dC];exact zs0⟩
theorem ins_lit (F:Gs):Ins (litV (valsG (true::insM ds env) F)) ds env:=λi a=>by
 unfold litV;rw[if_pos oM,show((2:Int)+i-1).toNat=i+1 by omega];exact Z30 a
def nIn (ds:List Dcl):Nat:=(bits ds).toNat
theorem nIn_eq (h:declOk ds=true):(nIn ds:Int)=bits ds/\nIn ds<=8:=by
 have:=bits_pos' (dpos h);have:=(decl_iff.1 h).2.2;unfold nIn;omega
theorem insM_n (he:envOk ds env=true):(insM ds env).length=nIn ds:=by
 have a:=(env_ok he).1;have:=insM_len (env_ok he).2.1 (dpos a);have:=(nIn_eq a).1;omega
def listB (ds:List Dcl) (ts:List Tm):Option (Gs×List (List Int)):=(seqB (ts.map (termB ds))).run (nIn ds) []
structure ListSays (ds:List Dcl) (ts:List Tm) (gs:Gs) (rs:List (List Int)):Prop where
 net:NetG (nIn ds) gs
 many:rs.length=ts.length
 has:∀r,r∈rs->hasL (1+nIn ds+gs.length) r
 len:∀i,i<ts.length->(rs.getD i []).length=lenS (sortM ds (ts.getD i default))
 says:∀env,envOk ds env=true->rs.map (λr=>r.map (litV (valsG (true::insM ds env) gs)))=ts.map λu=>Wg (sortM ds u) (evalM ds env u)
theorem nilG (n:Nat):NetG n []:=⟨by simp,λk h=>absurd h (by simp),pk⟩
theorem list_says {ts:List Tm} {gs:Gs} {rs:List (List Int)} (c:declOk ds=true) (hs:∀t,t∈ts->sortM ds t≠ -1) (h:listB ds ts=some (gs,rs)):ListSays ds ts gs rs:=by
 have key:∀env,envOk ds env=true->NetG (nIn ds) gs/\(∀r,r∈rs->hasL (1+nIn ds+gs.length) r)/\rs.map (λr=>r.map (litV (valsG (true::insM ds env) gs)))=ts.map λu=>Wg (sortM ds u) (evalM ds env u):=λenv he=>by
  have l:=nIn_eq c;refine Says.sound (insM_n he) (nilG _) h (GU _) (Q:=λk rs=>(∀r,r∈rs->hasL k r)/\rs.map (λr=>r.map (litV (valsG (true::insM ds env) gs)))=ts.map λu=>Wg (sortM ds u) (evalM ds env u)) ?_;refine seq_sat (k0:=1+nIn ds) (by simp) (λt g {k Q} j f=>?_) (λm rs _ a b=>⟨a,b⟩);exact term_sat (WP0 _ _) he (ins_lit _) t (hs t g) oM f
 obtain⟨a,b⟩:=seq_reach (Bd.reach_of_run h);have e:=key _ (zeroE_ok c);exact⟨e.1,a,e.2.1,λi d=>term_len c _ (hs _ (getD_mem d _)) (b i d),λenv he=>(key env he).2.2⟩
def rootsC (rs:List (List Int)):List (List Int):=rs.map λr=>[r.getD 0 0]
def blastC (ds:List Dcl) (gs:Gs) (rs:List (List Int)):Cnf:=netC (nIn ds) gs (rootsC rs)
def allT (ds:List Dcl) (env:List Int) (ts:List Tm):Prop:=∀t,t∈ts->evalM ds env t=1
section
variable {ts:List Tm} {gs:Gs} {rs:List (List Int)}
theorem head_mem {r:List Int} {w:Int} (h:r.length=lenS w):r.getD 0 0∈r:=getD_mem (by unfold lenS at h;omega) 0
theorem roots_ok (o:declOk ds=true) (h:ListSays ds ts gs rs):∀cl,cl∈rootsC rs->qq (1+nIn ds+gs.length:Nat) cl=true:=λcl a=>by
 obtain⟨r,f,rfl⟩:=gk.1 a;obtain⟨i,g,e⟩:=gl f;have d:=h.len i (by have:=h.many;omega);rw[q0,Q1 g,gI,e] at d;have b:=h.has r f _ (head_mem d);refine clause_iff.2 λk j=>?_;simp only[gz] at j;have c:k=0:=oM
 subst c;refine⟨?_,.inl rfl⟩;show yU0 _ (r.getD 0 0)=true;have l:=b.1;have m:=b.2.1;have n:=b.2.2;unfold yU0;simp only[K3,decide_eq_true_eq];omega
theorem way_true (he:envOk ds env=true) (hs:∀t,t∈ts->sortM ds t=0) (h:ListSays ds ts gs rs) {v:Nat->Bool} (q:Follows v (nIn ds) gs) (w:insV v (nIn ds)=insM ds env):
  (∀cl,cl∈rootsC rs->clT v cl)↔allT ds env ts:=by
 have b:=h.says env he;have m:∀i,i<ts.length->(Jr v ((rs.getD i []).getD 0 0)=true↔evalM ds env (ts.getD i default)=1):=λi a=>by
  have hm:=h.many;have f:=h.len i a;have j:=hs _ (getD_mem a default);have s:=h.has _ (getD_mem (show i<rs.length by omega) []) _ (head_mem f);rw[q.lit s,w];have k:(rs.map (λr=>r.map (litV (valsG (true::insM ds env) gs)))).getD i []=(rs.getD i []).map (litV (valsG (true::insM ds env) gs)):=getD_map (λr:List Int=>r.map (litV (valsG (true::insM ds env) gs))) oM _ _;have n:(ts.map λu=>Wg (sortM ds u) (evalM ds env u)).getD i []=Wg (sortM ds (ts.getD i default)) (evalM ds env (ts.getD i default)):=getD_map (λu=>Wg (sortM ds u) (evalM ds env u)) a _ _;rw[b,n,j,V4] at k;have:=(head_rho k.symm).2;rw[this,decide_eq_true_eq]
 constructor
 ·intro p t x;obtain⟨i,a,e⟩:=gl x;have hm:=h.many;obtain⟨l,f,c⟩:=p [(rs.getD i []).getD 0 0] (gk.2 ⟨_,getD_mem oM [],rfl⟩);rw[gn.1 f] at c;have:=(m i a).1 c;rwa[q0,Q1 a,gI,e] at this
 ·intro o cl d;obtain⟨r,g,rfl⟩:=gk.1 d;obtain⟨i,a,e⟩:=gl g;have hm:=h.many;refine⟨r.getD 0 0,gn.2 rfl,?_⟩;have:=(m i oM).2 (o _ (getD_mem oM default));rwa[show rs.getD i []=r by rw[q0,Q1 a,gI,e]] at this
end
end Go.M
end
namespace Go.Proofs.YtokflbdfnbppjaaGreatDoor
open Go Go.Vc Go.Proofs
section
variable {w:World} {ar ab:Addr}
theorem Errs.ext0 {w':World} (h:Errs (λ_=>False) w ar ab) (he:Ext w w'):Errs (λ_=>False) w' ar ab:=⟨h.room.same he id,h.bits.same he id,id,id⟩
end
section
variable {w:World} {K:Value->World->Prop} {gs:M.Gs} {gv:Value}
theorem Kc0 {w' : World} (hg : OwnG w gv gs) : vbi P .len [zO] ze [gv] w' K = K (.int .i64 gs.length) w' := by
  have h := Own.sl hg
  simp (disch := (simp only [push_cast]; done)) only [h.len, X0]
end
section
variable {gs:M.Gs}
theorem Kb0 {i:Nat} (a:i<gs.length):(gs.map kq).getD i []=kq gs[i]:=by simp[q0,a]
end
end Go.Proofs.YtokflbdfnbppjaaGreatDoor
namespace Go.Proofs.YtokflbdfnbppjaaGreatDoor
open Go Go.Vc Go.Proofs Go.M
section
variable {w:World} {K:Value->World->Prop} {F:Nat->Prop}
theorem variable_spec {l:Int} (b: -9223372036854775807<=l) (c:l<=9223372036854775807) (d:K (.int .i64 l.natAbs) w):vcall P yu #[.int .i64 l] w K:=by
 apply Ku;simp(disch:=omega) only[push_cast];refine zh (λa=>?_) (λa=>?_)
 ·simp(disch:=omega) only[push_cast,zJ];rwa[show 0-l=(l.natAbs:Int) from by omega]
 ·rwa[show l=(l.natAbs:Int) from by omega]
def CnfR (F:Nat->Prop) (w:World) (v:Value) (c:Cnf):Prop:= ∃lv,v= .agg #[.int .i64 c.many,lv]/\Lists F w lv c.list
end
section
variable {w:World} {Fr F':Nat->Prop} {N:Nat} {c:Cnf}
structure RowsR (N:Nat) (Fr:Nat->Prop) (w:World) (ls:List Value) (xss:List (List Int)):Prop where
 nle:N<=w.heap.size
 own:∀i,i<xss.length->OwnI P zr w (ls.getD i undef) (xss.getD i [])
 sub:∀i b,i<xss.length->(ls.getD i undef).ownBlock=some b->Fr b/\N<=b
 dj:∀i j b,i<j->j<xss.length->(ls.getD i undef).ownBlock=some b->(ls.getD j undef).ownBlock≠some b
section
variable {ls:List Value} {xss:List (List Int)} {w':World} {S F':Nat->Prop} {N:Nat}
theorem RowsR.same (h:RowsR N Fr w ls xss) (hw:Same S w w') (hF:∀x,Fr x->x<w.heap.size->¬S x):RowsR N Fr w' ls xss:=
 ⟨Gc h.nle hw.size,λi a=>(h.own i a).same hw λb c=>hF b (h.sub i b a c).1 ((h.own i a).lt c),h.sub,h.dj⟩
theorem RowsR.ext (h:RowsR N Fr w ls xss) (hw:Ext w w'):RowsR N Fr w' ls xss:=h.same hw λ_ _ _ h=>h
theorem RowsR.weaken (h:RowsR N Fr w ls xss) (hF:∀b,Fr b->N<=b->b<w.heap.size->F' b):RowsR N F' w ls xss:=
 ⟨h.nle,h.own,λi b c a=>⟨hF b (h.sub i b c a).1 (h.sub i b c a).2 ((h.own i c).lt a),(h.sub i b c a).2⟩,h.dj⟩
theorem RowsR.int (h:RowsR N Fr w ls xss) {i:Nat} (a:i<xss.length):Ints Fr w (ls.getD i undef) (xss.getD i []):=(h.own i a).ints.weaken λb c _=>(h.sub i b a c).1
theorem RowsR.nil (c:N<=w.heap.size):RowsR N Fr w [] []:=⟨c,λi a=>absurd a (by simp),λi b a=>absurd a (by simp),λi j b _ d=>absurd d (by simp)⟩
theorem RowsR.snoc {v:Value} {xs:List Int} (h:RowsR N Fr w ls xss) (q:ls.length=xss.length) (r:OwnI P zr w v xs) (hF:∀b,v.ownBlock=some b->Fr b/\N<=b) (p:∀i b,i<xss.length->(ls.getD i undef).ownBlock=some b->v.ownBlock≠some b):RowsR N Fr w (ls++[v]) (xss++[xs]):=by
 have g:∀i,i<(xss++[xs]).length->(i<xss.length/\(ls++[v]).getD i undef=ls.getD i undef/\(xss++[xs]).getD i []=xss.getD i [])\/(i=xss.length/\(ls++[v]).getD i undef=v/\(xss++[xs]).getD i []=xs):=λi l=>by
  simp only[k6,gz] at l;by_cases e:i<xss.length
  ·exact .inl ⟨e,XH oM,XH e⟩
  ·have c:i=xss.length:=oM;exact .inr ⟨c,by rw[c,<-q];simp,by rw[c];simp⟩
 refine⟨h.nle,λi l=>?_,λi b l d=>?_,λi j b m o d=>?_⟩
 ·rcases g i l with⟨a,c,k⟩|⟨a,c,k⟩
  ·rw[c,k];exact h.own i a
  ·rw[c,k];exact r
 ·rcases g i l with⟨a,c,k⟩|⟨a,c,k⟩
  ·rw[c] at d;exact h.sub i b a d
  ·rw[c] at d;exact hF b d
 ·rcases g i oM with⟨a,c,k⟩|⟨a,c,k⟩
  ·rw[c] at d;rcases g j o with⟨n,f,_⟩|⟨n,f,_⟩
   ·rw[f];exact h.dj i j b m n d
   ·rw[f];exact p i b a d
  ·simp only[k6,gz] at o;omega
end
structure CnfO (N:Nat) (w:World) (lv:Value) (ls:List Value) (c:Cnf):Prop where
 lst:OwnV P ya w lv ls
 len:ls.length=c.list.length
 dl:∀b,lv.ownBlock=some b->N<=b
 rows:RowsR N (λb=>lv.ownBlock≠some b) w ls c.list
theorem CnfO.cnf {lv:Value} {ls:List Value} (h:CnfO N w lv ls c):CnfR (λb=>N<=b) w (.agg #[.int .i64 c.many,lv]) c:=
 ⟨lv,rfl,ls,h.len,h.lst.vals.weaken λb a _=>h.dl b a,λi d=>(h.rows.own i d).ints.weaken λb a _=>(h.rows.sub i b d a).2⟩
theorem CnfO.same {lv:Value} {ls:List Value} {S:Nat->Prop} {w':World} (h:CnfO N w lv ls c) (hw:Same S w w') (e:∀b,N<=b->b<w.heap.size->¬S b):CnfO N w' lv ls c:=
 ⟨h.lst.same hw λb a=>e b (h.dl b a) (h.lst.lt a),h.len,h.dl,⟨Gc h.rows.nle hw.size,λi d=>(h.rows.own i d).same hw λb a=>e b (h.rows.sub i b d a).2 ((h.rows.own i d).lt a),h.rows.sub,h.rows.dj⟩⟩
theorem CnfO.ext {lv:Value} {ls:List Value} {w':World} (h:CnfO N w lv ls c) (hw:Ext w w'):CnfO N w' lv ls c:=h.same hw λ_ _ _ h=>h
theorem CnfO.down {lv:Value} {ls:List Value} {M:Nat} (h:CnfO N w lv ls c) (d:M<=N):CnfO M w lv ls c:=
 ⟨h.lst,h.len,λb a=>Gc d (h.dl b a),⟨Gc d h.rows.nle,h.rows.own,λi b e a=>⟨(h.rows.sub i b e a).1,Gc d (h.rows.sub i b e a).2⟩,h.rows.dj⟩⟩
end
end Go.Proofs.YtokflbdfnbppjaaGreatDoor
namespace Go.Proofs.YtokflbdfnbppjaaGreatDoor
open Go Go.Vc Go.Proofs
section
variable {w:World} {K:Value->World->Prop} {D F F' G Fr X:Nat->Prop} {n m N bl bc mb bb:Nat} {gs hs:M.Gs} {v:Value} {ls ls':List Value} {xss yss:List (List Int)} {xs:List Int} {t:M.Tm} {ar ab:Addr} {k:Int}
theorem RowsR.app (h:RowsR N Fr w ls xss) (r:ls.length=xss.length) (n:RowsR N Fr w ls' yss) (s:ls'.length=yss.length) (q:∀i j b,i<xss.length->j<yss.length->(ls.getD i undef).ownBlock=some b->(ls'.getD j undef).ownBlock≠some b):
  RowsR N Fr w (ls++ls') (xss++yss):=by
 have g1:∀{α:Type} {a b:List α} {d:α} {i:Nat},i<a.length->(a++b).getD i d=a.getD i d:=λh=>by simp[q0,gy h]
 have g2:∀{α:Type} {a b:List α} {d:α} {i:Nat},a.length<=i->(a++b).getD i d=b.getD (i-a.length) d:=λh=>by simp[q0,gO h]
 have sp:∀i,i<(xss++yss).length->(i<xss.length/\(ls++ls').getD i undef=ls.getD i undef/\(xss++yss).getD i []=xss.getD i [])\/(xss.length<=i/\i-xss.length<yss.length/\(ls++ls').getD i undef=ls'.getD (i-xss.length) undef/\(xss++yss).getD i []=yss.getD (i-xss.length) []):=λi l=>by
  rw[k6] at l;by_cases c:i<xss.length
  ·exact .inl ⟨c,g1 oM,g1 c⟩
  ·exact .inr ⟨oM,oM,by rw[g2 oM,r],g2 oM⟩
 refine⟨h.nle,λi l=>?_,λi b l f=>?_,λi j b o p f=>?_⟩
 ·rcases sp i l with⟨a,e,g⟩|⟨a,a2,e,g⟩
  ·rw[e,g];exact h.own i a
  ·rw[e,g];exact n.own _ a2
 ·rcases sp i l with⟨a,e,g⟩|⟨a,a2,e,g⟩
  ·rw[e] at f;exact h.sub i b a f
  ·rw[e] at f;exact n.sub _ b a2 f
 ·rcases sp i oM with⟨a,e,g⟩|⟨a,a2,e,g⟩
  ·rw[e] at f;rcases sp j p with⟨c,k,m⟩|⟨c,c2,k,m⟩
   ·rw[k];exact h.dj i j b o c f
   ·rw[k];exact q i _ b a c2 f
  ·rw[e] at f;rcases sp j p with⟨c,k,m⟩|⟨c,c2,k,m⟩
   ·omega
   ·rw[k];exact n.dj _ _ b oM c2 f
theorem RowsR.new {w0:World} {r:Value} (h:RowsR N Fr w0 ls xss) (f:ls.length=xss.length) (hw:Ext w0 w) (g:OwnI P zr w r xs) (c:∀b,r.ownBlock=some b->w0.heap.size<=b) (hF:∀b,r.ownBlock=some b->Fr b):RowsR N Fr w (ls++[r]) (xss++[xs]):=
 RowsR.snoc (h.ext hw) f g (λb a=>⟨hF b a,Gc h.nle (c b a)⟩) λi b d a e=>by
  have:=(h.own i d).lt a;have:=c b e;omega
theorem lit_ints {us:List Int} {xs:List Value} (a:xs=us.map λx=>Value.int .i64 x) (f:us.length<=8) (d:∀w' b,b=w.heap.size->Ext w w'->w'.heap.size=w.heap.size+1->OwnI P zr w' (.slice (some ⟨b,0,none⟩) us.length us.length) us->K (.slice (some ⟨b,0,none⟩) us.length us.length) w'):
  vbuildS P zr xs.length (xs.zipIdx.map λp=>(p.2,p.1)) w K:=by
 have hlen:xs.length=us.length:=by rw[a,X0]
 refine vbuildS_row1 Jh YV X5 (λx h=>by subst a;obtain⟨y,_,rfl⟩:=gk.1 h;rfl) oM λb w' e he hs c=>?_;rw[hlen];refine d w' b e he hs ?_;unfold OwnI OwnV;rw[<-a];exact Blk.own1 (P:=P) (t:=zr) (cs:=xs) (by rw[ZH0];exact c) (Gj _) hlen.symm hlen.symm oM
theorem lit_lists {xs:List Value} (f:∀x,x∈xs->∃o l c,x= .slice o l c) (g:xs.length<=8) (d:∀w' b,b=w.heap.size->Ext w w'->w'.heap.size=w.heap.size+1->OwnV P ya w' (.slice (some ⟨b,0,none⟩) xs.length xs.length) xs->K (.slice (some ⟨b,0,none⟩) xs.length xs.length) w'):
  vbuildS P ya xs.length (xs.zipIdx.map λp=>(p.2,p.1)) w K:=by
 refine vbuildS_row1 Jx0 zn0 Jh0 (λx h=>by obtain⟨o,l,c,rfl⟩:=f x h;rfl) oM λb w' e he hs a=>?_;exact d w' b e he hs (Blk.own1 (P:=P) (t:=ya) (cs:=xs) (by rw[W70];exact a) (Gj _) rfl rfl oM)
structure Fresh (N:Nat) (w:World) (v:Value) (ls:List Value) (xss:List (List Int)):Prop where
 own:OwnV P ya w v ls
 len:ls.length=xss.length
 new:∀b,v.ownBlock=some b->N<=b
 rows:RowsR N (λb=>v.ownBlock≠some b) w ls xss
theorem neg_wrap {x:Int} (h:x.natAbs<=100000):IntKind.i64.wrap (0-x)= -x:=by rw[zJ oM oM];omega
theorem Gate_clauses_spec {g:M.Gt} (s:g.a.natAbs<=100000) (h:g.b.natAbs<=100000) (t:k.natAbs<=100000) (J:∀w' v ls,Ext w w'->Fresh w.heap.size w' v ls (M.gateC k g)->K v w'):vcall P Zs #[gv g,.int .i64 k] w K:=by
 apply zi0;refine zx (cs:=kq g) λb1 w1 W D X f=>?_;simp(disch:=first|(simp only[push_cast])|omega) only[push_cast,kq,f.ld0,f.ld1,f.ld2,neg_wrap s,neg_wrap h,neg_wrap t];have z1:=D.size;have lit:∀{n:Nat} {w2:World} {us:List Int} {xs:List Value} {ls:List Value} {xss:List (List Int)} {K:Value->World->Prop},xs=us.map (λx=>Value.int .i64 x)->us.length<=8->Ext w1 w2->RowsR w.heap.size (λb=>b<w2.heap.size) w2 ls xss->ls.length=xss.length->
   (∀q v,Ext w1 q->RowsR w.heap.size (λb=>b<q.heap.size) q (ls++[v]) (xss++[us])->(∃o l c,v= .slice o l c)->K v q)->vbuildS P zr xs.length (xs.zipIdx.map λp=>(p.2,p.1)) w2 K:=λ{n w2 us xs ls xss K} i I he O N J=>by
  refine lit_ints i I λq b3 L d S r=>?_;refine J q _ (he.trans d) (RowsR.new (O.weaken λb V _ _=>oM) N d r (λb h=>?_) λb h=>r.lt h) ⟨_,_,_,rfl⟩;have:b=b3:=(gg h).symm;omega
 have fin:∀{w2:World} {xs:List Value} {xss:List (List Int)},xs.length<=8->xs.length=xss.length->(∀x,x∈xs->∃o l c,x= .slice o l c)->Ext w1 w2->RowsR w.heap.size (λb=>b<w2.heap.size) w2 xs xss->xss=M.gateC k g->vbuildS P ya xs.length (xs.zipIdx.map λp=>(p.2,p.1)) w2 K:=λ{w2 xs xss} I N i he O T=>by
  refine lit_lists i I λq b3 L d S r=>?_;have z2:=he.size;refine J q _ xs (D.trans (he.trans d)) ⟨r,by rw[<-T];exact N,λb h=>?_,?_⟩
  ·have:b=b3:=(gg h).symm;omega
  ·rw[<-T];exact(O.ext d).weaken λb V _ _ e=>by
    have:b3=b:=gg e;omega
 refine zI (λi=>?_) (λi=>?_)
 ·refine lit (n:=3) (xs:=[.int .i64 g.a,.int .i64 g.b,.int .i64 (-k)]) (us:=[g.a,g.b,-k]) rfl (by simp) (Same.refl _ _) (RowsR.nil oM) rfl λw2 v2 j u A=>?_;have F:=f.ext j
  try simp(disch:=first|(simp only[push_cast])|omega) only[push_cast,F.ld1,F.ld2,neg_wrap s,neg_wrap h,neg_wrap t]
  refine lit (n:=3) (xs:=[.int .i64 (-g.a),.int .i64 (-g.b),.int .i64 (-k)]) (us:=[-g.a,-g.b,-k]) rfl (by simp) j u rfl λq v3 d y B=>?_;have G:=f.ext d
  try simp(disch:=first|(simp only[push_cast])|omega) only[push_cast,G.ld1,G.ld2,neg_wrap s,neg_wrap h,neg_wrap t]
  refine lit (n:=3) (xs:=[.int .i64 (-g.a),.int .i64 g.b,.int .i64 k]) (us:=[-g.a,g.b,k]) rfl (by simp) d y rfl λY v4 m z C=>?_;have H:=f.ext m
  try simp(disch:=first|(simp only[push_cast])|omega) only[push_cast,H.ld1,H.ld2,neg_wrap s,neg_wrap h,neg_wrap t]
  refine lit (n:=3) (xs:=[.int .i64 g.a,.int .i64 (-g.b),.int .i64 k]) (us:=[g.a,-g.b,k]) rfl (by simp) m z rfl λZ v5 E Q R=>?_;have U:=f.ext E
  try simp(disch:=first|(simp only[push_cast])|omega) only[push_cast,U.ld1,U.ld2,neg_wrap s,neg_wrap h,neg_wrap t]
  refine fin (xs:=[v2,v3,v4,v5]) (by simp) rfl (λx i=>?_) E Q (by unfold M.gateC;rw[if_pos i];rfl);simp only[gd,gx,or_false] at i;rcases i with rfl|rfl|rfl|rfl
  ·exact A
  ·exact B
  ·exact C
  ·exact R
 ·refine lit (n:=2) (xs:=[.int .i64 g.a,.int .i64 (-k)]) (us:=[g.a,-k]) rfl (by simp) (Same.refl _ _) (RowsR.nil oM) rfl λw2 v2 j u A=>?_;have F:=f.ext j
  try simp(disch:=first|(simp only[push_cast])|omega) only[push_cast,F.ld1,F.ld2,neg_wrap s,neg_wrap h,neg_wrap t]
  refine lit (n:=2) (xs:=[.int .i64 g.b,.int .i64 (-k)]) (us:=[g.b,-k]) rfl (by simp) j u rfl λq v3 d y B=>?_;have G:=f.ext d
  try simp(disch:=first|(simp only[push_cast])|omega) only[push_cast,G.ld1,G.ld2,neg_wrap s,neg_wrap h,neg_wrap t]
  refine lit (n:=3) (xs:=[.int .i64 (-g.a),.int .i64 (-g.b),.int .i64 k]) (us:=[-g.a,-g.b,k]) rfl (by simp) d y rfl λY v4 m z C=>?_;have H:=f.ext m
  try simp(disch:=first|(simp only[push_cast])|omega) only[push_cast,H.ld1,H.ld2,neg_wrap s,neg_wrap h,neg_wrap t]
  refine fin (xs:=[v2,v3,v4]) (by simp) rfl (λx i=>?_) m z (by unfold M.gateC;rw[if_neg (by simp[i])];rfl);simp only[gd,gx,or_false] at i;rcases i with rfl|rfl|rfl
  ·exact A
  ·exact B
  ·exact C
theorem gatesC_app (n:Nat):∀(a b:M.Gs) (j:Nat),M.gatesC n (a++b) j=M.gatesC n a j++M.gatesC n b (j+a.length)
 |[],b,j=>by simp[M.gatesC]
 |g::a,b,j=>by
  show M.gateC _ g++M.gatesC n (a++b) (j+1)=(M.gateC _ g++M.gatesC n a (j+1))++M.gatesC n b (j+(g::a).length);rw[gatesC_app n a b (j+1),Gd,gw,show j+1+a.length=j+(a.length+1) by omega]
theorem gatesC_take {i:Nat} (b:i<gs.length):M.gatesC n (gs.take (i+1)) 0=M.gatesC n (gs.take i) 0++M.gateC (2+n+i) gs[i]:=by
 have a:gs.take (i+1)=gs.take i++[gs[i]]:=by rw[pb,Q1 b];rfl
 rw[a,gatesC_app];simp only[M.gatesC,gD,gi,gS];rw[Gh oM]
def CnfI (w2:World) (m:Int) (d:Nat->Prop) (u:List Value) (w':World):Prop:=
 Ext w2 w'/\(d 10->sl 1 u= .int .i64 m)/\(d 11->∃b,sl 2 u= .slice (some ⟨b,0,none⟩) 1 1/\OwnI P zr w' (.slice (some ⟨b,0,none⟩) 1 1) [1]/\w2.heap.size<=b)/\
 (d 12->d 11/\∃b,sl 3 u= .slice (some ⟨b,0,none⟩) 1 1/\OwnV P ya w' (.slice (some ⟨b,0,none⟩) 1 1) [sl 2 u]/\w2.heap.size<=b/\(sl 2 u).ownBlock≠some b)/\
 (d 13->d 10/\d 12/\sl 4 u= .agg ⟨[sl 1 u,sl 3 u]⟩)/\(d 14->∃b cs,sl 0 u= .pointer (some ⟨b,0,none⟩)/\w2.heap.size<=b/\Blk w' b cs zz/\cs.length=2/\(d 15->cs=[sl 1 u,sl 3 u])/\(d 11->(sl 2 u).ownBlock≠some b)/\(d 12->(sl 3 u).ownBlock≠some b))/\(d 15->d 14/\d 13)
theorem gpos {i:Nat} (c:M.NetG n gs) (k:n<=8) (g:i<gs.length):gs[i].a.natAbs<=100000/\gs[i].b.natAbs<=100000:=by
 obtain⟨h,d,f,j⟩:=c.gate i g;have:=c.few;have e:∀a:Int,M.absI a=(a.natAbs:Int):=λa=>by unfold M.absI;split<;>omega
 rw[e,e] at d;rw[e] at f;omega
theorem qS0 (n:Nat):∀(gs:M.Gs) (j:Nat),(M.gatesC n gs j).length<=4*gs.length:=λgs j=>M.gatesC_len gs j
theorem cnf8_spec (hc:CktR n bc w gs v mb) (hg:M.NetG n gs) (hK:∀w' lv ls,Ext w w'->CnfO w.heap.size w' lv ls (M.netC n gs [])->K (.agg #[.int .i64 (1+n+gs.length:Nat),lv]) w'):vcall P ZQ #[.pointer (some ⟨bc,0,none⟩)] w K:=by
 apply zX0;have bw:=hc.few.2;have ca:=hg.few;refine zB Yk λb1 w1 cf b6 cj bm=>?_;refine zu λw2 ah _=>?_;have e2:=b6.trans ah;have ag:=hc.blk.ext e2;have ay:=bm.ext ah;have O:∀{w':World},Ext w2 w'->∀K:Value->World->Prop,zf P zZ (.pointer (some ⟨bc,0,none⟩)) w' K=K (.agg ⟨[.int .i64 n,v]⟩) w':=λ{w'} h K=>Blk.ldTake (us:=[.int .i64 n,v]) (r:=[.map (some mb)]) (ag.ext h) Jt;have hlen:∀(w':World) (K:Value->World->Prop),vbi P .len [zO] ze [v] w' K=K (.int .i64 gs.length) w':=λw' K=>Kc0 (Own.ext hc.own e2);simp(disch:=first|(simp only[push_cast])|omega) only[push_cast,ag.ld1,O (Same.refl _ _),hlen,true_and];obtain⟨m,hm⟩:∃m:Int,m=(1+n+gs.length:Nat):=⟨_,rfl⟩;refine⟨CnfI w2 m,⟨Same.refl _ _,by simp,by simp,by simp,by simp,by simp,by simp⟩,?_⟩;rintro d u _ V ⟨A,i10,i11,i12,i13,i14,i15⟩;have bp:=ag.ext A;have z3:=A.size;simp(disch:=first|(simp only[push_cast])|omega) only[push_cast,bp.ld1,O A,hlen,true_and,and_self];generalize sl 0 u=a0 at*;generalize sl 1 u=a1 at*;generalize sl 2 u=a2 at*;generalize sl 3 u=a3 at*;generalize sl 4 u=a4 at*;have res:∀{i j:Nat} {p:Prop},i≠j->(i=j\/p)->p:=λh U=>U.resolve_left h;have t11:∀{G:World},Ext V G->d 11->∃b,a2= .slice (some ⟨b,0,none⟩) 1 1/\OwnI P zr G (.slice (some ⟨b,0,none⟩) 1 1) [1]/\w2.heap.size<=b:=λhe h=>by
  obtain⟨b,x,y,z⟩:=i11 h;exact⟨b,x,y.ext he,z⟩
 have t12:∀{G:World},Ext V G->d 12->∃b,a3= .slice (some ⟨b,0,none⟩) 1 1/\OwnV P ya G (.slice (some ⟨b,0,none⟩) 1 1) [a2]/\w2.heap.size<=b/\a2.ownBlock≠some b:=λhe h=>by
  obtain⟨_,b,x,y,z⟩:=i12 h;exact⟨b,x,y.ext he,z⟩
 have t14:∀{G:World},Ext V G->d 14->∃b cs,a0= .pointer (some ⟨b,0,none⟩)/\w2.heap.size<=b/\Blk G b cs zz/\cs.length=2/\(d 15->cs=[a1,a3])/\(d 11->a2.ownBlock≠some b)/\(d 12->a3.ownBlock≠some b)/\b<V.heap.size:=λhe h=>by
  obtain⟨b,cs,x,y,z,q1,q2,q3,q4⟩:=i14 h;exact⟨b,cs,x,y,z.ext he,q1,q2,q3,q4,z.lt⟩
 refine⟨⟨λn10=>?_,λn11=>?_,λn12 R=>?_,λn13 Z S=>?_,λn14=>?_,λn15 a5 an _ _ _ _ _ _=>?_,trivial⟩,λZ R S an a5 c9=>?_⟩
 ·refine nodes_spec oM oM λG f=>?_;refine⟨A.trans f,λ_=>?_,λh=>t11 f (res dC h),λh=>⟨.inr (i12 (res dC h)).1,t12 f (res dC h)⟩,λh=>absurd (i13 (res dC h)).1 n10,λh=>?_,λh=>absurd (i13 (i15 (res dC h)).2).1 n10⟩
  ·show Value.int .i64 _=_;congr 1;omega
  ·obtain⟨b,cs,x,y,z,q1,q2,q3,q4,_⟩:=t14 f (res dC h);exact⟨b,cs,x,y,z,q1,λh=>absurd (i13 (i15 (res dC h)).2).1 n10,λh=>q3 (res dC h),λh=>q4 (res dC h)⟩
 ·have F: ¬d 12:=λh=>n11 (i12 h).1;refine lit_ints (xs:=[.int .i64 1]) (us:=[1]) rfl (by simp) λG b4 az f am E=>?_;refine⟨A.trans f,λh=>i10 (res dC h),λ_=>⟨b4,rfl,E,oM⟩,λh=>absurd (res dC h) F,λh=>absurd (i13 (res dC h)).2.1 F,λh=>?_,λh=>absurd (i13 (i15 (res dC h)).2).2.1 F⟩;obtain⟨b,cs,x,y,z,q1,q2,q3,q4,q5⟩:=t14 f (res dC h);exact⟨b,cs,x,y,z,q1,λh=>absurd (i13 (i15 (res dC h)).2).2.1 F,λ_ e=>by have e6:b4=b:=gg e;omega,λh=>absurd (res dC h) F⟩
 ·obtain⟨b2,ap,o2,l2⟩:=i11 R;have co:b2<V.heap.size:=o2.lt rfl;refine lit_lists (xs:=[a2]) (λx hx=>by rw[gn.1 hx];exact⟨_,_,_,ap⟩) (by simp) λG b4 az f am E=>?_;refine⟨A.trans f,λh=>i10 (res dC h),λh=>t11 f (res dC h),λ_=>⟨.inr R,b4,rfl,E,oM,?_⟩,λh=>absurd (i13 (res dC h)).2.1 n12,λh=>?_,λh=>absurd (i13 (i15 (res dC h)).2).2.1 n12⟩
  ·show a2.ownBlock≠some b4;rw[ap];intro e;have e6:b2=b4:=gg e;omega
  ·obtain⟨b,cs,x,y,z,q1,q2,q3,q4,q5⟩:=t14 f (res dC h);exact⟨b,cs,x,y,z,q1,λh=>absurd (i13 (i15 (res dC h)).2).2.1 n12,λh=>q3 (res dC h),λ_ e=>by have e6:b4=b:=gg e;omega⟩
 ·obtain⟨_,b3,ac,o3,l3,n3⟩:=i12 S;have ab:=i10 Z;have bs:∀K:Value->World->Prop,zD P zz [(0,a1),(1,a3)] V K=K (.agg ⟨[a1,a3]⟩) V:=λK=>by
   rw[ab,ac];exact yp kU0 (us:=[[.int .i64 m],[.slice (some ⟨b3,0,none⟩) 1 1]]) rfl rfl
  rw[bs];refine⟨rfl,A,λh=>i10 (res dC h),λh=>t11 (Same.refl _ _) (res dC h),λh=>⟨.inr (i12 (res dC h)).1,t12 (Same.refl _ _) (res dC h)⟩,λ_=>⟨.inr Z,.inr S,rfl⟩,λh=>?_,λh=>⟨.inr (i15 (res dC h)).1,.inl rfl⟩⟩;obtain⟨b,cs,x,y,z,q1,q2,q3,q4,q5⟩:=t14 (Same.refl _ _) (res dC h);exact⟨b,cs,x,y,z,q1,λh=>q2 (res dC h),λh=>q3 (res dC h),λh=>q4 (res dC h)⟩
 ·have aa: ¬d 15:=λh=>n14 (i15 h).1;refine zB Yk λb4 G az f am B=>?_;refine⟨A.trans f,λh=>i10 (res dC h),λh=>t11 f (res dC h),λh=>⟨.inr (i12 (res dC h)).1,t12 f (res dC h)⟩,λh=>?_,λ_=>⟨b4,_,rfl,oM,B,rfl,λh=>absurd (res dC h) aa,λh e=>?_,λh e=>?_⟩,λh=>absurd (res dC h) aa⟩
  ·obtain⟨x,y,z⟩:=i13 (res dC h);exact⟨.inr x,.inr y,z⟩
  ·obtain⟨b,x,y,z⟩:=i11 (res dC h);have e':a2.ownBlock=some b4:=e;rw[x] at e';have e6:b=b4:=gg e';have c6:b<V.heap.size:=y.lt rfl;omega
  ·obtain⟨_,b,x,y,z⟩:=i12 (res dC h);have e':a3.ownBlock=some b4:=e;rw[x] at e';have e6:b=b4:=gg e';have c6:b<V.heap.size:=y.lt rfl;omega
 ·obtain⟨bh,a6,bk⟩:=i13 an;obtain⟨T,cs,bi,l0,B0,b8,_,n2,n3⟩:=i14 a5;have ab:=i10 bh;obtain⟨ao,b3,ac,o3,l3,_⟩:=i12 a6;subst bk bi ab ac;refine B0.stAgg (cs':=[.int .i64 m,.slice (some ⟨b3,0,none⟩) 1 1]) (by rw[b8];rfl) xS net_one λG ak am B=>?_;refine⟨Ext.then A ak λy hy=>by subst hy;exact l0,λ_=>rfl,λh=>?_,λh=>?_,λ_=>⟨.inr bh,.inr a6,rfl⟩,λ_=>⟨T,_,rfl,l0,B,rfl,λ_=>rfl,λh=>n2 (res dC h),λh=>n3 (res dC h)⟩,λ_=>⟨.inr a5,.inr an⟩⟩
  ·obtain⟨b,x,y,z⟩:=i11 ao;refine⟨b,x,y.same ak λc hc e=>?_,z⟩;have U:=n2 ao;rw[x] at U;exact U (hc.trans (by rw[e]))
  ·refine⟨.inr ao,b3,rfl,o3.same ak λc hc e=>?_,l3,?_⟩
   ·exact n3 a6 (hc.trans (by rw[e]))
   ·obtain⟨_,b,x,y,z,q⟩:=i12 a6;cases x;exact q
 obtain⟨b2,x2,o2,l2⟩:=i11 R;obtain⟨_,b3,x3,o3,l3,d23⟩:=i12 S;obtain⟨T,cs,x0,l0,B0,b8,bl,n2,n3⟩:=i14 a5;have bt:=bl c9;have c7:=n2 R;have c8:=n3 S;have c3:=i10 Z;subst bt x0 x3 x2 c3;have z1:=b6.size;have be:RowsR w2.heap.size (λb=>b≠b3/\b≠T) V [.slice (some ⟨b2,0,none⟩) 1 1] [[1]]:=by
  refine RowsR.snoc (RowsR.nil z3) rfl o2 (λb k=>⟨⟨λe=>d23 (k.trans (by rw[e])),λe=>c7 (k.trans (by rw[e]))⟩,?_⟩) (λi b hi=>absurd hi (by simp));have e6:b2=b:=gg k;omega
 have bq:∀{w':World},Ext w2 w'->GatesR (λb=>v.ownBlock=some b) w' v gs:=λh=>Sl.ext (Own.sl hc.own) (e2.trans h);refine vloop_up gs.length (λi u w'=>u=[.int .i64 i]/\Ext w2 w'/\∃lv ls,Blk w' T [.int .i64 m,lv] zz/\OwnV P ya w' lv ls/\ls.length=([1]::M.gatesC n (gs.take i) 0).length/\RowsR w2.heap.size (λb=>lv.ownBlock≠some b/\b≠T) w' ls ([1]::M.gatesC n (gs.take i) 0)/\∀b,lv.ownBlock=some b->w2.heap.size<=b/\b≠T)
  ⟨rfl,A,_,_,B0,o3,rfl,be.weaken λb s _ _=>⟨λe=>s.1 (by have e6:b3=b:=gg e;exact e6.symm),s.2⟩,λb k=>⟨by have e6:b3=b:=gg k;omega,λe=>c8 (k.trans (by rw[e]))⟩⟩ ?_
 rintro i _ _ G C hi ⟨rfl,f,lv,ls,B,E,L,X,N⟩ hC;simp only[push_cast];have e4:=e2.trans f;have bj:=f;have z4:=f.size;refine zh (λa=>?_) (λa=>?_)
 ·have J:i<gs.length:=oM;have bf:=bq f;rw[Sl.iaddr bf xI0 oM (by rw[VL0];omega),gm,Sl.ldAgg bf Zt (by rw[VL0];exact J),Kb0 J];obtain⟨ha,k⟩:=gpos hg bw J;have b7:=gatesC_take (n:=n) J;generalize ch:gs[i]=g at*;refine zB KX λb5 w5 cg bu c5 af=>?_;refine af.stAgg (cs':=kq g) rfl Zt (gone [g] _ (by simp)) λw6 c2 ck bn=>?_;have aq:Ext G w6:=Ext.then bu c2 λy hy=>by subst hy;omega
  refine zu λw7 ai _=>?_;have ad:=aq.trans ai;have bo:=bn.ext ai;have av:=B.ext ad;have b9:∀{w':World},Ext w7 w'->∀K:Value->World->Prop,zf P zt (.pointer (some ⟨b5,0,none⟩)) w' K=K (gv g) w':=λh K=>Blk.ldAgg (bo.ext h) (by exact Zt);simp(disch:=first|(simp only[push_cast])|omega) only[push_cast,av.ld1,b9 (Same.refl _ _),O (bj.trans ad),true_and];refine nodes_spec oM oM λw8 W=>?_;have aw:=av.ext W;simp(disch:=first|(simp only[push_cast])|omega) only[push_cast,aw.ld1,b9 W,true_and,and_self,zJ];rw[show(1+(n:Int)+(i:Int)+1)=2+n+i by omega];refine Gate_clauses_spec ha k oM λw9 v9 Y aj D=>?_;have ax:=aw.ext aj;have ae:=ad.trans (W.trans aj);simp(disch:=first|(simp only[push_cast])|omega) only[push_cast,ax.ld1,true_and,and_self];have cm:=W.size;have cl:=ai.size;have ce:=aq.size;have cn:=aj.size;have ci:ls.length<=2401:=by
   have s:=qS0 n (gs.take i) 0;have U:(gs.take i).length=i:=by rw[gi];omega
   rw[L,gw];omega
  have cb:Y.length<=4:=by rw[D.len];unfold M.gateC;split<;>simp
  refine OwnV.app (us:=Y) (E.ext ae) Zk0 D.own.vals (λu hu=>?_) oM oM λv10 cp Q H a7=>?_
  ·obtain⟨j,hj,rfl⟩:=gl hu;have bx:=D.rows.own j (by rw[<-D.len];exact hj);obtain⟨o,c,e,_⟩:=bx.ints.shape;rw[q0,Q1 hj,gI] at e;rw[e];rfl
  have cc:=H.size;have au:=ax.same H λe=>(N _ e).2 rfl
  try simp only[push_cast,true_and]
  refine au.st (i:=1) (v:=v10) ?_ ?_ kX0 (by rfl) λcq I cd ar=>?_
  ·obtain⟨o,c,e,_⟩:=Q.vals.shape;rw[e];rfl
  ·obtain⟨o,c,e,_⟩:=Q.vals.shape;rw[e];rfl
  try simp(disch:=omega) only[push_cast,zJ]
  have c4:=I.size;have bg:∀b,lv.ownBlock=some b->b<G.heap.size:=λb k=>E.lt k;have bz:RowsR w2.heap.size (λb=>lv.ownBlock≠some b/\b≠T) w9 ls ([1]::M.gatesC n (gs.take i) 0):=X.ext ae;have c1:RowsR w2.heap.size (λb=>lv.ownBlock≠some b/\b≠T) w9 Y (M.gateC (2+n+i) g):=by
   have s:=D.rows;refine⟨oM,s.own,λj b hj k=>?_,s.dj⟩;have U:=(s.sub j b hj k).2;exact⟨⟨λe=>by have h6:=bg b e;omega,λe=>by have:=B.lt;omega⟩,oM⟩
  have c0:=bz.app L c1 D.len λj1 j2 b s U k e=>by
   have:=(X.own j1 s).lt k;have:=(D.rows.sub j2 b U e).2;omega
  have a9:∀b,v10.ownBlock=some b->w2.heap.size<=b/\b≠T:=λb k=>by
   rcases a7 b k with h|h
   ·exact N b h
   ·have:=B.lt;exact⟨oM,λe=>oM⟩
  refine hC J _ _ ⟨by simp,?_,v10,ls++Y,ar,Q.same I λb k e=>(a9 b k).2 e,?_,?_,a9⟩
  ·exact Ext.then (Ext.then (f.trans ae) H λb k=>(N b k).1) I λb k=>by subst k;exact l0
  ·rw[b7,k6,L,D.len,gw,gw,k6];omega
  ·rw[b7,<-Gx];have bd:=c0.weaken (F':=λb=>(lv.ownBlock≠some b/\b≠T)/\b<w9.heap.size) λb s _ h3=>⟨s,h3⟩;refine((bd.same H λb s _ e=>s.1.1 e).same I λb s _ e=>s.1.2 e).weaken λb s _ _=>⟨λe=>?_,s.1.2⟩;rcases a7 b e with h|h
   ·exact s.1.1 h
   ·omega
 ·have bv:i=gs.length:=oM;subst bv;rw[gA] at L X;have br:=ay.ext f;obtain⟨o,c,ba,_⟩:=E.vals.shape;generalize (ls.map λx=>[x]).length=l at ba;subst ba;rw[B.ldAgg (t:=zz) xS];have z2:=ah.size;refine br.stAgg (cs':=[.int .i64 m,.slice o l c]) rfl xS net_one λw5 al c5 af=>?_;rw[af.lv (t:=zz) xS,hm];have a8:Ext w w5:=Ext.then e4 al λy hy=>by subst hy;omega
  have bb:∀b,w2.heap.size<=b->b≠b1:=λb k e=>by have:=ay.lt;omega
  refine hK w5 _ ls a8 ⟨E.same al λb k e=>bb b (N b k).1 e,by rw[L];show _=([1]::(M.gatesC n gs 0++[])).length;rw[gD],λb k=>by have:=(N b k).1;omega,?_⟩;show RowsR _ _ _ _ ([1]::(M.gatesC n gs 0++[]));rw[gD];have s:=(X.weaken (F':=λb=>(Value.slice o l c).ownBlock≠some b/\w2.heap.size<=b) λb s U _=>⟨s.1,U⟩).same al λb s _ e=>bb b s.2 e;exact⟨by have:=a8.size;omega,s.own,λi b hi k=>⟨(s.sub i b hi k).1.1,by have:=(s.sub i b hi k).1.2;omega⟩,s.dj⟩
end
section
variable {w:World} {K:Value->World->Prop} {D F F' G Fx Fy X:Nat->Prop} {n m N bl bc mb bb kb:Nat} {gs hs:M.Gs} {v dv tv f:Value} {ls:List Value} {xss:List (List Int)} {xs:List Int} {ds:List M.Dcl} {t:M.Tm} {ts ks:List M.Tm} {ar ab at_:Addr} {k:Int}
theorem ContainsT {p:M.Tm->Bool} (m:TmsR F w v ks) (s:∀(w':World) (x:Value) (t:M.Tm) (K:Value->World->Prop),Ext w w'->t∈ks->TermR F w' x t->(∀w'',Ext w' w''->K (.bool (p t)) w'')->vcallv P f #[x] w' K) (o:∀w',Ext w w'->K (.bool (ks.any p)) w'):
  vcall P yD #[v,f] w K:=by
 apply qg;apply qx;have y:=m.small;simp only[push_cast,m.len];refine vloop_up ks.length (λi u w'=>u=[.int .i64 i]/\Ext w w'/\∀j,j<i->p (ks.getD j default)=false) ⟨rfl,Same.refl _ _,λj l=>absurd l oM⟩ ?_;rintro i _ _ q C A ⟨rfl,a,g⟩ r;have k:=m.ext a;simp only[push_cast];refine zh (λb=>?_) (λb=>?_)
 ·have d:i<ks.length:=oM;simp(disch:=first|(simp only[push_cast])|omega) only[push_cast,k.iaddr];refine k.load zp d λx n=>?_;refine s q x _ _ a (M.getD_mem d _) n λz h=>?_;refine zI (λc=>?_) (λc=>?_)
  ·try simp only[push_cast]
   rw[decide_eq_true oM];have:=o z (a.trans h);rwa[G4.2 ⟨_,M.getD_mem d _,c⟩] at this
  ·rw[inc64' oM];refine r d _ _ ⟨rfl,a.trans h,λj l=>?_⟩;by_cases e:j<i
   ·exact g j e
   ·have:j=i:=oM;subst this;exact c
 ·try simp only[push_cast]
  rw[decide_eq_false oM];have:=o q a;rwa[show ks.any p=false from by
   rw[pU];intro x n;obtain⟨j,l,rfl⟩:=gl n;have:=g j oM;rw[q0,Q1 l,gI] at this;rw[this];decide] at this
def Xi0 (ds:List M.Dcl) (ts:List M.Tm):Bool:=decide (ts.length<=8)&&M.declOk ds&&ts.all λt=>decide (M.tsort ds t=0)
theorem all8_iff:Xi0 ds ts=true↔ts.length<=8/\M.declOk ds=true/\∀t,t∈ts->M.tsort ds t=0:=by
 simp only[Xi0,K3,decide_eq_true_eq,gH,and_assoc]
def cnfE (ds:List M.Dcl) (ts:List M.Tm):M.Cnf×Nat:=if Xi0 ds ts=true then(match M.listB ds ts with
 |some r=>(M.blastC ds r.1 r.2,0)
 |none=>(⟨0,[]⟩,1)) else(⟨0,[]⟩,2)
def errV (ar at_:Addr):Nat->Value
 |0=> .nilIface
 |1=>erv ar
 |_=>erv at_
theorem Wd0 {N:Nat} (a:N<=w.heap.size):CnfO N w (.slice none 0 0) [] ⟨0,[]⟩:=⟨OwnV.nil,rfl,λb c=>(by cases c),RowsR.nil a⟩
theorem Ud0:zD P zz [] w K=K (.agg ⟨[.int .i64 0,.slice none 0 0]⟩) w:=yp kU0 (us:=[]) rfl rfl
theorem Yz0 (h:M.tsort ds t=0):M.sortM ds t=0/\M.fits t=true/\M.sizeM t<=20:=by
 obtain⟨a,b,d,c⟩:=Vl0 (ds:=ds) (t:=t) (by rw[h];decide);unfold M.tsort at h;rw[if_pos ⟨a,b⟩] at h;exact⟨h,a,c⟩
structure RootsB (n bl bb kb m:Nat) (ar ab:Addr) (ds:List M.Dcl) (dv:Value) (ts:List M.Tm) (F:Nat->Prop) (w:World) (i:Nat) (v:Value) (w':World):Prop where
 ex:∃(F1:Nat->Prop) (st1:Option M.Gs) (vs:List Value) (xss rs:List (List Int)),BlR n bl bb kb m ar ab ds dv (λb=>b=m\/v.ownBlock=some b) F1 w' st1/\Mv (P1 m F) w (P1 m F1) w'/\OwnV P ya w' v vs/\(∀b,v.ownBlock=some b->w.heap.size<=b/\¬F1 b)/\
  vs.length=xss.length/\vs.length<=i/\RowsR w.heap.size (λb=> ¬F1 b/\b≠m/\v.ownBlock≠some b) w' vs xss/\TOut n (M.seqB ((ts.take i).map (M.termB ds))) (some []) st1 rs/\(∀gs,st1=some gs->xss=M.rootsC rs/\rs.length=i)
theorem blastCnf_spec (hd:DclsR Fx w dv ds) (ht:TmsR Fy w tv ts) (he:Errs (λ_=>False) w ar ab) (cq:Sent w yw at_)
  (hK:∀w' lv ls,Ext w w'->CnfO w.heap.size w' lv ls (cnfE ds ts).1->K (.tuple #[.agg ⟨[.int .i64 (cnfE ds ts).1.many,lv]⟩,errV ar at_ (cnfE ds ts).2]) w'):vcall P ZU #[dv,tv] w K:=by
 apply jq0;obtain⟨o,c,ca,_⟩:=hd.shape;generalize (ds.map λd=>[Value.string d.1,Value.int .i64 d.2]).length=l at ca;subst ca;refine jO λb1 w1 e0 cc dm bg=>?_;refine zB Yk λb2 w2 e1 bk ec bi=>?_;have e2:=cc.trans bk;have z1:=cc.size;have z2:=bk.size;have ea:=ht.small;replace bg:Blk w1 b1 [.slice o l c] zi:=bg;have a7:=bg.ext bk;have none_:∀{w3:World} {g:Nat} {a:Addr} {k:Nat},Ext w2 w3->Sent w3 g a->b2≠g->errV ar at_ k=erv a->cnfE ds ts=(⟨0,[]⟩,k)->yb w3 λB=>
   zD P zz [] B λt20 bt=>bt=B/\
   zf P yg (.pointer (some ⟨g,0,none⟩)) B λt21 bu=>bu=B/\
   zm P zz (.pointer (some ⟨b2,0,none⟩)) t20 B λ_ S=>(zf P yg (.pointer (some ⟨g,0,none⟩)) S λv x=>v=t21/\x=S)/\
   vlv P zz (.pointer (some ⟨b2,0,none⟩)) S λr4 al=>
   K (.tuple #[r4,t21]) al:=λ{w3 g a k} z hs dd cd bj=>by
  refine zu λw4 a2 _=>?_;have cn:Sent w4 g a:=hs.same a2 id;have d0:=bi.ext (z.trans a2);rw[Ud0];simp only[yF qL cn.cell,true_and];refine d0.stAgg (cs':=[.int .i64 0,.slice none 0 0]) rfl xS net_one λR bq ed d2=>?_;have co:Sent R g a:=cn.same bq λe=>dd e.symm;simp only[yF qL co.cell,true_and,and_self];rw[d2.lv (t:=zz) xS];have e5:Ext w R:=Ext.then (e2.trans (z.trans a2)) bq λy hy=>by subst hy;omega
  have:=hK R (.slice none 0 0) [] e5;rw[bj,cd] at this;exact this (Wd0 e5.size)
 have gT:=cq.lt;have gR:=he.room.lt;have bad: ¬Xi0 ds ts=true->∀{w3:World},Ext w2 w3->yb w3 λB=>
   zD P zz [] B λt20 bt=>bt=B/\
   zf P yg (.pointer (some ⟨yw,0,none⟩)) B λt21 bu=>bu=B/\
   zm P zz (.pointer (some ⟨b2,0,none⟩)) t20 B λ_ S=>(zf P yg (.pointer (some ⟨yw,0,none⟩)) S λv x=>v=t21/\x=S)/\
   vlv P zz (.pointer (some ⟨b2,0,none⟩)) S λr4 al=>
   K (.tuple #[r4,t21]) al:=λh {w3} z=>none_ (k:=2) z (cq.same (e2.trans z) id) oM rfl (by unfold cnfE;rw[if_neg h])
 refine zR (λu w'=>u=[]/\Ext w2 w'/\ts.length<=8/\M.declOk ds=true) (λJ hJ=>?_) ?_
 ·simp only[push_cast,(ht.ext e2).len];refine zh (λh=>bad (λh8=>by have:=(all8_iff.1 h8).1;omega) (Same.refl _ _)) (λh=>?_);simp(disch:=first|(simp only[push_cast])|omega) only[push_cast,a7.ld0];refine DeclOk_spec (hd.ext e2) λw3 z=>?_;simp only[push_cast];refine zI (λh2=>bad (λh8=>by have:=(all8_iff.1 h8).2.1;rw[this] at h2;cases h2) z) (λh2=>hJ _ _ ⟨rfl,z,oM,by simpa using h2⟩)
 rintro _ _ w3 ⟨rfl,z,h8,aa⟩;have e3:=e2.trans z;simp only[push_cast];refine ContainsT (p:=λt=>decide (M.tsort ds t≠0)) (ht.ext e3) (λw' x t K cb _ hx d7=>?_) λw4 a2=>?_
 ·simp only[push_cast,gD,Gf];apply xl0;obtain⟨cx,rfl,a1⟩:=hx.cells;refine zx λb5 R a0 I bq h5=>?_;have c5:=(a7.ext z).ext (cb.trans I);simp(disch:=first|(simp only[push_cast])|omega) only[push_cast,c5.ld0];rw[h5.ldAgg (t:=za) (by rw[yl a1];exact zp)];refine TermSort_spec (hd.ext (e3.trans (cb.trans I))) (a1.ext I).term λw6 da=>?_;simp only[push_cast];exact d7 _ (I.trans da)
 have e4:=e3.trans a2;have a6:=z.trans a2;refine zI (λh=>bad (λh8=>?_) a6) (λh=>?_)
 ·obtain⟨t,n,h2⟩:=G4.1 h;exact of_decide_eq_true h2 ((all8_iff.1 h8).2.2 t n)
 have a9:∀t,t∈ts->M.tsort ds t=0:=λt hm=>by
  have:=pU.1 h t hm;simpa using this
 have ci:Xi0 ds ts=true:=all8_iff.2 ⟨h8,aa,a9⟩;have c4:=a7.ext a6;simp(disch:=first|(simp only[push_cast])|omega) only[push_cast,c4.ld0];refine newBlaster_spec aa (hd.ext e4) (he.ext0 e4) λR bl bb kb m F5 a0 I cg=>?_;have e5:=e4.trans I;simp only[push_cast,(ht.ext e5).len];have z4:=e4.size;have z5:=I.size;have V:∀b,P1 m F5 b->w4.heap.size<=b:=λb f=>f.elim (λh=>cg b (.inl h)) λh=>cg b (.inr (.inl h));have ay:∀b,P1 m F5 b->b<R.heap.size:=λb f=>f.elim (λh=>a0.bd.lt b (.inl h)) λh=>a0.bd.lt b (.inr h);have d1:BlR (M.bits ds).toNat bl bb kb m ar ab ds (.slice o l c) (λb=>b=m\/(Value.slice none 0 0).ownBlock=some b) F5 R (some []):=
  a0.swap a0 (Same.refl (λ_=>False) R) (λb f=>f.elim) (λb f=>f.elim (λh=>⟨by subst h;exact ay b (.inr rfl),λ_=>h⟩) λh=>by cases h) (.inl rfl)
 refine vloop_up ts.length (λi u w'=> ∃v,u=[v,.int .i64 i]/\RootsB (M.bits ds).toNat bl bb kb m ar ab ds (.slice o l c) ts F5 R i v w') ⟨_,rfl,⟨F5,some [],[],[],[],d1,Mv.refl,OwnV.nil,(λb f=>by cases f),rfl,gq _,RowsR.nil (gq _),TOut.nil,λgs h=>⟨rfl,rfl⟩⟩⟩ ?_;rintro i _ g w6 C hi ⟨v,rfl,⟨F6,ct,vs,xss,rs,c9,ae,bn,Q,a4,eb,X,aq,ax⟩⟩ hC;simp only[push_cast];have z6:=ae.same.size;have e6:Ext w w6:=Ext.then e5 ae.same λy hy=>by have:=V y hy;omega
 have d6:∀b,F6 b->w4.heap.size<=b:=λb f=>(ae.new b (.inl f)).elim (V b) λh=>oM
 have e9:w4.heap.size<=m:=V m (.inr rfl);have cr:∀b,v.ownBlock=some b->¬P1 m F6 b:=λb f hp=>hp.elim (Q b f).2 λe=>by have:=(Q b f).1;have:=ay m (.inr rfl);omega
 refine zh (λa=>?_) (λa=>?_)
 ·have O:i<ts.length:=oM;have cp:=(ht.weaken (F':=λb=>b<w.heap.size) λb _ hl=>hl).ext e6;simp(disch:=first|(simp only[push_cast])|omega) only[push_cast,cp.iaddr];refine cp.load zp O λx hx=>?_;obtain⟨cx,rfl,a1⟩:=hx.cells;refine zB zG λb7 w7 H N ee d3=>?_;refine stTerm d3 rfl (a1.ext N) λw8 dk ef d4=>?_;have Z:Ext w6 w8:=Ext.then N dk λy hy=>by subst hy;omega
  have eh:=Z.size;have v8:=a1.ext Z;simp only[push_cast,d4.ldAgg (t:=za) (by rw[yl a1];exact zp)];obtain⟨bp,_,dz⟩:=Yz0 (a9 _ (M.getD_mem O default));have d8:=c9.grow Z;refine term_spec aa _ (by rw[bp];decide) oM d8 (v8.term.weaken λb f _=>⟨λh=>by have:=d6 b h;omega,λh=>h.elim (λe=>oM) λe=>by have:=(Q b e).1;omega⟩) λw9 F9 cu r zs G a3 ck dn br=>?_;have z9:=a3.same.size;have ba:TOut (M.bits ds).toNat (M.seqB ((ts.take (i+1)).map (M.termB ds))) (some []) cu (rs++[zs]):=by
   rw[M.take_add O default,gu];exact aq.snoc br
  have b0:Mv (P1 m F5) R (P1 m F9) w9:=(ae.ext Z).trans a3;have a8:∀b,(v.ownBlock=some b)->¬F9 b:=λb f hf=>a3.off (cr b f) (by have:=bn.lt f;omega) (.inl hf);have af:RowsR R.heap.size (λb=> ¬F9 b/\b≠m/\v.ownBlock≠some b) w9 vs xss:=
   (((X.weaken (F':=λb=>(¬F6 b/\b≠m/\v.ownBlock≠some b)/\b<w6.heap.size) λb n _ h3=>⟨n,h3⟩).ext Z).same a3.same λb n _ hp=>hp.elim n.1.1 n.1.2.1).weaken λb n _ _=>
    ⟨λhf=>a3.off (λhp=>hp.elim n.1.1 n.1.2.1) oM (.inl hf),n.1.2.1,n.1.2.2⟩
  have bo:OwnV P ya w9 v vs:=(bn.ext Z).same a3.same cr;obtain⟨bc,D,c7⟩:=G.bd.blk;have az:∀b,F9 b->b<w9.heap.size:=λb f=>G.bd.lt b (.inl f);cases cu with
  |none=>
   simp only at D;simp(disch:=first|(simp only[push_cast])|omega) only[push_cast,G.blk.ld0,D.ld1,U20,zJ];exact hC O _ _ ⟨v,by simp,⟨F9,none,vs,xss,_,G,b0,bo,λb f=>⟨(Q b f).1,a8 b f⟩,a4,oM,af,ba,λgs h=>by cases h⟩⟩
  |some cz=>
   simp only at D;have dm:zs.length=1:=by
    rcases br with⟨g0,g1,q1,q2,q3⟩|⟨q1,_⟩
    ·rw[M.term_len aa _ (by rw[bp];decide) (M.Bd.reach_of_run q3),bp];rfl
    ·cases q1
   have ah:∃q,ct=some q:=by
    rcases br with⟨g0,g1,q1,q2,q3⟩|⟨q1,_⟩
    ·exact⟨_,q1⟩
    ·cases q1
   obtain⟨q,ah⟩:=ah;obtain⟨bs,cj⟩:=ax _ ah;simp(disch:=first|(simp only[push_cast])|omega) only[push_cast,G.blk.ld0,D.ld1,JQ0,ck.iaddr,ck.load];refine lit_ints (xs:=[.int .i64 (zs.getD 0 0)]) (us:=[zs.getD 0 0]) rfl (by simp) λak Y dr aw cs ch=>?_;refine lit_lists (xs:=[.slice (some ⟨Y,0,none⟩) 1 1]) (λx hx=>by rw[gn.1 hx];exact⟨_,_,_,rfl⟩) (by simp) λa5 dy dt ac du W=>?_;have T:=aw.trans ac;refine OwnV.app (us:=[.slice (some ⟨Y,0,none⟩) 1 1]) (bo.ext T) Zk0 W.vals (by simp[Value.oneCell']) (by simp;omega) (by simp;omega) λv12 cv b4 s b3=>?_;have dp:=aw.size;have dq:=ac.size;have z12:=s.size
   try simp(disch:=omega) only[push_cast,zJ]
   have di:∀b,v.ownBlock=some b->b<w9.heap.size:=λb f=>bo.lt f;have ap:RowsR R.heap.size (λb=>(¬F9 b/\b≠m/\v.ownBlock≠some b)/\b<a5.heap.size) a5 (vs++[.slice (some ⟨Y,0,none⟩) 1 1]) (xss++[[zs.getD 0 0]]):=by
    have n:=(af.weaken (F':=λb=>(¬F9 b/\b≠m/\v.ownBlock≠some b)/\b<a5.heap.size) λb n _ h3=>⟨n,oM⟩);refine RowsR.new n a4 T (ch.ext ac) (λb f=>?_) λb f=>?_
    ·have e6:Y=b:=gg f;omega
    ·have e6:Y=b:=gg f;exact⟨⟨λhf=>by have:=az b hf;omega,λe=>by have:=G.met.lt;omega,λe=>by have:=di b e;omega⟩,oM⟩
   have c8:∀b,(b=m\/v12.ownBlock=some b)->b<a5.heap.size->(b=m\/v.ownBlock=some b):=λb f hl=>f.elim .inl λh=>(b3 b h).elim .inr λh2=>oM;have ai:∀b,v12.ownBlock=some b->R.heap.size<=b/\¬F9 b/\(v.ownBlock=some b\/a5.heap.size<=b):=λb f=>by
    rcases b3 b f with h|h
    ·exact⟨(Q b h).1,a8 b h,.inl h⟩
    ·exact⟨oM,λhf=>by have:=az b hf;omega,.inr h⟩
   refine hC O _ _ ⟨v12,by simp,⟨F9,some cz,vs++[.slice (some ⟨Y,0,none⟩) 1 1],xss++[[zs.getD 0 0]],rs++[zs],(G.grow T).swap a0 s (λb f=>⟨.inr f,(Q b f).1,a8 b f⟩) (λb f=>⟨?_,c8 b f⟩) (.inl rfl),((b0.ext T).to s λb f=> .inr (Q b f).1),b4,λb f=>⟨(ai b f).1,(ai b f).2.1⟩,?_,?_,?_,ba,λgs h=>⟨?_,?_⟩⟩⟩
   ·rcases f with h|h
    ·have:=G.met.lt;omega
    ·exact b4.lt h
   ·rw[k6,k6,a4];rfl
   ·rw[k6];simp;omega
   ·refine(ap.same s λb n _ e=>n.1.2.2 e).weaken λb n _ _=>⟨n.1.1,n.1.2.1,λe=>?_⟩;rcases(ai b e).2.2 with h|h
    ·exact n.1.2.2 h
    ·omega
   ·rw[bs];unfold M.rootsC;rw[gu];rfl
   ·rw[k6,cj];rfl
 ·have O:i=ts.length:=oM;subst O;rw[gA] at aq;have bv:Ext w2 w6:=Ext.then (a6.trans I) ae.same λy hy=>by have:=V y hy;have:=a6.size;omega
  refine zu λw7 N _=>?_;have H:=c9.grow N;have bw:=bv.trans N;obtain⟨bc,D,c7⟩:=H.bd.blk;cases ct with
  |none=>
   have de:M.listB ds ts=none:=by
    rcases aq with⟨g0,g1,q1,q2,q3⟩|⟨q1,q2⟩
    ·cases q2
    ·exact q2 [] rfl
   simp only at D;simp(disch:=first|(simp only[push_cast])|omega) only[push_cast,H.blk.ld0,D.ld1,yF qL H.bd.err.room.cell,true_and];refine YL0 ?_;simp only[push_cast];refine none_ (g:=xz) (a:=ar) (k:=1) bw H.bd.err.room oM rfl ?_;unfold cnfE;rw[if_pos ci,de]
  |some q=>
   have be:M.listB ds ts=some (q,rs):=by
    rcases aq with⟨g0,g1,q1,q2,q3⟩|⟨q1,q2⟩
    ·cases q1;cases q2;exact q3
    ·cases q1
   have b8:=M.list_says aa (λt ht=>by rw[(Yz0 (a9 t ht)).1];decide) be;obtain⟨bs,cj⟩:=ax _ rfl;simp only at D;simp(disch:=first|(simp only[push_cast])|omega) only[push_cast,H.blk.ld0,D.ld1,yF qL H.bd.err.room.cell,true_and];refine K80 ?_;obtain⟨gvv,mb,d9,e8,e7⟩:=c7 q rfl;simp(disch:=first|(simp only[push_cast])|omega) only[push_cast,H.blk.ld0,D.ld0];refine cnf8_spec d9 b8.net λw8 lv aj bm F=>?_;have cy:=N.trans bm;have bx:=bw.trans bm;have z7:=N.size;have z8:=bm.size;have z26:=bv.size;refine zB Yk λb9 w9 G db dn d5=>?_;obtain⟨o2,c2,ce,_⟩:=F.lst.vals.shape;generalize (aj.map λx=>[x]).length=l2 at ce;subst ce;refine d5.stAgg (cs':=[.int .i64 (1+(M.bits ds).toNat+q.length:Nat),.slice o2 l2 c2]) rfl xS net_one λak cm cs av=>?_;have E:Ext w8 ak:=Ext.then db cm λy hy=>by subst hy;omega
   have au:=cy.trans E;simp(disch:=first|(simp only[push_cast])|omega) only[push_cast,av.ld1];have dc:aj.length<=2401:=by
    rw[F.len];show([1]::(M.gatesC _ q 0++[])).length<=2401;have n:=qS0 (M.bits ds).toNat q 0;have h2:=b8.net.few;rw[gD,gw];omega
   refine OwnV.app (us:=vs) (F.lst.ext E) Zk0 (bn.vals.ext au) (λu hu=>?_) oM oM λv11 a5 W L cf=>?_
   ·obtain⟨j,hj,rfl⟩:=gl hu;have df:=X.own j (by rw[<-a4];exact hj);obtain⟨o,c,e,_⟩:=df.ints.shape;rw[q0,Q1 hj,gI] at e;rw[e];rfl
   have an:=F.dl;have bf:∀b,(Value.slice o2 l2 c2).ownBlock=some b->b<w8.heap.size:=λb f=>F.lst.lt f;have c0:=av.same L λe=>by have:=bf _ e;omega
   have dq:=L.size;have dp:=E.size;obtain⟨o3,c3,A,_⟩:=W.vals.shape;generalize ((aj++vs).map λx=>[x]).length=l3 at A;subst A;refine c0.st (i:=1) (v:= .slice o3 l3 c3) rfl rfl kX0 (by rfl) λcv s dw bh=>?_;have am:Blk cv b9 [.int .i64 (1+(M.bits ds).toNat+q.length:Nat),.slice o3 l3 c3] zz:=bh;rw[am.ldAgg (t:=zz) xS];have bz:=bi.ext (bx.trans E);have eg:=bi.lt;have A:∀b,(Value.slice o3 l3 c3).ownBlock=some b->w7.heap.size<=b/\b≠b9/\((Value.slice o2 l2 c2).ownBlock=some b\/ak.heap.size<=b):=λb f=>by
    rcases cf b f with h|h
    ·exact⟨an b h,λe=>by have:=bf b h;omega,.inl h⟩
    ·exact⟨oM,λe=>oM,.inr h⟩
   have c6:=(bz.same L λe=>by have:=an _ e;omega).same s oM;refine c6.stAgg (cs':=[.int .i64 (1+(M.bits ds).toNat+q.length:Nat),.slice o3 l3 c3]) rfl xS net_one λcw ag dx c1=>?_;rw[c1.lv (t:=zz) xS];have bj:cnfE ds ts=(M.blastC ds q rs,0):=by unfold cnfE;rw[if_pos ci,be]
   have dg:RowsR R.heap.size (λb=>(Value.slice o2 l2 c2).ownBlock≠some b/\b<w8.heap.size) ak aj ([1]::(M.gatesC (M.bits ds).toNat q 0++[])):=by
    have n:=(F.rows.weaken (F':=λb=>(Value.slice o2 l2 c2).ownBlock≠some b/\b<w8.heap.size) λb n _ h3=>⟨n,h3⟩).ext E;exact⟨oM,n.own,λi b hi f=>⟨(n.sub i b hi f).1,by have:=(n.sub i b hi f).2;omega⟩,n.dj⟩
   have dh:RowsR R.heap.size (λb=>(Value.slice o2 l2 c2).ownBlock≠some b/\b<w8.heap.size) ak vs xss:=
    (X.weaken (F':=λb=>(Value.slice o2 l2 c2).ownBlock≠some b/\b<w8.heap.size) λb n _ h3=>⟨λe=>by have:=an b e;omega,oM⟩).ext au
   have cl:=dg.app F.len dh a4 λi j b hi hj n h2=>by
    have:=(F.rows.sub i b hi n).2;have:=(X.own j hj).lt h2;omega
   have ad:([1]::(M.gatesC (M.bits ds).toNat q 0++[]))++xss=(M.blastC ds q rs).list:=by
    rw[bs,gD];rfl
   rw[ad] at cl;have ao:=(((cl.same L λb n _ e=>n.1 e).same s λb n _ e=>by subst e;omega).weaken (F':=λb=>((Value.slice o3 l3 c3).ownBlock≠some b)/\w2.heap.size<=b) λb n h2 _=>⟨λe=>by
    rcases(A b e).2.2 with h|h
    ·exact n.1 h
    ·omega,by have:=a6.size;omega⟩).same ag λb n _ e=>oM
   have b6:Ext w cw:=Ext.then (Ext.then (Ext.then (e2.trans (bx.trans E)) L λb f=>by have:=an b f;omega) s λb f=>by subst f;omega) ag λb f=>by subst f;omega
   have U:=hK cw (.slice o3 l3 c3) (aj++vs) b6;rw[bj] at U;refine U ⟨?_,?_,λb f=>?_,?_⟩
   ·exact((W.same s λb f e=>(A b f).2.1 e).same ag λb f e=>by have:=(A b f).1;omega)
   ·rw[<-ad,k6,k6,F.len,a4];rfl
   ·have:=(A b f).1;omega
   ·exact⟨b6.size,ao.own,λi b hi f=>⟨(ao.sub i b hi f).1.1,by have:=(ao.sub i b hi f).2;omega⟩,ao.dj⟩
end
section
variable {w:World} {K:Value->World->Prop} {F D G:Nat->Prop}
abbrev ptr (b:Nat):Value:= .pointer (some ⟨b,0,none⟩)
def yS0 (t3:Value) (w:World) (J:List Value->World->Prop):Prop:=
 yb w λw_12=>
 zg P za t3 4 w_12 λt13 w_13=>w_13=w_12/\
 zf P zb t13 w_12 λt14 w_14=>w_14=w_12/\
 zj P zb t14 (.int .i64 0) w_12 λt15 w_15=>w_15=w_12/\
 zf P za t15 w_12 λt16 w_16=>w_16=w_12/\
 zg P za t3 4 w_12 λt17 w_17=>w_17=w_12/\
 zf P zb t17 w_12 λt18 w_18=>w_18=w_12/\
 zj P zb t18 (.int .i64 1) w_12 λt19 w_19=>w_19=w_12/\
 zf P za t19 w_12 λt20 w_20=>w_20=w_12/\
 (y3 P za w_12 λt6 w_21=>(zf P za t19 w_21 λv x=>v=t20/\x=w_21)/\(zj P zb t18 (.int .i64 1) w_21 λv x=>v=t19/\x=w_21)/\(zf P zb t17 w_21 λv x=>v=t18/\x=w_21)/\(zg P za t3 4 w_21 λv x=>v=t17/\x=w_21)/\(zf P za t15 w_21 λv x=>v=t16/\x=w_21)/\(zj P zb t14 (.int .i64 0) w_21 λv x=>v=t15/\x=w_21)/\(zf P zb t13 w_21 λv x=>v=t14/\x=w_21)/\(zg P za t3 4 w_21 λv x=>v=t13/\x=w_21)/\
 (y3 P za w_21 λt7 w_22=>(zf P za t19 w_22 λv x=>v=t20/\x=w_22)/\(zj P zb t18 (.int .i64 1) w_22 λv x=>v=t19/\x=w_22)/\(zf P zb t17 w_22 λv x=>v=t18/\x=w_22)/\(zg P za t3 4 w_22 λv x=>v=t17/\x=w_22)/\(zf P za t15 w_22 λv x=>v=t16/\x=w_22)/\(zj P zb t14 (.int .i64 0) w_22 λv x=>v=t15/\x=w_22)/\(zf P zb t13 w_22 λv x=>v=t14/\x=w_22)/\(zg P za t3 4 w_22 λv x=>v=t13/\x=w_22)/\
 (zm P za t6 t16 w_22 λ_ w_23=>(zf P za t19 w_23 λv x=>v=t20/\x=w_23)/\(zj P zb t18 (.int .i64 1) w_23 λv x=>v=t19/\x=w_23)/\(zf P zb t17 w_23 λv x=>v=t18/\x=w_23)/\(zg P za t3 4 w_23 λv x=>v=t17/\x=w_23)/\
 (zm P za t7 t20 w_23 λ_ w_24=>
 J [t6,t7] w_24)/\
 True)/\
 True)/\
 True)/\
 (y3 P za w_12 λt7_1 w_25=>(zf P za t19 w_25 λv x=>v=t20/\x=w_25)/\(zj P zb t18 (.int .i64 1) w_25 λv x=>v=t19/\x=w_25)/\(zf P zb t17 w_25 λv x=>v=t18/\x=w_25)/\(zg P za t3 4 w_25 λv x=>v=t17/\x=w_25)/\(zf P za t15 w_25 λv x=>v=t16/\x=w_25)/\(zj P zb t14 (.int .i64 0) w_25 λv x=>v=t15/\x=w_25)/\(zf P zb t13 w_25 λv x=>v=t14/\x=w_25)/\(zg P za t3 4 w_25 λv x=>v=t13/\x=w_25)/\
 (y3 P za w_25 λt6_1 w_26=>(zf P za t19 w_26 λv x=>v=t20/\x=w_26)/\(zj P zb t18 (.int .i64 1) w_26 λv x=>v=t19/\x=w_26)/\(zf P zb t17 w_26 λv x=>v=t18/\x=w_26)/\(zg P za t3 4 w_26 λv x=>v=t17/\x=w_26)/\(zf P za t15 w_26 λv x=>v=t16/\x=w_26)/\(zj P zb t14 (.int .i64 0) w_26 λv x=>v=t15/\x=w_26)/\(zf P zb t13 w_26 λv x=>v=t14/\x=w_26)/\(zg P za t3 4 w_26 λv x=>v=t13/\x=w_26)/\
 (zm P za t6_1 t16 w_26 λ_ w_27=>(zf P za t19 w_27 λv x=>v=t20/\x=w_27)/\(zj P zb t18 (.int .i64 1) w_27 λv x=>v=t19/\x=w_27)/\(zf P zb t17 w_27 λv x=>v=t18/\x=w_27)/\(zg P za t3 4 w_27 λv x=>v=t17/\x=w_27)/\
 (zm P za t7_1 t20 w_27 λ_ w_28=>
 J [t6_1,t7_1] w_28)/\
 True)/\
 True)/\
 True)/\
 True
theorem pairReg_ok {b3:Nat} {p:Nat->Prop} {kv:Value} {t:M.Tm} {J:List Value->World->Prop} (q:Blk w b3 [.int .i64 t.op,.int .i64 t.a,.int .i64 t.b,.string t.s,kv] za) (N:TmsR p w kv t.ks) (o:2<=t.ks.length)
  (K:∀w' b I c c',Ext w w'->Blk w' b c za->TmR p w' c (M.kid t 0)->Blk w' I c' za->TmR p w' c' (M.kid t 1)->J [ptr b,ptr I] w'):yS0 (ptr b3) w J:=by
 unfold yS0;refine zu λw1 h _=>?_;obtain⟨css,hs,Q,L⟩:=N.ext h;have l:=q.ext h;have O:=h.size;simp(disch:=first|(simp only[push_cast])|omega) only[push_cast,l.ld4,hs.iaddr,hs.ldAgg,true_and];have c0:=L 0 oM;have c1:=L 1 oM;refine⟨?_,?_,trivial⟩
 ·refine zB zG λb2 w2 x f A o=>?_;have s2:=hs.ext f;have m:=l.ext f;simp(disch:=first|(simp only[push_cast])|omega) only[push_cast,m.ld4,s2.iaddr,s2.ldAgg,true_and,and_self];refine⟨?_,trivial⟩;refine zB zG λb3 P z d B r=>?_;have s3:=s2.ext d;have E:=m.ext d;simp(disch:=first|(simp only[push_cast])|omega) only[push_cast,E.ld4,s3.iaddr,s3.ldAgg,true_and,and_self];refine⟨?_,trivial⟩;refine stTerm (o.ext d) rfl (c0.ext (f.trans d)) λG i C u=>?_;have e:Ext w1 G:=Ext.then (f.trans d) i λy k=>by subst k;omega
  have n:=hs.ext e;have F:=l.ext e;simp(disch:=first|(simp only[push_cast])|omega) only[push_cast,F.ld4,n.iaddr,n.ldAgg,true_and,and_self];refine⟨?_,trivial⟩;refine stTerm (r.same i oM) rfl (c1.ext e) λH j D v=>?_;have g:Ext w1 H:=Ext.then e j λy k=>by subst k;omega
  exact K _ _ _ _ _ (h.trans g) (u.same j oM) (c0.ext g) v (c1.ext g)
 ·refine zB zG λb2 w2 x f A o=>?_;have s2:=hs.ext f;have m:=l.ext f;simp(disch:=first|(simp only[push_cast])|omega) only[push_cast,m.ld4,s2.iaddr,s2.ldAgg,true_and,and_self];refine⟨?_,trivial⟩;refine zB zG λb3 P z d B r=>?_;have s3:=s2.ext d;have E:=m.ext d;simp(disch:=first|(simp only[push_cast])|omega) only[push_cast,E.ld4,s3.iaddr,s3.ldAgg,true_and,and_self];refine⟨?_,trivial⟩;refine stTerm r rfl (c0.ext (f.trans d)) λG i C u=>?_;have e:Ext w1 G:=Ext.then (f.trans d) i λy k=>by subst k;omega
  have n:=hs.ext e;have F:=l.ext e;simp(disch:=first|(simp only[push_cast])|omega) only[push_cast,F.ld4,n.iaddr,n.ldAgg,true_and,and_self];refine⟨?_,trivial⟩;refine stTerm ((o.ext d).same i oM) rfl (c1.ext e) λH j D v=>?_;have g:Ext w1 H:=Ext.then e j λy k=>by subst k;omega
  exact K _ _ _ _ _ (h.trans g) (u.same j oM) (c0.ext g) v (c1.ext g)
structure RS (G:Nat->Prop) (w0 w:World) (b2 b3 b4:Nat) (dv kv:Value) (mb:Nat) (ds:List M.Dcl) (t:M.Tm):Prop where
 ext:Ext w0 w
 f:Blk w b2 [dv,.map (some mb)] zF
 q:Blk w b3 [.int .i64 t.op,.int .i64 t.a,.int .i64 t.b,.string t.s,kv] za
 r:Blk w b4 yK0 za
 k:TmsR (λx=>G x/\x<w0.heap.size) w kv t.ks
 d:DclsR (λx=>x<w0.heap.size) w dv ds
 m:KindsR w mb
 lo:w0.heap.size<=b4
section
variable {w0 w':World} {b2 b3 b4 mb:Nat} {dv kv:Value} {ds:List M.Dcl} {t:M.Tm}
theorem yC (h:RS G w0 w b2 b3 b4 dv kv mb ds t) (he:Ext w w'):RS G w0 w' b2 b3 b4 dv kv mb ds t:=
 ⟨h.ext.trans he,h.f.ext he,h.q.ext he,h.r.ext he,h.k.ext he,h.d.ext he,h.m.ext he,h.lo⟩
abbrev Y2 (dv:Value) (mb:Nat):Value:= .agg ⟨[dv,.map (some mb)]⟩
theorem rs_enter {tv:Value} {B:Value->Value->Value->World->Prop} (s:DclsR F w dv ds) (hm:KindsR w mb) (y:TermR G w tv t) (o:∀w' b2 b3 b4 kv,RS G w w' b2 b3 b4 dv kv mb ds t->B (ptr b2) (ptr b3) (ptr b4) w'):
  yX P zF (Y2 dv mb) w λt2 g=>yX P za tv g λt3 i=>y3 P za i λt4 j=>B t2 t3 t4 j:=by
 obtain⟨kv,rfl,f⟩:=y;refine zx λb1 w1 p e u l=>?_;refine zx λb2 w2 q c v m=>?_;refine zB zG λb3 z r a x n=>?_;have d:=e.trans (c.trans a);exact o _ _ _ _ kv ⟨d,(l.ext c).ext a,m.ext a,n,(f.weaken λb h k=>⟨h,k⟩).ext d,(s.weaken λb _ h=>h).ext d,hm.ext d,oM⟩
abbrev jK0 (K:Value->World->Prop) (w:World) (G:Nat->Prop) (o:Option M.Tm):Prop:=∀w' rv u,Ext w w'->TermR (λx=>G x\/w.heap.size<=x) w' rv u->(∀x,o=some x->u=x)->K (.tuple #[rv,.bool o.isSome]) w'
theorem xm (h:RS G w0 w b2 b3 b4 dv kv mb ds t) {rv:Value} {u:M.Tm} {b:Bool} (hu:TermR (λx=>(G x\/w0.heap.size<=x)/\x≠b4) w rv u) (g:∀w' a,Ext w0 w'->TermR (λx=>G x\/w0.heap.size<=x) w' a u->K (.tuple #[a,.bool b]) w'):
  zm P za (ptr b4) rv w λ_ w1=>vlv P za (ptr b4) w1 λr w2=>K (.tuple #[r,.bool b]) w2:=by
 obtain⟨cs,rfl,c⟩:=hu.cells;refine ZF (K:=λr w=>K (.tuple #[r,.bool b]) w) h.r rfl c (λx f=>f.2) λk e j d=>?_;exact g _ _ (Ext.then h.ext e λy i=>by subst i;exact h.lo) (d.weaken λx f _=>f.1)
theorem rs_kid (h:RS G w0 w b2 b3 b4 dv kv mb ds t) {rv:Value} {u:M.Tm} (hu:TermR (λx=>G x/\x<w0.heap.size) w' rv u):TermR (λx=>(G x\/w0.heap.size<=x)/\x≠b4) w' rv u:=hu.weaken λx a _=>⟨.inl a.1,by have:=h.lo;omega⟩
theorem rs_new (h:RS G w0 w b2 b3 b4 dv kv mb ds t) (he:Ext w w') {rv:Value} {u:M.Tm} (hu:TermR (λx=>w.heap.size<=x) w' rv u):TermR (λx=>(G x\/w0.heap.size<=x)/\x≠b4) w' rv u:=hu.weaken λx a _=>⟨.inr (by have:=h.ext.size;omega),by have:=h.r.lt;omega⟩
theorem K5:TermR F w (.agg ⟨yK0⟩) (.mk 0 0 0 M.nada []):=(zA0 0 0 0 _:TmR F w _ _).term
end
theorem X4 {dv tv:Value} {mb:Nat} {ds:List M.Dcl} {t:M.Tm} (m:DclsR F w dv ds) (hm:KindsR w mb) (f:M.declOk ds=true) (p:TermR G w tv t) (j:∀w',Ext w w'->K (.int .i64 (M.sortM ds t)) w'):vcall P j3 #[Y2 dv mb,tv] w K:=by
 apply zU0;obtain⟨cs,rfl,a⟩:=p.cells;refine zx λb1 w1 k d n h=>?_;refine zx λb2 w2 l b o i=>?_;have g:=h.ext b;have c:=d.trans b;simp only[push_cast,g.ld0,g.ld1];rw[i.ldAgg (t:=za) (by rw[yl a];exact zp)];refine sortOf_spec t (hm.ext c) (m.ext c) f (a.ext c).term λq e=>?_;exact j _ (c.trans e)
theorem nn_fixed {t:M.Tm} {n:Int} (h:M.fixedM t=some n):nnB t=true:=by
 rcases M.fixed_cases h with⟨rfl,_⟩|⟨rfl,_⟩|⟨c,b,_⟩
 ·rfl
 ·rfl
 ·exact nnB_iff.2 ⟨oM,λk a=>by rw[b] at a;cases a⟩
theorem fixed_spec {dv tv:Value} {mb:Nat} {ds:List M.Dcl} {t:M.Tm} (hd:DclsR F w dv ds) (hm:KindsR w mb) (H:M.declOk ds=true) (ht:TermR G w tv t) (hs:M.sortM ds t≠ -1) (J:jK0 K w G (M.ruleX ds t)):vcall P jv #[Y2 dv mb,tv] w K:=by
 apply z40;have Z:TermR G w tv t:=ht;refine rs_enter (B:=λt2 t3 t4 a3=>_) hd hm ht λw1 b2 b3 b4 kv rs=>?_;have no:∀w',RS G w w' b2 b3 b4 dv kv mb ds t->M.allFixed t=false->zm P za (ptr b4) (.agg ⟨yK0⟩) w' λ_ w1=>vlv P za (ptr b4) w1 λr w2=>K (.tuple #[r,.bool false]) w2:=λw' Y h=>by
  have e:M.ruleX ds t=none:=by unfold M.ruleX;rw[h];rfl
  rw[e] at J;exact xm Y K5 λw2 rv Q V=>J w2 rv _ Q V λx I=>by cases I
 refine zR (λu w'=>u=[]/\Ext w1 w'/\M.allFixed t=true) (λC hC=>?_) ?_
 ·simp only[push_cast,rs.q.ld4,rs.k.len];refine zh (λa=>?_) (λa=>?_)
  ·exact no _ rs (by unfold M.allFixed;rw[decide_eq_false (λh=>h (nil_len.1 a))];rfl)
  ·try simp only[push_cast,rs.q.ld4]
   apply qg;apply qx;have a2:=rs.k.small;simp only[push_cast,rs.k.len];refine vloop_up t.ks.length (λi u w'=>u=[.int .i64 i]/\Ext w1 w'/\∀j,j<i->(M.fixedM (t.ks.getD j default)).isSome=true) ⟨rfl,Same.refl _ _,λj L=>absurd L oM⟩ ?_;rintro i _ _ w3 C hi ⟨rfl,p,o⟩ O;have z:=yC rs p;simp only[push_cast];refine zh (λb=>?_) (λb=>?_)
   ·have E:=z.k;simp(disch:=first|(simp only[push_cast])|omega) only[push_cast,E.iaddr];refine E.load zp oM λx I=>?_;simp only[push_cast,gD,Gf];apply VE;obtain⟨cx,rfl,D⟩:=I.cells;refine zx λb5 w5 a0 v a1 h5=>?_;rw[h5.ldAgg (t:=za) (by rw[yl D];exact zp)];refine Ud (D.ext v).term λw6 y=>?_;simp only[push_cast];have X:=yC z (v.trans y);refine zI (λc=>?_) (λc=>?_)
    ·try simp only[push_cast]
     rw[decide_eq_true oM];refine no _ X ?_;rw[gZ] at c;unfold M.allFixed;rw[GQ];right;rw[List.all_eq_false];exact⟨_,M.getD_mem (l:=t.ks) (i:=i) oM default,by rw[c];decide⟩
    ·rw[Gq] at c;rw[inc64' oM];refine O oM _ _ ⟨rfl,p.trans (v.trans y),λj L=>?_⟩;by_cases e:j<i
     ·exact o j e
     ·have:j=i:=oM;subst this;exact c
   ·try simp only[push_cast]
    rw[decide_eq_false oM];refine hC _ _ ⟨rfl,p,?_⟩;unfold M.allFixed;rw[K3,decide_eq_true_eq,gH];refine⟨λh=>a (nil_len.2 h),λk T=>?_⟩;obtain⟨j,L,rfl⟩:=gl T;have:=o j oM;rwa[q0,Q1 L] at this
 rintro u g w2 ⟨rfl,R,o⟩;have e:M.ruleX ds t=some (M.constM (M.sortM ds t) (M.evalM ds (M.zeroE ds) t)):=by unfold M.ruleX;rw[if_pos o]
 rw[e] at J;have U:nnB t=true:=by
  unfold M.allFixed at o;simp only[K3,decide_eq_true_eq,gH] at o;refine nnB_iff.2 ⟨λN=>?_,λk T=>?_⟩
  ·have:=M.len_of hs;rw[N] at this;have h0:t.ks.length=0:=by simp[M.arity] at this;omega
   exact o.1 (gC h0)
  ·obtain⟨n,hn⟩:=pG.1 (o.2 k T);exact nn_fixed hn
 refine zu λw3 p _=>?_;have z:=yC rs (R.trans p);have tm:∀{w'},RS G w w' b2 b3 b4 dv kv mb ds t->TermR (λx=>G x/\x<w.heap.size) w' (.agg ⟨[.int .i64 t.op,.int .i64 t.a,.int .i64 t.b,.string t.s,kv]⟩) t:=λh=>⟨kv,rfl,h.k⟩;simp only[push_cast,z.f.ldAgg (t:=zF) jA,z.q.ldAgg (t:=za) zp,z.f.ld0,z.f.ld1,true_and];refine X4 z.d z.m H (tm z) λw4 S=>?_;have A:=yC z S;simp only[push_cast,A.q.ldAgg (t:=za) zp,A.f.ld0,A.f.ld1,true_and,and_self];refine valueOf_specG t A.m A.d (M.zeroE_ok H) (.inr U) (tm A) hs λw5 v=>?_;have r5:=yC A v;simp only[push_cast,true_and];refine constant_spec λw6 v6 y W=>?_;have X:=yC r5 y;exact xm X (rs_new r5 y W) λw7 rv Q V=>J w7 rv _ Q V λx I=>gg I
end
section
variable {w:World} {K:Value->World->Prop} {F D G:Nat->Prop}
theorem jW {o:Option M.Tm} {u:M.Tm} (b:jK0 K w G o) (e:o=some u):∀w' rv,Ext w w'->TermR (λx=>G x\/w.heap.size<=x) w' rv u->K (.tuple #[rv,.bool true]) w':=λw' rv a c=>by
 subst e;exact b w' rv u a c λx d=>gg d
theorem XM {o:Option M.Tm} (b:jK0 K w G o) (e:o=none) {u:M.Tm}:∀w' rv,Ext w w'->TermR (λx=>G x\/w.heap.size<=x) w' rv u->K (.tuple #[rv,.bool false]) w':=λw' rv a c=>by
 subst e;exact b w' rv u a c λx d=>by cases d
theorem QA0 {o:Option M.Tm} {u:M.Tm} {b:Bool} (a:jK0 K w G o) (e:o=if b=true then some u else none):∀w' rv,Ext w w'->TermR (λx=>G x\/w.heap.size<=x) w' rv u->K (.tuple #[rv,.bool b]) w':=by
 cases b
 ·exact XM a (by rw[e];rfl)
 ·exact jW a (by rw[e];rfl)
theorem intsL {xs:List Int} (d:xs.length<=100) (c:∀w' v,Ext w w'->Ints (λ_=>True) w' v xs->K v w'):vbuildS P zr (xs.map λx=>Value.int .i64 x).length ((xs.map λx=>Value.int .i64 x).zipIdx.map λp=>(p.2,p.1)) w K:=by
 refine vbuildS_row1 Jh YV X5 (λx e=>by obtain⟨y,_,rfl⟩:=gk.1 e;rfl) (by rw[X0];omega) λb w' f he hs a=>?_;rw[X0];have o:OwnI P zr w' (.slice (some ⟨b,0,none⟩) xs.length xs.length) xs:=Blk.own1 (P:=P) (t:=zr) (by rw[ZH0];exact a) (Gj _) (by simp) (by simp) oM;exact c w' _ he (o.ints.weaken λ_ _ _=>trivial)
theorem branches_spec {dv tv:Value} {mb:Nat} {ds:List M.Dcl} {t:M.Tm} (W:DclsR F w dv ds) (hm:KindsR w mb) (Y:M.declOk ds=true) (Z:TermR G w tv t) (hs:M.sortM ds t≠ -1) (p:jK0 K w G (M.ruleB t)):vcall P qU #[Y2 dv mb,tv] w K:=by
 apply KQ;refine rs_enter (B:=λt2 t3 t4 a1=>_) W hm Z λw1 b2 b3 b4 kv rs=>?_;have hlen:=M.len_of hs;have v:t.op=25->t.ks.length=1:=λh=>by rw[h] at hlen;simp[M.arity] at hlen;omega
 have s:t.op=23->t.ks.length=3:=λh=>by rw[h] at hlen;simp[M.arity] at hlen;omega
 refine zR (λu w'=>u=[]/\Ext w1 w'/\t.op=23/\M.isM (M.kid t 0) 1=false/\M.isM (M.kid t 0) 0=false) (λC V=>?_) ?_
 ·refine zR (λu w'=> ∃b:Bool,u=[.bool b]/\w'=w1/\(b=true↔t.op=25/\(M.kid t 0).op=25)) (λD hD=>?_) ?_
  ·simp only[push_cast,rs.q.ld0];refine zh (λa=>?_) (λa=>?_)
   ·have:=v a;simp(disch:=first|(simp only[push_cast])|omega) only[push_cast,rs.q.ld4,rs.k.iaddr];rw[tms_op rs.k oM];simp only[push_cast];exact hD _ _ ⟨_,rfl,rfl,by rw[decide_eq_true_eq];exact⟨λh=>⟨a,h⟩,λh=>h.2⟩⟩
   ·exact hD _ _ ⟨false,rfl,rfl,⟨λh=>(by cases h),λh=>absurd h.1 a⟩⟩
  rintro u1 g1 w2 ⟨b,rfl,rfl,O⟩;simp only[push_cast];refine zI (λc=>?_) (λc=>?_)
  ·obtain⟨S,T⟩:=O.1 c;have Q:=v S;have k0:=M.good_kid hs (i:=0) oM;have I:(M.kid t 0).ks.length=1:=by have:=M.len_of k0;rw[T] at this;simp[M.arity] at this;omega
   simp(disch:=first|(simp only[push_cast])|omega) only[push_cast,rs.q.ld4,rs.k.iaddr];refine tms_kids rs.k oM λa0 r=>?_;have R:(t.ks.getD 0 default).ks.length=1:=I;simp(disch:=first|(simp only[push_cast])|omega) only[push_cast,r.iaddr];refine r.load zp oM λx L=>?_;exact xm rs (rs_kid rs L) (jW p (by unfold M.ruleB;rw[if_pos ⟨S,T⟩];rfl))
  have nb: ¬(t.op=25/\(M.kid t 0).op=25):=λh=>by have:=O.2 h;rw[c] at this;cases this
  simp only[push_cast,rs.q.ld0];refine zh (λa=>?_) (λa=>?_)
  ·try simp only[push_cast]
   exact xm rs K5 (XM p (by unfold M.ruleB;rw[if_neg nb,if_pos a]))
  have m:t.op=23:=oM;have Q:=s m;simp(disch:=first|(simp only[push_cast])|omega) only[push_cast,rs.q.ld4,rs.k.iaddr];refine rs.k.load zp oM λx L=>?_;refine X3 L λw3 l=>?_;have j:=yC rs l;simp(disch:=first|(simp only[push_cast])|omega) only[push_cast,j.q.ld4,j.k.iaddr];refine zI (λd=>?_) (λd=>?_)
  ·refine j.k.load zp oM λy N=>?_;exact xm j (rs_kid j N) (jW p (by unfold M.ruleB;rw[if_neg nb,if_neg a];exact if_pos d))
  refine j.k.load zp oM λy N=>?_;refine X3 N λw4 f=>?_;have n:=yC j f;simp(disch:=first|(simp only[push_cast])|omega) only[push_cast,n.q.ld4,n.k.iaddr];refine zI (λe=>?_) (λe=>?_)
  ·refine n.k.load zp oM λz hz=>?_;refine xm n (rs_kid n hz) (jW p ?_);unfold M.ruleB;rw[if_neg nb,if_neg a,if_neg (by rw[show M.isM (M.kid t 0) 1=false from d];decide)];exact if_pos e
  exact V _ _ ⟨rfl,l.trans f,m,d,e⟩
 rintro u g w2 ⟨rfl,E,m,i1,i0⟩;have Q:=s m;refine zu λw3 l _=>?_;have j:=yC rs (E.trans l);obtain⟨css,o,X,A⟩:=j.k;simp(disch:=first|(simp only[push_cast])|omega) only[push_cast,j.q.ld4,o.iaddr,o.ldAgg,true_and];refine TermSame_spec _ (A 1 oM).term (A 2 oM).term λw4 f=>?_;have n:=yC j f;have sl4:=o.ext f;simp(disch:=first|(simp only[push_cast])|omega) only[push_cast,n.q.ld4,sl4.iaddr,sl4.ldAgg,true_and,and_self];refine chosen_spec ((A 1 oM).ext f).term λw5 v5 H J=>?_;have U:=yC n H;simp only[push_cast,true_and];refine xm U (rs_kid U J) (QA0 p ?_);unfold M.ruleB;rw[if_neg oM,if_neg oM,if_neg (by rw[i1];decide),if_neg (by rw[i0];decide)];simp only[decide_eq_true_eq];rfl
theorem layers_spec {dv tv:Value} {mb:Nat} {ds:List M.Dcl} {t:M.Tm} (J:DclsR F w dv ds) (hm:KindsR w mb) (A:M.declOk ds=true) (Q:TermR G w tv t) (hs:M.sortM ds t≠ -1) (y:jK0 K w G (M.ruleL ds t)):vcall P jm #[Y2 dv mb,tv] w K:=by
 apply WZ;refine rs_enter (B:=λt2 t3 t4 V=>_) J hm Q λw1 b2 b3 b4 kv rs=>?_;have hlen:=M.len_of hs;simp only[push_cast,rs.q.ld0];refine zh (λa=>?_) (λa=>?_)
 ·have L:t.ks.length=1:=by rw[a] at hlen;simp[M.arity] at hlen;omega
  refine zu λw2 H _=>?_;have n:=yC rs H;obtain⟨css,r,O,E⟩:=n.k;simp(disch:=first|(simp only[push_cast])|omega) only[push_cast,n.q.ld1,n.q.ld2,n.q.ld4,n.f.ldAgg (t:=zF) jA,r.iaddr,r.ldAgg,true_and];refine zh (λb=>?_) (λb=>?_)
  ·refine X4 n.d n.m A (E 0 oM).term λT l=>?_;have j:=yC n l;have sl3:=r.ext l;have hw:=M.sort_range A (M.kid t 0);simp(disch:=first|(simp only[push_cast])|omega) only[push_cast,j.q.ld1,j.q.ld4,sl3.iaddr,sl3.ldAgg,true_and,and_self];rw[show t.ks.getD 0 default=M.kid t 0 from rfl,show IntKind.i64.wrap (M.sortM ds (M.kid t 0)-1)=M.sortM ds (M.kid t 0)-1 from zJ oM oM];refine chosen_spec ((E 0 oM).ext l).term λU v5 p s=>?_;have C:=yC j p;simp only[push_cast,true_and];refine xm C (rs_kid C s) (QA0 y ?_);unfold M.ruleL;rw[if_pos a];by_cases e:t.a=M.sortM ds (M.kid t 0)-1
   ·rw[if_pos ⟨b,e⟩,if_pos (decide_eq_true e)];rfl
   ·rw[if_neg (λx=>e x.2),if_neg (by rw[decide_eq_false e];decide)]
  ·refine chosen_spec (E 0 oM).term λU v5 p s=>?_;have C:=yC n p;simp only[push_cast,true_and];refine xm C (rs_kid C s) (QA0 y ?_);unfold M.ruleL;rw[if_pos a,if_neg (λx=>b x.1)];rfl
 have nothing: ¬((t.op=1\/t.op=2)/\(M.kid t 0).op=t.op)->M.ruleL ds t=none:=λh=>by unfold M.ruleL;rw[if_neg a,if_neg h]
 refine zR (λu w'=> ∃b:Bool,u=[.bool b]/\w'=w1/\(b=true↔t.op=1\/t.op=2)) (λD hD=>?_) ?_
 ·try simp only[push_cast]
  refine zh (λb=>?_) (λb=>?_)
  ·exact hD _ _ ⟨_,rfl,rfl,by rw[decide_eq_true_eq];exact⟨.inl,λh=>oM⟩⟩
  ·exact hD _ _ ⟨_,rfl,rfl,by rw[decide_eq_true_eq];exact⟨.inr,λh=>oM⟩⟩
 rintro u g w2 ⟨b,rfl,rfl,I⟩;simp only[push_cast];refine zI (λc=>?_) (λc=>?_)
 ·have v:=I.1 c;have L:t.ks.length=1:=by rcases v with e|e<;>rw[e] at hlen<;>simp[M.arity] at hlen<;>omega
  refine zu λT l _=>?_;have j:=yC rs l;simp(disch:=first|(simp only[push_cast])|omega) only[push_cast,j.q.ld0,j.q.ld4,j.k.iaddr,true_and];rw[tms_op j.k oM];simp(disch:=first|(simp only[push_cast])|omega) only[push_cast,j.q.ld0,j.q.ld4,j.k.iaddr,true_and];refine zh (λe=>?_) (λe=>?_)
  ·have k0:=M.good_kid hs (i:=0) oM;have N:(t.ks.getD 0 default).ks.length=1:=by
    have:=M.len_of k0;rw[show(M.kid t 0).op=t.op from e] at this;rcases v with o|o<;>rw[o] at this<;>simp[M.arity] at this<;>(unfold M.kid at this;omega)
   refine tms_kids j.k oM λS z=>?_;simp(disch:=first|(simp only[push_cast])|omega) only[push_cast,z.iaddr];refine z.load zp oM λx R=>?_;exact xm j (rs_kid j R) (jW y (by unfold M.ruleL;rw[if_neg a];exact if_pos ⟨v,e⟩))
  ·try simp only[push_cast]
   exact xm j K5 (XM y (nothing λh=>e h.2))
 ·have n12: ¬(t.op=1\/t.op=2):=λh=>by have:=I.2 h;rw[c] at this;cases this
  try simp only[push_cast]
  exact xm rs K5 (XM y (nothing λh=>n12 h.1))
theorem twins_spec {dv tv:Value} {mb:Nat} {ds:List M.Dcl} {t:M.Tm} (S:DclsR F w dv ds) (hm:KindsR w mb) (I:M.declOk ds=true) (V:TermR G w tv t) (hs:M.sortM ds t≠ -1) (p:jK0 K w G (M.ruleW ds t)):vcall P ju #[Y2 dv mb,tv] w K:=by
 apply z00;refine rs_enter (B:=λt2 t3 t4 Z=>_) S hm V λw1 b2 b3 b4 kv rs=>?_;have no:∀w',RS G w w' b2 b3 b4 dv kv mb ds t->¬(t.ks.length=2/\M.kid t 0=M.kid t 1)->zm P za (ptr b4) (.agg ⟨yK0⟩) w' λ_ w1=>vlv P za (ptr b4) w1 λr w2=>K (.tuple #[r,.bool false]) w2:=λw' J h=>
  xm J K5 (XM p (by unfold M.ruleW;rw[if_neg h]))
 refine zR (λu w'=>u=[]/\Ext w1 w'/\t.ks.length=2/\M.kid t 0=M.kid t 1) (λC R=>?_) ?_
 ·refine zu λw2 n _=>?_;have j:=yC rs n;obtain⟨css,y,U,O⟩:=j.k;simp(disch:=first|(simp only[push_cast])|omega) only[push_cast,j.q.ld4,j.k.len,true_and];refine zh (λa=>?_) (λa=>?_)
  ·try simp only[push_cast]
   exact no _ j λh=>a (by rw[h.1];rfl)
  have H:t.ks.length=2:=oM;simp(disch:=first|(simp only[push_cast])|omega) only[push_cast,j.q.ld4,y.iaddr,y.ldAgg,true_and];refine TermSame_spec _ (O 0 oM).term (O 1 oM).term λE i=>?_;have Y:=yC j i;simp only[push_cast,true_and];refine zI (λb=>?_) (λb=>?_)
  ·rw[gZ,decide_eq_false_iff_not] at b
   try simp only[push_cast]
   exact no _ Y λh=>b h.2
  ·rw[Gq,decide_eq_true_eq] at b;exact R _ _ ⟨rfl,n.trans i,H,b⟩
 rintro u g w2 ⟨rfl,n,H,T⟩;have j:=yC rs n;have W:M.ruleW ds t=if t.op=3\/t.op=4 then some (M.kid t 0) else if t.op=5\/t.op=7 then some (M.constM (M.sortM ds t) 0) else if t.op=15 then some (M.constM 0 1) else if t.op=16\/t.op=17 then some (M.constM 0 0) else none:=by
  unfold M.ruleW;rw[if_pos ⟨H,T⟩]
 simp only[push_cast,j.q.ld0];refine zR (λu w'=> ∃b:Bool,u=[.bool b]/\w'=w2/\(b=true↔t.op=3\/t.op=4)) (λD hD=>?_) ?_
 ·try simp only[push_cast]
  refine zh (λb=>?_) (λb=>?_)
  ·exact hD _ _ ⟨_,rfl,rfl,by rw[decide_eq_true_eq];exact⟨.inl,λh=>oM⟩⟩
  ·exact hD _ _ ⟨_,rfl,rfl,by rw[decide_eq_true_eq];exact⟨.inr,λh=>oM⟩⟩
 rintro u1 g1 L ⟨b,rfl,rfl,N⟩;simp only[push_cast];refine zI (λc=>?_) (λc=>?_)
 ·simp(disch:=first|(simp only[push_cast])|omega) only[push_cast,j.q.ld4,j.k.iaddr];refine j.k.load zp oM λx X=>?_;exact xm j (rs_kid j X) (jW p (by rw[W,if_pos (N.1 c)];rfl))
 have z: ¬(t.op=3\/t.op=4):=λh=>by have:=N.2 h;rw[c] at this;cases this
 refine zR (λu w'=> ∃b:Bool,u=[.bool b]/\w'=L/\(b=true↔t.op=5\/t.op=7)) (λD hD=>?_) ?_
 ·try simp only[push_cast]
  refine zh (λb=>?_) (λb=>?_)
  ·exact hD _ _ ⟨_,rfl,rfl,by rw[decide_eq_true_eq];exact⟨.inl,λh=>oM⟩⟩
  ·exact hD _ _ ⟨_,rfl,rfl,by rw[decide_eq_true_eq];exact⟨.inr,λh=>oM⟩⟩
 rintro u2 g2 Q ⟨b',rfl,rfl,s⟩;simp only[push_cast];refine zI (λc'=>?_) (λc'=>?_)
 ·rw[j.f.ldAgg (t:=zF) jA,j.q.ldAgg (t:=za) zp];refine X4 j.d j.m I ⟨kv,rfl,j.k⟩ λw3 v=>?_;refine constant_spec λE v4 i l=>?_;exact xm (yC j (v.trans i)) (rs_new (yC j v) i l) (jW p (by rw[W,if_neg z,if_pos (s.1 c')]))
 have A: ¬(t.op=5\/t.op=7):=λh=>by have:=s.2 h;rw[c'] at this;cases this
 try simp only[push_cast]
 refine zh (λe=>?_) (λe=>?_)
 ·refine constant_spec λE v4 i l=>?_;exact xm (yC j i) (rs_new j i l) (jW p (by rw[W,if_neg z,if_neg A,if_pos e]))
 by_cases o:t.op=16
 ·simp only[o,decide_true,push_cast];refine constant_spec λE v4 i l=>?_;exact xm (yC j i) (rs_new j i l) (jW p (by rw[W,if_neg z,if_neg A,if_neg e,if_pos (.inl o)]))
 ·simp only[o,decide_false,push_cast];refine zh (λf=>?_) (λf=>?_)
  ·refine constant_spec λE v4 i l=>?_;exact xm (yC j i) (rs_new j i l) (jW p (by rw[W,if_neg z,if_neg A,if_neg e,if_pos (.inr f)]))
  ·try simp only[push_cast]
   exact xm j K5 (XM p (by rw[W,if_neg z,if_neg A,if_neg e,if_neg oM]))
end
section
variable {w:World} {K:Value->World->Prop} {F D G:Nat->Prop}
def TwoV (G:Nat->Prop) (w0 w':World) (t:M.Tm) (u:List Value):Prop:= ∃b b' c c',u=[ptr b,ptr b']/\Blk w' b c za/\TmR (λx=>G x/\x<w0.heap.size) w' c (M.kid t 0)/\Blk w' b' c' za/\TmR (λx=>G x/\x<w0.heap.size) w' c' (M.kid t 1)
theorem Xo0 {w0 w1:World} {b2 b3 b4 mb:Nat} {dv kv:Value} {ds:List M.Dcl} {t:M.Tm} {C:List Value->World->Prop} (rs:RS G w0 w1 b2 b3 b4 dv kv mb ds t) (f:2<=t.ks.length) (g:∀u w',Ext w1 w'->TwoV G w0 w' t u->C u w'):yS0 (ptr b3) w1 C:=
 pairReg_ok rs.q rs.k f λw' b e c c' he h i a d=>g _ _ he ⟨b,e,c,c',rfl,h,i,a,d⟩
theorem truths_spec {dv tv:Value} {mb:Nat} {ds:List M.Dcl} {t:M.Tm} (hd:DclsR F w dv ds) (hm:KindsR w mb) (ht:TermR G w tv t) (hs:M.sortM ds t≠ -1) (y:jK0 K w G (M.ruleT t)):vcall P jl #[Y2 dv mb,tv] w K:=by
 apply WY;refine rs_enter (B:=λt2 t3 t4 a0=>_) hd hm ht λw1 b2 b3 b4 kv rs=>?_;have hlen:=M.len_of hs;rw[rs.q.ldAgg (t:=za) zp];refine intsL (xs:=[26,27]) dC λw2 av Q hav=>?_;have r2:=yC rs Q;refine among_spec (t:=t) (F:=λx=>G x/\x<w.heap.size) ⟨kv,rfl,r2.k⟩ hav dC λw3 R=>?_;have N:=yC r2 R;have r:t.op∈[(26:Int),27]↔t.op=26\/t.op=27:=by simp
 simp only[push_cast];refine zI (λa=>?_) (λa=>?_)
 ·rw[gZ,decide_eq_false_iff_not,r] at a
  try simp only[push_cast]
  exact xm N K5 (XM y (by unfold M.ruleT;rw[if_neg a]))
 rw[Gq,decide_eq_true_eq,r] at a;have h2:t.ks.length=2:=by rcases a with e|e<;>rw[e] at hlen<;>simp[M.arity] at hlen<;>omega
 refine zR (λu w'=>u=[.int .i64 (M.neutral t.op),.int .i64 (1-M.neutral t.op)]/\w'=w3) (λC J=>?_) ?_
 ·simp only[push_cast,N.q.ld0];refine zh (λb=>?_) (λb=>?_)
  ·refine J _ _ ⟨?_,rfl⟩;unfold M.neutral;rw[if_neg oM];rfl
  ·refine J _ _ ⟨?_,rfl⟩;unfold M.neutral;rw[if_pos oM];rfl
 rintro u g Y ⟨rfl,rfl⟩;refine zR (λu w'=>Ext Y w'/\TwoV G w w' t u) (λC J=>?_) ?_
 ·have reg:=Xo0 (C:=C) N oM λu w' he h=>J u w' ⟨he,h⟩;unfold yS0 at reg;simp only[push_cast] at reg;exact reg
 rintro u1 g1 w4 ⟨S,b,b',c,c',rfl,L,z,n,l⟩;have r4:=yC N S;have gc:aggB P za c.length=true:=by rw[yl z];exact zp
 have m:aggB P za c'.length=true:=by rw[yl l];exact zp
 have T:M.ruleT t=if M.isM (M.kid t 0) (M.neutral t.op)=true\/M.kid t 0=M.kid t 1 then some (M.kid t 1) else if M.isM (M.kid t 1) (M.neutral t.op)=true then some (M.kid t 0) else if M.isM (M.kid t 0) (1-M.neutral t.op)=true\/M.isM (M.kid t 1) (1-M.neutral t.op)=true then some (M.constM 0 (1-M.neutral t.op)) else none:=by
  unfold M.ruleT;rw[if_pos a]
 refine zR (λu w'=>u=[]/\Ext w4 w'/\¬(M.isM (M.kid t 0) (M.neutral t.op)=true\/M.kid t 0=M.kid t 1)/\¬M.isM (M.kid t 1) (M.neutral t.op)=true) (λD hD=>?_) ?_
 ·refine zR (λu w'=> ∃e:Bool,u=[.bool e]/\Ext w4 w'/\(e=true↔M.isM (M.kid t 0) (M.neutral t.op)=true\/M.kid t 0=M.kid t 1)) (λE Z=>?_) ?_
  ·simp only[push_cast];rw[L.ldAgg (t:=za) gc];refine X3 z.term λw5 d=>?_;refine zI (λi=>?_) (λi=>?_)
   ·exact Z _ _ ⟨true,rfl,d,⟨λ_=> .inl i,λ_=>rfl⟩⟩
   ·try simp only[push_cast]
    rw[(L.ext d).ldAgg (t:=za) gc,(n.ext d).ldAgg (t:=za) m];refine TermSame_spec _ (z.ext d).term (l.ext d).term λw6 f=>?_;refine Z _ _ ⟨_,rfl,d.trans f,?_⟩;rw[decide_eq_true_eq];exact⟨.inr,λh=>h.elim (λx=>by rw[i] at x;cases x) id⟩
  rintro u2 g2 w5 ⟨e,rfl,d,A⟩;have I:=yC r4 d;simp only[push_cast];refine zI (λi=>?_) (λi=>?_)
  ·try simp only[push_cast]
   rw[(n.ext d).ldAgg (t:=za) m];exact xm I (rs_kid I (l.ext d).term) (jW y (by rw[T,if_pos (A.1 i)]))
  have H: ¬(M.isM (M.kid t 0) (M.neutral t.op)=true\/M.kid t 0=M.kid t 1):=λh=>by have:=A.2 h;rw[i] at this;cases this
  try simp only[push_cast]
  rw[(n.ext d).ldAgg (t:=za) m];refine X3 (l.ext d).term λw6 f=>?_;have v:=yC I f;refine zI (λj=>?_) (λj=>?_)
  ·try simp only[push_cast]
   rw[(L.ext (d.trans f)).ldAgg (t:=za) gc];exact xm v (rs_kid v (z.ext (d.trans f)).term) (jW y (by rw[T,if_neg H,if_pos j]))
  ·exact hD _ _ ⟨rfl,d.trans f,H,by rw[j];decide⟩
 rintro u2 g2 w5 ⟨rfl,d,H,n2⟩;have I:=yC r4 d;simp only[push_cast];rw[(L.ext d).ldAgg (t:=za) gc];refine X3 (z.ext d).term λw6 f=>?_;have v:=yC I f;refine zI (λi=>?_) (λi=>?_)
 ·refine constant_spec λw7 v7 o V=>?_;have O:=yC v o;refine chosen_spec (rs_new v o V) λw8 v8 p s=>?_;have X:=yC O p;simp only[push_cast];exact xm X s (jW y (by rw[T,if_neg H,if_neg n2,if_pos (.inl i)]))
 ·try simp only[push_cast]
  rw[(n.ext (d.trans f)).ldAgg (t:=za) m];refine X3 (l.ext (d.trans f)).term λw7 o=>?_;have O:=yC v o;refine constant_spec λw8 v8 p s=>?_;have X:=yC O p;refine chosen_spec (rs_new O p s) λw9 v9 U W=>?_;have r9:=yC X U;simp only[push_cast];refine xm r9 W (QA0 y ?_);rw[T,if_neg H,if_neg n2];by_cases j:M.isM (M.kid t 1) (1-M.neutral t.op)=true
  ·rw[if_pos (.inr j),if_pos j]
  ·rw[if_neg (λh=>h.elim (λx=>by rw[i] at x;cases x) j),if_neg j]
theorem seconds_spec {dv tv:Value} {mb:Nat} {ds:List M.Dcl} {t:M.Tm} (hd:DclsR F w dv ds) (hm:KindsR w mb) (ht:TermR G w tv t) (J:jK0 K w G (M.ruleS t)):vcall P j4 #[Y2 dv mb,tv] w K:=by
 apply VC;refine rs_enter (B:=λt2 t3 t4 a0=>_) hd hm ht λw1 b2 b3 b4 kv rs=>?_;simp only[push_cast,rs.q.ld4,rs.k.len];refine zh (λa=>?_) (λa=>?_)
 ·try simp only[push_cast]
  exact xm rs K5 (XM J (by unfold M.ruleS;rw[if_neg oM]))
 have h2:t.ks.length=2:=oM
 refine zR (λu w'=>Ext w1 w'/\TwoV G w w' t u) (λC hC=>?_) ?_
 ·have reg:=Xo0 (C:=C) rs oM λu w' he h=>hC u w' ⟨he,h⟩;unfold yS0 at reg;simp only[push_cast] at reg;exact reg
 rintro u1 g1 Z ⟨U,b,b',c,c',rfl,X,S,p,m⟩;have V:=yC rs U;have gc:aggB P za c.length=true:=by rw[yl S];exact zp
 have n:aggB P za c'.length=true:=by rw[yl m];exact zp
 have T:M.ruleS t=if M.isM (M.kid t 1) 0=true/\(t.op=4\/t.op=5\/t.op=6\/t.op=7\/t.op=11\/t.op=12\/t.op=13) then some (M.kid t 0) else if M.isM (M.kid t 1) 0=true/\(t.op=3\/t.op=8) then some (M.kid t 1) else if M.isM (M.kid t 1) 1=true/\t.op=8 then some (M.kid t 0) else none:=by
  unfold M.ruleS;rw[if_pos h2]
 refine zR (λu w'=>u=[]/\Ext Z w'/\¬(M.isM (M.kid t 1) 0=true/\(t.op=4\/t.op=5\/t.op=6\/t.op=7\/t.op=11\/t.op=12\/t.op=13))/\¬(M.isM (M.kid t 1) 0=true/\(t.op=3\/t.op=8))) (λD hD=>?_) ?_
 ·refine zR (λu w'=> ∃e:Bool,u=[.bool e]/\Ext Z w'/\(e=true↔M.isM (M.kid t 1) 0=true/\(t.op=4\/t.op=5\/t.op=6\/t.op=7\/t.op=11\/t.op=12\/t.op=13))) (λE W=>?_) ?_
  ·simp only[push_cast];rw[p.ldAgg (t:=za) n];refine X3 m.term λw5 d=>?_;have s:=yC V d;refine zI (λi=>?_) (λi=>?_)
   ·try simp only[push_cast]
    rw[s.q.ldAgg (t:=za) zp];refine intsL (xs:=[4,5,6,7,11,12,13]) dC λw6 av f hav=>?_;have H:=yC s f;refine among_spec (t:=t) (F:=λx=>G x/\x<w.heap.size) ⟨kv,rfl,H.k⟩ hav dC λw7 g=>?_;refine W _ _ ⟨_,rfl,d.trans (f.trans g),?_⟩;rw[decide_eq_true_eq];simp only[gd,gx,or_false];exact⟨λh=>⟨i,h⟩,λh=>h.2⟩
   ·exact W _ _ ⟨false,rfl,d,⟨λh=>(by cases h),λh=>(by rw[i] at h;cases h.1)⟩⟩
  rintro u2 g2 w5 ⟨e,rfl,d,R⟩;have s:=yC V d;simp only[push_cast];refine zI (λi=>?_) (λi=>?_)
  ·try simp only[push_cast]
   rw[(X.ext d).ldAgg (t:=za) gc];exact xm s (rs_kid s (S.ext d).term) (jW J (by rw[T,if_pos (R.1 i)]))
  have A:=λh=>(show False by have:=R.2 h;rw[i] at this;cases this)
  try simp only[push_cast]
  rw[(p.ext d).ldAgg (t:=za) n];refine X3 (m.ext d).term λw6 f=>?_;have H:=yC s f;refine zI (λj=>?_) (λj=>?_)
  ·try simp only[push_cast]
   rw[H.q.ldAgg (t:=za) zp];refine intsL (xs:=[3,8]) dC λw7 av g hav=>?_;have I:=yC H g;refine among_spec (t:=t) (F:=λx=>G x/\x<w.heap.size) ⟨kv,rfl,I.k⟩ hav dC λw8 l=>?_;have v:=yC I l;have y:=d.trans (f.trans (g.trans l));have r:t.op∈[(3:Int),8]↔t.op=3\/t.op=8:=(by simp);refine zh (λo=>?_) (λo=>?_)
   ·try simp only[push_cast]
    rw[(p.ext y).ldAgg (t:=za) n];exact xm v (rs_kid v (m.ext y).term) (jW J (by rw[T,if_neg A,if_pos ⟨j,r.1 o⟩]))
   ·exact hD _ _ ⟨rfl,y,A,λh=>o (r.2 h.2)⟩
  ·exact hD _ _ ⟨rfl,d.trans f,A,λh=>by rw[j] at h;cases h.1⟩
 rintro u2 g2 w5 ⟨rfl,d,A,Y⟩;have s:=yC V d;refine zu λw6 f _=>?_;have H:=yC s f;have L:=X.ext (d.trans f);have N:=p.ext (d.trans f);have O:=S.ext (d.trans f);have Q:=m.ext (d.trans f);simp only[push_cast,L.ldAgg (t:=za) gc,N.ldAgg (t:=za) n,true_and];refine X3 Q.term λw7 g=>?_;have I:=yC H g;simp only[push_cast,(L.ext g).ldAgg (t:=za) gc,true_and,and_self];refine zI (λi=>?_) (λi=>?_)
 ·simp only[push_cast,I.q.ld0,true_and];refine chosen_spec (O.ext g).term λw8 v8 l z=>?_;have v:=yC I l;simp only[push_cast,true_and];refine xm v (rs_kid v z) (QA0 J ?_);rw[T,if_neg A,if_neg Y];by_cases o:t.op=8
  ·rw[if_pos ⟨i,o⟩,if_pos (decide_eq_true o)]
  ·rw[if_neg (λh=>o h.2),if_neg (by rw[decide_eq_false o];decide)]
 ·refine chosen_spec (O.ext g).term λw8 v8 l z=>?_;have v:=yC I l;simp only[push_cast,true_and];refine xm v (rs_kid v z) (XM J ?_);rw[T,if_neg A,if_neg Y,if_neg (λh=>by rw[i] at h;cases h.1)]
theorem firsts_spec {dv tv:Value} {mb:Nat} {ds:List M.Dcl} {t:M.Tm} (hd:DclsR F w dv ds) (hm:KindsR w mb) (ht:TermR G w tv t) (L:jK0 K w G (M.ruleF t)):vcall P jn #[Y2 dv mb,tv] w K:=by
 apply U0;refine rs_enter (B:=λt2 t3 t4 a0=>_) hd hm ht λw1 b2 b3 b4 kv rs=>?_;simp only[push_cast,rs.q.ld4,rs.k.len];refine zh (λa=>?_) (λa=>?_)
 ·try simp only[push_cast]
  exact xm rs K5 (XM L (by unfold M.ruleF;rw[if_neg oM]))
 have h2:t.ks.length=2:=oM
 refine zR (λu w'=>Ext w1 w'/\TwoV G w w' t u) (λC hC=>?_) ?_
 ·have reg:=Xo0 (C:=C) rs oM λu w' he h=>hC u w' ⟨he,h⟩;unfold yS0 at reg;simp only[push_cast] at reg;exact reg
 rintro u1 g1 Z ⟨V,b,b',c,c',rfl,R,O,N,z⟩;have W:=yC rs V;have gc:aggB P za c.length=true:=by rw[yl O];exact zp
 have y:aggB P za c'.length=true:=by rw[yl z];exact zp
 have T:M.ruleF t=if M.isM (M.kid t 0) 0=true/\(t.op=4\/t.op=5\/t.op=6) then some (M.kid t 1) else if M.isM (M.kid t 0) 0=true/\(t.op=3\/t.op=8) then some (M.kid t 0) else if M.isM (M.kid t 0) 1=true/\t.op=8 then some (M.kid t 1) else none:=by
  unfold M.ruleF;rw[if_pos h2]
 refine zR (λu w'=>u=[]/\Ext Z w'/\¬(M.isM (M.kid t 0) 0=true/\(t.op=4\/t.op=5\/t.op=6))/\¬(M.isM (M.kid t 0) 0=true/\(t.op=3\/t.op=8))) (λD hD=>?_) ?_
 ·refine zR (λu w'=> ∃e:Bool,u=[.bool e]/\Ext Z w'/\(e=true↔M.isM (M.kid t 0) 0=true/\(t.op=4\/t.op=5\/t.op=6))) (λE X=>?_) ?_
  ·simp only[push_cast];rw[R.ldAgg (t:=za) gc];refine X3 O.term λw5 d=>?_;have r:=yC W d;refine zI (λi=>?_) (λi=>?_)
   ·try simp only[push_cast]
    rw[r.q.ldAgg (t:=za) zp];refine intsL (xs:=[4,5,6]) dC λw6 av f hav=>?_;have I:=yC r f;refine among_spec (t:=t) (F:=λx=>G x/\x<w.heap.size) ⟨kv,rfl,I.k⟩ hav dC λw7 g=>?_;refine X _ _ ⟨_,rfl,d.trans (f.trans g),?_⟩;rw[decide_eq_true_eq];simp only[gd,gx,or_false];exact⟨λh=>⟨i,h⟩,λh=>h.2⟩
   ·exact X _ _ ⟨false,rfl,d,⟨λh=>(by cases h),λh=>(by rw[i] at h;cases h.1)⟩⟩
  rintro u2 g2 w5 ⟨e,rfl,d,Q⟩;have r:=yC W d;simp only[push_cast];refine zI (λi=>?_) (λi=>?_)
  ·try simp only[push_cast]
   rw[(N.ext d).ldAgg (t:=za) y];exact xm r (rs_kid r (z.ext d).term) (jW L (by rw[T,if_pos (Q.1 i)]))
  have H:=λh=>(show False by have:=Q.2 h;rw[i] at this;cases this)
  try simp only[push_cast]
  rw[(R.ext d).ldAgg (t:=za) gc];refine X3 (O.ext d).term λw6 f=>?_;have I:=yC r f;refine zI (λj=>?_) (λj=>?_)
  ·try simp only[push_cast]
   rw[I.q.ldAgg (t:=za) zp];refine intsL (xs:=[3,8]) dC λw7 av g hav=>?_;have J:=yC I g;refine among_spec (t:=t) (F:=λx=>G x/\x<w.heap.size) ⟨kv,rfl,J.k⟩ hav dC λw8 l=>?_;have s:=yC J l;have v:=d.trans (f.trans (g.trans l));have p:t.op∈[(3:Int),8]↔t.op=3\/t.op=8:=(by simp);refine zh (λo=>?_) (λo=>?_)
   ·try simp only[push_cast]
    rw[(R.ext v).ldAgg (t:=za) gc];exact xm s (rs_kid s (O.ext v).term) (jW L (by rw[T,if_neg H,if_pos ⟨j,p.1 o⟩]))
   ·exact hD _ _ ⟨rfl,v,H,λh=>o (p.2 h.2)⟩
  ·exact hD _ _ ⟨rfl,d.trans f,H,λh=>by rw[j] at h;cases h.1⟩
 rintro u2 g2 w5 ⟨rfl,d,H,Y⟩;have r:=yC W d;refine zu λw6 f _=>?_;have I:=yC r f;have S:=R.ext (d.trans f);have m:=N.ext (d.trans f);have U:=O.ext (d.trans f);have n:=z.ext (d.trans f);simp only[push_cast,S.ldAgg (t:=za) gc,m.ldAgg (t:=za) y,true_and];refine X3 U.term λw7 g=>?_;have J:=yC I g;simp only[push_cast,(m.ext g).ldAgg (t:=za) y,true_and,and_self];refine zI (λi=>?_) (λi=>?_)
 ·simp only[push_cast,J.q.ld0,true_and];refine chosen_spec (n.ext g).term λw8 v8 l A=>?_;have s:=yC J l;simp only[push_cast,true_and];refine xm s (rs_kid s A) (QA0 L ?_);rw[T,if_neg H,if_neg Y];by_cases o:t.op=8
  ·rw[if_pos ⟨i,o⟩,if_pos (decide_eq_true o)]
  ·rw[if_neg (λh=>o h.2),if_neg (by rw[decide_eq_false o];decide)]
 ·refine chosen_spec (n.ext g).term λw8 v8 l A=>?_;have s:=yC J l;simp only[push_cast,true_and];refine xm s (rs_kid s A) (XM L ?_);rw[T,if_neg H,if_neg Y,if_neg (λh=>by rw[i] at h;cases h.1)]
end
end Go.Proofs.YtokflbdfnbppjaaGreatDoor
