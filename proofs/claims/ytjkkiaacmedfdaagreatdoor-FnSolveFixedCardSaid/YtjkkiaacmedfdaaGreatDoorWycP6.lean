import Derived.Test.YtjkkiaacmedfdaaGreatDoorWycP5
import Derived.Laws.IdiomCopy
/- A part of the proof. -/
set_option linter.all false
set_option maxRecDepth 9999
set_option maxHeartbeats 2000000
noncomputable section
section
namespace Go.M
variable {ds:List Dcl} {env:List Int}
def msbN:List Bool->Nat
 |b::bs=>(if b then 2^bs.length else 0)+msbN bs
 |[]=>0
theorem kD (b:Bool) (bs:List Bool):msbN (b::bs)=(if b then 2^bs.length else 0)+msbN bs:=rfl
theorem msb_lt:∀bs:List Bool,msbN bs<2^bs.length
 |[]=>dC
 |b::bs=>by
  have:=msb_lt bs
  grind [kD]
theorem msb_app:∀aa bs:List Bool,msbN (aa++bs)=msbN aa*2^bs.length+msbN bs
 |[],bs=>by simp[msbN]
 |a::aa,bs=>by
  rw[GP,kD,kD,msb_app aa bs,gg,Nat.pow_add,G7]
  grind
theorem bits_rev (w a:Nat):(bitsN (w+1) a).reverse=decide (a/2^w%2=1)::(bitsN w a).reverse:=by
 grind [bitsN,List.range_succ]
theorem bits_mod {w a m:Nat} (h:∀i,i<w->a/2^i%2=m/2^i%2):bitsN w a=bitsN w m:=by
 grind [bitsN,List.map_congr_left]
theorem high_bit {w i m k:Nat} (h:i<w):(k*2^w+m)/2^i%2=m/2^i%2:=by
 have e:k*2^w=2^i*(k*(2*2^(w-i-1))):=by
  have:2^w=2^i*(2*2^(w-i-1)):=by rw[<-Nat.pow_succ',<-Nat.pow_add];grind
  grind
 grind [Nat.mul_add_div]
theorem bits_msb:∀bs:List Bool,(bitsN bs.length (msbN bs)).reverse=bs
 |[]=>rfl
 |b::bs=>by
  rw[gG,bits_rev];have a:=msb_lt bs;have e:msbN (b::bs)=(if b then 1 else 0)*2^bs.length+msbN bs:=by rw[kD];grind
  rw[e,bits_mod (λi hi=>high_bit hi),bits_msb bs];congr 1
  grind [Nat.mul_comm,Nat.mul_add_div,Nat.div_eq_of_lt]
theorem msb_bits:∀(w a:Nat),a<2^w->msbN (bitsN w a).reverse=a
 |0,a,h=>by
  have:a=0:=(by simpa using h);subst this;rfl
 |w+1,a,h=>by
  rw[bits_rev];have d:a/2^w<2:=by rw[Nat.div_lt_iff_lt_mul (Nat.two_pow_pos w)];rw[Nat.pow_succ] at h;omega
  have b:=Nat.div_add_mod a (2^w);have f:=pE a (Nat.two_pow_pos w);have e:bitsN w a=bitsN w (a%2^w):=bits_mod λi hi=>by
   have:=high_bit (m:=a%2^w) (k:=a/2^w) hi;rwa[Nat.mul_comm,b] at this
  rw[kD,e,msb_bits w (a%2^w) f,PI,bitsN_len];by_cases c:a/2^w%2=1
  ·rw[K3 (by simpa using c)];have:a/2^w=1:=by generalize a/2^w=q at c d;omega
   rw[this,pQ] at b;exact b
  ·rw[q0 (by simpa using c)];have:a/2^w=0:=by generalize a/2^w=q at c d;omega
   rw[this,Nat.mul_zero] at b;exact b
theorem msb_lex:∀{aa bs:List Bool} {k:Nat},aa.length=bs.length->k<aa.length->(∀j,j<k->aa.getD j false=bs.getD j false)->aa.getD k false=false->bs.getD k false=true->msbN aa<msbN bs
 |[],_,_,_,h,_,_,_=>by simp at h
 |_::_,[],_,h,_,_,_,_=>by simp at h
 |a::aa,b::bs,0,l,_,_,g,i=>by
  have e:a=false:=(by grind);have f:b=true:=(by grind);subst e;subst f;have:=msb_lt aa
  grind [kD]
 |a::aa,b::bs,k+1,l,n,he,g,i=>by
  have d:a=b:=(by simpa using he 0 oM);subst d;have c:aa.length=bs.length:=(by grind);have:=msb_lex (aa:=aa) (bs:=bs) (k:=k) c (by grind) (λj m=>by grind) (by grind) (by grind);rw[kD,kD,c];omega
theorem msb_inj {aa bs:List Bool} (a:aa.length=bs.length) (h:msbN aa=msbN bs):aa=bs:=by
 grind [bits_msb]
def envB:List Dcl->List Bool->List Int
 |d::ds,ins=>(msbN (ins.take d.2.toNat):Int)::envB ds (ins.drop d.2.toNat)
 |[],_=>[]
theorem envB_len:∀(ds:List Dcl) (ins:List Bool),(envB ds ins).length=ds.length
 |[],_=>rfl
 |d::ds,ins=>by simp[envB,envB_len ds]
theorem ins_envB:∀{ds:List Dcl} {ins:List Bool},(∀d,d∈ds->0<=d.2)->ins.length=nIn ds->insM ds (envB ds ins)=ins
 |[],ins,_,b=>by
  have:ins=[]:=gP b;rw[this];rfl
 |d::ds,ins,c,b=>by
  have f:=c d gq;have a:∀x,x∈ds->0<=x.2:=(by grind);have g:=bits_pos' a;have h:nIn (d::ds)=d.2.toNat+nIn ds:=by unfold nIn;rw[bits_cons'];omega
  have e:(ins.take d.2.toNat).length=d.2.toNat:=(by grind);have:=bits_msb (ins.take d.2.toNat);rw[e] at this;unfold envB insM;rw[gw,this,ins_envB a (by grind),pa]
theorem envB_ins:∀{ds:List Dcl} {env:List Int},env.length=ds.length->(∀i,i<ds.length->0<=(ds.getD i (nada,0)).2/\0<=env.getD i 0/\env.getD i 0<2^((ds.getD i (nada,0)).2).toNat)->envB ds (insM ds env)=env
 |[],[],_,_=>rfl
 |[],_::_,a,_=>by simp at a
 |_::_,[],a,_=>by simp at a
 |d::ds,n::env,a,h=>by
  have b:=h 0 (by simp);simp only[pt] at b;have c:(bitsN d.2.toNat n.toNat).reverse.length=d.2.toNat:=(by rw[PI,bitsN_len]);have e:((2^d.2.toNat:Nat):Int)=2^d.2.toNat:=(by simp);unfold insM envB;rw[pj oM,gI oM,List.drop_append_of_le_length oM,Pp oM,Gq,msb_bits _ _ oM,
   envB_ins (by grind) (λi hi=>by simpa using h (i+1) (by grind))]
  grind
theorem env_nums (he:envOk ds env=true):∀i,i<ds.length->0<=(ds.getD i (nada,0)).2/\0<=env.getD i 0/\env.getD i 0<2^((ds.getD i (nada,0)).2).toNat:=λi hi=>by
 have:=vok_iff.1 ((env_ok he).2.2 i hi);omega
theorem UM (he:envOk ds env=true):envB ds (insM ds env)=env:=envB_ins (env_ok he).2.1 (env_nums he)
theorem envB_vals:∀{ds:List Dcl} {ins:List Bool},ins.length=nIn ds->(∀d,d∈ds->0<=d.2)->∀i,i<ds.length->0<=(envB ds ins).getD i 0/\(envB ds ins).getD i 0<2^((ds.getD i (nada,0)).2).toNat
 |[],_,_,_,i,hi=>by simp at hi
 |d::ds,ins,e,b,0,_=>by
  have a:∀x,x∈ds->0<=x.2:=(by grind);have c:=bits_pos' a
  grind [nIn,bits_cons',msb_lt,List.length_take,envB]
 |d::ds,ins,e,b,i+1,hi=>by
  have a:∀x,x∈ds->0<=x.2:=(by grind);have c:=bits_pos' a;have f:=b d gq;have g:nIn (d::ds)=d.2.toNat+nIn ds:=by unfold nIn;rw[bits_cons'];omega
  have:=envB_vals (ds:=ds) (ins:=ins.drop d.2.toNat) (by grind) a i (by grind);unfold envB
  grind
theorem envB_ok {ins:List Bool} (a:declOk ds=true) (b:ins.length=nIn ds):envOk ds (envB ds ins)=true:=by
 have c:=envB_vals b (dpos a);unfold envOk;simp only[gp,gd,gY,gN]
 grind [envB_len,dcl_wide,vok_iff]
theorem rank_msb:∀{ds:List Dcl} {env:List Int},env.length=ds.length->(∀i,i<ds.length->0<=(ds.getD i (nada,0)).2/\0<=env.getD i 0/\env.getD i 0<2^((ds.getD i (nada,0)).2).toNat)->rankE ds env=msbN (insM ds env)
 |[],[],_,_=>rfl
 |[],_::_,b,_=>by simp at b
 |_::_,[],b,_=>by simp at b
 |d::ds,n::env,b,h=>by
  have g:=h 0 (by simp);simp only[pt] at g;have a:env.length=ds.length:=(by grind);have f:∀i,i<ds.length->0<=(ds.getD i (nada,0)).2/\0<=env.getD i 0/\env.getD i 0<2^((ds.getD i (nada,0)).2).toNat:=λi hi=>(by simpa using h (i+1) (by grind));have c:∀x,x∈ds->0<=x.2:=λx k=>by
   grind [List.getElem_of_mem]
  have e:((2^d.2.toNat:Nat):Int)=2^d.2.toNat:=(by simp);have hi:=insM_len a c;have j:=bits_pos' c;unfold rankE insM;rw[msb_app,msb_bits _ _ oM,rank_msb a f,show(insM ds env).length=(bits ds).toNat by omega,Int.natCast_add,Int.natCast_mul,show((n.toNat:Nat):Int)=n by omega];simp
theorem rank_env (he:envOk ds env=true):rankE ds env=msbN (insM ds env):=rank_msb (env_ok he).2.1 (env_nums he)
theorem rank_inj {e:List Int} (h:envOk ds env=true) (a:envOk ds e=true) (b:rankE ds env=rankE ds e):env=e:=by
 grind [rank_env,msb_inj,insM_n,UM]
def exK:List Bool->Int->List Int
 |b::bs,k=>(if b then-k else k)::exK bs (k+1)
 |[],_=>[]
def exC (ds:List Dcl) (env:List Int):List Int:=exK (insM ds env) 2
theorem exK_len:∀(bs:List Bool) (k:Int),(exK bs k).length=bs.length
 |[],_=>rfl
 |b::bs,k=>by simp[exK,exK_len bs]
theorem exK_get:∀{bs:List Bool} {k:Int} {i:Nat},i<bs.length->(exK bs k).getD i 0=if bs.getD i false then-(k+i) else k+i
 |[],_,_,h=>by simp at h
 |b::bs,k,0,_=>by simp[exK]
 |b::bs,k,i+1,h=>by
  have:=exK_get (bs:=bs) (k:=k+1) (i:=i) (by grind)
  grind [exK]
theorem exC_ok {m:Nat} (hm:1+(insM ds env).length<=m):yR m (exC ds env)=true:=by
 refine QO.2 λk a=>?_;unfold exC at a⊢;rw[exK_len] at a;have e:=exK_get (k:=2) a;refine⟨?_,?_⟩
 ·grind [litOk]
 grind [exK_get]
theorem exC_true {v:Nat->Bool}:clT v (exC ds env)↔insV v (insM ds env).length≠insM ds env:=by
 unfold exC;constructor
 ·rintro⟨l,o,a⟩ he;obtain⟨i,hi,rfl⟩:=gx o;have b:i<(insM ds env).length:=(by rwa[exK_len] at hi);have e:=exK_get (k:=2) b;rw[X0,gl hi,GA] at e;have g:=insV_get (v:=v) (n:=(insM ds env).length) b;rw[he] at g;rw[e,g] at a;unfold litT at a;cases c:v (i+2)
  ·rw[c] at a;simp only[Ge,if_false] at a;rw[K3 oM,show((2:Int)+i).natAbs=i+2 by omega,c] at a;cases a
  ·rw[c] at a;simp only[if_true] at a;rw[q0 oM,show(-((2:Int)+i)).natAbs=i+2 by omega,c] at a;cases a
 ·intro f;have:∃i,i<(insM ds env).length/\v (i+2)≠(insM ds env).getD i false:=Gn λp=>f (by
   refine Gd (insV_len _ _) λi j d=>?_;have e:=insV_get (v:=v) (n:=(insM ds env).length) (i:=i) d;rw[X0,gl j,GA] at e;rw[e];have:=Gn λh=>p ⟨i,d,h⟩;rwa[X0,gl d,GA] at this)
  obtain⟨i,hi,h⟩:=this;have m:i<(exK (insM ds env) 2).length:=by rw[exK_len];exact hi
  refine⟨(exK (insM ds env) 2).getD i 0,getD_mem m 0,?_⟩;rw[exK_get hi]
  grind [litT]
def jobC (ds:List Dcl) (gs:Gs) (rs:List (List Int)) (nots:List (List Int)):Cnf:=netC (nIn ds) gs (rootsC rs++nots.map (exC ds))
def searchM (n:Nat) (ds:List Dcl) (c:Cnf):List Int×Int:=
 let s:=runM c.many.toNat c n emptyS
 if s.code=1 then(envB ds (insV (wayM s.put) (nIn ds)),1) else if s.code=2 then([],2) else([],3)
def solveM (n:Nat) (ds:List Dcl) (ts:List Tm) (nots:List (List Int)):List Int×Int:=match listB ds (ts.map (foldT ds)) with
 |none=>([],3)
 |some (gs,rs)=>searchM n ds (jobC ds gs rs nots)
def Sol (ds:List Dcl) (ts:List Tm) (nots:List (List Int)) (env:List Int):Prop:=envOk ds env=true/\allT ds env ts/\env∉nots
section
variable {ts:List Tm} {gs:Gs} {rs nots:List (List Int)}
theorem job_ok (b:declOk ds=true) (h:ListNet ds ts gs rs) (d:∀e,e∈nots->envOk ds e=true) (c:ts.length+nots.length<=90):cnfOk (jobC ds gs rs nots)=true:=by
 refine net_ok (nIn_eq b).2 h.net (by unfold rootsC;rw[gg,V0,V0,h.many];exact c) λcl a=>?_;rcases gr.1 a with a|a
 ·exact roots_ok b h cl a
 ·obtain⟨e,he,rfl⟩:=gy.1 a;exact exC_ok (by rw[insM_n (d e he)];omega)
theorem job_true (c:declOk ds=true) (hs:∀t,t∈ts->sortM ds t=0) (h:ListSays ds ts gs rs) (j:∀e,e∈nots->envOk ds e=true) {v:Nat->Bool}:
  jm0 v (jobC ds gs rs nots)↔Follows v (nIn ds) gs/\Sol ds ts nots (envB ds (insV v (nIn ds))):=by
 have d:=insV_len v (nIn ds);have hi:=ins_envB (dpos c) d;have he:=envB_ok c d;unfold jobC;rw[net_sat h.net];constructor
 ·rintro⟨b,f⟩;refine⟨b,he,(way_true he hs h b hi.symm).1 λcl a=>f cl (gr.2 (.inl a)),λhm=>?_⟩;have:=f _ (gr.2 (.inr (gy.2 ⟨_,hm,rfl⟩)));simp_all[exC_true]
 ·rintro⟨b,_,i,hm⟩;refine⟨b,λcl a=>?_⟩;rcases gr.1 a with a|a
  ·grind [way_true]
  ·obtain⟨e,g,rfl⟩:=gy.1 a
   grind [exC_true,insM_n,UM]
theorem lex_rank {many:Nat} {a b:Nat->Bool} {n:Nat} (hm:1+n<=many) (o:a 1=true) (h:LexLe many a b):msbN (insV a n)<=msbN (insV b n):=by
 have heq:(∀u,1<=u->u<=1+n->a u=b u)->msbN (insV a n)<=msbN (insV b n):=λh=>by
  have:insV a n=insV b n:=by
   grind [insV,List.map_congr_left]
  grind
 rcases h with h|⟨d,f,g,i,l,m⟩
 ·grind
 ·by_cases c:d<=1+n
  ·have e:d≠1:=(by grind);refine Nat.le_of_lt (msb_lex (k:=d-2) (by rw[insV_len,insV_len]) (by rw[insV_len];omega) (λj p=>?_) ?_ ?_)
   ·grind [insV_get]
   ·grind [insV_get]
   grind [insV_get]
  grind
theorem search_says (n:Nat) (c:declOk ds=true) (hs:∀t,t∈ts->sortM ds t=0) (h:ListSays ds ts gs rs) (i:∀e,e∈nots->envOk ds e=true) (o:ts.length+nots.length<=90):
  ((searchM n ds (jobC ds gs rs nots)).2=1/\Sol ds ts nots (searchM n ds (jobC ds gs rs nots)).1/\∀e,Sol ds ts nots e->rankE ds (searchM n ds (jobC ds gs rs nots)).1<=rankE ds e)\/
  (searchM n ds (jobC ds gs rs nots)=([],2)/\∀e,¬Sol ds ts nots e)\/searchM n ds (jobC ds gs rs nots)=([],3):=by
 have j:=job_ok c h.toListNet i o;have b:(jobC ds gs rs nots).many=((jobC ds gs rs nots).many.toNat:Nat):=by unfold jobC netC;grind
 have g:(jobC ds gs rs nots).many.toNat=1+nIn ds+gs.length:=by unfold jobC netC;grind
 have d:=run_fair b (n:=n) (W5 (many:=(jobC ds gs rs nots).many.toNat) j);have way:∀e,Sol ds ts nots e->jm0 (wayG (insM ds e) gs) (jobC ds gs rs nots)/\insV (wayG (insM ds e) gs) (nIn ds)=insM ds e:=λe he=>by
  have hi:insV (wayG (insM ds e) gs) (nIn ds)=insM ds e:=by rw[<-insM_n he.1];exact wayG_ins
  refine⟨(job_true c hs h i).2 ⟨z30 (insM_n he.1),?_⟩,hi⟩;rw[hi,UM he.1];exact he
 unfold searchM;generalize runM (jobC ds gs rs nots).many.toNat (jobC ds gs rs nots) n emptyS=s at d⊢;simp only;split
 ·next l=>
  refine .inl ⟨rfl,?_⟩;have k:=d.least b l;obtain⟨f,a⟩:=(job_true c hs h i).1 k.1;refine⟨a,λe he=>?_⟩;obtain⟨hw,hi⟩:=way e he;have:=lex_rank (n:=nIn ds) oM (by have:=f 0 oM;rw[this];exact Xw) (k.2 _ hw);rw[rank_env a.1,rank_env he.1,ins_envB (dpos c) (insV_len _ _)]
  grind
 ·split
  ·next m=>
   refine .inr (.inl ⟨rfl,λe he=>d.no m _ (way e he).1⟩)
  grind
theorem allT_fold (he:envOk ds env=true) (hs:∀t,t∈ts->sortM ds t=0):allT ds env (ts.map (foldT ds))↔allT ds env ts:=by
 have c:=(env_ok he).1;have b:∀t,t∈ts->evalM ds env (foldT ds t)=evalM ds env t:=λt a=>((fold_good c t (by grind)).eval env he);constructor
 ·intro h t a;rw[<-b t a];exact h _ (gy.2 ⟨t,a,rfl⟩)
 ·intro h u hu;obtain⟨t,a,rfl⟩:=gy.1 hu;rw[b t a];exact h t a
theorem solve_says (n:Nat) (f:declOk ds=true) (hs:∀t,t∈ts->sortM ds t=0) (j:∀e,e∈nots->envOk ds e=true) (h:ts.length+nots.length<=90):
  ((solveM n ds ts nots).2=1/\Sol ds ts nots (solveM n ds ts nots).1/\∀e,Sol ds ts nots e->rankE ds (solveM n ds ts nots).1<=rankE ds e)\/
  (solveM n ds ts nots=([],2)/\∀e,¬Sol ds ts nots e)\/solveM n ds ts nots=([],3):=by
 have g:∀t,t∈ts.map (foldT ds)->sortM ds t=0:=λu hu=>by
  obtain⟨t,k,rfl⟩:=gy.1 hu;have:=(fold_good f t (by grind)).sort
  grind
 have d:∀e,Sol ds (ts.map (foldT ds)) nots e↔Sol ds ts nots e:=λe=>
  ⟨λ⟨a,b,c⟩=>⟨a,(allT_fold a hs).1 b,c⟩,λ⟨a,b,c⟩=>⟨a,(allT_fold a hs).2 b,c⟩⟩
 unfold solveM;cases i:listB ds (ts.map (foldT ds)) with
 |none=>grind
 |some p=>
  grind [search_says,list_says]
end
end Go.M
end
section
namespace Go.M
variable {ds:List Dcl} {n:Nat} {ts:List Tm} {nots:List (List Int)}
def Wj (ds:List Dcl) (ts:List Tm):Prop:=∀t,t∈ts->sortM ds t=0
theorem solve_yes (d:declOk ds=true) (hs:Wj ds ts) (f:∀e,e∈nots->envOk ds e=true) (c:ts.length+nots.length<=90) (h:(solveM n ds ts nots).2=1):Sol ds ts nots (solveM n ds ts nots).1/\∀e,Sol ds ts nots e->rankE ds (solveM n ds ts nots).1<=rankE ds e:=by
 rcases solve_says n d hs f c with⟨_,a⟩|⟨b,_⟩|b
 ·exact a
 ·grind
 grind
theorem solve_no (c:declOk ds=true) (hs:Wj ds ts) (d:∀e,e∈nots->envOk ds e=true) (b:ts.length+nots.length<=90) (h:(solveM n ds ts nots).2=2):(solveM n ds ts nots).1=[]/\∀e,¬Sol ds ts nots e:=by
 rcases solve_says n c hs d b with⟨a,_⟩|⟨a,a2⟩|a
 ·omega
 ·grind
 grind
def noT (t:Tm):Tm:= .mk 25 0 0 nada [t]
structure Calm (s:Sat):Prop where
 code:s.code=0\/s.code=1
 none:s.learned=[]
 pos:(-1:Int)∉s.put
section
variable {many:Nat} {c:Cnf} {s:Sat}
theorem calm_step (H:FairS many c s) (C:∀cl,cl∈c.list->cl=[1]) (y:[1]∈c.list) (h:Calm s):Calm (stepM many c s):=by
 unfold stepM;by_cases G:s.code=0
 case neg=>grind
 rw[K3 G];have hm:=H.ok.mks;have E:c.list++s.learned=c.list:=by rw[h.none,gK]
 have F:∀cl,cl∈c.list->¬qL s.put cl:=λcl w o=>by
  have e:=C cl w;subst e;obtain⟨a,b⟩:=o 1 (by simp);exact h.pos (false_of b a)
 have d:=findM_spec s.put (c.list++s.learned) 0 (-1) 0 oM;rw[E] at d;unfold goM;rw[E];generalize findM s.put c.list 0 (-1) 0=r at d;obtain⟨k,u,x⟩:=r;simp only;rcases d with⟨i,hi,_,D⟩|⟨B,_,D⟩
 ·grind
 simp only at B;subst B;rw[q0 oM];rcases D with⟨M,_⟩|⟨_,⟨i,hi,t,p,_⟩|⟨t,p⟩⟩
 ·omega
 ·simp only at t p;rw[K3 oM];have e:=C _ (getD_mem hi []);rw[e] at p;have L:x=1:=by
   have m:x∈([1]:List Int).filter λl=>decide (placeOf s.put l.natAbs=0):=by rw[p.2];grind
   grind
  subst L;refine⟨h.code,h.none,λg=>?_⟩;rcases gr.1 g with n|n
  ·exact h.pos n
  grind
 ·simp only[Gx] at t;rw[q0 oM];by_cases z:s.put.length=many
  ·rw[K3 z];exact⟨.inr rfl,h.none,h.pos⟩
  rw[q0 z];refine⟨h.code,h.none,λg=>?_⟩;rcases gr.1 g with n|n
  ·exact h.pos n
  rw[gz] at n;have f:Z0 many s.put=1:=oM;unfold Z0 at f;cases o:(List.range many).find? λi=>decide (placeOf s.put (i+1)=0) with
  |none=>
   rw[pS] at o;exact z (len_full hm λv J K q=>o (v-1) (gN.2 oM) (by grind))
  |some j=>
   rw[o] at f;have I:j=0:=(by grind);have q:=List.find?_some o;rw[I] at q;have q:placeOf s.put 1=0:=(by grind);refine p [1] y 1 ⟨λl A m=>?_,by simp[q]⟩;rw[gz.1 A] at m;exact placeOf_ne_zero m q
theorem calm_run (a:c.many=many) (d:∀cl,cl∈c.list->cl=[1]) (b:[1]∈c.list):∀{n:Nat} {s:Sat},FairS many c s->Calm s->Calm (runM many c n s)
 |0,_,_,h=>h
 |n+1,_,e,h=>calm_run a d b (n:=n) (step_fair e a) (calm_step e d b h)
end
theorem run_calm {many:Nat} {c:Cnf} (a:c.many=many) (f:cnfOk c=true) (e:many<=10) (d:∀cl,cl∈c.list->cl=[1]) (b:[1]∈c.list) {n:Nat} (g:4000<=n):(runM many c n emptyS).code=1:=by
 have:=(calm_run a d b (n:=n) (W5 f) ⟨.inl rfl,rfl,by simp[emptyS]⟩).code
 grind [run_ends]
theorem run_stays {many:Nat} {c:Cnf} {s:Sat} (h:s.code≠0):∀n,runM many c n s=s
 |0=>rfl
 |n+1=>by unfold runM;rw[show stepM many c s=s by unfold stepM;grind];exact run_stays h n
theorem go_unit {many:Nat} {c:Cnf} {s:Sat} {u x:Int} (h:findM s.put (c.list++s.learned) 0 (-1) 0=(-1,u,x)) (hu:0<=u):goM many c s={s with put:=s.put++[x],why:=s.why++[u]}:=by
 grind [goM]
theorem kz0 {many:Nat} {c:Cnf} {s:Sat} {k u x:Int} (h:findM s.put (c.list++s.learned) 0 (-1) 0=(k,u,x)) (a:0<=k):goM many c s=qx many c s (atM c s k.toNat):=by
 simp_all[goM]
theorem run_never {many:Nat} {m:Int} {n:Nat}:(runM many ⟨m,[[1],[1],[-1]]⟩ (n+2) emptyS).code=2:=by
 have a:stepM many ⟨m,[[1],[1],[-1]]⟩ emptyS=⟨[1],[0],[],0⟩:=by
  unfold stepM;rw[K3 (show emptyS.code=0 from rfl),go_unit (u:=0) (x:=1) (show findM [] ([[1],[1],[-1]]++[]) 0 (-1) 0=(-1,0,1) by decide+kernel) dC];rfl
 have b:stepM many ⟨m,[[1],[1],[-1]]⟩ ⟨[1],[0],[],0⟩=⟨[1],[0],[],2⟩:=by
  unfold stepM;rw[K3 rfl,kz0 (k:=2) (u:= -1) (x:=0) (show findM [1] ([[1],[1],[-1]]++[]) 0 (-1) 0=(2,-1,0) by decide+kernel) dC];unfold qx;have c:kL [1] (ym [0]) (atM ⟨m,[[1],[1],[-1]]⟩ ⟨[1],[0],[],0⟩ (2:Int).toNat)=0:=by
   show kL [1] (ym [0]) [-1]=0;decide+kernel
  grind
 grind [runM,run_stays]
def yesT:Tm:= .mk 24 0 0 nada []
theorem zero_least (a:declOk ds=true) {e:List Int} (he:envOk ds e=true) (h:rankE ds e<=rankE ds (zeroE ds)):e=zeroE ds:=by
 grind [zeroE_ok,rank_inj,zeroE,rank_zero,rank_env]
end Go.M
end
namespace Go.M
open Go
section
variable {ds:List Dcl}
theorem ones_ok {ts:List Tm} (b:declOk ds=true) (hs:∀t,t∈ts->t=yesT) (n:ts.length<=8) (i:listB ds ts=some ([],ts.map λ_=>[1])):solveM 4000 ds ts []=(zeroE ds,1):=by
 have d:Wj ds ts:=λt a=>by rw[hs t a];rfl
 have hm:ts.map (foldT ds)=ts:=by
  conv=>rhs;rw[<-List.map_id ts]
  exact Gp λt a=>by rw[hs t a];rfl
 have g:(solveM 4000 ds ts []).2=1:=by
  unfold solveM;rw[hm,i];show(searchM 4000 ds (jobC ds [] (ts.map λ_=>[1]) [])).2=1;have k:=list_net b (λt a=>by rw[d t a];decide) i;have f:=job_ok (nots:=[]) b k (λe he=>by cases he) (by simp;omega);obtain⟨o,p⟩:=nIn_eq b;have l:(runM (jobC ds [] (ts.map λ_=>[1]) []).many.toNat (jobC ds [] (ts.map λ_=>[1]) []) 4000 emptyS).code=1:=by
   refine run_calm (by unfold jobC netC;simp only;omega) f (by unfold jobC netC;simp;omega) (λcl c=>?_) ?_ (gB _)
   ·simp[jobC,netC,gatesC,rootsC] at c;rcases c with h|h
    ·exact h
    ·exact h.2.symm
   ·simp[jobC,netC]
  unfold searchM;simp only[l];rfl
 obtain⟨⟨j,a2,a3⟩,a4⟩:=solve_yes b d (λe he=>by cases he) (by simp;omega) g;have m:Sol ds ts [] (zeroE ds):=⟨zeroE_ok b,λt a=>by rw[hs t a];rfl,by simp⟩;exact Prod.ext (zero_least b j (a4 _ m)) g
theorem never_ok (d:declOk ds=true):solveM 4000 ds [yesT,noT yesT] []=([],2):=by
 have a:Wj ds [yesT,noT yesT]:=λt b=>by
  rcases gj.1 b with rfl|b
  ·rfl
  ·rw[gz.1 b];rfl
 have f:listB ds ([yesT,noT yesT].map (foldT ds))=some ([],[[1],[-1]]):=rfl;have c:(solveM 4000 ds [yesT,noT yesT] []).2=2:=by
  unfold solveM;rw[f];show(searchM 4000 ds ⟨_,[[1],[1],[-1]]⟩).2=2;unfold searchM;simp only[run_never (n:=3998)];rfl
 exact Prod.ext (solve_no d a (λe he=>by cases he) (by simp) c).1 c
end
end Go.M
namespace Go.Proofs.YtjkkiaacmedfdaaGreatDoor
open Go Go.Vc Go.Proofs
def Zo (v0 v1:Value) (w:World) (R:oK):Prop:=UY zV v1 w λa b=>xR zg b λb c=>xR xB c λc d=>Zt d λd=>zt zV a d λe f=>f=d/\ql .lss zV true e (nI 0) d λe f=>f=d/\vif e (zI zg b (.slice none 0 0) d λ_ e=>zI xB c (.bool false) e λ_ e=>vlv zg b e λe f=>vlv xB c f λf g=>R (.tuple #[e,f]) g) (zt zV a d λe f=>f=d/\vcall YR #[v0] d λd f=>(zt zV a f λg h=>g=e/\h=f)/\ql .geq zV false e d f λd e=>e=f/\vif d (zI zg b (.slice none 0 0) f λ_ d=>zI xB c (.bool false) d λ_ d=>vlv zg b d λd e=>vlv xB c e λe g=>R (.tuple #[d,e]) g) (vcall X8 #[v0] f λd e=>Zn0 d 1 0 e (λd e f g _ h=>e h λe=>zt zV a e λe h=>ql .eql zV true e (nI 0) h λe h=>vif e (vcall qC #[(sl 0 d)] h λd e=>zI zg b d e λ_ d=>zI xB c (.bool true) d λ_ d=>g d) (zt zV a h λd e=>ql .sub zV true d (nI 1) e λd e=>zI zV a d e λ_ a=>f a)) (λa d=>zI zg b (.slice none 0 0) d λ_ d=>zI xB c (.bool false) d λ_ d=>Wb a d λa=>vlv zg b a λa d=>vlv xB c d λd e=>R (.tuple #[a,d]) e) (λa d=>Wb a d λa=>vlv zg b a λa d=>vlv xB c d λd e=>R (.tuple #[a,d]) e) (λa d=>zI zg b (.slice none 0 0) d λ_ d=>zI xB c (.bool false) d λ_ d=>Wb a d λa=>vlv zg b a λa b=>vlv xB c b λb c=>R (.tuple #[a,b]) c)))
def Qf:Ann:={ord:=[(1,[0,1,2,3,4,5,6,7],[(0,[1,2,3,4,5,6,7]),(1,[2,3,4,5,6,7]),(2,[3,4,5,6,7]),(3,[6,7]),(4,[5,6,7]),(5,[6,7]),(6,[7])])],loops:=[],cuts:=[]}
theorem Uf (v0 v1:Value) (w:World) (R:oK):vx Qf 0 ((Tryz.f21.body).getD .skip) (retF Tryz.f21.results.toList R) (retM Tryz.f21.results.toList R) (nthV [v0,v1]) w=Zo v0 v1 w R:=rK
theorem UQ {v0 v1:Value} {w:World} {R:oK} (h:Zo v0 v1 w R):vcall XP #[v0,v1] w R:=
 Ja (T:=Qf) (x:=0) (c:=(Tryz.f21.body).getD .skip) (n:=24) mixed Tryz.func21 rfl rfl rK rK rfl (by rw[Uf];exact h)
section
variable {v0 v1 v2 v3:Value} {w:World} {R:oK}
theorem UP (h:UY za v2 w λa b=>zB za a 0 b λb c=>zt zV b c λb c=>Xs zS v0 b true c λb c=>qA b 0 c λc d=>qA b 1 d λb d=>ql0 (λe=>Zt d λd=>vun .not b d λb f=>f=d/\vif b (R (nI (-1)) d) (zB za a 4 d λb f=>f=d/\zt zl b d λf g=>g=d/\vbi .len [zl] zV [f] d λg h=>h=d/\vinvoke c mn_kids #[] d λd h=>(vbi .len [zl] zV [f] h λi j=>i=g/\j=h)/\(zt zl b h λi j=>i=f/\j=h)/\(zB za a 4 h λi j=>i=b/\j=h)/\ql .neq zV false g d h λb d=>d=h/\vif b (R (nI (-1)) h) (zt za a h λb d=>d=h/\vcall J6 #[b] h λb d=>vun .not b d λb f=>f=d/\vif b (R (nI (-1)) d) (e [] d)))) (λ_ _ b=>zB za a 4 b λb d=>zt zl b d λb d=>vbi .len [zl] zV [b] d λd e=>Wc [(.slice none 0 0),(nI 0)] e λe f _ g=>ql .lss zV false (sl 1 f) d g λd g=>vif d (y1 zl b (sl 1 f) g λb d=>zt za b d λb d=>xR za d λd h=>zI za d b h λ_ b=>zt za d b λb d=>vcall jF #[v0,v1,b] d λb d=>ql .eql zV true b (nI (-1)) d λd h=>vif d (R (nI (-1)) h) (vbuildS zg 1 [(0,b)] h λb d=>vbi .append [zg,zg] zg [(sl 0 f),b] d λb d=>ql .add zV true (sl 1 f) (nI 1) d λd h=>e [b,d] h)) (zt za a g λa b=>vinvoke c ki #[v1,a,(sl 0 f)] b λa b=>R a b))):vcall jF #[v0,v1,v2] w R:=Xo {ord:=[oz 2 (oR 15) [(3,[6,7]),(4,[6,7]),(5,[6,7])]],loops:=[(6,[9,38])],cuts:=[(12292,[])]} Tryz.func44 rK rK h
theorem VH (h:UY za v2 w λa b=>xR zh b λb c=>zB za a 4 c λc d=>zt zl c d λc d=>vbi .len [zl] zV [c] d λd e=>Wc [(.slice none 0 0),(nI 0)] e λe f _ g=>ql .lss zV false (sl 1 f) d g λd g=>vif d (y1 zl c (sl 1 f) g λc d=>zt za c d λc d=>xR za d λd h=>zI za d c h λ_ c=>zt za d c λc d=>vcall kO #[v0,v1,c,v3] d λc d=>vbuildS xI 1 [(0,c)] d λc d=>vbi .append [xI,xI] xI [(sl 0 f),c] d λc d=>ql .add zV true (sl 1 f) (nI 1) d λd h=>e [c,d] h) (Zt g λc=>zt za a c λd e=>e=c/\zB za a 0 c λe g=>g=c/\zt zV e c λg h=>h=c/\Xs zS v0 g false c λh i=>i=c/\zt za a c λi j=>j=c/\vcall jF #[v0,v1,d] c λc d=>(zt za a d λj k=>j=i/\k=d)/\(Xs zS v0 g false d λj k=>j=h/\k=d)/\(zt zV e d λj k=>j=g/\k=d)/\(zB za a 0 d λj k=>j=e/\k=d)/\vinvoke h qF #[v3,i,(sl 0 f)] d λa d=>yh zh [(0,c),(1,a)] d λa c=>c=d/\zI zh b a d λ_ a=>vlv zh b a λa b=>R a b)):vcall kO #[v0,v1,v2,v3] w R:=Xo {ord:=[oz 7 [0,1,2,4,5,6,7,8,9,10,3,11,12,13] [(0,[1,2,4,5,6,7,8,9,10]),(1,[2,4,5,6,7,8,9,10]),(2,[4,5,6,7,8,9,10]),(4,[5,6,8,9,10,3]),(5,[8,9,10,3]),(6,[8,9,10,3]),(7,[8,9,10,3]),(8,[9,10,3]),(9,[10,3]),(10,[3])]],loops:=[(3,[9,15])]} Tryz.func83 rK rK h
end
section
variable {v0:Value} {w:World} {R:oK}
theorem Q5 (h:xR zq w λa b=>Zt b λb=>vnil P v0 b λc e=>e=b/\zB y7 c 0 b λe f=>f=b/\zt zw e b λf h=>h=b/\vnil P v0 b λh i=>i=b/\zB y7 h 0 b λi j=>j=b/\zB zw i 1 b λj k=>k=b/\zt zz j b λk l=>l=b/\vbi .len [zz] zV [k] b λl m=>m=b/\∃I:(Nat->Prop)->List Value->World->Prop,I (λ_=>False) [undef,undef,undef,undef,undef] b/\∀(d:Nat->Prop) (u:List Value) (g:Fr) (w_11:World),I d u w_11->(vbi .len [zz] zV [k] w_11 λb m=>b=l/\m=w_11)/\(zt zz j w_11 λb m=>b=k/\m=w_11)/\(zB zw i 1 w_11 λb m=>b=j/\m=w_11)/\(zB y7 h 0 w_11 λb m=>b=i/\m=w_11)/\(vnil P v0 w_11 λb m=>b=h/\m=w_11)/\(zt zw e w_11 λb m=>b=f/\m=w_11)/\(zB y7 c 0 w_11 λb m=>b=e/\m=w_11)/\(vnil P v0 w_11 λb m=>b=c/\m=w_11)/\(((d 10->False)->vcall jm #[f,l] w_11 λc e=>I (λm=>m=10\/d m) [(sl 0 u),c,(sl 2 u),(sl 3 u),(sl 4 u)] e)/\((d 11->False)->vbuildS zg 1 [(0,(nI 1))] w_11 λc e=>I (λm=>m=11\/d m) [(sl 0 u),(sl 1 u),c,(sl 3 u),(sl 4 u)] e)/\((d 12->False)->d 11->vbuildS zJ 1 [(0,(sl 2 u))] w_11 λc e=>I (λm=>m=12\/d m) [(sl 0 u),(sl 1 u),(sl 2 u),c,(sl 4 u)] e)/\((d 13->False)->d 10->d 12->yh zq [(0,(sl 1 u)),(1,(sl 3 u))] w_11 λc e=>e=w_11/\I (λm=>m=13\/d m) [(sl 0 u),(sl 1 u),(sl 2 u),(sl 3 u),c] w_11)/\((d 14->False)->xR zq w_11 λc e=>I (λm=>m=14\/d m) [c,(sl 1 u),(sl 2 u),(sl 3 u),(sl 4 u)] e)/\((d 15->False)->d 14->d 13->d 10->d 10->d 11->d 12->d 13->d 14->zI zq (sl 0 u) (sl 4 u) w_11 λ_ c=>I (λm=>m=15\/d m) [(sl 0 u),(sl 1 u),(sl 2 u),(sl 3 u),(sl 4 u)] c)/\True)/\(d 10->d 11->d 12->d 13->d 14->d 15->vnil P v0 w_11 λc e=>zB y7 c 0 e λc e=>zB zw c 1 e λc e=>zt zz c e λc e=>vbi .len [zz] zV [c] e λe f=>Wc [(nI 0)] f λf h _ i=>ql .lss zV false (sl 0 h) e i λe i=>vif e (y1 zz c (sl 0 h) i λc e=>zt zm c e λc e=>xR zm e λe j=>zI zm e c j λ_ c=>Zt c λc=>zB zq (sl 0 u) 1 c λj k=>k=c/\zt zJ j c λk l=>l=c/\zt zm e c λl n=>n=c/\vnil P v0 c λn o=>o=c/\zB y7 n 0 c λn o=>o=c/\zt zw n c λn o=>o=c/\vcall jm #[n,(sl 0 h)] c λc n=>(zt zm e n λb m=>b=l/\m=n)/\(zt zJ j n λb m=>b=k/\m=n)/\(zB zq (sl 0 u) 1 n λb m=>b=j/\m=n)/\ql .add zV true c (nI 1) n λc e=>e=n/\vcall kg #[l,c] n λc e=>(zt zJ j e λb m=>b=k/\m=e)/\(zB zq (sl 0 u) 1 e λb m=>b=j/\m=e)/\vbi .append [zJ,zJ] zJ [k,c] e λb c=>zB zq (sl 0 u) 1 c λe j=>j=c/\zI zJ e b c λ_ b=>ql .add zV true (sl 0 h) (nI 1) b λb c=>f [b] c) (zt zq (sl 0 u) i λb c=>zI zq a b c λ_ b=>vlv zq a b λa b=>R a b))):vcall kz #[v0] w R:=Xo {ord:=[oz 5 (oR 14) [(0,[2,3,4,5,6,7,8,9,10]),(1,[2,3,4,5,6,7,8,9,10]),(2,[3,4,5,6,7,8,9]),(3,[7]),(4,[7]),(5,[7]),(6,[7])]],loops:=[(3,[26])],pars:=[(1,[0,1,2,3,4,5,6,7,8,9],[10,11,12,13,14,15],[3,16,17,18,19],[(0,[1,2,3,10,13,15]),(1,[2,3,10,13,15]),(2,[3,10,13,15]),(3,[10,13,15]),(4,[5,6,7,8,9,10,13,15]),(5,[6,7,8,9,10,13,15]),(6,[7,8,9,10,13,15]),(7,[8,9,10,13,15]),(8,[9,10,13,15]),(9,[10,13,15])])]} Tryz.func154 rK rK h
end
section
variable {v0 v1:Value} {w:World} {R:oK}
theorem UO (h:UY za v1 w λa b=>zB za a 0 b λb c=>zt zV b c λb c=>ql .eql zV true b (nI 20) c λc d=>vif c (zB za a 1 d λc e=>zt zV c e λc e=>zB za a 2 e λe f=>zt zV e f λe f=>yh zh [(0,c),(1,e)] f λc e=>vcall YQ #[c] e λc e=>R c e) (ql .eql zV true b (nI 21) d λc d=>vif c (zB za a 3 d λc e=>zt x6 c e λc e=>R c e) (ql .eql zV true b (nI 24) d λb c=>vif b (R (.string {data:= #[116,114,117,101]}) c) (zB za a 0 c λb c=>zt zV b c λb c=>Xs zS v0 b false c λb c=>vinvoke b Zh #[] c λb c=>vbuildS yC 1 [(0,b)] c λb c=>ql0 (λd=>zB za a 0 c λc e=>zt zV c e λc e=>ql .eql zV true c (nI 22) e λc e=>vif c (Zt e λc=>zB za a 1 c λf g=>g=c/\zt zV f c λf g=>g=c/\zB za a 2 c λg h=>h=c/\zt zV g c λh i=>i=c/\vcall j7 #[f] c λc f=>(zt zV g f λi j=>i=h/\j=f)/\(zB za a 2 f λi j=>i=g/\j=f)/\vcall j7 #[h] f λf g=>vbuildS yC 2 [(0,c),(1,f)] g λc f=>vbi .append [yC,yC] yC [b,c] f λc f=>d [c] f) (d [b] e)) (λb _ c=>zB za a 4 c λa c=>zt zl a c λa c=>vbi .len [zl] zV [a] c λc d=>Wc [(sl 0 b),(nI 0)] d λb d _ e=>ql .lss zV false (sl 1 d) c e λc e=>vif c (y1 zl a (sl 1 d) e λa c=>zt za a c λa c=>xR za c λc f=>zI za c a f λ_ a=>zt za c a λa c=>vcall Zc #[v0,a] c λa c=>vbuildS yC 1 [(0,a)] c λa c=>vbi .append [yC,yC] yC [(sl 0 d),a] c λa c=>ql .add zV true (sl 1 d) (nI 1) c λc f=>b [a,c] f) (vcall YM #[(sl 0 d),(.string {data:= #[32]})] e λa b=>ql .add x6 true (.string {data:= #[40]}) a b λa b=>ql .add x6 true a (.string {data:= #[41]}) b λa b=>R a b)))))):vcall Zc #[v0,v1] w R:=Xo {ord:=[oz 10 [0,1,2,4,5,3,6,7,8,9] [(0,[1,2,4,5,3,6,7]),(1,[4,5]),(2,[4,5]),(4,[3]),(5,[3])]],loops:=[(12,[5,45])],cuts:=[(40971,[5])]} Tryz.func194 rK rK h
end
def qO (v0 v1 v2 v3:Value) (w:World) (R:oK):Prop:=zt yA v2 w λa b=>zt yq v3 b λb c=>vcall qE #[a,b,v0,v1] c λa b=>R a b
theorem Zl {v0 v1 v2 v3 w R} (h:qO v0 v1 v2 v3 w R):vcall Zg #[v0,v1,v2,v3] w R:=Xo {} Tryz.func263 rK rK h
def qN (v0 v1 v2:Value) (w:World) (R:oK):Prop:=UY yA v0 w λa b=>vbi .len [ze] zV [v1] b λb c=>vcall Kc #[b] c λb c=>xR ze c λc d=>zI ze c b d λ_ b=>zt yA a b λb d=>vcall Xb #[b,v1,v2] d λb d=>Zn0 b 1 0 d (λb d e _ _ f=>d f λd=>zt yA a d λa d=>zt ze c d λd f=>vcall kA #[a,d,(sl 0 b),(nI (-1))] f λa b=>zI ze c a b λ_ a=>e a) (λa b=>zt ze c b λb d=>Wb a d λa=>R b a) (λa b=>Wb a b λa=>R (.slice none 0 0) a) (λa b=>zt ze c b λb c=>Wb a c λa=>R b a)
def kH:Ann:={ord:=[],loops:=[],cuts:=[]}
theorem XT (v0 v1 v2:Value) (w:World) (R:oK):vx kH 0 ((Tryz.f271.body).getD .skip) (retF Tryz.f271.results.toList R) (retM Tryz.f271.results.toList R) (nthV [v0,v1,v2]) w=qN v0 v1 v2 w R:=rK
theorem Q6 {v0 v1 v2:Value} {w:World} {R:oK} (h:qN v0 v1 v2 w R):vcall kB #[v0,v1,v2] w R:=
 Ja (T:=kH) (x:=0) (c:=(Tryz.f271.body).getD .skip) (n:=22) mixed Tryz.func271 rfl rfl rK rK rfl (by rw[XT];exact h)
def Zs (v0 v1:Value) (w:World) (R:oK):Prop:=vun .neg v0 w λa b=>R a b
theorem Jt {v0 v1 w R} (h:Zs v0 v1 w R):vcall Jh #[v0,v1] w R:=Xo {} Tryz.func292 rK rK h
section
variable {w:World} {K:oK} {F:Nat->Prop}
theorem Zx0 (x y:Bool):(Op.equal xB (.bool x) (.bool y)).run P w= .ok (x==y) w:=by
 have hu:P.underlying xB=some .bool:=rK
 have:∀d,(Op.equalIn (d+1) xB (.bool x) (.bool y)).run P w= .ok (x==y) w:=λd=>by
  rw[Op.equalIn,Sem.run_bind,run_underlying hu];rfl
 exact this 9999
@[push_cast] theorem vbin_neb (b:Bool) (x y:Bool):ql .neq xB b (.bool x) (.bool y) w K=K (.bool (x != y)) w:=
 yl rfl (by simp[binOp,Zx0,Result.andThen,bne])
theorem IndexFunc_Lint_int {v f:Value} {vs:List Value} {p:Nat->Bool} (e:Vals F w v vs) (n:∀i,i<vs.length->FnB w f #[vs.getD i undef] (p i))
  (k:∀w',Ext w w'->K (nI (idxI vs.length p)) w'):vcall jS #[v,f] w K:=by
 refine zf {loops:=[(2,[8])]} Tryz.func278 ?_;simp(disch:=exact oS) only[push_cast,e.len];have hlen:vs.length<=9223372036854775807:=by obtain⟨_,_,_,l,s,_⟩:=e.shape;simp at l;omega
 refine vloop_up vs.length (λi u w'=>u=[nI i]/\Ext w w'/\∀j,j<i->p j=false) ⟨rfl,Same.refl _ _,oM⟩ ?_;rintro i _ g w1 C hi ⟨rfl,he,d⟩ m;simp only[push_cast];refine zb (λr=>?_) (λo=>?_)
 ·have b:=e.ext he;simp(disch:=exact oS) only[push_cast,b.iaddr,b.load];refine n i oM w1 _ he λw2 a=>zn (λc=>?_) (λc=>?_)
  ·have:=k w2 (he.trans a);rwa[idxI_some oM c d] at this
  ·simp(disch:=omega) only[push_cast,zj];exact m oM _ _ ⟨by simp,he.trans a,λj q=>by
    by_cases h:j=i
    ·subst h;exact c
    ·exact d j oM⟩
 ·have:=k w1 he;rwa[Kx (λj q=>d j oM)] at this
theorem jk {v f:Value} {vs:List Value} {p:Nat->Bool} (c:Vals F w v vs) (b:∀i,i<vs.length->FnB w f #[vs.getD i undef] (p i))
  (a:∀w',Ext w w'->K (.bool ((List.range vs.length).any p)) w'):vcall je #[v,f] w K:=by
 refine zf {} Tryz.func238 ?_;refine IndexFunc_Lint_int c b λw' he=>?_;simp only[push_cast,Xn];exact a w' he
end
section
variable {w:World} {K:oK} {F:Nat->Prop}
theorem Clone_Lint {v:Value} {xs:List Int} (d:Ints F w v xs) (i:xs.length*8<=140737488355328) (j:∀w' v',Ext w w'->OwnI zg w' v' xs->(∀x,v'.ownBlock=some x->w.heap.size<=x)->K v' w'):
  vcall qC #[v] w K:=by
 refine zf {} Tryz.func50 ?_;obtain⟨a,c,rfl,m,n,f⟩:=d.shape;simp only[V0] at d m⊢;rw[Qk Z60];refine zn (λh=>?_) (λh=>?_)
 ·have:xs=[]:=by
   refine GN λg=>?_;obtain⟨b,o,e,_⟩:=f (by simpa using g);subst e;cases h
  subst this;exact j w _ (Same.refl _ _) OwnI.nil λx d=>by cases d
 ·refine yj yW yL λb w1 s he u l=>?_;have q:=he.size;have k:OwnI zg w1 (.slice (some ⟨b,0,none⟩) 0 0) []:=Blk.own1 (t:=zg) (cs:=[]) (by rw[qt];exact l) (gQ _) rfl rfl oM;refine k.app (ys:=xs) xp (d.ext he) (by simp only[pK];omega) (by simpa using i) λv' w2 r hs p=>?_;refine j w2 v' (Ext.then he hs λx d=>?_) r λx d=>?_
  ·have e:b=x:=gh d;omega
  ·rcases p x d with e|e
   ·have e:b=x:=gh e;omega
   ·omega
end
end Go.Proofs.YtjkkiaacmedfdaaGreatDoor
namespace Go.Proofs.YtjkkiaacmedfdaaGreatDoor
open Go Go.Vc Go.Proofs Go.MapKept
section
variable {w:World} {K:oK}
def gv (g:M.Gt):Value:= .agg ⟨[.bool g.x,nI g.a,nI g.b]⟩
theorem Yn0 {g h:M.Gt} (e:gv g=gv h):g=h:=by
 cases g;cases h;simp only[gv,Value.agg.injEq,Array.mk.injEq,Gr,Value.bool.injEq,Value.int.injEq,Gm,Q1] at e;obtain⟨rfl,rfl,rfl⟩:=e;rfl
theorem eqGate (g h:M.Gt) (w:World):(Op.equalIn 10000 zm (gv g) (gv h)).run P w= .ok (decide (g=h)) w:=by
 obtain⟨x,a,b⟩:=g;obtain⟨y,c,d⟩:=h;have n:(P.fieldsOf zm).toList=[(P.fieldsOf zm).getD 0 default,(P.fieldsOf zm).getD 1 default,(P.fieldsOf zm).getD 2 default]:=rK
 have k:((P.fieldsOf zm).getD 0 default).name≠ "_" :=by decide+kernel
 have l:((P.fieldsOf zm).getD 1 default).name≠ "_" :=by decide+kernel
 have m:((P.fieldsOf zm).getD 2 default).name≠ "_" :=by decide+kernel
 have i0:P.underlying ((P.fieldsOf zm).getD 0 default).type=some .bool:=rK
 have i1:P.underlying ((P.fieldsOf zm).getD 1 default).type=some (.int .i64):=rK
 have i2:P.underlying ((P.fieldsOf zm).getD 2 default).type=some (.int .i64):=rK
 have p0:∀x y z:Value,(part ((P.fieldsOf zm).getD 0 default).type ⟨[x,y,z]⟩ ((P.fieldsOf zm).getD 0 default).offset).run P w= .ok x w:=λx y z=>rK
 have p1:∀x y z:Value,(part ((P.fieldsOf zm).getD 1 default).type ⟨[x,y,z]⟩ ((P.fieldsOf zm).getD 1 default).offset).run P w= .ok y w:=λx y z=>rK
 have p2:∀x y z:Value,(part ((P.fieldsOf zm).getD 2 default).type ⟨[x,y,z]⟩ ((P.fieldsOf zm).getD 2 default).offset).run P w= .ok z w:=λx y z=>rK
 have i:∀d,(Op.equalIn (d+1) ((P.fieldsOf zm).getD 0 default).type (.bool x) (.bool y)).run P w= .ok (x==y) w:=λd=>by
  rw[Op.equalIn,Sem.run_bind,run_underlying i0];rfl
 unfold gv;rw[run_equalIn_struct w 9999 zm _ _ rK rK,n];generalize (P.fieldsOf zm).getD 0 default=f0 at k i0 p0 i⊢;generalize (P.fieldsOf zm).getD 1 default=f1 at l i1 p1⊢;generalize (P.fieldsOf zm).getD 2 default=f2 at m i2 p2⊢;simp only[Op.eqFields,K3 k,K3 l,K3 m,Sem.run_bind,p0,p1,p2,Result.andThen_ok,i 9998,run_equalIn_int w 9998 _ _ _ _ _ i1,run_equalIn_int w 9998 _ _ _ _ _ i2];by_cases e:x=y
 ·by_cases f:a=c
  ·by_cases j:b=d
   ·subst e;subst f;subst j;simp[p1,p2,run_equalIn_int w 9998 _ _ _ _ _ i1,run_equalIn_int w 9998 _ _ _ _ _ i2]
   ·subst e;subst f;simp[p1,p2,run_equalIn_int w 9998 _ _ _ _ _ i1,run_equalIn_int w 9998 _ _ _ _ _ i2,j]
  ·subst e;simp[p1,p2,run_equalIn_int w 9998 _ _ _ _ _ i1,run_equalIn_int w 9998 _ _ _ _ _ i2,f]
 ·simp[e]
def GMap (w:World) (b:Nat) (f:List (M.Gt×Int)):Prop:= ∃es cl,w.heap[b]?=some (.map es cl)/\Stamped es cl/\es.toList.map (λe=>(e.key,e.val))=f.map λp=>(gv p.1,nI p.2)
theorem GMap.lt {b:Nat} {f:List (M.Gt×Int)} (h:GMap w b f):b<w.heap.size:=by
 obtain⟨es,cl,a,_⟩:=h;exact(gJ.1 a).1
theorem GMap.same {b:Nat} {f:List (M.Gt×Int)} {S:Nat->Prop} {w':World} (h:GMap w b f) (hw:Same S w w') (hs: ¬S b):GMap w' b f:=by
 have a:=h.lt;obtain⟨es,cl,c,r⟩:=h;exact⟨es,cl,(hw.block b a hs).trans c,r⟩
theorem GMap.ext {b:Nat} {f:List (M.Gt×Int)} {w':World} (h:GMap w b f) (hw:Ext w w'):GMap w' b f:=h.same hw id
theorem Uj (g:M.Gt) (e:Bool) (w:World):(Instr.checkKey e 10000 zm (gv g)).run P w= .ok () w:=by
 obtain⟨x,a,b⟩:=g;kernel_rfl
def findP (g:M.Gt):List (M.Gt×Int)->Nat->Option (Nat×Int)
 |[],_=>none
 |p::r,i=>if g=p.1 then some (i,p.2) else findP g r (i+1)
theorem ask_run (g:M.Gt) (w:World):∀(l:List MapEntry) (f:List (M.Gt×Int)) (i:Nat),l.map (λe=>(e.key,e.val))=f.map (λp=>(gv p.1,nI p.2))->
  (Instr.findAsking zm (gv g) l i).run P w= .ok ((findP g f i).map λq=>(q.1,nI q.2)) w
 |[],[],i,_=>rfl
 |[],_::_,_,h=>by simp at h
 |_::_,[],_,h=>by simp at h
 |e::l,p::f,i,h=>by
  simp only[GK,Gr,Gx] at h;obtain⟨⟨a,b⟩,d⟩:=h;have j:(Op.equal zm (gv g) e.key).run P w= .ok (decide (g=p.1)) w:=by rw[a];exact eqGate g p.1 w
  simp only[Instr.findAsking,Sem.run_bind,j,Result.andThen_ok,findP];by_cases c:g=p.1
  ·rw[K3 (by simpa using c),K3 c];simp[b]
  ·rw[q0 (by simpa using c),q0 c];exact ask_run g w l f (i+1) d
theorem gate_struct:∃fs,P.underlying zm=some (.struct fs):=by
 have h:(match P.underlying zm with|some (.struct _)=>true|_=>false)=true:=rK
 split at h
 ·next fs e=>exact⟨fs,e⟩
 ·cases h
theorem Up (g:M.Gt) (w:World) {l:List MapEntry} {f:List (M.Gt×Int)} (h:l.map (λe=>(e.key,e.val))=f.map (λp=>(gv p.1,nI p.2))):
  (Instr.findKey zm (gv g) l).run P w= .ok ((findP g f 0).map λq=>(q.1,nI q.2)) w:=by
 obtain⟨fs,a⟩:=gate_struct;unfold Instr.findKey;rw[Sem.run_bind,run_underlying a];simp only[Result.andThen_ok];cases l with
 |nil=>
  cases f with
  |nil=>rfl
  |cons p f=>simp at h
 |cons e l=>
  have:Instr.findNow (.struct fs) (gv g) (e::l) 0=none:=(by simp[Instr.findNow,Instr.sameNow]);rw[this];exact ask_run g w (e::l) f 0 h
theorem findP_none {g:M.Gt}:∀{f:List (M.Gt×Int)} {i:Nat},findP g f i=none↔ ∀p,p∈f->p.1≠g
 |[],i=>by simp[findP]
 |p::f,i=>by
  unfold findP;split
  ·next e=>exact⟨λh=>(by cases h),λh=>absurd e.symm (h p gq)⟩
  ·next e=>rw[findP_none (f:=f)];simp only[gj,forall_eq_or_imp];exact⟨λh=>⟨λa=>e a.symm,h⟩,λh=>h.2⟩
def YJ (g:M.Gt) (f:List (M.Gt×Int)):Option Int:=(findP g f 0).map (·.2)
theorem Yo0 {k:Option Value} (a:k=none) (c:∀b w',b=w.heap.size->GMap w' b []->Ext w w'->w'.heap.size=w.heap.size+1->K (.map (some b)) w'):Yd0 y4 k w K:=by
 subst a;refine⟨.map (some w.heap.size),w.alloc (.map #[] 0),?_,c _ _ rfl ⟨#[],0,(heap_alloc w _).1,stamped_empty 0,rfl⟩ ⟨rfl,rfl,rfl,by simp,λk a _=>(heap_alloc w _).2 k a⟩ (by simp)⟩;simp[Instr.makeMap,newObj,Sem.run]
theorem glook {g:M.Gt} {ok:Bool} {b:Nat} {f:List (M.Gt×Int)} (h:GMap w b f):Xs y4 (.map (some b)) (gv g) ok w K=K (match YJ g f with|some n=>(if ok then .tuple #[nI n,.bool true] else nI n)|none=>if ok then .tuple #[nI 0,.bool false] else nI 0) w:=by
 obtain⟨es,cl,a,d,he⟩:=h;have hm:P.underlying y4=some (.map zm zV)/\yi zV (nI 0):=⟨qG,xo⟩;refine y5 ?_;unfold YJ;cases c:findP g f 0 with
 |none=>cases ok<;>simp[Instr.lookup,run_underlying hm.1,MapKept.run_getObj_map a,Uj,Up g w he,c,Ye hm.2,Result.andThen]
 |some p=>cases ok<;>simp[Instr.lookup,run_underlying hm.1,MapKept.run_getObj_map a,Uj,Up g w he,c,Result.andThen]
theorem Zd0 {g:M.Gt} {b:Nat} {f:List (M.Gt×Int)} (h:GMap w b f):Xs y4 (.map (some b)) (gv g) true w K=K (match YJ g f with|some n=> .tuple #[nI n,.bool true]|none=> .tuple #[nI 0,.bool false]) w:=by
 rw[glook h];cases YJ g f<;>rfl
theorem Yp0 {g:M.Gt} {b:Nat} {f:List (M.Gt×Int)} (h:GMap w b f):Xs y4 (.map (some b)) (gv g) false w K=K (match YJ g f with|some n=> nI n|none=> nI 0) w:=by
 rw[glook h];cases YJ g f<;>rfl
theorem look_app {g h:M.Gt} {n:Int}:∀{f:List (M.Gt×Int)} {i:Nat},(findP g (f++[(h,n)]) i).map (·.2)=match(findP g f i).map (·.2) with|some m=>some m|none=>if g=h then some n else none
 |[],i=>by simp only[Gq,findP,Option.map_none];split<;>rfl
 |p::f,i=>by
  rw[GP];unfold findP;split
  ·rfl
  ·exact look_app (f:=f)
theorem gset {g:M.Gt} {n:Int} {b:Nat} {f:List (M.Gt×Int)} (h:GMap w b f) (i:YJ g f=none)
  (m:∀w',GMap w' b (f++[(g,n)])->Same (· =b) w w'->w'.heap.size=w.heap.size->K undef w'):z60 y4 (.map (some b)) (gv g) (nI n) w K:=by
 obtain⟨es,cl,c,j,he⟩:=h;have hm:P.underlying y4=some (.map zm zV):=qG;have d:findP g f 0=none:=by
  unfold YJ at i;cases d:findP g f 0 with
  |none=>rfl
  |some p=>rw[d] at i;cases i
 have l:∀x,x∈es.toList->x.key≠gv g:=λx q e=>by
  have a:(x.key,x.val)∈f.map λp=>(gv p.1,nI p.2):=by rw[<-he];exact gy.2 ⟨x,q,rfl⟩
  obtain⟨p,o,k⟩:=gy.1 a;have:gv p.1=gv g:=by rw[<-e];exact congrArg Prod.fst k
  exact findP_none.1 d p o (Yn0 this)
 refine⟨(),{w with heap:=w.heap.setIfInBounds b (.map (es.push {key:=gv g,val:= nI n,born:=cl}) (cl+1))},?_,m _ ⟨_,_,(heap_set c).1,stamped_push j l,by simp[he]⟩ (jE c) (by simp)⟩;simp[Instr.mapUpdate,run_underlying hm,MapKept.run_getObj_map c,Uj,Up g w he,d,run_setObj_map _ c,Result.andThen]
end
end Go.Proofs.YtjkkiaacmedfdaaGreatDoor
namespace Go.Proofs.YtjkkiaacmedfdaaGreatDoor
open Go Go.Vc Go.Proofs
section
variable {w:World} {K:oK} {F F' Fx X:Nat->Prop}
section
variable {w' w'':World} {F'' S:Nat->Prop}
theorem Same.thn {S T:Nat->Prop} {a b c:World} (h:Same S a b) (k:Same T b c) (hs:∀x,T x->S x\/a.heap.size<=x):Same S a c:=
 ⟨k.os.trans h.os,k.tape.trans h.tape,k.output.trans h.output,gO h.size k.size,λi hi d=>
  (k.block i (gL hi h.size) (λe=>(hs i e).elim d λh=>oM)).trans (h.block i hi d)⟩
structure Mv (F:Nat->Prop) (w:World) (F':Nat->Prop) (w':World):Prop where
 same:Same F w w'
 new:∀b,F' b->F b\/w.heap.size<=b
theorem Mv.refl:Mv F w F w:=⟨Same.refl _ _,λ_ h=> .inl h⟩
theorem Mv.trans (h:Mv F w F' w') (k:Mv F' w' F'' w''):Mv F w F'' w'':=by
 have hs:=h.same.size;exact⟨Same.thn h.same k.same h.new,λb a=>(k.new b a).elim (h.new b) λh=> .inr oM⟩
theorem Mv.to (h:Mv F w F' w') (k:Same S w' w'') (a:∀b,S b->F' b\/w.heap.size<=b):Mv F w F' w'':=
 ⟨Same.thn h.same k λb c=>(a b c).elim (h.new b) .inr,h.new⟩
theorem Mv.ext (h:Mv F w F' w') (k:Ext w' w''):Mv F w F' w'':=h.to k λ_ h=>h.elim
theorem Mv.off (h:Mv F w F' w') {b:Nat} (c: ¬F b) (e:b<w.heap.size): ¬F' b:=λa=>(h.new b a).elim c λd=>oM
abbrev Off (X F:Nat->Prop):Nat->Prop:=λb=> ¬F b/\¬X b
theorem Ints.mv {v:Value} {xs:List Int} (h:Ints (Off X F) w v xs) (hm:Mv F w F' w'):Ints (Off X F') w' v xs:=by
 have c:Ints (λb=>(¬F b/\¬X b)/\b<w.heap.size) w v xs:=Ints.weaken h λb a e=>⟨a,e⟩;have d:=Ints.same c hm.same λb a _=>a.1.1;exact Ints.weaken d λb a _=>⟨hm.off a.1.1 a.2,a.1.2⟩
structure NewI (X:Nat->Prop) (w:World) (F':Nat->Prop) (w':World) (v:Value) (xs:List Int):Prop where
 own:OwnI ze w' v xs
 off:∀b,v.ownBlock=some b->w.heap.size<=b/\¬F' b
 out:∀b,v.ownBlock=some b->¬X b
theorem NewI.mv {v:Value} {xs:List Int} (h:NewI X w F' w' v xs) (hm:Mv F' w' F'' w''):NewI X w F'' w'' v xs:=
 ⟨h.own.same hm.same λb a=>(h.off b a).2,λb a=>⟨(h.off b a).1,hm.off (h.off b a).2 (h.own.lt a)⟩,h.out⟩
theorem NewI.ints {v:Value} {xs:List Int} (h:NewI X w F' w' v xs):Ints (Off X F') w' v xs:=Ints.weaken h.own.ints λb a _=>⟨(h.off b a).2,h.out b a⟩
theorem NewI.nil:NewI X w F' w' (.slice none 0 0) []:=⟨OwnI.nil,λb a=>(by cases a),λb a=>by cases a⟩
theorem NewI.app1 {ty b:Nat} {v:Value} {xs:List Int} {x:Int} {e:TypeId} (h:NewI X w F' w' v xs) (c:Blk w' b [nI x] e) (j:w.heap.size<=w'.heap.size) (hF:∀b,F' b\/X b->b<w'.heap.size) (k:xs.length<=1000000)
  (g:∀v' w'',NewI X w F' w'' v' (xs++[x])->Same (λb=>v.ownBlock=some b) w' w''->K v' w''):vbi .append [ze,ze] ty [v,.slice (some ⟨b,0,none⟩) 1 1] w' K:=by
 refine h.own.app1 yx c oM oM λv' w'' i hs f=>g v' w'' ⟨i,λb c=>?_,λb c=>?_⟩ hs
 ·rcases f b c with a|a
  ·exact h.off b a
  ·exact⟨oM,λd=>by have:=hF b (.inl d);omega⟩
 ·rcases f b c with a|a
  ·exact h.out b a
  ·exact λd=>by have:=hF b (.inr d);omega
def Sent (w:World) (g:Nat) (a:Addr):Prop:=w.cell? ⟨g,0,none⟩=some (.iface yN (.pointer (some a)))
theorem Sent.lt {g:Nat} {a:Addr} (h:Sent w g a):g<w.heap.size:=World.block_lt_of_cell? w _ h
theorem Sent.same {g:Nat} {a:Addr} (h:Sent w g a) (hw:Same S w w') (b: ¬S g):Sent w' g a:=hw.cell b h
theorem Sent.cell {g:Nat} {a:Addr} (h:Sent w g a):w.cell? ⟨g,0,none⟩=some (.iface yN (.pointer (some a))):=h
def erv (a:Addr):Value:= .iface yN (.pointer (some a))
structure Errs (F:Nat->Prop) (w:World) (ar ab:Addr):Prop where
 room:Sent w xN ar
 bits:Sent w j9 ab
 off: ¬F xN/\¬F j9
theorem Errs.mv {ar ab:Addr} (h:Errs F w ar ab) (hm:Mv F w F' w'):Errs F' w' ar ab:=by
 have c:=h.room.lt;have d:=h.bits.lt;obtain⟨a,b⟩:=h.off;exact⟨h.room.same hm.same a,h.bits.same hm.same b,hm.off a c,hm.off b d⟩
theorem Errs.to {ar ab:Addr} {w0:World} (h:Errs F w ar ab) (a:Errs Fx w0 ar ab) (hs:Same S w w') (c:∀b,S b->w0.heap.size<=b):Errs F w' ar ab:=by
 have d:=a.room.lt;have e:=a.bits.lt;have key:∀b,b<w0.heap.size->¬S b:=λb f hs=>by have:=c b hs;omega
 exact⟨h.room.same hs (key _ d),h.bits.same hs (key _ e),h.off⟩
def ye (g:M.Gt):List Value:=[.bool g.x,nI g.a,nI g.b]
def GatesR (F:Nat->Prop) (w:World) (v:Value) (gs:M.Gs):Prop:=Sl F w 3 v (gs.map ye)
def OwnG (w:World) (v:Value) (gs:M.Gs):Prop:=Own 0 3 zz w v (gs.map ye)
structure CktR (n:Nat) (bc:Nat) (w:World) (gs:M.Gs) (v:Value) (mb:Nat):Prop where
 blk:Blk w bc [nI n,v,.map (some mb)] y7
 own:OwnG w v gs
 map:∃f,GMap w mb f/\∀g,YJ g f=if g∈gs then some (2+n+gs.idxOf g:Int) else none
 sep:bc≠mb/\v.ownBlock≠some bc/\v.ownBlock≠some mb
 few:gs.length<=600/\n<=8
def YL (bc mb:Nat) (v:Value) (b:Nat):Prop:=b=bc\/b=mb\/v.ownBlock=some b
section
variable {n bc mb:Nat} {gs:M.Gs} {v:Value}
theorem CktR.same (h:CktR n bc w gs v mb) (hw:Same S w w') (hs:∀b,YL bc mb v b->¬S b):CktR n bc w' gs v mb:=by
 obtain⟨f,c,d⟩:=h.map;exact⟨h.blk.same hw (hs _ (.inl rfl)),Own.same h.own hw λb a=>hs b (.inr (.inr a)),⟨f,c.same hw (hs _ (.inr (.inl rfl))),d⟩,h.sep,h.few⟩
theorem CktR.ext (h:CktR n bc w gs v mb) (hw:Ext w w'):CktR n bc w' gs v mb:=h.same hw λ_ _ h=>h
theorem CktR.lt (h:CktR n bc w gs v mb) {b:Nat} (a:YL bc mb v b):b<w.heap.size:=by
 obtain⟨f,c,_⟩:=h.map;rcases a with rfl|rfl|a
 ·exact h.blk.lt
 ·exact c.lt
 ·exact(Own.lt h.own a).2
end
structure BdR (n bb:Nat) (ar ab:Addr) (X F:Nat->Prop) (w:World) (st:Option M.Gs):Prop where
 err:Errs F w ar ab
 blk:∃bc,Blk w bb [oP bc 0,match st with|some _=> .nilIface |none=>erv ar] yE/\∀gs,st=some gs->∃v mb,CktR n bc w gs v mb/\¬YL bc mb v bb/\∀b,YL bc mb v b->F b
 foot:F bb
 lt:∀b,F b\/X b->b<w.heap.size
section
variable {n bb:Nat} {ar ab:Addr} {st:Option M.Gs}
theorem BdR.upd {w0:World} {f:Nat->Prop} (h:BdR n bb ar ab X F w st) (g:Errs f w0 ar ab) (c:Same S w w') (hs:∀b,S b->w0.heap.size<=b/\¬F b):BdR n bb ar ab X F w' st:=by
 obtain⟨bc,j,k⟩:=h.blk;refine⟨h.err.to g c λb a=>(hs b a).1,⟨bc,j.same c λa=>(hs _ a).2 h.foot,λgs e=>?_⟩,h.foot,λb a=>by have:=h.lt b a;have:=c.size;omega⟩;obtain⟨v,mb,l,i,d⟩:=k gs e;exact⟨v,mb,l.same c λb a m=>(hs b m).2 (d b a),i,d⟩
theorem BdR.ext (h:BdR n bb ar ab X F w st) (hw:Ext w w'):BdR n bb ar ab X F w' st:=h.upd h.err hw λ_ h=>h.elim
end
end
end
section
variable {w:World} {K:oK} {F X:Nat->Prop} {n bc mb:Nat} {gs:M.Gs} {v:Value}
theorem Blk.ldTake {b:Nat} {us r:List Value} {t0 t:TypeId} (h:Blk w b (us++r) t0) (a:aggB t us.length=true):zt t (oP b 0) w K=K (.agg ⟨us⟩) w:=by
 refine Xt a λi x hi=>?_;rw[yn,Gb];refine h.cell ?_;rw[gM (by have:=(GG.1 hi).1;exact this)];exact hi
theorem node_spec {l:Int} (b:l.natAbs<=1000000) (a:K (nI (M.absI l)) w):vcall XG #[nI l] w K:=by
 refine zf {} Tryz.func225 ?_;unfold M.absI at a;simp only[push_cast];refine zb (λh=>?_) (λh=>?_)
 ·rw[K3 h] at a;simp(disch:=omega) only[push_cast,zj,Gc];exact a
 ·rw[q0 h] at a;exact a
theorem turned_spec {l:Int} {c:Bool} (b:l.natAbs<=1000000) (a:K (nI (M.turnI c l)) w):vcall Yl #[nI l,.bool c] w K:=by
 refine zf {} Tryz.func310 ?_;refine zn (λh=>?_) (λh=>?_)
 ·subst h;simp(disch:=omega) only[push_cast,zj,Gc];exact a
 ·subst h;exact a
theorem nodes_spec {k:Nat} (e:k<=1000000) (f:n<=1000000) (c:∀w',Ext w w'->K (nI (1+n+k:Int)) w'):vcall jm #[.agg ⟨[nI n,v]⟩,nI k] w K:=by
 refine zf {} Tryz.func196 ?_;refine zk λb w1 d he g a=>?_;simp(disch:=exact oS) only[push_cast,a.ld0,zj];exact c _ he
def Z80 (g:M.Gt):M.Gt:=if M.absI g.b<M.absI g.a then⟨g.x,g.b,g.a⟩ else g
theorem xc0 (gs:M.Gs):(gs.map ye).length=gs.length:=V0 _
theorem gate_spec {g:M.Gt} (h:CktR n bc w gs v mb) (ha:g.a.natAbs<=1000000) (C:g.b.natAbs<=1000000)
  (V:∀w' v',CktR n bc w' (M.putG n gs (Z80 g)).1 v' mb->Same (YL bc mb v) w w'->(∀b,v'.ownBlock=some b->v.ownBlock=some b\/w.heap.size<=b)->K (nI (M.putG n gs (Z80 g)).2) w'):
  vcall X9 #[oP bc 0,gv g] w K:=by
 refine zf {cuts:=[(8195,[])]} Tryz.func309 ?_;refine zk λgb w1 b4 a9 b5 am=>?_;have hf:=h.few;refine zo (λu w'=>Ext w w'/\Blk w' gb (ye (Z80 g)) zm) ?_ ?_
 ·intro J hJ;refine zd λw2 W _=>?_;have d:=am.ext W;simp(disch:=exact oS) only[push_cast,d.ld1,d.ld2,Q1];refine node_spec ha ?_;simp(disch:=exact oS) only[push_cast,d.ld1,d.ld2,Q1,gm];refine node_spec C ?_;simp only[push_cast,Q1];refine zb (λc=>?_) (λc=>?_)
  ·simp(disch:=exact oS) only[push_cast,d.ld1,d.ld2];refine d.st rfl rfl yL rfl λw3 ax _ an=>?_;refine Blk.st (i:=2) an rfl rfl yL rfl λw4 ay _ ao=>?_;refine hJ _ _ ⟨Ext.then (a9.trans W) (ax.trans ay) λx s=>oM,?_⟩;unfold Z80;rw[K3 c];exact ao
  ·refine hJ _ _ ⟨a9.trans W,?_⟩;unfold Z80;rw[q0 c];exact d
 rintro u _ w5 ⟨aq,a3⟩;generalize Z80 g=o at V a3;refine zd λw6 aa _=>?_;have e6:=aq.trans aa;have S:=h.ext e6;have a4:=a3.ext aa;obtain⟨f,ar,E⟩:=S.map;have D:∀w':World,Blk w' gb (ye o) zm->∀K:oK,zt zm (oP gb 0) w' K=K (gv o) w':=λw' hB K=>Blk.ldAgg hB (by exact xG);have t:=E o;have av:=D _ a4;simp(disch:=exact oS) only[push_cast,S.blk.ld2,Q1,av,Zd0 ar];by_cases hm:o∈gs
 ·rw[K3 hm] at t;simp only[t,push_cast,Q1,gm];have e1:M.putG n gs o=(gs,(2+n+gs.idxOf o:Int)):=by unfold M.putG;rw[K3 hm]
  rw[e1] at V;exact V _ _ S (Same.of_ext e6) λb C=> .inl C
 rw[q0 hm] at t;simp only[t,push_cast,Q1,gm];have az:=Own.sl S.own;simp(disch:=exact oS) only[push_cast,S.blk.ld1,az.len,xc0];refine zb (λhl=>?_) (λhl=>?_)
 ·have e1:M.putG n gs o=(gs,0):=by unfold M.putG;rw[q0 hm,K3 oM]
  rw[e1] at V;exact V _ _ S (Same.of_ext e6) λb C=> .inl C
 have e1:M.putG n gs o=(gs++[o],(2+n+gs.length:Int)):=by unfold M.putG;rw[q0 hm,q0 oM]
 rw[e1] at V;refine zd λw7 X _=>?_;have e7:=e6.trans X;have h7:=S.ext X;have a5:=a4.ext X;have aw:=D _ a5;simp(disch:=exact oS) only[push_cast,h7.blk.ld1,Q1,aw];refine qq jc rK kp (y:=ye o) rfl rfl (show 3<=16777216 by decide) λb8 w8 b3 Y b6 ap=>?_;have e8:=e7.trans Y;have h8:=h7.ext Y;have a7:=a5.ext Y;have s8:=e8.size;simp(disch:=exact oS) only[push_cast,h8.blk.ld1,Q1,gm];refine Own.app1k (bs:=24) h8.own qw dC ap rfl (λc hc=>by simp only[ye,gj,gC,Gg] at hc;rcases hc with rfl|rfl|rfl<;>rfl) (by rw[xc0];omega) (by rw[xc0];omega) λv' w9 a1 F a0=>?_;have lbc:bc<w.heap.size:=h.lt (.inl rfl);have lmb:mb<w.heap.size:=h.lt (.inr (.inl rfl));have a6:=h8.blk.same F λs=>h.sep.2.1 s;have af: ¬v.ownBlock=some gb:=λs=>by have:=(Own.lt h.own s).2;omega
 have a8:=a7.same F af;refine Blk.st (i:=1) a6 (Sl.cells1 (Own.sl a1)) (Sl.one (Own.sl a1)) QY rfl λw10 p b1 z=>?_;have z:Blk w10 bc [nI n,v',.map (some mb)] y7:=z;have L:v'.ownBlock≠some bc:=λs=>(a0 bc s).elim h.sep.2.1 λh=>oM
 have Q:v'.ownBlock≠some mb:=λs=>(a0 mb s).elim h.sep.2.2 λh=>oM
 have ak:OwnG w10 v' (gs++[o]):=by
  have:=a1.same p λb C s=>L (by rw[<-s];exact C);unfold OwnG;rw[gE];exact this
 have T:=a8.same p (show¬gb=bc by omega);obtain⟨f,ae,E⟩:=h8.map;have ab:=(ae.same F h.sep.2.2).same p (λe=>h.sep.1 e.symm);refine zd λG j _=>?_;have m:=z.ext j;have R:=Own.ext ak j;have A:=T.ext j;have ag:=D _ A;have a2:=Own.sl R;have aj:∀K:oK,zt zw (oP bc 0) G K=K (.agg ⟨[nI n,v']⟩) G:=λK=>Blk.ldTake (us:=[nI n,v']) (r:=[.map (some mb)]) m zY;have au:(List.map ye (gs++[o])).length=gs.length+1:=by rw[xc0,gg];rfl
 have hlen:∀K:oK,vbi .len [zz] zV [v'] G K=K (nI ((gs.length+1:Nat):Int)) G:=λK=>by rw[a2.len xZ,au]
 simp(disch:=exact oS) only[push_cast,m.ld1,m.ld2,Q1,ag,aj,hlen];rw[show((gs.length:Int)+1)=((gs.length+1:Nat):Int) from by omega];refine nodes_spec oM oM λb7 k=>?_;rw[show(1+(n:Int)+((gs.length+1:Nat):Int))=2+n+gs.length from by omega];have H:=m.ext k;have B:=A.ext k;have ah:=D _ B;simp(disch:=exact oS) only[push_cast,H.ld2,Q1,ah,gm];have ac:=ab.ext (j.trans k);have t:YJ o f=none:=by rw[E,q0 hm]
 refine gset ac t λb9 ad q b2=>?_;refine zd λb0 l _=>?_;have I:=(H.same q h.sep.1).ext l;have U:=(B.same q (show¬gb=mb by omega)).ext l;have ai:=D _ U;have N:=ad.ext l;have al:OwnG b0 v' (gs++[o]):=Own.ext (Own.same (Own.ext R k) q λb C s=>Q (by rw[<-s];exact C)) l;have O:∀g,YJ g (f++[(o,(2+n+gs.length:Int))])=if g∈gs++[o] then some (2+n+(gs++[o]).idxOf g:Int) else none:=λg=>by
  have e:=look_app (g:=g) (h:=o) (n:=(2+n+gs.length:Int)) (f:=f) (i:=0);have e2:=E g;unfold YJ at e2⊢;rw[e,e2];by_cases hg:g∈gs
  ·rw[K3 hg,K3 (gr.2 (.inl hg)),pX,K3 hg]
  ·rw[q0 hg];by_cases ho:g=o
   ·subst ho;simp only;rw[K3 trivial,K3 (by simp),pX,q0 hg];simp
   ·simp only;rw[q0 ho,q0 (by simp[hg,ho])]
 have Z:=O o;rw[K3 (by simp),pX,q0 hm] at Z;simp only[List.idxOf_cons_self,G1] at Z;simp(disch:=exact oS) only[push_cast,I.ld2,Q1,ai,Yp0 N,Z,gm];refine V _ v' ⟨I,al,⟨_,N,O⟩,⟨h.sep.1,L,Q⟩,?_,hf.2⟩ ?_ λb C=>(a0 b C).imp id λh=>oM
 ·rw[gg];simp;omega
 ·refine Same.thn (Same.of_ext e8) ((((F.mono (S':=YL bc mb v) λx _ h=> .inr (.inr h)).trans (p.mono λx _ h=> .inl h)).trans (Same.of_ext (j.trans k))).trans ((q.mono λx _ h=> .inr (.inl h)).trans (Same.of_ext l))) λx s=> .inl s
end
section
variable {w:World} {K:oK} {n bc mb bb:Nat} {gs:M.Gs} {v:Value}
theorem absI_le {a:Int} {m:Nat} (h:a.natAbs<=m):(M.absI a).natAbs<=m:=by unfold M.absI;split<;>omega
theorem JJ {c:Bool} {a:Int}:(M.turnI c a).natAbs=a.natAbs:=by cases c<;>simp[M.turnI]
theorem put_abs {g:M.Gt} (h:gs.length<=600) (a:n<=8):(M.putG n gs g).2.natAbs<=1000:=by
 unfold M.putG;split
 ·next hm=>have:=List.idxOf_lt_length_iff.2 hm;show(2+(n:Int)+(gs.idxOf g:Nat)).natAbs<=1000;omega
 ·split
  ·show(0:Int).natAbs<=1000;decide
  ·show(2+(n:Int)+(gs.length:Nat)).natAbs<=1000;omega
theorem jz0 {a b:Int} (h:gs.length<=600) (c:n<=8) (d:a.natAbs<=1000) (e:b.natAbs<=1000):(M.andG n gs a b).2.natAbs<=1000:=by
 unfold M.andG
 repeat' split
 all_goals first|exact put_abs h c|(show(-1:Int).natAbs<=1000;decide)|assumption
theorem qf0 {a b:Int} (h:gs.length<=600) (c:n<=8) (d:a.natAbs<=1000) (e:b.natAbs<=1000):(M.xorG n gs a b).2.natAbs<=1000:=by
 unfold M.xorG
 repeat' split
 all_goals first|(show(-1:Int).natAbs<=1000;decide)|(show(1:Int).natAbs<=1000;decide)|(simp only[JJ];first|exact put_abs h c|assumption)
theorem ZQ0 (a b:Int):yh zm [(1,nI a),(2,nI b)] w K=K (gv ⟨false,a,b⟩) w:=zR Zm (us:=[[nI a],[nI b]]) rfl rfl
theorem cand_spec {a b:Int} (h:CktR n bc w gs v mb) (f:a.natAbs<=1000) (e:b.natAbs<=1000)
  (d:∀w' v',CktR n bc w' (M.andG n gs a b).1 v' mb->Same (YL bc mb v) w w'->(∀b,v'.ownBlock=some b->v.ownBlock=some b\/w.heap.size<=b)->K (nI (M.andG n gs a b).2) w'):
  vcall XM #[oP bc 0,nI a,nI b] w K:=by
 refine zf {} Tryz.func295 ?_;unfold M.andG at d
 try simp only[push_cast]
 refine zb (λc=>?_) (λc1=>?_)
 ·rw[K3 (.inl c)] at d;exact d _ _ h (Same.refl _ _) λb e=> .inl e
 try simp only[push_cast]
 refine zb (λc=>?_) (λc2=>?_)
 ·rw[K3 (.inr c)] at d;exact d _ _ h (Same.refl _ _) λb e=> .inl e
 rw[q0 (λh=>h.elim c1 c2)] at d
 try simp only[push_cast]
 refine zb (λc=>?_) (λc=>?_)
 ·rw[K3 c] at d;exact d _ _ h (Same.refl _ _) λb e=> .inl e
 rw[q0 c] at d
 try simp only[push_cast]
 refine zb (λc=>?_) (λc=>?_)
 ·rw[K3 c] at d;exact d _ _ h (Same.refl _ _) λb e=> .inl e
 rw[q0 c] at d
 try simp only[push_cast]
 refine zb (λc=>?_) (λc=>?_)
 ·rw[K3 c] at d;exact d _ _ h (Same.refl _ _) λb e=> .inl e
 rw[q0 c] at d
 try simp(disch:=omega) only[push_cast,zj,Gc]
 refine zb (λc=>?_) (λc=>?_)
 ·rw[K3 c] at d;exact d _ _ h (Same.refl _ _) λb e=> .inl e
 rw[q0 c] at d;rw[ZQ0];exact gate_spec h (by show a.natAbs<=_;omega) (by show b.natAbs<=_;omega) d
theorem kV0 (a b:Int):yh zm [(0,.bool true),(1,nI a),(2,nI b)] w K=K (gv ⟨true,a,b⟩) w:=zR Zm (us:=[[.bool true],[nI a],[nI b]]) rfl rfl
theorem absI_abs (a:Int):M.absI (M.absI a)=M.absI a:=by
 unfold M.absI;by_cases h:a<0
 ·rw[K3 h,q0 oM]
 ·rw[q0 h,q0 h]
theorem ordX (a b:Int):Z80 ⟨true,M.absI a,M.absI b⟩=M.gateX a b:=by unfold Z80 M.gateX;simp only[absI_abs]
theorem cxor_spec {a b:Int} (h:CktR n bc w gs v mb) (j:a.natAbs<=1000) (e:b.natAbs<=1000)
  (d:∀w' v',CktR n bc w' (M.xorG n gs a b).1 v' mb->Same (YL bc mb v) w w'->(∀b,v'.ownBlock=some b->v.ownBlock=some b\/w.heap.size<=b)->K (nI (M.xorG n gs a b).2) w'):
  vcall XL #[oP bc 0,nI a,nI b] w K:=by
 refine zf {} Tryz.func296 ?_;unfold M.xorG at d;refine node_spec oM ?_
 try simp only[push_cast]
 refine zb (λc=>?_) (λc=>?_)
 ·rw[K3 c] at d
  try simp only[push_cast]
  exact turned_spec oM (d _ _ h (Same.refl _ _) λb e=> .inl e)
 rw[q0 c] at d;refine node_spec oM ?_
 try simp only[push_cast]
 refine zb (λc=>?_) (λc=>?_)
 ·rw[K3 c] at d
  try simp only[push_cast]
  exact turned_spec oM (d _ _ h (Same.refl _ _) λb e=> .inl e)
 rw[q0 c] at d
 try simp only[push_cast]
 refine zb (λc=>?_) (λc=>?_)
 ·rw[K3 c] at d;exact d _ _ h (Same.refl _ _) λb e=> .inl e
 rw[q0 c] at d
 try simp(disch:=omega) only[push_cast,zj,Gc]
 refine zb (λc=>?_) (λc=>?_)
 ·rw[K3 c] at d;exact d _ _ h (Same.refl _ _) λb e=> .inl e
 rw[q0 c] at d;refine node_spec oM (node_spec oM ?_);rw[kV0];have k:=put_abs (g:=M.gateX a b) h.few.1 h.few.2;refine gate_spec h (absI_le oM) (absI_le oM) λw' v' f hs i=>?_;rw[ordX] at f⊢
 try simp only[push_cast]
 refine turned_spec (l:=(M.putG n gs (M.gateX a b)).2) oM ?_;exact d _ _ f hs i
theorem qG0:ql .eql xq true .nilIface .nilIface w K=K (.bool true) w:=yl rK rK
theorem X2:ql .neq xq true .nilIface .nilIface w K=K (.bool false) w:=yl rK rK
theorem ZJ0 {a:Addr}:ql .eql xq true (erv a) .nilIface w K=K (.bool false) w:=yl rK rK
theorem UJ {a:Addr}:ql .neq xq true (erv a) .nilIface w K=K (.bool true) w:=yl rK rK
theorem KH {p e:Value} (a:K (.tuple #[]) w):vcall ke #[p,.bool false,e] w K:=by
 refine zf {} Tryz.func261 ?_;simp only[push_cast];exact a
theorem kF0 {p:Value} {a:Addr} (c:Blk w bb [p,.nilIface] yE) (d:∀w',Same (· =bb) w w'->Blk w' bb [p,erv a] yE->K (.tuple #[]) w'):
  vcall ke #[oP bb 0,.bool true,erv a] w K:=by
 refine zf {} Tryz.func261 ?_;simp(disch:=exact oS) only[push_cast,c.ld1,qG0];refine Blk.st (i:=1) c rfl rfl Zj0 rfl λw' hs _ b=>d w' hs b
end
section
variable {w:World} {K:oK} {F F' X:Nat->Prop} {n bc mb bb:Nat} {gs:M.Gs} {v:Value} {ar ab:Addr} {st:Option M.Gs}
theorem BdR.pre {w':World} {bc mb:Nat} {gs gs':M.Gs} {v v':Value} (h:BdR n bb ar ab X F w (some gs)) (g:Blk w bb [oP bc 0,.nilIface] yE) (d: ¬YL bc mb v bb) (hF:∀b,YL bc mb v b->F b)
  (i:CktR n bc w' gs' v' mb) (hs:Same (YL bc mb v) w w') (j:∀b,v'.ownBlock=some b->v.ownBlock=some b\/w.heap.size<=b):
  BdR n bb ar ab X (λb=>F b\/v'.ownBlock=some b) w' (some gs')/\Mv F w (λb=>F b\/v'.ownBlock=some b) w':=by
 have hm:Mv F w (λb=>F b\/v'.ownBlock=some b) w':=⟨hs.mono λx _ a=>hF x a,λb c=>c.elim .inl λc=>(j b c).imp (λh=>hF b (.inr (.inr h))) id⟩;refine⟨⟨h.err.mv hm,⟨bc,g.same hs d,λk e=>?_⟩,.inl h.foot,λb c=>?_⟩,hm⟩
 ·cases e;refine⟨v',mb,i,?_,?_⟩
  ·rintro(a|a|a)
   ·exact d (.inl a)
   ·exact d (.inr (.inl a))
   ·rcases j _ a with f|f
    ·exact d (.inr (.inr f))
    ·have:=g.lt;omega
  ·rintro b (a|a|a)
   ·exact .inl (hF b (.inl a))
   ·exact .inl (hF b (.inr (.inl a)))
   ·exact .inr a
 ·rcases c with(c|c)|c
  ·have:=h.lt b (.inl c);have:=hs.size;omega
  ·exact i.lt (.inr (.inr c))
  ·have:=h.lt b (.inr c);have:=hs.size;omega
theorem made_spec {s:Int} (h:BdR n bb ar ab X F w (some gs)) (d:∀w',BdR n bb ar ab X F w' (if s=0 then none else some gs)->Mv F w F w'->K (nI (if s=0 then-1 else s)) w'):
  vcall Xc #[oP bb 0,nI s] w K:=by
 refine zf {} Tryz.func294 ?_;obtain⟨bc,f,j⟩:=h.blk;simp only at f;simp only[push_cast,y0 xn h.err.room.cell];by_cases hs:s=0
 ·rw[K3 hs,K3 hs] at d;rw[gn hs];refine kF0 f λw' c a=>?_;have hm:Mv F w F w':=⟨c.mono λx _ i=>i▸h.foot,λb g=> .inl g⟩;simp(disch:=exact oS) only[push_cast,a.ld1,UJ];exact d _ ⟨h.err.mv hm,⟨bc,a,λ_ e=>by cases e⟩,h.foot,λb g=>by have:=h.lt b g;have:=c.size;omega⟩ hm
 ·rw[q0 hs,q0 hs] at d;rw[gk hs];refine KH ?_;simp(disch:=exact oS) only[push_cast,f.ld1,X2];exact d _ h Mv.refl
abbrev Sm (x:Int):Prop:=x.natAbs<=1000
theorem bout {x y s:Int} {p:M.Bd Int} {a:M.Gs} (b:p.run n gs=if s=0 then none else some (a,s)) (c:p.Reach (-1)):M.Bd.Out n p (some gs) (if s=0 then none else some a) (if s=0 then-1 else s):=by
 by_cases hs:s=0
 ·rw[K3 hs] at b;rw[K3 hs,K3 hs];exact .inr ⟨b,rfl,c⟩
 ·rw[q0 hs] at b;rw[q0 hs,q0 hs];exact .inl ⟨a,b,rfl⟩
theorem qM {x y:Int} (h:BdR n bb ar ab X F w st) (k:Sm x) (l:Sm y)
  (j:∀w' F' st' r,BdR n bb ar ab X F' w' st'->Mv F w F' w'->Sm r->M.Bd.Out n (.and x y .ret) st st' r->K (nI r) w'):
  vcall XO #[oP bb 0,nI x,nI y] w K:=by
 refine zf {} Tryz.func268 ?_;obtain⟨bc,a,p⟩:=h.blk;cases st with
 |none=>
  simp only at a;simp(disch:=exact oS) only[push_cast,a.ld1,UJ];exact j _ _ none (-1) h Mv.refl dC ⟨rfl,-1,rfl⟩
 |some gs=>
  simp only at a;obtain⟨v,mb,c,b,hF⟩:=p gs rfl;simp(disch:=exact oS) only[push_cast,a.ld0,a.ld1,X2];refine cand_spec c k l λw1 v1 d i g=>?_;obtain⟨m,e⟩:=h.pre a b hF d i g;have q:=jz0 (n:=n) c.few.1 c.few.2 k l;refine made_spec m λw2 o f=>j _ _ _ _ o (e.trans f) ?_ (bout (x:=x) (y:=y) rfl ⟨-1,rfl⟩);split
  ·decide
  ·exact q
theorem Y8 {x y:Int} (h:BdR n bb ar ab X F w st) (k:Sm x) (l:Sm y)
  (j:∀w' F' st' r,BdR n bb ar ab X F' w' st'->Mv F w F' w'->Sm r->M.Bd.Out n (.xor x y .ret) st st' r->K (nI r) w'):
  vcall XN #[oP bb 0,nI x,nI y] w K:=by
 refine zf {} Tryz.func270 ?_;obtain⟨bc,a,p⟩:=h.blk;cases st with
 |none=>
  simp only at a;simp(disch:=exact oS) only[push_cast,a.ld1,UJ];exact j _ _ none (-1) h Mv.refl dC ⟨rfl,-1,rfl⟩
 |some gs=>
  simp only at a;obtain⟨v,mb,c,b,hF⟩:=p gs rfl;simp(disch:=exact oS) only[push_cast,a.ld0,a.ld1,X2];refine cxor_spec c k l λw1 v1 d i g=>?_;obtain⟨m,e⟩:=h.pre a b hF d i g;have q:=qf0 (n:=n) c.few.1 c.few.2 k l;refine made_spec m λw2 o f=>j _ _ _ _ o (e.trans f) ?_ (bout (x:=x) (y:=y) rfl ⟨-1,rfl⟩);split
  ·decide
  ·exact q
theorem xz {α:Type} {x y r:Int} {k:Int->M.Bd α} {a:α} {st st' b:Option M.Gs} (h:M.Bd.Out n (.and x y .ret) st st' r) (c:M.Bd.Out n (k r) st' b a):M.Bd.Out n (.and x y k) st b a:=M.Bd.Out.bind (f:=k) h c
theorem kq {α:Type} {x y r:Int} {k:Int->M.Bd α} {a:α} {st st' b:Option M.Gs} (h:M.Bd.Out n (.xor x y .ret) st st' r) (c:M.Bd.Out n (k r) st' b a):M.Bd.Out n (.xor x y k) st b a:=M.Bd.Out.bind (f:=k) h c
theorem bor_spec {x y:Int} (h:BdR n bb ar ab X F w st) (i:Sm x) (j:Sm y)
  (d:∀w' F' st' r,BdR n bb ar ab X F' w' st'->Mv F w F' w'->Sm r->M.Bd.Out n (M.orB x y) st st' r->K (nI r) w'):
  vcall Qz #[oP bb 0,nI x,nI y] w K:=by
 refine zf {} Tryz.func269 ?_;simp(disch:=omega) only[push_cast,zj,Gc];refine qM h (by unfold Sm at*;omega) (by unfold Sm at*;omega) λw1 g f k c a e b=>?_;simp(disch:=omega) only[push_cast,zj,Gc];exact d _ _ _ _ c a (by unfold Sm at*;omega) (xz b (M.Bd.Out.ret _ _))
theorem bmux_spec {c x y:Int} (h:BdR n bb ar ab X F w st) (q:Sm c) (s:Sm x) (t:Sm y)
  (p:∀w' F' st' r,BdR n bb ar ab X F' w' st'->Mv F w F' w'->Sm r->M.Bd.Out n (M.muxB c x y) st st' r->K (nI r) w'):
  vcall qE #[oP bb 0,nI c,nI x,nI y] w K:=by
 refine zf {} Tryz.func264 ?_;refine qM h q s λw1 z u B l a i e=>?_;simp(disch:=omega) only[push_cast,zj,Gc];refine qM l (by unfold Sm at*;omega) t λw2 F2 st2 C m b j f=>?_;refine bor_spec m i j λE A v D o d k g=>?_;exact p _ _ _ _ o (a.trans (b.trans d)) k (xz e (xz f g))
end
end Go.Proofs.YtjkkiaacmedfdaaGreatDoor
section
namespace Go.Vc
open Go
section
variable {w w':World} {K:oK} {F:Nat->Prop} {t:TypeId} {v:Value}
theorem Sl.cutLH {k lo hi:Nat} {xs:List (List Value)} {kl kh:IntKind} (h:Sl F w k v xs) (r:elB t k=true) (y:lo<=hi) (l:hi<=xs.length) (m:∀v',Sl F w k v' ((xs.drop lo).take (hi-lo))->K v' w'):
  xm t v (some (.int kl lo)) (some (.int kh hi)) none w' K:=by
 obtain⟨hu,hs⟩:=YS r;obtain⟨⟨a,c,rfl,u,p,d⟩,hw⟩:=h;have hlen:((xs.drop lo).take (hi-lo)).length=hi-lo:=by rw[gi,pf];omega
 refine⟨_,w',?_,m (sliced a lo hi c k) ⟨⟨_,c-lo,by unfold sliced;rw[hlen],oM,oM,λj=>?_⟩,λx s=>hw x (GR (gS s))⟩⟩
 ·rw[run_sliceAt_slice w' t _ _ _ _ hu,run_slice_lh w' t _ _ _ hu kl kh lo hi oM oM oM,run_sizeOf hs];simp[Result.andThen]
 ·have q:lo<hi:=by
   have:0<((xs.drop lo).take (hi-lo)).length:=GC.2 j;omega
  obtain⟨b,o,rfl,hF,n,g⟩:=d (λe=>by rw[e] at l;simp at l;omega);refine⟨b,o+lo*k,?_,hF,n,λi f=>?_⟩
  ·rw[q0 oM];simp[yn]
  ·rw[hlen] at f;have:=g (lo+i) oM;rw[show o+lo*k+i*k=o+(lo+i)*k by rw[G7];omega];rwa[X0,List.getElem?_take_of_lt f,Pk,<-X0]
theorem Vals.cutLH {lo hi:Nat} {vs:List Value} {kl kh:IntKind} (h:Vals F w v vs) (e:elB t 1=true) (d:lo<=hi) (c:hi<=vs.length) (b:∀v',Vals F w v' ((vs.drop lo).take (hi-lo))->K v' w'):
  xm t v (some (.int kl lo)) (some (.int kh hi)) none w' K:=by
 refine Sl.cutLH h e d (by simpa using c) λv' a=>b v' ?_;unfold Vals;rw[GD,Ph];exact a
theorem Ints.cutLH {lo hi:Nat} {xs:List Int} {kl kh:IntKind} (h:Ints F w v xs) (e:elB t 1=true) (d:lo<=hi) (c:hi<=xs.length) (b:∀v',Ints F w v' ((xs.drop lo).take (hi-lo))->K v' w'):
  xm t v (some (.int kl lo)) (some (.int kh hi)) none w' K:=by
 refine Vals.cutLH h e d (by simpa using c) λv' a=>b v' ?_;unfold Ints;rw[GD,Ph];exact a
theorem blk_from {b n lo:Nat} {kl:IntKind} (a:elB t 1=true) (d:lo<=n):
  xm t (.slice (some ⟨b,0,none⟩) n n) (some (.int kl lo)) none none w K=K (.slice (some ⟨b,if n=lo then 0 else lo,none⟩) (n-lo) (n-lo)) w:=by
 obtain⟨hu,hs⟩:=YS a;refine y5 ?_;rw[run_sliceAt_slice w t _ _ _ _ hu,run_slice_l w t _ _ _ hu kl lo oM oM,run_sizeOf hs];simp only[Result.andThen,sliced,gw];by_cases c:n=lo
 ·simp[c]
 ·simp[c,yn]
theorem blk_to {b n hi:Nat} {kl:IntKind} (a:elB t 1=true) (c:hi<=n):
  xm t (.slice (some ⟨b,0,none⟩) n n) none (some (.int kl hi)) none w K=K (.slice (some ⟨b,0,none⟩) hi n) w:=by
 obtain⟨hu,hs⟩:=YS a;refine y5 ?_;rw[run_sliceAt_slice w t _ _ _ _ hu,run_slice_h w t _ _ _ hu kl hi oM oM,run_sizeOf hs];simp[Result.andThen,sliced,yn]
theorem x40 {e n:Nat} (h:xY e n=true):(P.info? e).map (·.size)=some n:=by
 unfold xY at h;cases hi:P.info? e with
 |none=>rw[hi] at h;cases h
 |some i=>rw[hi] at h;simp[gD h]
theorem vcopy {t2 ty te:TypeId} {g off dLen dCap sLen sCap:Nat} {ad:Addr} {cur cs:List Value} (n:elB t 1=true) (c:Blk w g cur te) (l:cs.length=min sLen dLen)
  (b:∀j u,cs[j]?=some u->w.cell? (ad.add j)=some u) (a:off+cs.length<=cur.length) (f:∀u∈cs,u.oneCell'=true)
  (h:∀w',Same (· =g) w w'->w'.heap.size=w.heap.size->Blk w' g (cur.take off++(cs++cur.drop (off+cs.length))) te->K (nI cs.length) w'):
  vbi .copy [t,t2] ty [.slice (some ⟨g,off,none⟩) dLen dCap,.slice (some ad) sLen sCap] w K:=by
 obtain⟨hu,hs⟩:=YS n;have m:=run_copy_row (P:=P) w t t2 ty (P.elem t) g off dLen dCap ad sLen sCap ⟨cur⟩ te cs hu (x40 hs) c l b (by simpa using a) f;refine⟨_,_,m,h _ ⟨rfl,rfl,rfl,by simp[World.setRow],λk o e=>setRow_other w g k _ e⟩ (by simp[World.setRow]) ?_⟩;have i:=c.lt;have d:w.heap[g]?=some (.cells ⟨cur⟩ te (0,0)):=c;unfold Blk World.setRow;simp only[G8];simp[d,Gj]
theorem xr0 {t2 ty:TypeId} {d a:Option Addr} {dLen dCap sLen sCap:Nat} (c:elB t 1=true) (b:min sLen dLen=0):vbi .copy [t,t2] ty [.slice d dLen dCap,.slice a sLen sCap] w K=K (nI 0) w:=by
 obtain⟨hu,hs⟩:=YS c;exact y5 (run_copy_none (P:=P) w t t2 ty (P.elem t) d a dLen dCap sLen sCap hu (x40 hs) b)
theorem vmkS_blk {bs n:Nat} {z:Value} {u v:IntKind} {e:TypeId} (y:elZ t 1 bs=true) (he:YK t=e) (k:yi e z) (s:z.cells= #[z]) (l:bs*n<=281474976710656) (m:n<=9223372036854775807)
  (x:∀b w',b=w.heap.size->Blk w' b (List.replicate n z) e->Ext w w'->K (.slice (some ⟨b,0,none⟩) n n) w'):vmkS t (.int u n) (.int v n) w K:=by
 obtain⟨hu,i,f,hi,d,r,o,F⟩:=xg0 y;subst he;have:f=z:=by
  unfold yi at k;rw[hi] at k;simp only[d,Gy] at k;exact k
 subst this;subst o;obtain⟨w',D,a,q⟩:=run_make_full (P:=P) w 0 t (YK t) i f 1 hu hi d r u v n l (by simpa[maxLen] using m) oM;refine⟨_,w',D,x _ w' rfl ?_ ((Same.of_grown q).mono λ_ _ h=>by cases h)⟩;have e:(madeCells f.cells (n*1)).toList=List.replicate n f:=by
  refine Gd (by simp[madeCells]) λj G H=>?_;simp[madeCells,s,Nat.mod_one]
 rw[e] at a;rcases a.2 with⟨h,_⟩|⟨g,cap,cur,E,I,B,C,A,p,c⟩
 ·cases h
 ·cases E;unfold Blk;rw[B];have:cur.toList=List.replicate n f:=(by rw[<-c,gI (by rw[pO,p];exact gB _)]);rw[<-this]
theorem vappend_make {bs n:Nat} {ti ty:TypeId} {z:Value} {e:TypeId} (F:elZ t 1 bs=true) (he:YK t=e) (p:yi e z) (A:z.cells= #[z]) (y:P.underlying ti=some (.int .i64)) (B:0<n) (D:n<=1000000) (C:n*bs<=140737488355328)
  (E:∀v' w',OwnV t w' v' (List.replicate n z)->Ext w w'->(∀b,v'.ownBlock=some b->w.heap.size<=b)->K v' w'):vbi .append [t,ti] ty [.slice none 0 0,nI n] w K:=by
 obtain⟨hu,i,o,hi,g,x,s,l⟩:=xg0 F;subst he;have:o=z:=by
  unfold yi at p;rw[hi] at p;simp only[g,Gy] at p;exact p
 subst this;subst s;have q:n*i.bytes<=281474976710656:=oM
 have c:n<=maxLen:=by simp only[maxLen];omega
 have I:n≠0:=oM
 have hw:IntKind.i64.wrap (n:Int)=n:=zj oM (by simp only[maxLen] at c;omega);have f: ¬(9223372036854775807<(n:Int)):=by simp only[maxLen] at c;omega
 have d: ¬(281474976710656<Builtin.nextslicecap n 0*i.bytes):=by rw[nextslicecap_zero B];omega
 have r: ¬((281474976710656:Int)<(n:Int)*i.bytes):=by
  have h:((n*i.bytes:Nat):Int)<=281474976710656:=oM;rw[Int.natCast_mul] at h;omega
 have J:(Builtin.append_ #[t,ti] ty #[.slice none 0 0,nI n]).run P w=
   .ok (.slice (some ⟨w.heap.size,0,none⟩) n (grownCap w n 0 (YK t))) (w.drew.alloc (.cells (Builtin.zeroCells o.cells n++Builtin.zeroCells o.cells (grownCap w n 0 (YK t)-n)) (YK t))):=by
  simp[Builtin.append_,run_underlying hu,run_underlying y,sizeOf,typeInfo,zeroValue,hi,g,x,I,hw,f,d,r,asInt,asIntOf,Question.forced,run_firstCells_none,newRow,grownCap];intro h;omega
 have v:=grownCap_ge w n 0 (YK t);have u:grownCap w n 0 (YK t)<=maxLen:=grownCap_le_maxLen w n 0 (YK t) c;have a:∀m,(Builtin.zeroCells o.cells m).toList=List.replicate m o:=λm=>by
  refine Gd (by simp[Builtin.zeroCells,l]) λj L M=>?_;simp[Builtin.zeroCells,A,Nat.mod_one]
 refine⟨_,_,J,E _ _ ⟨⟨by simp,.inr ⟨w.heap.size,_,_,by simp,gQ _,heap_alloc_new w.drew _,by simpa using v,u,?_,?_⟩⟩,by simp⟩ ⟨rfl,rfl,rfl,by simp,λk H _=>heap_alloc_old w.drew _ H⟩ λb G=>by cases G;exact gB _⟩
 ·simp only[Array.size_append,size_zeroCells,l];omega
 ·rw[PJ,a,a,flat1];simp
end
section
open Go.MapKept
theorem qj0 {w:World} {K:oK} {t e:TypeId} {d:TypeDesc} {b:Nat} {f:List (Value×Value)} {k x:Value} (I:km0 t d e) (h:MapF d w b f) (q:IsKey d k)
  (E:∀w' C,MapF d w' b C->(∀p,p∈C->p=(k,x)\/p∈f)->Same (· =b) w w'->w'.heap.size=w.heap.size->K undef w'):z60 t (.map (some b)) k x w K:=by
 obtain⟨kt,hm,u⟩:=I;obtain⟨es,cl,g,s,o,rfl⟩:=h;rcases findNow_spec q es.toList 0 o with⟨v,A⟩|⟨j,e,v,A,D⟩
 ·refine⟨(),{w with heap:=w.heap.setIfInBounds b (.map (es.push {key:=k,val:=x,born:=cl}) (cl+1))},?_,E _ _ ⟨_,_,(heap_set g).1,stamped_push s A,λy a=>?_,rfl⟩ (λp m=>?_) (jE g) (by simp)⟩
  ·simp[Instr.mapUpdate,run_underlying hm,MapKept.run_getObj_map g,run_checkKey u q,run_findKey u v,run_setObj_map _ g,Result.andThen]
  ·rw[P0] at a;rcases gr.1 a with a|a
   ·exact o y a
   ·rw[gz.1 a];exact q
  ·rw[P0,gE] at m;rcases gr.1 m with m|m
   ·exact .inr m
   ·exact .inl (by simpa using m)
 ·have r:es[j]?=some e:=(by simpa using A);have J:∀y∈es.toList,es[0+j]?=some y->({y with key:=k,val:=x}:MapEntry).key=y.key:=λy _ a=>by
   rw[Gb,r] at a;cases a;exact D.symm
  have l:∀y∈(es.modify (0+j) λy=>{y with key:=k,val:=x}).toList,(y.key=k/\y.val=x)\/y∈es.toList:=λy a=>by
   obtain⟨i,hi,G⟩:=gx a;have c:(es.modify (0+j) λy=>{y with key:=k,val:=x})[i]?=some y:=by
    rw[<-gZ,gl hi,G]
   rw[G8] at c;split at c
   ·cases F:es[i]? with
    |none=>rw[F] at c;cases c
    |some z=>rw[F] at c;simp only[Option.map_some,Gy] at c;left;rw[<-c];exact⟨rfl,rfl⟩
   ·right;rw[<-gZ] at c;exact ph c
  refine⟨(),{w with heap:=w.heap.setIfInBounds b (.map (es.modify (0+j) λy=>{y with key:=k,val:=x}) cl)},?_,E _ _ ⟨_,_,(heap_set g).1,stamped_modify s _ _ (λ_ _=>rfl) J,λy a=>?_,rfl⟩ (λp m=>?_) (jE g) (by simp)⟩
  ·have B:((es[0+j]?).map (·.key)).getD k=k:=by rw[Gb,r];exact D
   simp only[Instr.mapUpdate,Sem.run_bind,run_underlying hm,MapKept.run_getObj_map g,run_checkKey u q,run_findKey u v,Result.andThen,B,run_keyThatStays q,run_setObj_map _ g]
  ·rcases l y a with⟨n,_⟩|n
   ·rw[n];exact q
   ·exact o y n
  ·obtain⟨y,a,rfl⟩:=gy.1 m;rcases l y a with⟨n,H⟩|n
   ·exact .inl (by rw[n,H])
   ·exact .inr (gy.2 ⟨y,n,rfl⟩)
end
end Go.Vc
end
namespace Go.Proofs.YtjkkiaacmedfdaaGreatDoor
open Go Go.Vc Go.Proofs
section
variable {w:World} {K:oK} {F F' Fx X:Nat->Prop} {n bb:Nat} {v:Value} {ar ab:Addr} {st:Option M.Gs}
def SmL (xs:List Int):Prop:=∀x,x∈xs->Sm x
theorem SmL.get {xs:List Int} (h:SmL xs) {i:Nat} (hi:i<xs.length):Sm (xs.getD i 0):=h _ (M.getD_mem hi 0)
theorem SmL.app {xs ys:List Int} (h:SmL xs) (a:SmL ys):SmL (xs++ys):=λx b=>(gr.1 b).elim (h x) (a x)
theorem SmL.one {x:Int} (h:Sm x):SmL [x]:=λy a=>by rw[gz.1 a];exact h
theorem SmL.nil:SmL []:=λx a=>by cases a
theorem yQ {xs:List Int} {i:Nat} (hi:i<xs.length):xs.drop i=xs.getD i 0::xs.drop (i+1):=by
 rw[PZ hi,X0,gl hi];rfl
theorem qv0 {i:Nat} {xs ys:List Int} {c:Int} (h:xs.length<=i):M.sumB (xs.drop i) ys c= .ret []:=by
 rw[Gk h];cases ys<;>rfl
theorem bsum_spec {xv yv:Value} {xs ys:List Int} {c:Int} (h:BdR n bb ar ab X F w st) (hx:Ints (Off X F) w xv xs) (hy:Ints (Off X F) w yv ys) (hl:xs.length<=ys.length) (h8:xs.length<=1000) (L:SmL xs) (Q:SmL ys) (hc:Sm c)
  (hK:∀w' F' st' r zs,BdR n bb ar ab X F' w' st'->Mv F w F' w'->NewI X w F' w' r zs->SmL zs->M.Bd.Out n (M.sumB xs ys c) st st' zs->K r w'):
  vcall kA #[oP bb 0,xv,yv,nI c] w K:=by
 refine zf {loops:=[(3,[3,9,16])]} Tryz.func266 ?_;simp(disch:=exact oS) only[push_cast,hx.len];refine vloop_up xs.length (λi u w'=> ∃v a r zs c1,u=[nI c1,r,nI i]/\BdR n bb ar ab X v w' a/\Mv F w v w'/\NewI X w v w' r zs/\SmL zs/\zs.length=i/\Sm c1/\
  ∀st2 rs,M.Bd.Out n (M.sumB (xs.drop i) (ys.drop i) c1) a st2 rs->M.Bd.Out n (M.sumB xs ys c) st st2 (zs++rs)) ⟨F,st,_,[],c,rfl,h,Mv.refl,NewI.nil,SmL.nil,rfl,hc,λ_ _ h=>h⟩ ?_
 rintro i _ g w1 C hi ⟨v,a,r,zs,c1,rfl,h1,y,G,R,a8,x,f⟩ hC;simp only[push_cast];refine zb (λad=>?_) (λac=>?_)
 ·have e:i<xs.length:=oM;refine zd λw2 j _=>?_;have h2:=h1.ext j;have m:=y.ext j;have I:=Ints.mv hx m;have N:=Ints.mv hy m;simp(disch:=exact oS) only[push_cast,I.iaddr,I.load,N.iaddr,N.load,Q1];refine Y8 h2 (L.get e) (Q.get oM) λw3 F3 af d h3 A hd a3=>?_;refine Y8 h3 hd x λw4 U a9 s h4 B hs a4=>?_;refine zC yw y3 yc rfl rfl λb5 w5 aa k ae W=>?_;have D:=(m.trans (A.trans B)).ext k;have h5:=h4.ext k;have t:NewI X w U w5 r zs:=(G.mv ((Mv.refl.ext j).trans (A.trans B))).mv (Mv.refl.ext k);refine t.app1 W D.same.size h5.lt oM λr6 w6 a7 H=>?_;have h6:BdR n bb ar ab X U w6 a9:=h5.upd h.err H λb Y=>t.off b Y;have a0:Mv F w U w6:=D.to H λb Y=> .inr (t.off b Y).1;refine zd λw7 l _=>?_;have h7:=h6.ext l;have o:=a0.ext l;have J:=Ints.mv hx o;have O:=Ints.mv hy o;simp(disch:=exact oS) only[push_cast,J.iaddr,J.load,O.iaddr,O.load,Q1];refine qM h7 (L.get e) (Q.get oM) λw8 F8 ag p h8 a1 hp a5=>?_;refine qM h8 hd x λw9 F9 ah q h9 a2 hq a6=>?_;refine bor_spec h9 hp hq λw10 T S c2 V z Z E=>?_;simp(disch:=omega) only[push_cast,zj];have hm:=a1.trans (a2.trans z);refine hC e _ _ ⟨T,S,r6,zs++[s],c2,by simp<;>exact⟨rfl,rfl⟩,V,o.trans hm,(a7.mv (Mv.refl.ext l)).mv hm,R.app (SmL.one hs),by simp[a8],Z,λst2 rs ho=>?_⟩;have:=f st2 (s::rs) ?_
  ·simpa using this
  rw[yQ e,yQ (show i<ys.length by omega)];exact kq a3 (kq a4 (xz a5 (xz a6 (M.Bd.Out.bind E (M.Bd.Out.map _ ho)))))
 ·have:=f a [] (by rw[qv0 oM];exact M.Bd.Out.ret _ _);rw[gK] at this;exact hK w1 v a r zs h1 y G R this
theorem xb0 {i:Nat} {xs ys:List Int} {r:Int} (h:xs.length<=i):M.lessB (xs.drop i) ys r= .ret r:=by
 rw[Gk h];cases ys<;>rfl
theorem bless_spec {xv yv:Value} {xs ys:List Int} (h:BdR n bb ar ab X F w st) (E:Ints (Off X F) w xv xs) (T:Ints (Off X F) w yv ys) (Y:xs.length<=ys.length) (W:xs.length<=1000) (A:SmL xs) (t:SmL ys)
  (N:∀w' F' st' r,BdR n bb ar ab X F' w' st'->Mv F w F' w'->Sm r->M.Bd.Out n (M.lessB xs ys (-1)) st st' r->K (nI r) w'):
  vcall Xd #[oP bb 0,xv,yv] w K:=by
 refine zf {loops:=[(3,[7,12])]} Tryz.func275 ?_;simp(disch:=exact oS) only[push_cast,E.len];refine vloop_up xs.length (λi u w'=> ∃v a r,u=[nI r,nI i]/\BdR n bb ar ab X v w' a/\Mv F w v w'/\Sm r/\
  ∀st2 q,M.Bd.Out n (M.lessB (xs.drop i) (ys.drop i) r) a st2 q->M.Bd.Out n (M.lessB xs ys (-1)) st st2 q) ⟨F,st,-1,rfl,h,Mv.refl,dC,λ_ _ h=>h⟩ ?_
 rintro i _ g w1 C hi ⟨v,a,r,rfl,D,k,m,b⟩ L;simp only[push_cast];refine zb (λR=>?_) (λQ=>?_)
 ·have c:i<xs.length:=oM;refine zd λw2 j _=>?_;have H:=D.ext j;have e:=k.ext j;have o:=Ints.mv E e;have f:=Ints.mv T e;simp(disch:=exact oS) only[push_cast,o.iaddr,o.load,f.iaddr,f.load,Q1];refine Y8 H (A.get c) (t.get oM) λZ V U d I l O y=>?_;have p:=Ints.mv f l;simp(disch:=exact oS) only[push_cast,p.iaddr,p.load,Q1];refine bmux_spec I O (t.get oM) m λw4 G B s J x hs z=>?_;simp(disch:=omega) only[push_cast,zj];refine L c _ _ ⟨G,B,s,by simp<;>exact⟨rfl,rfl⟩,J,e.trans (l.trans x),hs,λst2 q S=>b st2 q ?_⟩;rw[yQ c,yQ (show i<ys.length by omega)];exact kq y (M.Bd.Out.bind z S)
 ·exact N w1 v a r D k m (b a r (by rw[xb0 oM];exact M.Bd.Out.ret _ _))
theorem x50 {i:Nat} {xs ys:List Int} {r:Int} (h:xs.length<=i):M.sameB (xs.drop i) ys r= .ret r:=by
 rw[Gk h];cases ys<;>rfl
theorem bsame_spec {xv yv:Value} {xs ys:List Int} (h:BdR n bb ar ab X F w st) (D:Ints (Off X F) w xv xs) (R:Ints (Off X F) w yv ys) (W:xs.length<=ys.length) (U:xs.length<=1000) (y:SmL xs) (z:SmL ys)
  (L:∀w' F' st' r,BdR n bb ar ab X F' w' st'->Mv F w F' w'->Sm r->M.Bd.Out n (M.sameB xs ys 1) st st' r->K (nI r) w'):
  vcall Xa #[oP bb 0,xv,yv] w K:=by
 refine zf {loops:=[(3,[7,12])]} Tryz.func274 ?_;simp(disch:=exact oS) only[push_cast,D.len];refine vloop_up xs.length (λi u w'=> ∃o a r,u=[nI r,nI i]/\BdR n bb ar ab X o w' a/\Mv F w o w'/\Sm r/\
  ∀st2 q,M.Bd.Out n (M.sameB (xs.drop i) (ys.drop i) r) a st2 q->M.Bd.Out n (M.sameB xs ys 1) st st2 q) ⟨F,st,1,rfl,h,Mv.refl,dC,λ_ _ h=>h⟩ ?_
 rintro i _ g w1 C hi ⟨o,a,r,rfl,B,j,k,b⟩ J;simp only[push_cast];refine zb (λO=>?_) (λN=>?_)
 ·have c:i<xs.length:=oM;refine zd λw2 f _=>?_;have G:=B.ext f;have e:=j.ext f;have l:=Ints.mv D e;have m:=Ints.mv R e;simp(disch:=exact oS) only[push_cast,l.iaddr,l.load,m.iaddr,m.load,Q1];refine Y8 G (y.get c) (z.get oM) λY T S d H p V v=>?_;simp(disch:=omega) only[push_cast,zj,Gc];refine qM H k (by unfold Sm at*;omega) λZ E A s I t hs x=>?_
  try simp(disch:=omega) only[push_cast,zj]
  refine J c _ _ ⟨E,A,s,by simp<;>exact⟨rfl,rfl⟩,I,e.trans (p.trans t),hs,λst2 q Q=>b st2 q ?_⟩;rw[yQ c,yQ (show i<ys.length by omega)];exact kq v (xz x Q)
 ·exact L w1 o a r B j k (b a r (by rw[x50 oM];exact M.Bd.Out.ret _ _))
theorem Clone_signal {xv:Value} {xs:List Int} (d:Ints Fx w xv xs) (v:xs.length<=1000000) (l:∀w' v',Ext w w'->OwnI ze w' v' xs->(∀x,v'.ownBlock=some x->w.heap.size<=x)->K v' w'):
  vcall qc #[xv] w K:=by
 refine zf {} Tryz.func231 ?_;obtain⟨a,c,rfl,r,s,f⟩:=d.shape;simp only[V0] at d r⊢;rw[Qk yP];refine zn (λm=>?_) (λm=>?_)
 ·cases a with
  |some a=>cases m
  |none=>
   have k:xs=[]:=by
    have n:(List.map (λx=>[x]) (List.map (λx=>Value.int IntKind.i64 x) xs))=[]:=Gn λh=>by
     obtain⟨b,o,p,_⟩:=f h;cases p
    simpa using n
   subst k;exact l w _ (Same.refl _ _) OwnI.nil λx d=>by cases d
 ·refine yj yw y3 λb w1 z he A q=>?_;have g:OwnI ze w1 (.slice (some ⟨b,0,none⟩) 0 0) []:=Blk.own1 (t:=ze) (cs:=[]) (by rw[yH];exact q) (gQ _) rfl rfl oM;have j:Ints Fx w1 (.slice a xs.length c) xs:=d.ext he;refine g.app yx j (by simp;omega) (by simp;omega) λv' w2 u hs i=>?_;have y:=he.size;refine l w2 v' (Ext.then he hs λx d=>by have e:b=x:=gh d;omega) u λx d=>?_;rcases i x d with h|h
  ·have e:b=x:=gh h;omega
  ·omega
end
section
variable {w:World} {K:oK} {F F' Fx X:Nat->Prop} {n bb:Nat} {v:Value} {ar ab:Addr} {st:Option M.Gs}
def ZU0 (n bb:Nat) (ar ab:Addr) (X F:Nat->Prop) (w:World) (f:Value) (p:Int->Int->M.Bd Int):Prop:=
 ∀(w1:World) (F1:Nat->Prop) (st1:Option M.Gs) (x y:Int) (K:oK),BdR n bb ar ab X F1 w1 st1->Mv F w F1 w1->Sm x->Sm y->
  (∀w' F' st' r,BdR n bb ar ab X F' w' st'->Mv F1 w1 F' w'->Sm r->M.Bd.Out n (p x y) st1 st' r->K (nI r) w')->vcallv f #[nI x,nI y] w1 K
theorem Yh {p:Int->Int->M.Bd Int} {i:Nat} {xs ys:List Int} (h:xs.length<=i):M.eachB p (xs.drop i) ys= .ret []:=by
 rw[Gk h];cases ys<;>rfl
theorem each_spec {p:Int->Int->M.Bd Int} {xv yv f:Value} {xs ys:List Int} (h:BdR n bb ar ab X F w st) (S:Ints (Off X F) w xv xs) (hy:Ints (Off X F) w yv ys) (hl:xs.length<=ys.length) (h8:xs.length<=1000) (L:SmL xs) (N:SmL ys)
  (hf:ZU0 n bb ar ab X F w f p)
  (Z:∀w' F' st' r zs,BdR n bb ar ab X F' w' st'->Mv F w F' w'->NewI X w F' w' r zs->SmL zs->M.Bd.Out n (M.eachB p xs ys) st st' zs->K r w'):
  vcall yH0 #[xv,yv,f] w K:=by
 refine zf {loops:=[(3,[7,11])]} Tryz.func262 ?_;simp(disch:=exact oS) only[push_cast,S.len];refine vloop_up xs.length (λi u w'=> ∃m a r zs,u=[r,nI i]/\BdR n bb ar ab X m w' a/\Mv F w m w'/\NewI X w m w' r zs/\SmL zs/\zs.length=i/\
  ∀st2 rs,M.Bd.Out n (M.eachB p (xs.drop i) (ys.drop i)) a st2 rs->M.Bd.Out n (M.eachB p xs ys) st st2 (zs++rs)) ⟨F,st,_,[],rfl,h,Mv.refl,NewI.nil,SmL.nil,rfl,λ_ _ h=>h⟩ ?_
 rintro i _ g w1 C hi ⟨m,a,r,zs,rfl,Q,o,v,A,O,d⟩ Y;simp only[push_cast];refine zb (λa2=>?_) (λa1=>?_)
 ·have k:i<xs.length:=oM;refine zd λw2 e _=>?_;have U:=Q.ext e;have c:=o.ext e;have y:=Ints.mv S c;have z:=Ints.mv hy c;simp(disch:=exact oS) only[push_cast,y.iaddr,y.load,z.iaddr,z.load,Q1];refine hf w2 m a _ _ _ U c (L.get k) (N.get oM) λw4 D B s V q hs I=>?_;refine zC yw y3 yc rfl rfl λb5 w5 a0 j a3 E=>?_;have t:=(c.trans q).ext j;have R:=V.ext j;have l:NewI X w D w5 r zs:=(v.mv ((Mv.refl.ext e).trans q)).mv (Mv.refl.ext j);refine l.app1 E t.same.size R.lt oM λr6 T J x=>?_;have W:BdR n bb ar ab X D T B:=R.upd h.err x λb G=>l.off b G;have H:Mv F w D T:=t.to x λb G=> .inr (l.off b G).1;simp(disch:=omega) only[push_cast,zj];refine Y k _ _ ⟨D,B,r6,zs++[s],by simp<;>exact⟨rfl,rfl⟩,W,H,J,A.app (SmL.one hs),by simp[O],λst2 rs ho=>?_⟩;have:=d st2 (s::rs) ?_
  ·simpa using this
  rw[yQ k,yQ (show i<ys.length by omega)];exact M.Bd.Out.bind I (M.Bd.Out.map _ ho)
 ·have:=d a [] (by rw[Yh oM];exact M.Bd.Out.ret _ _);rw[gK] at this;exact Z w1 m a r zs Q o v A this
theorem negated_spec {xv:Value} {xs:List Int} (n:Ints Fx w xv xs) (G:xs.length<=1000) (s:SmL xs)
  (v:∀w' r,Ext w w'->OwnI ze w' r (M.negL xs)->(∀b,r.ownBlock=some b->w.heap.size<=b)->K r w'):vcall Vk #[xv] w K:=by
 refine zf {} Tryz.func265 ?_;refine zf {loops:=[(3,[7,11])]} Tryz.func262 ?_;simp(disch:=exact oS) only[push_cast,n.len];refine vloop_up xs.length (λi u w'=> ∃r,u=[r,nI i]/\Ext w w'/\OwnI ze w' r (M.negL (xs.take i))/\∀b,r.ownBlock=some b->w.heap.size<=b) ⟨_,rfl,Same.refl _ _,OwnI.nil,λb m=>by cases m⟩ ?_;rintro i _ g w1 C hi ⟨r,rfl,a,f,e⟩ t;simp only[push_cast];refine zb (λA=>?_) (λz=>?_)
 ·have d:i<xs.length:=oM;refine zd λw2 c _=>?_;have l:=n.ext (a.trans c);simp(disch:=exact oS) only[push_cast,l.iaddr,l.load,Q1];refine Jt ?_;unfold Zs;have m:=s.get d;simp(disch:=omega) only[push_cast,zj,Gc];refine zC yw y3 yc rfl rfl λF H y j D o=>?_;have he:=a.trans (c.trans j);have B:=he.size;refine(f.ext (c.trans j)).app1 yx o (by simp[M.negL];omega) (by simp[M.negL];omega) λE I k q p=>?_
  try simp(disch:=omega) only[push_cast,zj]
  refine t d _ _ ⟨E,by simp<;>exact⟨rfl,rfl⟩,Ext.then he q λx n=>e x n,?_,λb m=>(p b m).elim (e b) λh=>oM⟩;rw[M.take_add d 0];unfold M.negL at k⊢;rw[gE];exact k
 ·rw[gI oM] at f;exact v w1 r a f e
theorem NewI.of {w':World} {r:Value} {zs:List Int} (h:OwnI ze w' r zs) (d:∀b,r.ownBlock=some b->w.heap.size<=b) (hF:∀b,F b\/X b->b<w.heap.size):NewI X w F w' r zs:=
 ⟨h,λb a=>⟨d b a,λc=>by have:=d b a;have:=hF b (.inl c);omega⟩,λb a c=>by have:=d b a;have:=hF b (.inr c);omega⟩
theorem SmL.neg {xs:List Int} (h:SmL xs):SmL (M.negL xs):=λx a=>by
 obtain⟨y,b,rfl⟩:=gy.1 a;have:=h y b;unfold Sm at*;omega
theorem SmL.offs (m:Nat):SmL (M.offsL m):=λx a=>by rw[pM a];decide
end
section
variable {w:World} {K:oK} {F X:Nat->Prop} {n:Nat} {v:Value}
theorem We {t ty:TypeId} {a:Option Addr} {l c:Nat} (b:isSl t=true):vbi .len [t] ty [.slice a l c] w K=K (nI l) w:=by
 obtain⟨e,he⟩:=Ug b;exact y5 (by simp[biSem,Builtin.len_,xu he,goInt])
theorem Zu0 {x:Value}:sl 0 [x]=x:=rfl
theorem u_and {m:Nat} (hm:m<4294967296) {c:Bool}:ql .and JE c (.int .u64 m) (.int .u64 4294967295) w K=K (.int .u64 m) w:=by
 have h:=ZB (w:=w) (K:=K) (c:=c) (t:=JE) (a:=m) (b:=4294967295) oM dC;have e:m&&&4294967295=m:=by
  have:=PA m 32;rw[show 2^32-1=4294967295 from rfl] at this;rw[this];exact Gw hm
 rw[e] at h;exact h
theorem u_shr {m:Nat} (hm:m<4294967296) {c:Bool}:ql .shr JE c (.int .u64 m) (.int .u64 32) w K=K (.int .u64 0) w:=by
 have h:=yU0 (w:=w) (K:=K) (c:=c) (t:=JE) (k:= .u64) (yk:= .u64) (x:=m) (y:=32) dC;have e:(m:Int)/2^min (32:Int).toNat IntKind.u64.bits=0:=by
  rw[show(2:Int)^min (32:Int).toNat IntKind.u64.bits=4294967296 from rfl];omega
 rw[e] at h;exact h
theorem wrapU' {x:Int} (a:0<=x) (h:x<18446744073709551616):IntKind.u64.wrap x=x:=by
 have:=wrapU (n:=x.toNat) oM;rwa[show((x.toNat:Nat):Int)=x by omega] at this
theorem Mul_one {m:Nat} (hm:m<=1000) (d:K (.tuple #[.int .u64 0,.int .u64 m]) w):vcall Kb #[.int .u64 1,.int .u64 m] w K:=by
 refine zf {} Tryz.func291 ?_;refine zf {} Tryz.func308 ?_;have a:=λ(K:oK)=>u_and (w:=w) (K:=K) (m:=1) dC (c:=true);have a2:=λ(K:oK)=>u_shr (w:=w) (K:=K) (m:=1) dC (c:=true);have a3:=λ(K:oK)=>u_and (w:=w) (K:=K) (m:=m) oM (c:=true);have a4:=λ(K:oK)=>u_shr (w:=w) (K:=K) (m:=m) oM (c:=true);have a5:=λ(K:oK)=>u_and (w:=w) (K:=K) (m:=0) oM (c:=true);have b:=λ(K:oK)=>u_shr (w:=w) (K:=K) (m:=0) oM (c:=true);simp only[Int.cast_ofNat_Int] at a a2 a5 b;simp(disch:=omega) only[a,a2,a3,a4,a5,b,push_cast,wrapU',Int.one_mul,Int.zero_mul,Int.mul_zero,Int.zero_add,Int.add_zero];exact d
theorem kf0 {m k:Nat} {a:Value} {r:List Value} (h:k<=m):(List.replicate m a++r).take k=List.replicate k a:=by
 rw[pj (by rw[gH];exact h),List.take_replicate,GB h]
theorem kg0 {m k j:Nat} {a:Value} {r:List Value} (h:j=m+k):(List.replicate m a++r).drop j=r.drop k:=by
 subst h;rw[<-z0i,List.drop_left' (by rw[gH])]
theorem Repeat_signal {x:Value} {m:Nat} {y:Nat} {e0:TypeId} (Z:Blk w y [nI (-1)] e0) (hm:m<=1000) (hK:∀w' r,Ext w w'->OwnI ze w' r (M.offsL m)->(∀b,r.ownBlock=some b->w.heap.size<=b)->K r w'):
  vcall xU #[.slice (some ⟨y,0,none⟩) 1 1,nI m] w K:=by
 refine zf {loops:=[(8,[8])],cuts:=[(8195,[]),(20486,[])]} Tryz.func260 ?_;refine zo (λu w'=>w'=w) ?_ ?_
 ·intro J B;simp only[push_cast];refine zb (λh=>?_) (λh=>B _ _ rfl);omega
 rintro _ _ w' hw;rw[hw];have V:∀K:oK,vbi .len [ze] zV [.slice (some ⟨y,0,none⟩) 1 1] w K=K (nI (1:Nat)) w:=λK=>We yP;have c1:∀K:oK,xs0 zV yg0 (nI (1:Nat)) w K=K (.int .u64 (1:Nat)) w:=λK=>by
  rw[qB x30 j30,wrapU dC]
 have c2:∀K:oK,xs0 zV yg0 (nI m) w K=K (.int .u64 m) w:=λK=>by
  rw[qB x30 j30,wrapU oM]
 have c3:∀K:oK,xs0 yg0 zV (.int .u64 m) w K=K (nI m) w:=λK=>by
  rw[qB Zt0 W3,wrapN oM]
 rw[V,c1,c2];refine Mul_one hm ?_;simp only[push_cast];refine zo (λu w'=>w'=w) ?_ ?_
 ·intro J B;refine zb (λh=>?_) (λh=>?_)
  ·omega
  refine zb (λh=>?_) (λh=>B _ _ rfl);omega
 rintro _ _ w' hw;rw[hw];rw[c3];refine vmkS_blk (bs:=8) yx yH yc rfl oM oM λb w1 hb z q=>?_;have a2:y≠b:=by have:=Z.lt;omega
 have step:∀(k:Nat) (w2:World) (J:oK),0<m->k<m->Ext w w2->Blk w2 b (List.replicate k (nI (-1))++List.replicate (m-k) (nI 0)) yq->∀(src:Addr) (sc sl:Nat) (ds:Nat),
   (∀j u,(List.replicate (min sl (m-k)) (nI (-1)))[j]?=some u->w2.cell? (src.add j)=some u)->
   (∀v,Ext w v->Blk v b (List.replicate (k+min sl (m-k)) (nI (-1))++List.replicate (m-(k+min sl (m-k))) (nI 0)) yq->J (nI (min sl (m-k):Nat)) v)->
   vbi .copy [ze,ze] zV [.slice (some ⟨b,k,none⟩) (m-k) ds,.slice (some src) sl sc] w2 J:=by
  intro k w2 J X hk f d src sc sl ds G B;refine vcopy (cs:=List.replicate (min sl (m-k)) (nI (-1))) yD d (by rw[gH]) G (by simp only[gH,gg];omega) (λu hu=>by rw[pM hu];rfl) λv W a3 i=>?_;rw[gH];refine B v (Ext.then f W λx hx=>oM) ?_;rw[kf0 (gB _),kg0 (m:=k) (k:=min sl (m-k)) (by rw[gH]),List.drop_replicate,<-Gj,List.replicate_append_replicate] at i;rw[show m-(k+min sl (m-k))=m-k-min sl (m-k) by omega];exact i
 have fin:∀(w2:World) (u:Value),Ext w w2->Blk w2 b (List.replicate m (nI (-1))) yq->K (.slice (some ⟨b,0,none⟩) m m) w2:=λw2 _ f d=>by
  refine hK w2 _ f ?_ λx hx=>by have e:b=x:=gh hx;omega
  have:=Blk.own1 (t:=ze) (base:=0) (n:=m) (c:=m) (cs:=List.replicate m (nI (-1))) (by rw[yH];exact d) (gQ _) (by rw[gH]) (by rw[gH]) oM;unfold OwnI OwnV M.offsL;rw[GO];exact this
 have loop:∀(k:Nat) (w2:World),Ext w w2->Blk w2 b (List.replicate k (nI (-1))++List.replicate (m-k) (nI 0)) yq->k<=m->(1<=k\/m=0)->
   Wc [nI k] w2 λC o _ H=>
    vbi .len [ze] zV [.slice (some ⟨b,0,none⟩) m m] H λt36 I=>
    ql .lss zV false (sl 0 o) t36 I λt37 p=>
    vif t37 (
     Zt p λa=>
     xm ze (.slice (some ⟨b,0,none⟩) m m) (some (sl 0 o)) none none a λt41 L=>L=a/\
     xm ze (.slice (some ⟨b,0,none⟩) m m) none (some (sl 0 o)) none a λt44 N=>N=a/\
     vbi .copy [ze,ze] zV [t41,t44] a λt45 l=>
     ql .add zV false (sl 0 o) t45 l λt46 O=>O=l/\
     C [t46] l) (
     K (.slice (some ⟨b,0,none⟩) m m) p):=by
  intro k0 w2 f d U Y;refine j4 (λr u w'=> ∃k:Nat,u=[nI k]/\r=m-k/\k<=m/\(1<=k\/m=0)/\Ext w w'/\Blk w' b (List.replicate k (nI (-1))++List.replicate (m-k) (nI 0)) yq) (m-k0) ⟨k0,rfl,rfl,U,Y,f,d⟩ ?_;rintro r _ g v C ⟨k,rfl,rfl,hk,Y,D,i⟩ hC;rw[We yP];simp only[push_cast];refine zb (λa1=>?_) (λa0=>?_)
  ·have F:k<m:=oM;refine zd λw4 E _=>?_;have A:=i.ext E;simp only[Zu0,blk_from yD (show k<=m by omega),blk_to yD (show k<=m by omega),Q1];rw[q0 oM];refine step k w4 _ oM F (D.trans E) A ⟨b,0,none⟩ m k _ (λj u s=>?_) λw5 R Q=>?_
   ·have T:j<min k (m-k):=by have:=(GG.1 s).1;rwa[gH] at this
    rw[yn];refine A.cell ?_;rw[Gb,gM (by rw[gH];omega)];rw[Po,K3 oM] at s⊢;exact s
   ·simp(disch:=omega) only[push_cast,zj,Q1];exact hC (m-(k+min k (m-k))) _ _ oM ⟨k+min k (m-k),by simp<;>rfl,rfl,oM,oM,R,Q⟩
  ·have:k=m:=oM;subst this;rw[GQ,Pd,gK] at i;exact fin v undef D i
 by_cases X:m=0
 ·subst X;rw[xr0 yD rfl];exact loop 0 w1 q z (gB _) (.inr rfl)
 ·refine step 0 w1 _ oM oM q (by simpa using z) ⟨y,0,none⟩ 1 1 m (λj u s=>?_) λw2 f d=>?_
  ·have T:j<min 1 (m-0):=by have:=(GG.1 s).1;rwa[gH] at this
   have S:j=0:=oM;subst S;rw[Po,K3 oM] at s;rw[yn];exact(Z.ext q).cell s
  ·exact loop _ w2 f (by simpa using d) oM (.inl oM)
theorem offs_spec {m:Nat} (hm:m<=1000) (e:∀w' r,Ext w w'->OwnI ze w' r (M.offsL m)->(∀b,r.ownBlock=some b->w.heap.size<=b)->K r w'):vcall Kc #[nI m] w K:=by
 refine zf {} Tryz.func229 ?_;refine zC yw y3 yc rfl rfl λb w1 j a i c=>?_;have:=a.size;exact Repeat_signal (x:=undef) c hm λw2 r d g f=>e w2 r (a.trans d) g λx h=>by have:=f x h;omega
end
section
variable {w:World} {K:oK} {F F' X:Nat->Prop} {n bc bb:Nat} {gs:M.Gs} {v:Value} {ar ab:Addr} {st:Option M.Gs}
theorem choose_spec {c:Int} {xv yv:Value} {xs ys:List Int} (h:BdR n bb ar ab X F w st) (t:∃gs,st=some gs) (Q:Ints (Off X F) w xv xs) (R:Ints (Off X F) w yv ys) (hl:xs.length=ys.length) (I:xs.length<=1000) (A:SmL xs) (C:SmL ys) (O:Sm c)
  (J:∀w' F' st' r zs,BdR n bb ar ab X F' w' st'->Mv F w F' w'->Ints (Off X F') w' r zs->SmL zs->M.Bd.Out n (M.eachB (M.muxB c) xs ys) st st' zs->K r w'):
  vcall ZM #[oP bb 0,nI c,xv,yv] w K:=by
 refine zf {} Tryz.func232 ?_;obtain⟨gs,rfl⟩:=t;refine yd λb1 w1 L q S d=>?_;replace d:Blk w1 b1 [oP bb 0] yA:=d;refine yd λb2 w2 N f T e=>?_;replace e:Blk w2 b2 [nI c] yq:=e;have a:=d.ext f;have k:=q.trans f;have l:=h.ext k;have g:Ints (Off X F) w2 xv xs:=Q.ext k;have i:Ints (Off X F) w2 yv ys:=R.ext k;obtain⟨bc,G,hC⟩:=l.blk;simp only at G;simp(disch:=exact oS) only[push_cast,a.ld0,g.len,i.len,y0 xn l.err.bits.cell];rw[gk oM];refine KH ?_;simp(disch:=exact oS) only[push_cast,a.ld0,G.ld1,X2];refine each_spec (p:=M.muxB c) l g i oM I A C ?_ λH E j r zs m b v D u=>J H E j r zs m ?_ v.ints D u
 ·intro H E j x y Z m b z B o;have W: ¬F b1:=λs=>by have:=h.lt _ (.inl s);omega
  have Y: ¬F b2:=λs=>by have:=h.lt _ (.inl s);omega
  have U:=a.same b.same W;have V:=e.same b.same Y;refine Zl ?_;unfold qO;simp(disch:=exact oS) only[push_cast,U.ld0,V.ld0];exact bmux_spec m O z B o
 ·exact(Mv.refl.ext k).trans b
theorem Q3 {p:Int->Int->M.Bd Int} {xs ys:List Int} {i:Nat} (a:i<xs.length) (b:i<ys.length):M.eachB p (xs.drop i) (ys.drop i)=(p (xs.getD i 0) (ys.getD i 0)).bind λs=>(M.eachB p (xs.drop (i+1)) (ys.drop (i+1))).map (s:: ·):=by
 rw[yQ a,yQ b];rfl
theorem Ints.low {v:Value} {xs:List Int} (h:Ints (Off X F) w v xs):Ints (λb=> ¬F b/\b<w.heap.size) w v xs:=Ints.weaken h λ_ a c=>⟨a.1,c⟩
theorem Ints.lowMv {v:Value} {xs:List Int} {B:Nat} {w':World} (h:Ints (λb=> ¬F b/\b<B) w v xs) (hm:Mv F w F' w'):Ints (λb=> ¬F' b/\b<B) w' v xs:=by
 have c:Ints (λb=>(¬F b/\b<B)/\b<w.heap.size) w v xs:=Ints.weaken h λ_ c d=>⟨c,d⟩;have d:=Ints.same c hm.same λb a _=>a.1.1;exact Ints.weaken d λb a _=>⟨hm.off a.1.1 a.2,a.1.2⟩
theorem from_at {up:Bool} {fill:Int} {s:List Int} {b k:Nat} (d:k<s.length):(0<=(k:Int)+(if up then-(b:Int) else b)->(k:Int)+(if up then-(b:Int) else b)<s.length->M.fromL up fill s b k=s.getD ((k:Int)+(if up then-(b:Int) else b)).toNat 0)/\
  ((k:Int)+(if up then-(b:Int) else b)<0->M.fromL up fill s b k=fill)/\((s.length:Int)<=(k:Int)+(if up then-(b:Int) else b)->M.fromL up fill s b k=fill):=by
 unfold M.fromL;cases up
 ·simp only[Ge,if_false];refine⟨λa c=>?_,λh=>oM,λh=>?_⟩
  ·rw[K3 oM,show((k:Int)+b).toNat=k+b by omega]
  ·rw[q0 oM]
 ·simp only[if_true];refine⟨λa c=>?_,λh=>?_,λh=>oM⟩
  ·rw[q0 oM,show((k:Int)+ -b).toNat=k-b by omega]
  ·rw[K3 oM]
theorem fill_set {zs:List Int} {m k:Nat} {s:Int} (a:zs.length=k) (b:k<m):(zs++List.replicate (m-k) 0).set k s=(zs++[s])++List.replicate (m-(k+1)) 0:=by
 rw[G9 _ _ oM,a,GQ,show m-k=(m-(k+1))+1 by omega,Pe,pD,Gj];rfl
theorem JT {m k:Nat} {f:Nat->Int} (a:k<m):((List.range m).map f).getD k 0=f k:=by
 rw[X0,GJ,Pf a];rfl
theorem za0 {up:Bool} {fill:Int} {i:Nat} {ys s:List Int} {j:Nat} (h:ys.length<=j):M.shiftB up fill (ys.drop j) i s= .ret s:=by
 rw[Gk h];rfl
theorem pow_le4 {i:Nat} (h:i<10):2^i<=512/\1<=2^i:=⟨gW oM (show i<=9 by omega),Nat.one_le_two_pow⟩
theorem from_sm {up:Bool} {fill:Int} {s:List Int} {b k:Nat} (a:Sm fill) (hs:SmL s) (c:k<s.length):Sm (M.fromL up fill s b k):=by
 unfold M.fromL
 repeat' split
 all_goals first|exact a|exact hs.get oM
theorem shift_spec {xv yv:Value} {xs ys:List Int} {up:Bool} {fill:Int} (h:BdR n bb ar ab X F w st) (hx:Ints (Off X F) w xv xs) (hy:Ints (Off X F) w yv ys) (h8:xs.length<=1000) (ao:ys.length<=8) (V:SmL xs) (ag:SmL ys) (hf:Sm fill)
  (hK:∀w' F' st' r zs,BdR n bb ar ab X F' w' st'->Mv F w F' w'->Ints (Off X F') w' r zs->SmL zs->M.Bd.Out n (M.shiftB up fill ys 0 xs) st st' zs->K r w'):
  vcall Yq #[oP bb 0,xv,yv,.bool up,nI fill] w K:=by
 refine zf {loops:=[(3,[11,22]),(10,[37])],cuts:=[(28680,[14])]} Tryz.func273 ?_;simp(disch:=exact oS) only[push_cast,hy.len];refine vloop_up ys.length (λi u w'=> ∃H A sv ss,u=[sv,nI i]/\BdR n bb ar ab X H w' A/\Mv F w H w'/\Ints (Off X H) w' sv ss/\SmL ss/\ss.length=xs.length/\
  ∀st2 rs,M.Bd.Out n (M.shiftB up fill (ys.drop i) i ss) A st2 rs->M.Bd.Out n (M.shiftB up fill ys 0 xs) st st2 rs) ⟨F,st,xv,xs,rfl,h,Mv.refl,hx,V,rfl,λ_ _ h=>h⟩ ?_
 rintro i _ g w1 C hi ⟨H,A,sv,ss,rfl,h1,G,S,U,an,I⟩ hC;simp only[push_cast];refine zb (λak=>?_) (λaj=>hK w1 H A sv ss h1 G S U (I A ss (by rw[za0 oM];exact M.Bd.Out.ret _ _)));have N:i<ys.length:=oM
 have a4:=Ints.mv hy G;obtain⟨al,am⟩:=pow_le4 (i:=i) oM;have a3:∀K:oK,ql .shl zV true (nI 1) (nI i) w1 K=K (nI (2^i:Nat)) w1:=λK=>by
  have:=vbin_shlI (w:=w1) (K:=K) (c:=true) (t:=zV) (yk:= .i64) (x:=1) (y:=i) oM (by rw[Pm];omega);rw[Pm] at this;exact this
 simp(disch:=exact oS) only[push_cast,a4.iaddr,a4.load];rw[a3];generalize Y:2^i=b at*;refine zo (λu w'=>w'=w1/\u=[nI (if up then-(b:Int) else b)]) ?_ ?_
 ·intro J hJ;cases up
  ·exact hJ _ _ ⟨rfl,rfl⟩
  ·simp(disch:=omega) only[push_cast,zj,Gc];exact hJ _ _ ⟨rfl,rfl⟩
 rintro _ _ w2 ⟨af,rfl⟩;rw[af];simp(disch:=exact oS) only[push_cast,S.len];refine vmkS_own (z:= nI 0) (bs:=8) yx yH yc rfl oM oM λnv w3 O L a1=>?_;have O:OwnI ze w3 nv (List.replicate ss.length 0):=by unfold OwnI;rw[GO];exact O
 have h3:=h1.ext L;have ae:Ints (λb=> ¬H b/\b<w1.heap.size) w3 sv ss:=(Ints.low S).ext L;have a9:Sm (ys.getD i 0):=ag.get N;have R:NewI X w1 H w3 nv (List.replicate ss.length 0):=NewI.of O a1 h1.lt;have ac:=G.ext L;have ap:=G.same.size;refine vloop_up ss.length (λk u w'=> ∃W B zs,u=[nI k]/\BdR n bb ar ab X W w' B/\Mv F w W w'/\Ints (λb=> ¬W b/\b<w1.heap.size) w' sv ss/\NewI X w1 W w' nv (zs++List.replicate (ss.length-k) 0)/\SmL zs/\zs.length=k/\
  ∀st2 rs,M.Bd.Out n (M.eachB (M.muxB (ys.getD i 0)) (((List.range ss.length).map (M.fromL up fill ss b)).drop k) (ss.drop k)) B st2 rs->M.Bd.Out n (M.eachB (M.muxB (ys.getD i 0)) ((List.range ss.length).map (M.fromL up fill ss b)) ss) A st2 (zs++rs))
  ⟨H,A,[],rfl,h3,ac,ae,by simpa using R,SmL.nil,rfl,λ_ _ h=>h⟩ ?_
 rintro k _ g4 w4 C4 hk ⟨W,B,zs,rfl,h4,Z,v,Q,a5,a6,D⟩ a7;simp only[push_cast];refine zb (λai=>?_) (λah=>?_)
 ·have o:k<ss.length:=oM;have aa:Sm (M.fromL up fill ss b k):=from_sm hf U o;have a0:(zs++List.replicate (ss.length-k) (0:Int)).length=ss.length:=by rw[gg,gH];omega
  have go:∀(C5:oK),(∀l m a s,BdR n bb ar ab X m l a->Mv F w m l->Ints (λb=> ¬m b/\b<w1.heap.size) l sv ss->NewI X w1 m l nv (zs++List.replicate (ss.length-k) 0)->Sm s->M.Bd.Out n (M.muxB (ys.getD i 0) (M.fromL up fill ss b k) (ss.getD k 0)) B a s->C5 (nI s) l)->
    vcall qE #[oP bb 0,nI (ys.getD i 0),nI (M.fromL up fill ss b k),nI (ss.getD k 0)] w4 C5:=λC5 a8=>
   bmux_spec h4 a9 aa (U.get o) λl m a s E f q p=>a8 l m a s E (Z.trans f) (Ints.lowMv v f) (Q.mv f) q p
  have fin:∀l m a s,BdR n bb ar ab X m l a->Mv F w m l->Ints (λb=> ¬m b/\b<w1.heap.size) l sv ss->NewI X w1 m l nv (zs++List.replicate (ss.length-k) 0)->Sm s->M.Bd.Out n (M.muxB (ys.getD i 0) (M.fromL up fill ss b k) (ss.getD k 0)) B a s->
    y1 ze nv (nI k) l λt66 w6=>zI yq t66 (nI s) w6 λ_ w7=>C4 [nI ((k:Int)+1)] w7:=λl m a s E f q e j p=>by
   have ad:=e.own.ints;rw[ad.iaddr yD oM (by rw[a0];omega),gw];refine e.own.st y3 (by rw[a0];exact o) λw6 a2 T aq=>?_;rw[fill_set a6 o] at a2;refine a7 o _ _ ⟨m,a,zs++[s],by simp,E.upd h.err T λb Y=>⟨by have:=(e.off b Y).1;omega,(e.off b Y).2⟩,f.to T λb Y=> .inr (by have:=(e.off b Y).1;omega),Ints.same q T λx hx _ V=>by have:=(e.off x V).1;omega,⟨a2,e.off,e.out⟩,a5.app (SmL.one j),by simp[a6],λst2 rs ho=>?_⟩;have:=D st2 (s::rs) ?_
   ·simpa using this
   rw[Q3 (by simpa using o) o,JT o];exact M.Bd.Out.bind p (M.Bd.Out.map _ ho)
  obtain⟨f1,f2,f3⟩:=from_at (up:=up) (fill:=fill) (s:=ss) (b:=b) o;have hd:(if up then-(b:Int) else b)= -(b:Int)\/(if up then-(b:Int) else b)=b:=(by cases up<;>simp);generalize (if up then-(b:Int) else b)=d at f1 f2 f3 hd;simp(disch:=omega) only[push_cast,zj];refine zb (λh0=>?_) (λh0=>?_)
  ·refine zb (λhl=>?_) (λhl=>?_)
   ·simp(disch:=exact oS) only[push_cast,v.iaddr,v.load];rw[<-f1 oM oM];exact go _ λl m a s E f q e j p=>fin l m a s E f q e j p
   ·simp(disch:=exact oS) only[push_cast,v.iaddr,v.load];rw[<-f3 oM];exact go _ λl m a s E f q e j p=>fin l m a s E f q e j p
  ·simp(disch:=exact oS) only[push_cast,v.iaddr,v.load];rw[<-f2 oM];exact go _ λl m a s E f q e j p=>fin l m a s E f q e j p
 ·rw[show ss.length-k=0 by omega,Pd,gK] at Q;have:=D B [] (by rw[Yh (by simp;omega)];exact M.Bd.Out.ret _ _);rw[gK] at this;simp(disch:=omega) only[push_cast,zj];refine hC N _ _ ⟨W,B,nv,zs,by simp<;>exact⟨rfl,rfl⟩,h4,Z,Q.ints,a5,oM,λst2 rs ho=>I st2 rs ?_⟩;rw[yQ N];unfold M.shiftB;rw[Y];exact M.Bd.Out.bind this ho
end
end Go.Proofs.YtjkkiaacmedfdaaGreatDoor
end
