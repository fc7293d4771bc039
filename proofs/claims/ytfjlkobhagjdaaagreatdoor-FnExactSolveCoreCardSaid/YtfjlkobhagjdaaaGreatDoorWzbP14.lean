import Derived.Test.YtfjlkobhagjdaaaGreatDoorWzbP13
import Derived.Deep.Slices
import Derived.OpenVars
import Derived.MakeChecks
import Derived.Stop.LaidErr
import Derived.Stop.LaidTwo
/- A part of the proof. -/
set_option linter.all false
set_option maxRecDepth 9999
set_option maxHeartbeats 2000000
noncomputable section
namespace Go.Proofs.YtfjlkobhagjdaaaGreatDoor
open Go Go.Vc Go.Proofs
section
variable {w:World} {K:oK} {F F' D G:Nat->Prop} {dv tv iv lv:Value} {ds:List M.Dcl} {ts:List M.Tm} {ins:List Bool} {c:M.Cnf}
theorem l9Folds_spec (E:DclsR F w dv ds) (J:TmsR G w tv ts) (s:M.declOk ds=true) (m:∀t,t∈ts->M.sortM ds t≠ -1) (hs:ts.length<=2000000)
  (B:∀w' lv,Ext w w'->TmsR (λ_=>True) w' lv (ts.map (M.foldT ds))->K lv w'):vcall KL #[dv,tv] w K:=by
 refine ze {loops:=[(3,[5,6])]} Tryz.func84 ?_;refine vbuildS_row (xs:=[]) (us:=[]) (k:=5) xZ qr zq rfl (by simp) dC λb1 w1 D p L o=>?_;have z:LstH (λ_=>False) w1 (.slice (some ⟨b1,0,none⟩) 0 0) []:=⟨[],Blk.ownk (css:=[]) (by rw[qK];exact o) (by simp) rfl dC,rfl,λi hi=>absurd hi (PZ _)⟩;refine vloop_up ts.length (λi u w'=> ∃lv H,u=[lv,nI i]/\Ext w w'/\LstH H w' lv ((ts.take i).map (M.foldT ds))/\∀x,lv.ownBlock=some x->w.heap.size<=x/\¬H x)
  ⟨_,_,rfl,p,z,λx c=>⟨by have e:b1=x:=K3 c;omega,id⟩⟩ ?_
 rintro i _ _ w2 C hi ⟨lv,H,rfl,d,g,hO⟩ A;have l:=(J.weaken (F':=λx=>G x/\x<w.heap.size) λx a b=>⟨a,b⟩).ext d;simp only[push_cast,l.len];refine zb (λa=>?_) (λa=>?_)
 .have f:i<ts.length:=oM;simp(disch:=exact oS) only[push_cast,l.iaddr];refine l.load zc f λx c=>?_;refine l3Fold_spec _ (E.ext d) s c (m _ (M.getD_mem f _)) λN rv j I=>?_;have z2:=d.size;have z3:=j.size;have llt:∀x,lv.ownBlock=some x->x<w2.heap.size:=λx c=>g.lt c;refine LstH.push (g.ext j) (λx c=>⟨(hO x c).2,λe=>?_⟩) I (by rw[y4,gl];omega) λO y v r n=>?_
  .have:=llt x c;have:=(hO x c).1;rcases e with e|e<;>omega
  try simp only[push_cast]
  rw[inc64' oM];rw[show(ts.take i).map (M.foldT ds)++[M.foldT ds (ts.getD i default)]=(ts.take (i+1)).map (M.foldT ds) by rw[<-JB f,gB];rfl] at n;refine A f _ _ ⟨y,_,rfl,Ext.then (d.trans j) v λx c=>(hO x c).1,n,λx c=>?_⟩;rcases r x c with e|e
  .refine⟨(hO x e).1,λh=>?_⟩;have:=llt x e;have:=(hO x e).1;rcases h.1 with h|h
   .exact(hO x e).2 h
   .rcases h with h|h<;>omega
  .exact⟨oM,λh=>by have:=h.2;omega⟩
 .have q:i=ts.length:=oM;subst q;rw[gA] at g;exact B w2 lv d (g.tms.weaken λ_ _ _=>trivial)
theorem spec_BlastEnv_spec (T:Jp ds) (H:DclsR F w dv ds) (hi:Bools F' w iv ins) (d:M.declOk ds=true) (hl:ins.length=M.nIn ds)
  (Y:∀w' r,Ext w w'->OwnI zh w' r (M.envB ds ins)->(∀b,r.ownBlock=some b->w.heap.size<=b)->K r w'):vcall JW #[dv,iv] w K:=by
 refine ze {loops:=[(6,[5,6,7]),(10,[6,8,9])],cuts:=[(12292,[])]} Tryz.func109 ?_;obtain⟨a2,a3⟩:=M.nIn_eq d;refine spec_nil λv1 w1 R g A=>?_;refine zo (λu w'=>u=[]/\Ext w1 w') (λC E=>?_) ?_
 .refine spec_DeclOk_spec (H.ext g) T λw2 f=>?_;rw[d];simp only[push_cast,Gn,((hi.ext g).ext f).len];refine sbits8_spec (k:=ds.length) d (gz _) (by rw[gA];exact(H.ext g).ext f) λW J=>?_;rw[M.bitT_all];refine oZ ?_;refine zb (λh=>absurd oM h) (λ_=>E _ _ ⟨rfl,f.trans J⟩)
 rintro _ _ w2 ⟨rfl,f⟩;have h4:=(M.decl_iff.1 d).1;have I:=M.dpos d;have L:=M.envB_len ds ins;refine vloop_up ds.length (λi u w'=> ∃r,u=[r,nI (J0 ds i),nI i]/\Ext w w'/\OwnI zh w' r ((M.envB ds ins).take i)/\∀b,r.ownBlock=some b->w.heap.size<=b) ⟨v1,rfl,g.trans f,R.ext f,A⟩ ?_;rintro i _ _ W C a0 ⟨r,rfl,s,p,o⟩ E;have n:=H.ext s;have y:=hi.ext s;simp only[push_cast,n.len];refine zb (λa=>?_) (λa=>?_)
 .have l:i<ds.length:=oM;have U:=M.dcl_wide d l;have q:=off_succ d l;have X:=off_le d (i:=i+1) oM;have het:=envB_take (ins:=ins) I l;obtain⟨wd,m⟩:∃wd:Nat,(ds.getD i (M.nada,0)).2=wd:=⟨_,(Int.toNat_of_nonneg oM).symm⟩;rw[m] at U q het;rw[gq] at q het;generalize v:(ins.drop (J0 ds i)).take wd=bs at het;have t:bs.length=wd:=by rw[<-v,gl,GX,hl];omega
  refine vloop_up wd (λj u w'=>u=[nI (J0 ds i+j:Nat),nI (M.msbN (bs.take j)),nI j]/\w'=W) ⟨rfl,rfl⟩ ?_;rintro j _ _ _ C1 hj ⟨rfl,rfl⟩ G;have a1:=M.msb_lt (bs.take j);have a4:2^(bs.take j).length<=2^4:=Gh oM (by rw[gl];omega);simp(disch:=exact oS) only[push_cast,n.iaddr,gq,n.load1,m];refine zb (λc=>?_) (λc=>?_)
  .have z:j<wd:=oM;have hg:ins.getD (J0 ds i+j) false=bs.getD j false:=by
    rw[<-v,M.take_getD z,y2,y2,pd]
   simp(disch:=exact oS) only[push_cast,y.iaddr,gq,y.load,zk];refine Xa ?_;have Z:0<=M.b2i (bs.getD j false)/\M.b2i (bs.getD j false)<=1:=by unfold M.b2i;split<;>omega
   have D:=msb_snoc (bs.take j) (bs.getD j false);rw[<-M.take_add (by omega:j<bs.length) false] at D;rw[show((J0 ds i:Int)+(j:Int)).toNat=J0 ds i+j by omega,hg];simp(disch:=exact oS) only[push_cast,zk];refine G z _ _ ⟨?_,rfl⟩;rw[D,Int.mul_comm 2];simp[Int.add_assoc]
  .have O:j=wd:=oM;subst O;rw[<-t,gA,t];refine push_int p (by rw[gl];omega) λw6 r6 S B Q=>?_;rw[<-het,<-M.take_add oM 0] at B;have z3:=s.size;rw[inc64' oM];refine E l _ _ ⟨r6,by rw[q,Int.natCast_add (J0 ds i)],Ext.then s S λx V=>o x V,B,λx V=>?_⟩;rcases Q x V with e|e
   .exact o x e
   .omega
 .have N:i=ds.length:=oM;subst N;rw[<-L,gA] at p;exact Y W r s p o
theorem ZB0 {put:List Int} {i n:Nat} (h:i<n):decide (M.sgnV put (2+i)=1)=(M.insV (M.wayM put) n).getD i false:=by
 rw[M.insV_get h];unfold M.sgnV M.wayM;rw[Nat.add_comm 2 i];by_cases c:((i+2:Nat):Int)∈put
 .rw[y3 c,gi c];rfl
 .rw[y0 c,gg c];split<;>rfl
theorem l9Search_spec (aa:Jp ds) (hd:DclsR F w dv ds) (I:M.declOk ds=true) (hc:CnfR G w (.agg #[nI c.many,lv]) c) (f:M.cnfOk c=true) (hn:1+M.nIn ds<=c.many.toNat)
  (hK:∀w' ev,Ext w w'->OwnI zh w' ev (M.searchM 4000 ds c).1->(∀x,ev.ownBlock=some x->w.heap.size<=x)->K (.tuple #[ev,nI (M.searchM 4000 ds c).2]) w'):
  vcall JQ #[dv,.agg #[nI c.many,lv]] w K:=by
 refine ze {loops:=[(7,[8,9])]} Tryz.func85 ?_;obtain⟨ah,ai⟩:=M.nIn_eq I;obtain⟨many,hm⟩:∃many:Nat,c.many=many:=⟨c.many.toNat,oM⟩;have a4:c.many.toNat=many:=oM
 have B:many<=700:=by
  have:=f;unfold M.cnfOk at this;simp only[gk,X0] at this;omega
 refine yo λb1 w1 ac z al a0=>?_;have A1:Blk w1 b1 [nI c.many,lv] zp:=a0;rw[A1.ldAgg zD];refine l5Run_spec (many:=many) (n:=4000) (hc.ext z) f hm (gz _) λw2 v2 A v=>?_;have z1:=z.size;have z2:=A.size;have T:=(M.run_ok (n:=4000) hm (M.empty_ok (many:=many) f)).mks;refine xP qS λb4 w3 ad a5 am a1=>?_;have d:M.searchM 4000 ds c=if(M.runM many c 4000 M.emptyS).code=1 then(M.envB ds (M.insV (M.wayM (M.runM many c 4000 M.emptyS).put) (M.nIn ds)),1) else if(M.runM many c 4000 M.emptyS).code=2 then([],2) else([],3):=by rw[<-a4];rfl
 generalize M.searchM 4000 ds c=sr at d hK;generalize M.runM many c 4000 M.emptyS=s at v d T;obtain⟨p,y,l,rfl,h8⟩:=v.sat.fields;obtain⟨p',y',l',e',hp,_,aj,_,_⟩:=v;obtain⟨rfl,rfl,rfl⟩:p=p'/\y=y'/\l=l':=by simpa using e'
 have R3:Blk w3 b4 [.slice none 0 0,.slice none 0 0,.slice none 0 0,nI 0] zt:=a1;refine R3.stAgg (cs':=[p,y,l,nI s.code]) rfl zP h8 λw4 a9 an Q=>?_;have q:Ext w2 w4:=Ext.then a5 a9 λx J=>oM
 have N:=(z.trans A).trans q;have A4:=A1.ext (A.trans q);simp only[push_cast,Q.ld3];refine zb (λa=>?_) (λa=>?_)
 .rw[y3 a] at d;subst d;rw[A4.ldAgg zD];simp only[push_cast,Q.ld0];refine l5Vals_spec (hc.ext N) hm B (hp.ext q).ints T λL v5 g ab o=>?_;have Z:=N.trans g;have z5:=Z.size;refine yj qs0 qc0 λb6 w6 ae a6 ao a3=>?_;have a8:OwnB qu w6 (.slice (some ⟨b6,0,none⟩) 0 0) []:=Blk.own1 (t:=qu) (cs:=[]) (by rw[UH];exact a3) (gS _) rfl rfl oM;refine vloop_up (M.nIn ds) (λi u w'=> ∃r,u=[r,nI i]/\Ext L w'/\OwnB qu w' r ((M.insV (M.wayM s.put) (M.nIn ds)).take i)/\∀b,r.ownBlock=some b->L.heap.size<=b) ⟨_,rfl,a6,a8,λb R=>by have e:b6=b:=K3 R;omega⟩ ?_;rintro i _ _ w7 C hi ⟨r,rfl,e7,E,V⟩ hC;refine sbits8_spec (k:=ds.length) I (gz _) (by rw[gA];exact hd.ext (Z.trans e7)) λw8 m=>?_;rw[M.bitT_all];refine oZ ?_;have O:=e7.trans m;have hlen:=M.insV_len (M.wayM s.put) (M.nIn ds);refine zb (λa=>?_) (λa=>?_)
  .have S:i<M.nIn ds:=oM;have Y:=(ab.ext O).ints;have ak:=M.signs_len many s.put;simp(disch:=exact oS) only[push_cast,zk,Y.iaddr,Y.load];rw[show((2:Int)+(i:Int)).toNat=2+i by omega,M.signs_get oM,ZB0 S];refine one_bool λw9 b9 af j H=>?_;refine OwnV.app (us:=[.bool ((M.insV (M.wayM s.put) (M.nIn ds)).getD i false)]) ((E.ext m).ext j) qW0 H.bools (by simp[Value.oneCell']) (by simp only[y4,gZ,gl];omega) (by simp only[y4,gZ,gl];omega) λv10 w10 W X U=>?_;have z8:=m.size;have z9:=j.size;have z7:=e7.size;refine hC S _ _ ⟨v10,rfl,Ext.then (O.trans j) X λb R=>V b R,?_,λb R=>?_⟩
   .rw[M.take_add oM false];unfold OwnB;rw[gB];exact W
   .rcases U b R with h|h
    .exact V b h
    .omega
  .have ag:i=M.nIn ds:=oM;rw[gC oM] at E;refine spec_BlastEnv_spec aa (hd.ext (Z.trans O)) (E.ext m).bools I hlen λw9 r9 j H a7=>?_;have z8:=O.size;exact hK w9 r9 (Z.trans (O.trans j)) H λx J=>by have:=a7 x J;omega
 .rw[y0 a] at d;have z4:=N.size;refine zb (λa2=>?_) (λa2=>?_)
  .rw[y3 a2] at d;subst d;exact spec_nil λv5 L D g o=>hK L v5 (N.trans g) D λx J=>by have:=o x J;omega
  .rw[y0 a2] at d;subst d;exact spec_nil λv5 L D g o=>hK L v5 (N.trans g) D λx J=>by have:=o x J;omega
theorem l9Solve_spec (u:Jp ds) (c:KH ds ts=true) (j:DclsR F w dv ds) (v:TmsR G w tv ts)
  (f:∀w' ev,Ext w w'->OwnI zh w' ev (xL ds ts []).1->(∀x,ev.ownBlock=some x->w.heap.size<=x)->K (.tuple #[ev,nI (xL ds ts []).2]) w'):vcall KK #[dv,tv] w K:=by
 refine ze {} Tryz.func55 ?_;obtain⟨L,a2,a3⟩:=all8_iff.1 c;refine l9Folds_spec j v a2 (λt v=>by rw[(JF (a3 t v)).1];decide) oM λw1 lv a o=>?_;refine l8Cnf_spec (Q1 c) (j.ext a) o λw2 cv ls k g=>?_;have B:=a.trans k;refine oZ ?_;refine cnf_new g λN b4 D l d i=>?_;have b:=B.trans l;have z4:=b.size;refine zn (λh=>?_) (λh=>?_)
 .have E:=JD (nots:=[]) c (by simpa using h);refine spec_nil λv5 I r m p=>?_;have:=f I v5 (b.trans m);rw[E] at this;exact this r λx y=>by have:=p x y;omega
 .have C:(cnfE ds (ts.map (M.foldT ds))).2=0:=(by simpa using h);obtain⟨z,A,H⟩:=solveR_run (nots:=[]) c C (λe he=>by cases he) (by simp);rw[x80] at z A;rw[d.ldAgg zD];refine l9Search_spec u (j.ext b) a2 i.cnf A H λJ ev n s q=>?_;refine oZ ?_;rw[z] at f;exact f J ev (b.trans n) s λx y=>by have:=q x y;omega
theorem spec_Solve_spec (b:Jp ds) (l:DclsR F w dv ds) (m:TmsR G w tv ts)
  (k:∀w' ev,Ext w w'->OwnI zh w' ev (xL ds ts []).1->(∀x,ev.ownBlock=some x->w.heap.size<=x)->K (.tuple #[ev,nI (xL ds ts []).2]) w'):vcall zI0 #[dv,tv] w K:=by
 refine ze {} Tryz.func34 ?_;refine l8All_spec b l m λw1 a=>?_;refine oZ ?_;have q:=a.size;refine zn (λh=>?_) (λh=>?_)
 .have n:=Qe (ds:=ds) (ts:=ts) (nots:=[]) (by simpa using h);refine spec_nil λv5 o g c e=>?_;have:=k o v5 (a.trans c);rw[n] at this;exact this g λx j=>by have:=e x j;omega
 .refine l9Solve_spec b (by simpa using h) (l.ext a) (m.ext a) λp ev d i f=>?_;refine oZ ?_;exact k p ev (a.trans d) i λx j=>by have:=f x j;omega
theorem W6 {at_ an am ar ab:Addr} (e:DclsR F w dv ds) (f:TmsR G w tv ts) (hs:ts.length<=2000000) (er:Er w at_ an am ar ab)
  (d:∀w' ev,Ext w w'->OwnI zh w' ev (xL ds ts []).1->(∀x,ev.ownBlock=some x->w.heap.size<=x)->K (.tuple #[ev,nI (xL ds ts []).2]) w'):vcall zO0 #[dv,tv] w K:=by
 refine ze {} Tryz.func29 ?_;refine solved_spec e f hs er λg ev a c b=>?_;refine oZ ?_;exact d g ev a c b
end
section
variable {ds:List M.Dcl} {ts:List M.Tm}
theorem YN (h:(xL ds ts []).2≠4):KH ds ts=true:=Gw λc=>h (by rw[Qe c])
end
section
variable {ds:List M.Dcl} {ts:List M.Tm} {u:M.Tm} {e:List Int} {n k:Nat}
def Xu (ts:List M.Tm) (l:List Nat):List M.Tm:=l.map λi=>ts.getD i default
def coreA (ds:List M.Dcl) (ts:List M.Tm):Nat->List Nat
 |0=>[]
 |k+1=>if(xL ds (Xu ts (coreA ds ts k++List.range' (k+1) (ts.length-(k+1)))) []).2=2 then coreA ds ts k else coreA ds ts k++[k]
def VG (ds:List M.Dcl) (ts:List M.Tm):List Int×Int:=if(xL ds ts []).2=2 then((coreA ds ts ts.length).map Int.ofNat,2) else([],(xL ds ts []).2)
theorem coreA_lt:∀{k x:Nat},x∈coreA ds ts k->x<k
 |0,x,h=>by cases h
 |k+1,x,h=>by
  unfold coreA at h;split at h
  .have:=coreA_lt h;omega
  .rcases gn.1 h with h|h
   .have:=coreA_lt h;omega
   .have:=gu.1 h;omega
theorem core_all8 {l:List Nat} (h:KH ds ts=true) (d:∀x,x∈l->x<ts.length) (e:l.length<=ts.length):KH ds (Xu ts l)=true:=by
 obtain⟨a,b,c⟩:=all8_iff.1 h;refine all8_iff.2 ⟨by unfold Xu;rw[y4];omega,b,λu hu=>?_⟩;obtain⟨i,hi,rfl⟩:=gx.1 hu;exact c _ (M.getD_mem (d i hi) default)
theorem coreA_len (ds:List M.Dcl) (ts:List M.Tm):∀k:Nat,(coreA ds ts k).length<=k
 |0=>gz _
 |k+1=>by
  have:=coreA_len ds ts k;unfold coreA;split
  .omega
  .rw[gd];simp;omega
theorem range_cons (a:k<n):List.range' k (n-k)=k::List.range' (k+1) (n-(k+1)):=by
 rw[show n-k=(n-(k+1))+1 by omega,List.range'_succ]
theorem core_less {k:Nat} (b:k<ts.length):(coreA ds ts k++List.range' k (ts.length-k)).filter (λx=>decide (x≠k))=coreA ds ts k++List.range' (k+1) (ts.length-(k+1)):=by
 rw[range_cons b,pG,Pq];rw[pY.2 λx a=>by have:=coreA_lt a;exact gi oM];rw[y0 (by simp),pY.2 λx a=>by rw[Pf] at a;exact gi oM]
theorem xO0:coreA ds ts (k+1)=if(xL ds (Xu ts (coreA ds ts k++List.range' (k+1) (ts.length-(k+1)))) []).2=2 then coreA ds ts k else coreA ds ts k++[k]:=rfl
end
section
variable {w:World} {K:oK} {uv v:Value} {ds:List M.Dcl} {ts:List M.Tm} {t:M.Tm}
instance (ds:List M.Dcl) (e:List Int) (ts:List M.Tm):Decidable (M.allT ds e ts):=by unfold M.allT;infer_instance
theorem push_old {n ty:Nat} {us:List M.Tm} (h:LstH (λx=>x<n) w v us) (b:∀x,v.ownBlock=some x->n<=x) (i:TermR (λx=>x<n) w uv t) (j:n<=w.heap.size) (d:us.length<=2000000)
  (g:∀w' v',Same (λx=>n<=x) w w'->LstH (λx=>x<n) w' v' (us++[t])->(∀x,v'.ownBlock=some x->n<=x)->K v' w'):
  vbuildS zl 1 [(0,uv)] w λs w1=>vbi .append [zl,zl] ty [v,s] w1 K:=
 LstH.push h (λx a=>⟨λe=>by have:=b x a;omega,λe=>by have:=b x a;omega⟩) i d λw' v' hw c f=>g w' v' (hw.mono λx _ a=>b x a) (f.weaken λx a _=>a.1.elim id id) λx a=>by
  rcases c x a with e|e
  .exact b x e
  .omega
end
end Go.Proofs.YtfjlkobhagjdaaaGreatDoor
namespace Go.Vc
open Go
section
section
variable {w:World} {v:Value} {K:oK} {t ty:TypeId}
theorem qb0 {z:Value} (h:z.cells= #[z]) (n:Nat):(Builtin.zeroCells z.cells n).toList=List.replicate n z:=by
 unfold Builtin.zeroCells;rw[h];refine gK (by simp) λi a b=>?_;simp[P3]
theorem OwnV.clear {vs:List Value} {z:Value} (h:OwnV t w v vs) (N:elB t 1=true) (R:yi (P.elem t) z) (F:z.cells= #[z]) (E:z.oneCell'=true) {kd:IntKind} {i:Nat} (hi:i<=vs.length)
  (r:∀w',OwnV t w' (cutV v i) (vs.take i)->Same (λb=>v.ownBlock=some b) w w'->w'.heap.size=w.heap.size->K (.tuple #[]) w'):
  xd t v (some (.int kd i)) none none w λs w1=>vbi .clear [t] ty [s] w1 K:=by
 obtain⟨hu,hs⟩:=ZV N;have H:∀{o:Option Addr} {n c:Nat} (p:oK),i<=n->n<=c->xd t (.slice o n c) (some (.int kd i)) none none w p=p (sliced o i n c 1) w:=λ{o n c} p S T=>y6 (by
  rw[run_sliceAt_slice w t _ _ _ _ hu,run_slice_l w t _ _ _ hu kd i oM (by simp;omega),Go.Vc.run_sizeOf hs];simp[Result.andThen])
 have O:=λw' (h:OwnV t w' v vs)=>OwnV.taken h hi;rcases h.row.2 with⟨rfl,M⟩|⟨g,cap,cur,rfl,A,I,f,B,C,a⟩
 .rw[y4] at M;rw[H _ oM oM];refine⟨_,w,?_,r w (OwnV.taken h hi) (Same.refl _ _) rfl⟩;simp[biSem,Builtin.clear_,run_underlying hu,sliced]
 .rw[y4] at f;have hlen:(vs.map λx=>[x]).length=vs.length:=y4 _;rw[hlen];rw[H _ hi f];by_cases c:i=vs.length
  .subst c;refine⟨_,w,?_,r w ?_ (Same.refl _ _) rfl⟩
   .by_cases q:cap=vs.length<;>simp[biSem,Builtin.clear_,run_underlying hu,sliced,q]
   .have:=OwnV.taken h (gz _);rwa[hlen] at this
  .obtain⟨m,hm⟩:∃m,vs.length-i=m+1:=⟨vs.length-i-1,oM⟩;have J:cur.size=cap:=(by simpa using C);have l:=run_storeCells_at (P:=P) g i (Zo t) (List.replicate (m+1) z) 0 cur w I (by simp;omega) (λu hu=>by rw[GN hu];exact E);have D:sliced (some ⟨g,0,none⟩) i vs.length cap 1= .slice (some ⟨g,i,none⟩) (m+1) (cap-i):=by
    unfold sliced;rw[hm];simp only[PV];rw[y0 oM];simp[yq]
   rw[D];refine⟨_,_,?_,r (w.setRow g (cur.toList.take (i+0)++List.replicate (m+1) z++cur.toList.drop (i+0+(List.replicate (m+1) z).length)).toArray) ?_ ⟨rfl,rfl,rfl,by simp[World.setRow],λk _ L=>setRow_other w g k _ λe=>L (by rw[e];rfl)⟩ (by simp[World.setRow])⟩
   .have G:=qb0 F (m+1);simp[biSem,Builtin.clear_,run_underlying hu,kY R,G,l,Result.andThen]
   .have j:OwnV t (w.setRow g (cur.toList.take (i+0)++List.replicate (m+1) z++cur.toList.drop (i+0+(List.replicate (m+1) z).length)).toArray) (.slice (some ⟨g,0,none⟩) vs.length cap) (vs.take i++List.replicate (m+1) z):=by
     have d:(vs.take i++List.replicate (m+1) z).length=vs.length:=by simp;omega
     rw[flat1] at a;rw[y4] at a;refine⟨⟨by rw[flat1,y4,pA],.inr ⟨g,cap,_,by rw[y4,d],A,setRow_heap w g cur _ _ _ I,by rw[y4,d];exact f,B,?_,?_⟩⟩,λy Q=>by obtain⟨u,_,rfl⟩:=gx.1 Q;rfl⟩
     .simp;omega
     .rw[flat1,y4,d];simp only[pA] at a⊢;rw[<-a];simp[G1];rw[Gz oM,Gz hi,<-gY];exact List.take_left' (by simp;omega)
    have:=OwnV.taken j (n:=i) (by simp;omega);rw[pB (by simp;omega),G1,Nat.min_self] at this;exact this
end
end
end Go.Vc
namespace Go.Proofs.YtfjlkobhagjdaaaGreatDoor
open Go Go.Vc Go.Proofs
section
variable {w w':World} {K:oK} {F F' D G H:Nat->Prop} {n b k:Nat} {v lv tv f:Value} {xs:List Int} {l:List Nat} {ts:List M.Tm} {ds:List M.Dcl}
theorem Xe {p:Int->Bool} {i:Nat} (h:i<xs.length):(xs.take (i+1)).filter p=(xs.take i).filter p++if p (xs.getD i 0) then[xs.getD i 0] else[]:=by
 rw[M.take_add h 0,pG];congr 1;cases a:p (xs.getD i 0)
 .rw[List.filter_cons_of_neg (by rw[a];decide),y0 dC];rfl
 .rw[List.filter_cons_of_pos a,y3 rfl];rfl
theorem ints_but {k:Nat}:((l.map Int.ofNat).filter λx=>decide (x≠(k:Int)))=(l.filter λx=>decide (x≠k)).map Int.ofNat:=by
 rw[List.filter_map];congr 1;refine List.filter_congr λx _=>?_;simp only[Function.comp,Int.ofNat_eq_natCast,decide_eq_decide];omega
theorem z90 {i:Nat} (h:i<l.length):Xu ts (l.take (i+1))=Xu ts (l.take i)++[ts.getD (l.getD i 0) default]:=by
 unfold Xu;rw[M.take_add h 0,gB];rfl
theorem l9But_spec {k:Int} (B:Ints F w lv xs) (hs:xs.length<=100000) (A:∀w' r,Ext w w'->OwnI zh w' r (xs.filter λx=>decide (x≠k))->(∀x,r.ownBlock=some x->w.heap.size<=x)->K r w'):vcall zc0 #[lv,nI k] w K:=by
 refine ze {loops:=[(3,[5,6])]} Tryz.func54 ?_;refine spec_nil λv1 w1 s m o=>?_;refine vloop_up xs.length (λi u w'=> ∃r,u=[r,nI i]/\Ext w w'/\OwnI zh w' r ((xs.take i).filter λx=>decide (x≠k))/\∀x,r.ownBlock=some x->w.heap.size<=x) ⟨v1,rfl,m,by simpa using s,o⟩ ?_;rintro i _ _ E C hi ⟨r,rfl,j,f,d⟩ z;have h:=B.ext j;simp only[push_cast,h.len];refine zb (λa=>?_) (λa=>?_)
 .have g:i<xs.length:=oM;have z3:=j.size;have b:=Xe (p:=λx=>decide (x≠k)) g;simp(disch:=exact oS) only[push_cast,h.iaddr,gq,h.load];refine zb (λc=>?_) (λc=>?_)
  .rw[y3 (gi c)] at b;refine push_int f (by have:=List.length_filter_le (λx=>decide (x≠k)) (xs.take i);rw[gl] at this;omega) λG D t l q=>?_
   try simp only[push_cast]
   rw[inc64' oM];rw[<-b] at l;refine z g _ _ ⟨D,rfl,Ext.then j t λy v=>d y v,l,λy v=>?_⟩;rcases q y v with e|e
   .exact d y e
   .omega
  .rw[y0 (by simpa using c),gD] at b;rw[inc64' oM];exact z g _ _ ⟨r,rfl,j,by rw[b];exact f,d⟩
 .have n:i=xs.length:=oM;subst n;rw[gA] at f;exact A E r j f d
theorem l9Pick_spec (D:TmsR G w tv ts) (j:Ints F w lv (l.map Int.ofNat)) (B:∀x,x∈l->x<ts.length) (hs:l.length<=100000) (L:ts.length<=2000000) (v:∀w' r,Ext w w'->TmsR (λ_=>True) w' r (Xu ts l)->K r w'):vcall Wm #[tv,lv] w K:=by
 refine ze {loops:=[(3,[5,6])]} Tryz.func56 ?_;refine yj xZ qr λb1 I z m E k=>?_;have s:LstH (λx=>x<w.heap.size) I (.slice (some ⟨b1,0,none⟩) 0 0) []:=⟨[],Blk.ownk (css:=[]) (by rw[qK];exact k) (by simp) rfl dC,rfl,λi hi=>absurd hi (PZ _)⟩;have p:=D.weaken (F':=λx=>x<w.heap.size) λx _ h=>h;refine vloop_up l.length (λi u w'=> ∃r,u=[r,nI i]/\Ext w w'/\LstH (λx=>x<w.heap.size) w' r (Xu ts (l.take i))/\∀x,r.ownBlock=some x->w.heap.size<=x)
  ⟨_,rfl,m,s,λx j=>by have e:b1=x:=K3 j;omega⟩ ?_
 rintro i _ _ J C hi ⟨r,rfl,b,d,hO⟩ t;have g:=p.ext b;have f:=j.ext b;have Q:=b.size;simp only[push_cast,f.len,y4];refine zb (λa=>?_) (λa=>?_)
 .have c:i<l.length:=oM;have hm:=B _ (M.getD_mem c 0);have A:(l.map Int.ofNat).getD i 0=((l.getD i 0:Nat):Int):=by
   rw[y2,Gi,y2,V0 c];rfl
  simp(disch:=first|(simp only[push_cast])|(simp only[y4];omega)|omega) only[push_cast,f.iaddr,gq,f.load,A,g.iaddr];refine g.load zc hm λx j=>?_;refine push_old d hO (j.weaken λy N _=>oM) oM (by unfold Xu;rw[y4,gl];omega) λO H q n o=>?_
  try simp only[push_cast]
  rw[inc64' oM];refine t c _ _ ⟨H,rfl,Ext.then b q λ_ h=>h,?_,o⟩;rw[z90 c];exact n
 .rw[gC oM] at d;exact v J r b (d.tms.weaken λ_ _ _=>trivial)
def Vi (ds:List M.Dcl) (ts:List M.Tm) (i:Nat):List Nat:=coreA ds ts i++List.range' i (ts.length-i)
def Je (ds:List M.Dcl) (ts:List M.Tm) (i:Nat):List Nat:=coreA ds ts i++List.range' (i+1) (ts.length-(i+1))
theorem zW0 {i:Nat} (hi:i<ts.length):(Vi ds ts i).filter (λx=>decide (x≠i))=Je ds ts i:=core_less hi
theorem x50:Vi ds ts ts.length=coreA ds ts ts.length:=by unfold Vi;simp
theorem zV0 {i:Nat} (hi:i<ts.length):Vi ds ts (i+1)=if(xL ds (Xu ts (Je ds ts i)) []).2=2 then Je ds ts i else Vi ds ts i:=by
 unfold Vi Je;rw[xO0];split
 .rfl
 .rw[range_cons hi,gY];rfl
theorem less_lt {i x:Nat} (hi:i<ts.length) (h:x∈Je ds ts i):x<ts.length:=by
 rcases gn.1 h with h|h
 .have:=coreA_lt h;omega
 .rw[Pf] at h;omega
theorem kept_len {i:Nat} (hi:i<=ts.length):(Vi ds ts i).length<=ts.length:=by
 have:=coreA_len ds ts i;unfold Vi;rw[gd,p5];omega
theorem less_len {i:Nat} (hi:i<ts.length):(Je ds ts i).length<=ts.length:=by
 have:=coreA_len ds ts i;unfold Je;rw[gd,p5];omega
theorem VX {i:Nat}:(List.range' 0 i).map Int.ofNat++[(i:Int)]=(List.range' 0 (i+1)).map Int.ofNat:=by
 rw[List.range'_1_concat,gB];simp
end
section
variable {w w':World} {K:oK} {F F' D G H S:Nat->Prop} {n b k:Nat} {v lv tv dv f:Value} {xs:List Int} {l:List Nat} {ts:List M.Tm} {ds:List M.Dcl} {ar ab at_ an am:Addr}
theorem spec_SolveCore_spec (Z:Jp ds) (Y:DclsR F w dv ds) (J:TmsR G w tv ts)
  (X:∀w' ev,Ext w w'->OwnI zh w' ev (VG ds ts).1->(∀x,ev.ownBlock=some x->w.heap.size<=x)->K (.tuple #[ev,nI (VG ds ts).2]) w'):vcall J4 #[dv,tv] w K:=by
 refine ze {loops:=[(6,[8,9]),(10,[8,10])]} Tryz.func21 ?_;refine spec_Solve_spec Z Y J λw1 ev g _ _=>?_;have z1:=g.size;refine oZ ?_;refine zb (λc=>?_) (λc=>?_)
 .refine spec_nil λv2 w2 o h m=>?_;have:=X w2 v2 (g.trans h);unfold VG at this;rw[y0 c] at this;exact this o λx f=>by have:=m x f;omega
 .have c2:(xL ds ts []).2=2:=GL.1 c;have W:=YN (ds:=ds) (ts:=ts) oM;have a2:=(all8_iff.1 W).1;refine spec_nil λv2 w2 o h m=>?_;have e2:=g.trans h;refine vloop_up ts.length (λi u w'=> ∃r,u=[r,nI i]/\Ext w w'/\OwnI zh w' r ((List.range' 0 i).map Int.ofNat)/\∀x,r.ownBlock=some x->w.heap.size<=x) ⟨v2,rfl,e2,o,λx f=>by have:=m x f;omega⟩ ?_;rintro i _ _ w3 C hi ⟨r,rfl,D,A,n⟩ H;have S:=J.ext D;have z3:=D.size;simp only[push_cast,S.len];refine zb (λa=>?_) (λa=>?_)
  .have b:i<ts.length:=oM;refine push_int A (by rw[y4,p5];omega) λw6 r6 R B O=>?_
   try simp only[push_cast]
   rw[inc64' oM];rw[VX] at B;refine H b _ _ ⟨r6,rfl,Ext.then D R λy U=>n y U,B,λy U=>?_⟩;rcases O y U with e|e
   .exact n y e
   .omega
  .have l:i=ts.length:=oM;subst l;refine vloop_up ts.length (λi u w'=> ∃r,u=[r,nI i]/\Ext w w'/\OwnI zh w' r ((Vi ds ts i).map Int.ofNat)/\∀x,r.ownBlock=some x->w.heap.size<=x) ⟨r,rfl,D,A,n⟩ ?_;rintro i _ _ w4 C hi ⟨r4,rfl,E,d,z⟩ H;have T:=J.ext E;have z4:=E.size;simp only[push_cast,T.len];refine zb (λa=>?_) (λa=>?_)
   .have b:i<ts.length:=oM;have a1:=kept_len (ds:=ds) (ts:=ts) (i:=i) oM;refine l9But_spec (k:=i) d.ints (by rw[y4];omega) λw5 r5 t p N=>?_;rw[ints_but,zW0 b] at p;have V:=E.trans t;have M:=less_len (ds:=ds) (ts:=ts) b;refine l9Pick_spec (J.ext V) p.ints (λx f=>less_lt b f) oM oM λw6 r6 v Q=>?_;have L:=V.trans v;refine l9Solve_spec Z (core_all8 W (λx f=>less_lt b f) M) (Y.ext L) Q λw7 a0 j _ _=>?_;have s:=v.trans j;refine oZ ?_;have I:=zV0 (ds:=ds) (ts:=ts) b;refine zb (λq=>?_) (λq=>?_)
    .rw[y3 q] at I;rw[inc64' oM];refine H b _ _ ⟨r5,rfl,L.trans j,by rw[I];exact p.ext s,λx f=>by have:=N x f;omega⟩
    .rw[y0 q] at I;rw[inc64' oM];exact H b _ _ ⟨r4,rfl,L.trans j,by rw[I];exact d.ext (t.trans s),z⟩
   .have l:i=ts.length:=oM;subst l;rw[x50] at d;have:=X w4 r4 E;unfold VG at this;rw[y3 c2] at this;exact this d z
theorem xC0 {n:Nat} {p:Nat->Bool}:(idxI n p= -1/\∀j,j<n->p j=false)\/ ∃i,idxI n p=((i:Nat):Int)/\i<n/\p i=true/\∀j,j<i->p j=false:=by
 unfold idxI;cases h:(List.range n).find? p with
 |none=>
  rw[pE] at h;exact .inl ⟨rfl,λj a=>by have:=h j (gJ.2 a);simpa using this⟩
 |some i=>
  rw[List.find?_range_eq_some] at h;obtain⟨b,c,d⟩:=h;exact .inr ⟨i,rfl,gJ.1 c,b,λj a=>by have:=d j a;simpa using this⟩
theorem DeleteFunc_Lint {p:Int->Bool} (h:OwnI zh w v xs) (hs:xs.length<=100000) (U:∀w',Same (λx=>v.ownBlock=some x) w w'->∀y,FnB w' f #[nI y] (p y))
  (T:∀w' v',OwnI zh w' v' (xs.filter λx=> !p x)->Same (λx=>v.ownBlock=some x) w w'->v'.ownBlock=v.ownBlock->K v' w'):vcall jF #[v,f] w K:=by
 refine ze {loops:=[(5,[5,6])]} Tryz.func57 ?_;have Y:∀i,i<(xs.map λx=>nI x).length->(xs.map λx=>nI x).getD i undef= nI (xs.getD i 0):=λi hi=>by
  rw[y4] at hi;rw[y2,Gi,V0 hi,y2,V0 hi];rfl
 refine IndexFunc_Lint_int (vs:=xs.map λx=> nI x) (p:=λi=>p (xs.getD i 0)) h.ints (λi hi=>by rw[Y i hi];exact U w (Same.refl _ _) _) λw1 B=>?_;rw[y4];have E:Same (λx=>v.ownBlock=some x) w w1:=Same.of_ext B;have X:=h.ext B;rcases xC0 (n:=xs.length) (p:=λi=>p (xs.getD i 0)) with⟨e,H⟩|⟨i0,e,G,L,H⟩
 .rw[e];refine oZ ?_;refine zb (λ_=>?_) (λc=>absurd trivial c);refine T w1 v ?_ E rfl;rwa[pY.2 λx Q=>by
   obtain⟨j,D,rfl⟩:=gr Q;have:=H j D;simp only[y2,V0 D,GH] at this;rw[this];rfl]
 .rw[e];refine oZ ?_;refine zb (λc=>oM) (λ_=>?_);rw[inc64' oM];refine vloop_up (xs.length-(i0+1)) (λm u w'=> ∃(i:Nat) (ys:List Int),u=[nI i,nI ((i0+1+m:Nat):Int)]/\Same (λx=>v.ownBlock=some x) w w'/\OwnI zh w' v ys/\ys.length=xs.length/\i<i0+1+m/\
   ys.take i=(xs.take (i0+1+m)).filter (λx=> !p x)/\ys.drop (i0+1+m)=xs.drop (i0+1+m)) ⟨i0,xs,rfl,E,X,rfl,oM,?_,rfl⟩ ?_
  .rw[GQ,Xe G,y0 (by rw[L];decide),gD];exact(pY.2 λx Q=>by
    obtain⟨j,D,rfl⟩:=gr Q;rw[gl] at D;have:=H j oM;simp only[y2,V0 (show j<xs.length by omega),GH] at this;rw[PM,this];rfl).symm
  rintro m _ _ V C hm ⟨i,ys,rfl,k,b,F,a0,l,A⟩ S;generalize D:i0+1+m=j at*;have s:=b.ints;simp only[push_cast,s.len];refine zb (λa=>?_) (λa=>?_)
  .have t:j<xs.length:=oM;have hy:ys.getD j 0=xs.getD j 0:=by
    have R:(ys.drop j)[0]?=(xs.drop j)[0]?:=(by rw[A]);rw[pd,pd] at R;rw[y2,y2];simpa using congrArg (λo=>Option.getD o 0) R
   have g:=Xe (p:=λx=> !p x) t;simp(disch:=exact oS) only[push_cast,s.iaddr,gq,s.load,hy];refine U V k _ V _ (Same.refl _ _) λW d=>?_;refine oZ ?_;have Z:=(b.ext d).ints;have r:ys.drop (j+1)=xs.drop (j+1):=by
    rw[<-Pe,<-Pe,A]
   refine zn (λq=>?_) (λq=>?_)
   .rw[y3 q] at g;refine OwnI.st (b.ext d) yJ (i:=i) oM λw5 J O a2=>?_;rw[inc64' oM,inc64' oM];refine S oM _ _ ⟨i+1,ys.set i (xs.getD j 0),by rw[show i0+1+(m+1)=j+1 by omega],k.trans ((Same.of_ext d).trans O),J,by rw[gI];exact F,oM,?_,?_⟩
    .rw[show i0+1+(m+1)=j+1 by omega,g,<-l,M.take_add (by rw[gI];omega) 0,List.take_set_of_le (gz _),getD_set oM,y3 rfl]
    .rw[show i0+1+(m+1)=j+1 by omega,List.drop_set_of_lt oM,r]
   .rw[y0 (by rw[q];decide),gD] at g;rw[inc64' oM];exact S oM _ _ ⟨i,ys,by rw[show i0+1+(m+1)=j+1 by omega],k.trans (Same.of_ext d),b.ext d,F,oM,by rw[show i0+1+(m+1)=j+1 by omega,g];exact l,by rw[show i0+1+(m+1)=j+1 by omega];exact r⟩
  .have t:j=xs.length:=oM;refine OwnV.clear (vs:=ys.map λx=> nI x) b ZW (z:= nI 0) (by unfold yi;kernel_rfl) rfl rfl (i:=i) (by rw[y4];omega) λW I N a1=>?_;rw[OwnI.cut b ZW (n:=i) oM];refine T W (cutV v i) ?_ (k.trans N) (xC v i);rw[t,gA] at l;rw[<-l];unfold OwnI;rw[GG];exact I
theorem Jo {x k:Int} {e:TypeId} (c:Blk w b [nI k] e) (a:K (.bool (decide (x=k))) w):vcall XJ #[nI x,oP b 0] w K:=by
 refine ze {} Tryz.func59 ?_;simp only[push_cast,c.ld0];exact a
theorem YC0 {k:Int}:(λx:Int=> !decide (x=k))=λx=>decide (x≠k):=funext λx=>(decide_not).symm
theorem SolveCore_spec (hd:DclsR F w dv ds) (Z:TmsR G w tv ts) (hs:ts.length<=2000000) (er:Er w at_ an am ar ab)
  (hK:∀w' ev,Ext w w'->OwnI zh w' ev (VG ds ts).1->(∀x,ev.ownBlock=some x->w.heap.size<=x)->K (.tuple #[ev,nI (VG ds ts).2]) w'):vcall Jd #[dv,tv] w K:=by
 refine ze {loops:=[(6,[8,28]),(11,[8,38]),(16,[12,47])]} Tryz.func22 ?_;refine W6 hd Z hs er λw1 ev j _ _=>?_;have z1:=j.size;refine oZ ?_;refine zb (λc=>?_) (λc=>?_)
 .have:=hK w1 (.slice none 0 0) j;unfold VG at this;rw[y0 c] at this;exact this OwnI.nil λx d=>by cases d
 .have c2:(xL ds ts []).2=2:=GL.1 c;have h8:=YN (ds:=ds) (ts:=ts) oM;have ak:=(all8_iff.1 h8).1;have ad:=Z.weaken (F':=λx=>x<w.heap.size) λx _ h=>h;simp only[push_cast,(Z.ext j).len];refine vloop_up ts.length (λi u w'=> ∃r,u=[r,nI i]/\Ext w w'/\OwnI zh w' r ((List.range' 0 i).map Int.ofNat)/\∀x,r.ownBlock=some x->w.heap.size<=x) ⟨_,rfl,j,OwnI.nil,λx d=>by cases d⟩ ?_;rintro i _ _ w3 C hi ⟨r,rfl,V,R,B⟩ X;have ae:=Z.ext V;have z3:=V.size;refine oZ ?_;refine zb (λa=>?_) (λa=>?_)
  .have b:i<ts.length:=oM;refine push_int R (by rw[y4,p5];omega) λw6 r6 ac S a8=>?_
   try simp only[push_cast]
   rw[inc64' oM];rw[VX] at S;refine X b _ _ ⟨r6,rfl,Ext.then V ac λy s=>B y s,S,λy s=>?_⟩;rcases a8 y s with e|e
   .exact B y e
   .omega
  .have z:i=ts.length:=oM;subst z
   try simp only[push_cast,ae.len]
   refine vloop_up ts.length (λi u w'=> ∃r,u=[r,nI i]/\Ext w w'/\OwnI zh w' r ((Vi ds ts i).map Int.ofNat)/\∀x,r.ownBlock=some x->w.heap.size<=x) ⟨r,rfl,V,R,B⟩ ?_;rintro i _ _ w4 C hi ⟨r4,rfl,e4,g,Q⟩ X;have z4:=e4.size;refine oZ ?_;refine zb (λa=>?_) (λa=>?_)
   .have b:i<ts.length:=oM;have aj:=kept_len (ds:=ds) (ts:=ts) (i:=i) oM;have al:=less_len (ds:=ds) (ts:=ts) b;refine xP xE λb5 w5 ai I ao a0=>?_;refine Blk.st (i:=0) a0 rfl rfl yJ rfl λw6 af ap a1=>?_;have z5:=I.size;have W:Ext w4 w6:=Ext.then I af λy s=>by subst s;omega
    refine Clone_Lint (g.ext W).ints (by rw[y4];omega) λw7 r7 k aa l=>?_;have e7:=e4.trans (W.trans k);have a2:=a1.ext k
    try simp only[push_cast]
    refine DeleteFunc_Lint (p:=λx=>decide (x=(i:Int))) aa (by rw[y4];omega) (λE o y w9 K9 a7 a5=>?_) λE r8 D o a6=>?_
    .have a3:=(a2.same o λe=>by have:=l _ e;omega).ext a7
     try simp only[push_cast]
     exact Jo a3 (a5 _ (Same.refl _ _))
    have z6:=W.size;have z7:=k.size;have e8:Ext w E:=Ext.then e7 o λy s=>by have:=l y s;omega
    rw[YC0,ints_but,zW0 b] at D;have a9:∀x,r8.ownBlock=some x->w.heap.size<=x:=λx d=>by rw[a6] at d;have:=l x d;omega
    have J:=D.ints;simp only[push_cast,J.len,y4];refine vloop_up (Je ds ts i).length (λq u w'=> ∃lv,u=[lv,nI q]/\Ext E w'/\LstH (λx=>x<E.heap.size) w' lv (Xu ts ((Je ds ts i).take q))/\∀x,lv.ownBlock=some x->E.heap.size<=x)
     ⟨_,rfl,Same.refl _ _,LstH.nil,λx d=>by cases d⟩ ?_
    rintro q _ _ w9 C2 hq ⟨lv,rfl,v,A,hO⟩ a4;have T:=(ad.ext e8).ext v;have L:=J.ext v;have z8:=e8.size;have z9:=v.size;refine oZ ?_;refine zb (λa=>?_) (λa=>?_)
    .have m:q<(Je ds ts i).length:=oM;have hm:=less_lt b (M.getD_mem m 0);have hg:((Je ds ts i).map Int.ofNat).getD q 0=(((Je ds ts i).getD q 0:Nat):Int):=by
      rw[y2,Gi,y2,V0 m];rfl
     simp(disch:=first|(simp only[push_cast])|(simp only[y4];omega)|omega) only[push_cast,L.iaddr,gq,L.load,hg,T.iaddr];refine T.load zc hm λx d=>?_;refine push_old (n:=E.heap.size) A hO (d.weaken λy s _=>oM) oM (by unfold Xu;rw[y4,gl];omega) λw10 ag U N O=>?_
     try simp only[push_cast]
     rw[inc64' oM];refine a4 m _ _ ⟨ag,rfl,Ext.then v U λ_ h=>h,?_,O⟩;rw[z90 m];exact N
    .rw[gC oM] at A;have t:=e8.trans v;refine W6 (hd.ext t) A.tms (by unfold Xu;rw[y4];omega) (er.ext t) λw10 ah f _ _=>?_;have H:=t.trans f;refine oZ ?_;have Y:=zV0 (ds:=ds) (ts:=ts) b;refine zb (λq=>?_) (λq=>?_)
     .rw[y3 q] at Y;rw[inc64' oM];exact X b _ _ ⟨r8,rfl,H,by rw[Y];exact D.ext (v.trans f),a9⟩
     .rw[y0 q] at Y;rw[inc64' oM];exact X b _ _ ⟨r4,rfl,H,by rw[Y];exact((((g.ext W).ext k).same o λx d e=>by have:=g.lt d;have:=l x e;omega).ext (v.trans f)),Q⟩
   .have z:i=ts.length:=oM;subst z;rw[x50] at g;have:=hK w4 r4 e4;unfold VG at this;rw[y3 c2] at this;exact this g Q
end
end Go.Proofs.YtfjlkobhagjdaaaGreatDoor
section
namespace Go.Proofs.YtfjlkobhagjdaaaGreatDoor
open Go Go.Vc Go.Proofs
open Go.ChangeShapes Go.WideShapes Go.ChangeAt Go.RowKit
variable {w:World} {K:oK} {F D G:Nat->Prop}
theorem list2 {α:Type} {l:List α} (h:l.length=2):∃a b,l=[a,b]:=by
 match l,h with
 |[a,b],_=>exact⟨a,b,rfl⟩
theorem list5 {α:Type} {l:List α} (h:l.length=5):∃a b c d e,l=[a,b,c,d,e]:=by
 match l,h with
 |[a,b,c,d,e],_=>exact⟨a,b,c,d,e,rfl⟩
theorem sl_of {w:World} {x:Addr} {k len cap:Nat} {css:List (List Value)} (n:0<k) (o:len<=cap) (hm:cap<=maxLen) (p:css.length=len) (hw:∀c,c∈css->c.length=k)
  (a:∀i,i<len->∀j,j<k->w.cell? (x.add (i*k+j))=(css.getD i [])[j]?):Sl (λ_=>True) w k (.slice (some x) len cap) css:=by
 subst p;refine⟨⟨some x,cap,rfl,o,by unfold maxLen at hm;exact hm,λf=>?_⟩,hw⟩;have hlen:0<css.length:=GI.2 f;obtain⟨b,off,spot⟩:=x;have q:(css.getD 0 []).length=k:=hw _ (M.getD_mem hlen _);have d:=a 0 hlen 0 n;rw[V0 (by omega:0<(css.getD 0 []).length)] at d;have e:spot=none:=by simpa[Addr.add] using World.cell?_spot d
 subst e;rw[yq] at d;refine⟨b,off,rfl,trivial,World.block_lt_of_cell? w _ d,λi hi j v l=>?_⟩;have g:(css.getD i []).length=k:=hw _ (M.getD_mem hi _);have m:j<k:=by rw[<-g];exact(Gk.1 l).1
 have h:=a i hi j m;rw[yq] at h;rw[yq,<-l,<-h,Pr]
section
variable {H:Type} {enc:TypeId×Value->H} {W:World} {cs:List Value} {x:DataW H×List MemPlace} {held:Bool} {fuel:Nat}
theorem Zu:P.underlying yw=some .string:=rK
theorem Yy0:P.underlying xJ=some (.struct #[⟨"Name",yw,0,false,"","",0⟩,⟨"Wide",zV,1,false,"","",16⟩]):=rK
theorem Yx0:P.underlying yH=some (.struct #[⟨"Op",zV,0,false,"","",0⟩,⟨"A",zV,1,false,"","",8⟩,⟨"B",zV,2,false,"","",16⟩,⟨"Name",yw,3,false,"","",24⟩,⟨"Kids",x7,4,false,"","",40⟩]):=rK
theorem Zw0:P.cellsOf zV=1:=rK
theorem y90:P.cellsOf yw=1:=rK
theorem c1_Ls:P.cellsOf x7=1:=rK
theorem jr0:P.cellsOf xJ=2:=rK
theorem yL0:P.cellsOf yH=5:=rK
def Qc:M.Tm->Bool:=M.Tm.fold λt xs=>decide (t.s.size<=9223372036854775807)&&xs.all id
theorem kl0 (t:M.Tm):Qc t=(decide (t.s.size<=9223372036854775807)&&(t.ks.map Qc).all id):=M.Tm.fold_eq _ t
theorem Yw0 {t:M.Tm}:Qc t=true↔t.s.size<=9223372036854775807/\∀k,k∈t.ks->Qc k=true:=by
 rw[kl0,gk,X0,Gf];refine PX λ_=>⟨λh k a=>h _ (Gc a),λh y b=>?_⟩;obtain⟨k,a,rfl⟩:=gx.1 b;exact h k a
theorem Y10 (h:DataW.trod enc P W 0 (λ_=>true) held fuel xJ cs=some x):∃d:M.Dcl,cs=[.string d.1,nI d.2]/\d.1.size<=9223372036854775807:=by
 obtain⟨xs,n,_,_,g,hlen,f⟩:=DataW.trod_struct Yy0 h;rw[jr0] at g;obtain⟨c0,c1,rfl⟩:=list2 g;obtain⟨i,j,rfl⟩:=list2 (α:=DataW H×List MemPlace) hlen
 .have c:=f 0 ⟨"Name",yw,0,false,"","",0⟩ rfl;have e:=f 1 ⟨"Wide",zV,1,false,"","",16⟩ rfl;simp only[Zw0,y90,P6,PB,pR,List.drop_succ_cons,Pa,Pb] at c e;obtain⟨s,a,_,hs⟩:=DataW.trod_string Zu c;obtain⟨n,b,_,_⟩:=DataW.trod_int QY e;simp only[gP,gQ] at a b;subst a b;exact⟨(s,n),rfl,by simpa[maxLen] using hs⟩
theorem each_in {α:Type} [Inhabited α] {e k:Nat} {R:List Value->α->Prop} {a:Addr} {len cap n:Nat} {elems:List (DataW H×List MemPlace)} (ce:P.cellsOf e=k) (p:0<k) (r:len<=cap) (hm:cap<=maxLen) (t:elems.length=len)
  (f:∀i,i<len->(W.cells? 0 (a.add (i*P.cellsOf e)) (P.cellsOf e)).bind (DataW.trod enc P W 0 (λ_=>true) held n e)=elems[i]?)
  (b:∀cs x,DataW.trod enc P W 0 (λ_=>true) held n e cs=some x->∃y,R cs y):
  ∃(css:List (List Value)) (ys:List α),Sl (λ_=>True) W k (.slice (some a) len cap) css/\css.length=len/\ys.length=len/\∀i,i<len->R (css.getD i []) (ys.getD i default):=by
 have each:∀i,i<len->∃q:List Value×α,W.cells? 0 (a.add (i*k)) k=some q.1/\R q.1 q.2:=λi hi=>by
  have h:=f i hi;rw[V0 oM,ce] at h;obtain⟨cs',l,m⟩:=Option.bind_eq_some_iff.1 h;obtain⟨y,s⟩:=b _ _ m;exact⟨(cs',y),l,s⟩
 obtain⟨q,g⟩:=Go.Deep.choose_lt each;refine⟨(List.range len).map λi=>(q i).1,(List.range len).map λi=>(q i).2,?_,by simp,by simp,λi hi=>?_⟩
 .refine sl_of p r hm (by simp) (λc d=>?_) λi hi j o=>?_
  .obtain⟨i,hi,rfl⟩:=gx.1 d;exact(World.cells?_some (g i (gJ.1 hi)).1).2.1
  .have d:=(World.cells?_some (g i hi).1).2.2 j o;rw[Go.Deep.add_add] at d;rw[d];simp[y2,hi]
 .have:=(g i hi).2;simpa[y2,hi] using this
theorem decls_in (h:DataW.trod enc P W 0 (λ_=>true) held fuel qj cs=some x):∃v ds,cs=[v]/\DclsR (λ_=>True) W v ds/\Jp ds:=by
 rcases DataW.trod_slice QQ h with⟨rfl,_⟩|⟨a,len,cap,elems,rest,n,_,rfl,_,_,f,hm,g,b,_,_⟩
 .exact⟨_,[],rfl,⟨⟨none,0,rfl,by simp,by simp,λh=>absurd rfl h⟩,by simp⟩,λi hi=>absurd hi (by simp)⟩
 .obtain⟨css,ys,hs,k,l,c⟩:=each_in (α:=M.Dcl) (R:=λcs d=>cs=[.string d.1,nI d.2]/\d.1.size<=9223372036854775807) jr0 dC f hm g b λcs x j=>Y10 j;refine⟨_,ys,rfl,?_,λi hi=>?_⟩
  .have e:css=ys.map λd=>[Value.string d.1,nI d.2]:=by
    refine gK (by simp;omega) λi g1 g2=>?_;have:=(c i oM).1;rw[y2,V0 g1,y2,V0 oM] at this;simpa using this
   rw[e] at hs;exact hs
  .have:=(c i oM).2;rw[y2,V0 hi] at this⊢;simpa using this
theorem term_in:∀(fuel:Nat) {cs:List Value} {x:DataW H×List MemPlace},DataW.trod enc P W 0 (λ_=>true) held fuel yH cs=some x->∃t:M.Tm,TmR (λ_=>True) W cs t/\Qc t=true:=by
 intro fuel;induction fuel using Nat.strongRecOn with
 |_ fuel I=>
 intro cs x h;obtain⟨xs,n,D,_,e,hlen,c⟩:=DataW.trod_struct Yx0 h;rw[yL0] at e;obtain⟨c0,c1,c2,c3,J,rfl⟩:=list5 e;clear e;obtain⟨K,L,N,O,Q,rfl⟩:=list5 (α:=DataW H×List MemPlace) hlen
 .have y:=c 0 ⟨"Op",zV,0,false,"","",0⟩ rfl;have z:=c 1 ⟨"A",zV,1,false,"","",8⟩ rfl;have A:=c 2 ⟨"B",zV,2,false,"","",16⟩ rfl;have B:=c 3 ⟨"Name",yw,3,false,"","",24⟩ rfl;have C:=c 4 ⟨"Kids",x7,4,false,"","",40⟩ rfl;simp only[Zw0,y90,c1_Ls,P6,PB,pR,List.drop_succ_cons,Pa,Pb] at y z A B C;obtain⟨o,r,_,_⟩:=DataW.trod_int QY y;obtain⟨p,u,_,_⟩:=DataW.trod_int QY z;obtain⟨q,v,_,_⟩:=DataW.trod_int QY A;obtain⟨s,w,_,hs⟩:=DataW.trod_string Zu B;simp only[gP,gQ] at r u v w;subst r u v w;have f:s.size<=9223372036854775807:=(by simpa[maxLen] using hs);rcases DataW.trod_slice Zv C with⟨b,_⟩|⟨a,len,cap,elems,rest,m,E,b,_,_,e,hm,F,g,_,_⟩
  .simp only[gP,gQ] at b;subst b;exact⟨.mk o p q s [],zR0 o p q s,Yw0.2 ⟨f,λk j=>by cases j⟩⟩
  .simp only[gP,gQ] at b;subst b;obtain⟨css,ys,l,g1,g2,g3⟩:=each_in (α:=M.Tm) (R:=λcs t=>TmR (λ_=>True) W cs t/\Qc t=true) yL0 dC e hm F g λcs x G=>I m oM G;refine⟨.mk o p q s ys,TmR.of (t:= .mk o p q s ys) ⟨css,l,by show css.length=ys.length;omega,λi hi=>?_⟩,Yw0.2 ⟨f,λk j=>?_⟩⟩
   .have d:i<ys.length:=hi;exact(g3 i oM).1
   .obtain⟨i,hi,rfl⟩:=gr j;have d:i<ys.length:=hi;have:=(g3 i oM).2;rwa[y2,V0 d] at this
end
end Go.Proofs.YtfjlkobhagjdaaaGreatDoor
end
namespace Go.Proofs.YtfjlkobhagjdaaaGreatDoor
open Go Go.Vc Go.Proofs
section
variable {w:World} {K:oK} {F F' D G:Nat->Prop}
theorem eqIntS_same {va vb:Value} {a:List Int} (f:Ints F w va a) (k:Ints F' w vb a) (n:∀w',Ext w w'->K (.bool true) w'):vcall WW #[va,vb] w K:=by
 refine ze {loops:=[(4,[5])]} Tryz.func23 ?_;have o:=ints_small f;simp only[push_cast,f.len,k.len];refine zb (λh=>absurd rfl h) (λh=>?_);refine vloop_up a.length (λi u w'=>u=[nI i]/\Ext w w') ⟨rfl,Same.refl _ _⟩ ?_;rintro i _ _ w1 C hi ⟨rfl,he⟩ m;have c:=f.ext he;have g:=k.ext he;simp only[push_cast,c.len];refine zb (λl=>?_) (λl=>?_)
 .refine zd λw2 b _=>?_;have d:=c.ext b;have e:=g.ext b;simp(disch:=exact oS) only[push_cast,d.iaddr,d.load,e.iaddr,e.load,y1];refine zb (λj=>absurd rfl j) (λj=>?_);rw[inc64' oM];exact m oM _ _ ⟨rfl,he.trans b⟩
 .exact n w1 he
theorem szDecl_spec {s:ByteArray} {n left:Int} (g:0<=left) (h:left<=1048576) (hs:s.size<=9223372036854775807) (c:∀w' r,Ext w w'->(r= -1\/0<=r/\r<=left/\(s.size:Int)<=left)->K (nI r) w'):vcall WU #[.agg ⟨[.string s,nI n]⟩,nI left] w K:=by
 refine ze {} Tryz.func31 ?_;refine zj λb1 w1 d b e f=>?_;simp(disch:=first|(simp only[push_cast])|exact Zu) only[push_cast,f.ld0,Xm];rw[show IntKind.i64.wrap (left-(s.size:Int))=left-s.size from zk oM oM];refine zb (λa=>?_) (λa=>?_)
 .exact c _ _ b (.inl rfl)
 .exact c _ _ b (.inr oM)
theorem szDeclS_spec {v:Value} {ds:List M.Dcl} {left:Int} (o:0<=left) (p:left<=1048576) (l:Jp ds) (g:DclsR F w v ds) (f:∀w' r,Ext w w'->(r= -1\/0<=r/\r<=left/\(ds.length:Int)<=left)->K (nI r) w'):vcall V4 #[v,nI left] w K:=by
 refine ze {loops:=[(5,[1,5])]} Tryz.func7 ?_;have k:=g.small;simp only[push_cast,g.len];rw[show IntKind.i64.wrap (left-(ds.length:Int))=left-ds.length from zk oM oM];refine zb (λa=>f _ _ (Same.refl _ _) (.inl rfl)) (λa=>?_);refine vloop_up ds.length (λi u w'=> ∃r:Int,u=[nI r,nI i]/\Ext w w'/\0<=r/\r<=left) ⟨_,rfl,Same.refl _ _,oM,oM⟩ ?_;rintro i _ _ w1 C hi ⟨r,rfl,he,m,q⟩ h;have b:=g.ext he;simp(disch:=exact oS) only[push_cast,b.len];refine zb (λc=>?_) (λc=>?_)
 .simp(disch:=exact oS) only[push_cast,b.iaddr,b.load];refine szDecl_spec m oM (l i oM) λw2 n e j=>?_;refine oZ ?_;refine zb (λd=>f _ _ (he.trans e) (.inl rfl)) (λd=>?_);rw[inc64' oM];exact h oM _ _ ⟨n,rfl,he.trans e,oM,oM⟩
 .exact f _ _ he (.inr oM)
abbrev SzT (t:M.Tm):Prop:=∀{w:World} {K:oK} {F:Nat->Prop} {v:Value} {left:Int},TermR F w v t->Qc t=true->0<=left->left<=1048576->(∀w' r,Ext w w'->(r= -1\/0<=r/\r+M.sizeM t<=left+1/\xD0 t=true)->K (nI r) w')->vcall WT #[v,nI left] w K
theorem szTermS_of {ks:List M.Tm} (B:∀k,k∈ks->SzT k) {v:Value} {left:Int} (l:TmsR F w v ks) (hs:∀k,k∈ks->Qc k=true) (E:0<=left) (G:left<=1048576)
  (n:∀w' r,Ext w w'->(r= -1\/0<=r/\r+M.szT ks ks.length<=left/\(ks.length:Int)<=left/\∀k,k∈ks->xD0 k=true)->K (nI r) w'):vcall V3 #[v,nI left] w K:=by
 refine ze {loops:=[(5,[1,5])]} Tryz.func8 ?_;have y:=l.small;simp only[push_cast,l.len];rw[show IntKind.i64.wrap (left-(ks.length:Int))=left-ks.length from zk oM oM];refine zb (λa=>n _ _ (Same.refl _ _) (.inl rfl)) (λa=>?_);refine vloop_up ks.length (λi u w'=> ∃r:Int,u=[nI r,nI i]/\Ext w w'/\0<=r/\r+M.szT ks i<=left-ks.length+i/\∀j,j<i->xD0 (ks.getD j default)=true) ⟨_,rfl,Same.refl _ _,oM,by show _+((0:Nat):Int)<=_;omega,λj m=>absurd m oM⟩ ?_;rintro i _ _ w1 C hi ⟨r,rfl,he,s,H,q⟩ t;have f:=l.ext he;simp(disch:=exact oS) only[push_cast,f.len];refine zb (λc=>?_) (λc=>?_)
 .have b:ks.getD i default∈ks:=M.getD_mem oM _;simp(disch:=exact oS) only[push_cast,f.iaddr];refine f.load Xc oM λx A=>?_;refine B _ b A (hs _ b) s oM λw2 D g p=>?_;refine oZ ?_;refine zb (λd=>n _ _ (he.trans g) (.inl rfl)) (λd=>?_);rw[inc64' oM];rcases p with h|⟨g0,g1,g2⟩
  .omega
  have z:=M.szT_succ (ks:=ks) (i:=i) oM;refine t oM _ _ ⟨D,rfl,he.trans g,g0,oM,λj m=>?_⟩;by_cases e:j<i
  .exact q j e
  .have:j=i:=oM;subst this;exact g2
 .have o:i=ks.length:=oM;subst o;refine n _ _ he (.inr ⟨s,oM,oM,λk l=>?_⟩);obtain⟨j,m,rfl⟩:=gr l;have:=q j oM;rwa[y2,V0 m] at this
theorem szTerm_spec:∀t:M.Tm,SzT t:=by
 refine M.Tm.ind λt n=>?_;intro w K F v left m hs o p e;refine ze {} Tryz.func9 ?_;obtain⟨kv,rfl,f⟩:=m;obtain⟨s1,s2⟩:=Yw0.1 hs;refine zj λb1 w1 i b k g=>?_;simp(disch:=first|(simp only[push_cast])|exact Zu) only[push_cast,g.ld3,g.ld4,Xm];rw[show IntKind.i64.wrap (left-(t.s.size:Int))=left-t.s.size from zk oM oM];refine zb (λa=>e _ _ b (.inl rfl)) (λa=>?_);refine szTermS_of n (f.ext b) s2 oM oM λw2 r c j=>?_;refine oZ ?_;refine zb (λd=>e _ _ (b.trans c) (.inl rfl)) (λd=>?_);rcases j with h|⟨g0,g1,g2,g3⟩
 .omega
 have l:=M.szT_all t;exact e _ _ (b.trans c) (.inr ⟨g0,oM,fitB_iff.2 ⟨oM,g3⟩⟩)
theorem toDecl_spec {s:ByteArray} {n:Int} (x:∀w',Ext w w'->K (.agg ⟨[.string s,nI n]⟩) w'):vcall WS #[.agg ⟨[.string s,nI n]⟩] w K:=by
 refine ze {} Tryz.func36 ?_;refine zj λb1 w1 z h C p=>?_;refine zi xY λb2 w2 A d D q=>?_;refine zi xY λb3 J B a E r=>?_;have m:=(p.ext d).ext a;simp only[push_cast,m.ld0];refine r.st (i:=0) rfl rfl Y3 rfl λL e F u=>?_;have I:=m.same e oM;simp only[push_cast,I.ld1];refine u.st (i:=1) rfl rfl yJ rfl λo j G g=>?_;replace g:Blk o b3 [.string s,nI n] xr:=g;rw[g.ldAgg (t:=xr) Xd];have c:Same (λb=>b=b3) J o:=e.trans j;have f:=(q.ext a).same c oM;refine stDecl f λM k H v=>?_;rw[v.lv (t:=xr) Xd];refine x _ (Ext.then (Ext.then ((h.trans d).trans a) c λy l=>by subst l;omega) k λy l=>by subst l;omega)
theorem toDeclS_own {v:Value} {ds:List M.Dcl} (s:DclsR F w v ds) (B:ds.length<=1048576) (z:∀w' v',Ext w w'->Own 0 2 x8 w' v' (ds.map λd=>[Value.string d.1,nI d.2])->(∀b,v'.ownBlock=some b->w.heap.size<=b)->K v' w'):vcall YG #[v] w K:=by
 refine ze {loops:=[(3,[4])]} Tryz.func11 ?_;simp only[push_cast,s.len];refine vmkS_agg (cs:=[.string ⟨#[]⟩,nI 0]) zT0 dC (by rw[UG];exact xY) oM oM λv1 w1 o n h=>?_;refine vloop_up ds.length (λi u w'=>u=[nI i]/\Ext w w'/\∃css,css.length=ds.length/\Own 0 2 x8 w' v1 css/\∀j,j<i->css.getD j []=[.string (ds.getD j xb0).1,nI (ds.getD j xb0).2]) ⟨rfl,n,_,by simp,o,oM⟩ ?_;rintro i _ _ w2 C hi ⟨rfl,f,css,A,k,t⟩ y;have c:=s.ext f;simp only[push_cast,c.len];refine zb (λa=>?_) (λa=>?_)
 .simp(disch:=exact oS) only[push_cast,c.iaddr,c.load];refine toDecl_spec λG g=>?_;have l:=k.ext g;have q:=l.sl;simp(disch:=exact oS) only[push_cast,q.iaddr];refine own_stEl l dC rfl (by intro v x;simp only[gj,gy,Ge] at x;rcases x with rfl|rfl<;>rfl) Xd oM λH p r D=>?_;rw[inc64' oM];refine y oM _ _ ⟨rfl,Ext.then (f.trans g) r λb m=>h b m,_,by rw[gI];exact A,p,λj E=>?_⟩;rw[getD_set oM];by_cases e:i=j
  .subst e;rw[y3 rfl]
  .rw[y0 e];exact t j oM
 .have e:css=ds.map λd=>[Value.string d.1,nI d.2]:=by
   refine gK (by simp;omega) λj g1 g2=>?_;have:=t j oM;rw[y2,V0 g1,y2,V0 oM] at this;simpa using this
  subst e;exact z w2 v1 f k λb m=>h b m
theorem Zx {v:Value} {ds:List M.Dcl} (e:DclsR F w v ds) (a:ds.length<=1048576) (c:∀w' v',Ext w w'->DclsR (λb=>w.heap.size<=b) w' v' ds->K v' w'):vcall YG #[v] w K:=
 toDeclS_own e a λw' v' he f d=>c w' v' he (f.sl.weaken λb h _=>d b h)
abbrev CpT (t:M.Tm):Prop:=∀{w:World} {K:oK} {F:Nat->Prop} {v:Value},TermR F w v t->xD0 t=true->(∀w' v',Ext w w'->TermR (λb=>w.heap.size<=b) w' v' t->K v' w')->vcall Xx #[v] w K
theorem toTermS_of {ks:List M.Tm} (R:∀k,k∈ks->CpT k) {v:Value} (A:TmsR F w v ks) (J:ks.length<=1048576) (H:∀k,k∈ks->xD0 k=true)
  (G:∀w' v',Ext w w'->TmsR (λb=>w.heap.size<=b) w' v' ks->K v' w'):vcall YF #[v] w K:=by
 refine ze {loops:=[(3,[4])]} Tryz.func12 ?_;simp only[push_cast,A.len];refine vmkS_agg (cs:=W9) qx dC (by rw[qK];exact zq) oM oM λv1 w1 t o p=>?_;have N:=o.size;refine vloop_up ks.length (λi u w'=>u=[nI i]/\Ext w w'/\∃css,css.length=ks.length/\Own 0 5 zl w' v1 css/\∀j,j<i->TmR (λb=>w.heap.size<=b/\v1.ownBlock≠some b) w' (css.getD j []) (ks.getD j default)) ⟨rfl,o,_,by simp,t,oM⟩ ?_;rintro i _ _ w2 C hi ⟨rfl,d,css,B,m,D⟩ E;have l:=A.ext d;have O:=d.size;simp only[push_cast,l.len];refine zb (λa=>?_) (λa=>?_)
 .have f:ks.getD i default∈ks:=M.getD_mem oM _;simp(disch:=exact oS) only[push_cast,l.iaddr];refine l.load Xc oM λx L=>?_;refine R _ f L (H _ f) λS v3 h s=>?_;obtain⟨c3,rfl,g⟩:=s.cells;have q:=m.ext h;have z:=q.sl;simp(disch:=exact oS) only[push_cast,z.iaddr];have r:∀b,v1.ownBlock=some b->b<w2.heap.size:=λb c=>(m.lt c).2;refine own_stEl q dC (zU g) (tmR_one g) zc oM λT y n Q=>?_;rw[inc64' oM];refine E oM _ _ ⟨rfl,Ext.then (d.trans h) n λb c=>p b c,_,by rw[gI];exact B,y,λj I=>?_⟩;rw[getD_set oM];by_cases e:i=j
  .subst e;rw[y3 rfl];refine(g.weaken (F':=λb=>w.heap.size<=b/\v1.ownBlock≠some b) λb c _=>⟨oM,λe=>by have:=r b e;omega⟩).same n λb c _ e=>c.2 e
  .rw[y0 e];exact((D j oM).ext h).same n λb c _ e=>c.2 e
 .exact G w2 v1 d ⟨css,m.sl.weaken λb c _=>p b c,B,λj I=>(D j oM).weaken λb c _=>c.1⟩
theorem toTerm_spec:∀t:M.Tm,CpT t:=by
 refine M.Tm.ind λt ih=>?_;intro w K F v ht hf hK;refine ze {} Tryz.func13 ?_;obtain⟨kv,rfl,H⟩:=ht;obtain⟨f1,f2⟩:=fitB_iff.1 hf;refine zj λb1 w1 a0 E a3 S=>?_;refine zi zq λb2 w2 a1 m a4 T=>?_;refine zi zq λb3 w3 a2 h a5 U=>?_;have N:=(S.ext m).ext h;simp only[push_cast,N.ld0];refine U.st (i:=0) rfl rfl yJ rfl λw4 r a6 V=>?_;have O:=N.same r oM;simp only[push_cast,O.ld1];refine V.st (i:=1) rfl rfl yJ rfl λw5 u a7 W=>?_;have P:=O.same u oM;simp only[push_cast,P.ld2];refine W.st (i:=2) rfl rfl yJ rfl λw6 z a8 X=>?_;have Q:=P.same z oM;simp only[push_cast,Q.ld3];refine X.st (i:=3) rfl rfl Y3 rfl λI A a9 Y=>?_;have q7:=Q.same A oM;simp only[push_cast,q7.ld4];have g:Same (λb=>b=b3) w3 I:=r.trans (u.trans (z.trans A));have l:=(E.trans m).trans h;have j:Ext w I:=Ext.then l g λy B=>by subst B;omega
 refine toTermS_of ih (H.ext j) f1 f2 λw8 d f n=>?_;have Z:=Y.ext f;have o:d.cells= #[d]/\d.oneCell'=true:=by
  obtain⟨css,hs,_⟩:=n;obtain⟨a,c,rfl,_⟩:=hs.shape;exact⟨rfl,rfl⟩
 have aa:=f.size;have L:=g.size
 try simp only[push_cast]
 refine Z.st (i:=4) o.1 o.2 xG rfl λR k ab D=>?_;replace D:Blk R b3 [nI t.op,nI t.a,nI t.b,.string t.s,d] za:=D;rw[D.ldAgg (t:=za) zc];have G:TmsR (λb=>I.heap.size<=b) R d t.ks:=n.same k λb hb _ e=>oM
 have C:=(((T.ext h).same g oM).ext f).same k oM;refine qc C rfl (TmR.of (t:=t) G) (λx hx=>oM) λw10 q J p=>?_;exact hK _ _ (Ext.then (Ext.then (j.trans f) k λy B=>by subst B;omega) q λy B=>by subst B;omega) (p.weaken λb hb _=>by have:=j.size;omega)
theorem yJ0 {s:ByteArray} {n:Int} (f:∀w',Ext w w'->K (.bool true) w'):vcall WX #[.agg ⟨[.string s,nI n]⟩,.agg ⟨[.string s,nI n]⟩] w K:=by
 refine ze {} Tryz.func39 ?_;refine zj λb1 w1 g d j e=>?_;refine zj λb2 w2 i a k b=>?_;have c:=e.ext a;simp only[push_cast,c.ld0,b.ld0,c.ld1,b.ld1];refine zb (λh=>absurd rfl h) (λ_=>?_)
 try simp only[push_cast,c.ld0,b.ld0,c.ld1,b.ld1]
 refine zb (λh=>absurd rfl h) (λ_=>?_);exact f _ (d.trans a)
theorem eqDeclS_same {va vb:Value} {ds:List M.Dcl} (e:DclsR F w va ds) (j:DclsR F' w vb ds) (m:∀w',Ext w w'->K (.bool true) w'):vcall V6 #[va,vb] w K:=by
 refine ze {loops:=[(4,[5])]} Tryz.func15 ?_;have n:=e.small;simp only[push_cast,e.len,j.len];refine zb (λh=>absurd rfl h) (λh=>?_);refine vloop_up ds.length (λi u w'=>u=[nI i]/\Ext w w') ⟨rfl,Same.refl _ _⟩ ?_;rintro i _ _ w1 C hi ⟨rfl,he⟩ l;have b:=e.ext he;have f:=j.ext he;simp only[push_cast,b.len];refine zb (λk=>?_) (λk=>?_)
 .refine zd λw2 a _=>?_;have c:=b.ext a;have d:=f.ext a;simp(disch:=exact oS) only[push_cast,c.iaddr,c.load,d.iaddr,d.load,y1];refine yJ0 λo g=>?_;simp only[push_cast,Gn,y1];rw[inc64' oM];exact l oM _ _ ⟨rfl,he.trans (a.trans g)⟩
 .exact m w1 he
abbrev EqT (t:M.Tm):Prop:=∀{w:World} {K:oK} {F G:Nat->Prop} {va vb:Value},TermR F w va t->TermR G w vb t->(∀w',Ext w w'->K (.bool true) w')->vcall WV #[va,vb] w K
theorem eqTermS_of {ks:List M.Tm} (o:∀k,k∈ks->EqT k) {va vb:Value} (d:TmsR F w va ks) (g:TmsR F' w vb ks) (m:∀w',Ext w w'->K (.bool true) w'):vcall V5 #[va,vb] w K:=by
 refine ze {loops:=[(4,[5])]} Tryz.func16 ?_;have n:=d.small;simp only[push_cast,d.len,g.len];refine zb (λh=>absurd rfl h) (λh=>?_);refine vloop_up ks.length (λi u w'=>u=[nI i]/\Ext w w') ⟨rfl,Same.refl _ _⟩ ?_;rintro i _ _ w1 C hi ⟨rfl,he⟩ l;have b:=d.ext he;have e:=g.ext he;simp only[push_cast,b.len];refine zb (λj=>?_) (λj=>?_)
 .refine zd λw2 a _=>?_;obtain⟨cssa,sa,la,ka⟩:=b.ext a;obtain⟨cssb,sb,lb,kb⟩:=e.ext a;have c:ks.getD i default∈ks:=M.getD_mem oM _;have ga:aggB za 5=true:=zc;simp(disch:=exact oS) only[push_cast,sa.iaddr,sa.ldAgg,sb.iaddr,sb.ldAgg,y1];refine o _ c (ka i oM).term (kb i oM).term λp f=>?_;simp only[push_cast,Gn,y1];rw[inc64' oM];exact l oM _ _ ⟨rfl,he.trans (a.trans f)⟩
 .exact m w1 he
theorem yI0:∀t:M.Tm,EqT t:=by
 refine M.Tm.ind λt r=>?_;intro w K F G va vb l m k;refine ze {} Tryz.func17 ?_;obtain⟨kva,rfl,g⟩:=l;obtain⟨kvb,rfl,i⟩:=m;refine zj λb1 w1 n e p j=>?_;refine zj λb2 w2 o b q a=>?_;have c:=j.ext b;simp only[push_cast,c.ld0,a.ld0,c.ld1,a.ld1,c.ld2,a.ld2,c.ld3,a.ld3,c.ld4,a.ld4];refine zb (λh=>absurd rfl h) (λ_=>?_);refine zb (λh=>absurd rfl h) (λ_=>?_);refine zb (λh=>absurd rfl h) (λ_=>?_);refine zb (λh=>absurd rfl h) (λ_=>?_);have d:=e.trans b;refine eqTermS_of r (g.ext d) (i.ext d) λs f=>?_;simp only[push_cast,Gn];exact k _ (d.trans f)
end
section
variable {w:World} {K:oK} {F D G:Nat->Prop}
def Z70 (w:World) (D:Nat->Prop) (kv:Value) (us:List M.Tm) (css:List (List Value)) (Ds:Nat->Nat->Prop):Prop:=
 Own 0 5 zl w kv css/\css.length=us.length/\(∀b,kv.ownBlock=some b->D b/\∀i,i<us.length->¬Ds i b)/\(∀i j b,i<j->j<us.length->Ds i b->¬Ds j b)/\(∀i b,i<us.length->Ds i b->D b)/\
 ∀i,i<us.length->TmO w (Ds i) (css.getD i []) (us.getD i default)
theorem Ze0 {kv:Value} {t:M.Tm} {css:List (List Value)} {Ds:Nat->Nat->Prop} (h:Z70 w D kv t.ks css Ds):TmO w D [nI t.op,nI t.a,nI t.b,.string t.s,kv] t:=by
 obtain⟨c,d,e,f,g,i⟩:=h;exact .mk css Ds c d e f g i
theorem qu0 {cs:List Value} {t:M.Tm} (h:TmO w D cs t):∃kv css Ds,cs=[nI t.op,nI t.a,nI t.b,.string t.s,kv]/\Z70 w D kv t.ks css Ds:=by
 obtain⟨kv,css,Ds,c,d,e,f,g,i,j⟩:=We h;exact⟨kv,css,Ds,c,d,e,f,g,i,j⟩
theorem Zd0 {kv:Value} {us:List M.Tm} {css:List (List Value)} {Ds:Nat->Nat->Prop} (h:Z70 w D kv us css Ds):TmsR D w kv us:=by
 obtain⟨c,d,e,j,f,g⟩:=h;exact⟨css,c.sl.weaken λb a _=>(e b a).1,d,λi hi=>(xm0 _ (g i hi)).weaken λb a _=>f i b hi a⟩
theorem Xr {S:Nat->Prop} {w':World} {kv:Value} {us:List M.Tm} {css:List (List Value)} {Ds:Nat->Nat->Prop} (h:Z70 w D kv us css Ds) (hw:Same S w w') (hs:∀b,D b->¬S b):Z70 w' D kv us css Ds:=by
 obtain⟨e,f,c,g,d,j⟩:=h;exact⟨e.same hw λb a=>hs b (c b a).1,f,c,g,d,λi hi=>jB hw _ (j i hi) λb a=>hs b (d i b hi a)⟩
abbrev CpO (t:M.Tm):Prop:=∀{w:World} {K:oK} {F:Nat->Prop} {v:Value},TermR F w v t->xD0 t=true->(∀w' cs,Ext w w'->TmO w' (λb=>w.heap.size<=b/\b<w'.heap.size) cs t->K (.agg ⟨cs⟩) w')->vcall Xx #[v] w K
theorem toTermS_own {ks:List M.Tm} (ih:∀k,k∈ks->CpO k) {v:Value} (I:TmsR F w v ks) (W:ks.length<=1048576) (V:∀k,k∈ks->xD0 k=true)
  (T:∀w' v' css Ds,Ext w w'->Z70 w' (λb=>w.heap.size<=b/\b<w'.heap.size) v' ks css Ds->K v' w'):vcall YF #[v] w K:=by
 refine ze {loops:=[(3,[4])]} Tryz.func12 ?_;simp only[push_cast,I.len];refine vmkS_agg (cs:=W9) qx dC (by rw[qK];exact zq) oM oM λv1 w1 z r t=>?_;have Y:=r.size;have f:∀b,v1.ownBlock=some b->b<w1.heap.size:=λb c=>(z.lt c).2;refine vloop_up ks.length (λi u w'=>u=[nI i]/\Ext w w'/\w1.heap.size<=w'.heap.size/\∃(css:List (List Value)) (Ds:Nat->Nat->Prop),css.length=ks.length/\Own 0 5 zl w' v1 css/\
   (∀j b,j<i->Ds j b->w1.heap.size<=b/\b<w'.heap.size)/\(∀j k b,j<k->k<i->Ds j b->¬Ds k b)/\∀j,j<i->TmO w' (Ds j) (css.getD j []) (ks.getD j default))
  ⟨rfl,r,gz _,_,λ_ _=>False,by simp,z,oM,oM,oM⟩ ?_
 rintro i _ _ w2 C hi ⟨rfl,n,Z,css,Ds,Q,A,d,h,R⟩ S;have o:=I.ext n;simp only[push_cast,o.len];refine zb (λa=>?_) (λa=>?_)
 .have l:ks.getD i default∈ks:=M.getD_mem oM _;simp(disch:=exact oS) only[push_cast,o.iaddr];refine o.load Xc oM λx X=>?_;refine ih _ l X (V _ l) λw3 c3 g q=>?_;have y:=xm0 _ q;have B:=A.ext g;have L:=B.sl;have a0:=g.size;simp(disch:=exact oS) only[push_cast,L.iaddr];refine own_stEl B dC (zU y) (tmR_one y) zc oM λw4 J p a1=>?_;rw[inc64' oM];refine S oM _ _ ⟨rfl,Ext.then (n.trans g) p λb c=>t b c,oM,css.set i c3,λj b=>(j<i/\Ds j b)\/(j=i/\w2.heap.size<=b/\b<w3.heap.size),by rw[gI];exact Q,J,λj b s c=>?_,λj k b H I m D=>?_,λj s=>?_⟩
  .rcases c with⟨m,D⟩|⟨m,D,E⟩
   .have:=d j b m D;omega
   .omega
  .rcases m with⟨m,E⟩|⟨m,E,h4⟩
   .rcases D with⟨N,O⟩|⟨N,O,h7⟩
    .exact h j k b H N E O
    .have:=d j b m E;omega
   .omega
  .rw[getD_set oM];by_cases e:i=j
   .subst e;rw[y3 rfl];exact qw (jB p _ q λb c e=>by have:=f b e;omega) λb c=> .inr ⟨rfl,c⟩
   .rw[y0 e];exact qw (jB p _ (qv0 (R j oM) g) λb c e=>by have:=f b e;have:=d j b oM c;omega) λb c=> .inl ⟨oM,c⟩
 .have G:i=ks.length:=oM;subst G;refine T w2 v1 css Ds n ⟨A,Q,λb c=>⟨⟨t b c,by have:=f b c;omega⟩,λj s U=>by have:=f b c;have:=d j b s U;omega⟩,h,λj b s c=>by have:=d j b s c;omega,R⟩
theorem toTerm_own:∀t:M.Tm,CpO t:=by
 refine M.Tm.ind λt ih=>?_;intro w K F v ht hf Z;refine ze {} Tryz.func13 ?_;obtain⟨kv,rfl,H⟩:=ht;obtain⟨f1,f2⟩:=fitB_iff.1 hf;refine zj λb1 w1 a0 E a3 R=>?_;refine zi zq λb2 w2 a1 m a4 S=>?_;refine zi zq λb3 w3 a2 h a5 T=>?_;have L:=(R.ext m).ext h;simp only[push_cast,L.ld0];refine T.st (i:=0) rfl rfl yJ rfl λw4 r a6 U=>?_;have N:=L.same r oM;simp only[push_cast,N.ld1];refine U.st (i:=1) rfl rfl yJ rfl λw5 u a7 V=>?_;have O:=N.same u oM;simp only[push_cast,O.ld2];refine V.st (i:=2) rfl rfl yJ rfl λw6 z a8 W=>?_;have P:=O.same z oM;simp only[push_cast,P.ld3];refine W.st (i:=3) rfl rfl Y3 rfl λQ A a9 X=>?_;have q7:=P.same A oM;simp only[push_cast,q7.ld4];have g:Same (λb=>b=b3) w3 Q:=r.trans (u.trans (z.trans A));have l:=(E.trans m).trans h;have j:Ext w Q:=Ext.then l g λy B=>by subst B;omega
 refine toTermS_own ih (H.ext j) f1 f2 λw8 f css Ds d n=>?_;have Y:=X.ext d;have o:f.cells= #[f]/\f.oneCell'=true:=by
  obtain⟨a,c,rfl,_⟩:=n.1.sl.shape;exact⟨rfl,rfl⟩
 have aa:=d.size;have J:=g.size
 try simp only[push_cast]
 refine Y.st (i:=4) o.1 o.2 xG rfl λw9 k ab D=>?_;replace D:Blk w9 b3 [nI t.op,nI t.a,nI t.b,.string t.s,f] za:=D;rw[D.ldAgg (t:=za) zc];have G:=Xr n k λb hb e=>oM
 have C:=(((S.ext h).same g oM).ext d).same k oM;refine retO C rfl (Ze0 (t:=t) G) (λx hx=>oM) λw10 q I p=>?_;exact Z _ _ (Ext.then (Ext.then (j.trans d) k λy B=>by subst B;omega) q λy B=>by subst B;omega) (qw p λb hb=>by have:=j.size;omega)
def digs:Nat->Nat->ByteArray->ByteArray
 |0,_,acc=>acc
 |f+1,k,acc=>if 0<k then digs f (k/10) (strOfNums [((48+k%10:Nat):Int)]++acc) else acc
def Qs (k:Nat):ByteArray:=if k=0 then⟨#[109,48]⟩ else⟨#[109]⟩++digs (k+1) k ⟨#[]⟩
theorem markText_spec {k:Nat} (h:k<4611686018427387904) (b:∀w',Ext w w'->K (.string (Qs k)) w'):vcall ZA #[nI k] w K:=by
 refine ze {loops:=[(4,[0,3])]} Tryz.func60 ?_;refine oZ ?_;refine zb (λa=>?_) (λa=>?_)
 .have e:Qs k=⟨#[109,48]⟩:=by unfold Qs;rw[y3 oM]
  rw[e] at b;exact b _ (Same.refl _ _)
 have e:Qs k=⟨#[109]⟩++digs (k+1) k ⟨#[]⟩:=by unfold Qs;rw[y0 oM]
 rw[e] at b;refine jA (λn u w'=> ∃(j:Nat) (acc:ByteArray) (f:Nat),u=[nI j,.string acc]/\n=j/\j<=k/\j<f/\acc.size+j<=k/\Ext w w'/\digs f j acc=digs (k+1) k ⟨#[]⟩) k
  ⟨k,_,k+1,rfl,rfl,gz _,oM,by simp[ByteArray.size],Same.refl _ _,rfl⟩ ?_
 rintro n _ _ w1 C ⟨j,acc,f,rfl,rfl,v,t,z,he,m⟩ q;refine oZ ?_;refine zb (λc=>?_) (λc=>?_)
 .rw[kT dC,show(n:Int).tmod 10=((n%10:Nat):Int) from by rw[pS oM];omega,Xo];rw[show IntKind.i64.wrap (48+((n%10:Nat):Int))=((48+n%10:Nat):Int) from by rw[zk oM oM];omega];rw[j9 z30 kH0,show IntKind.u8.wrap ((48+n%10:Nat):Int)=((48+n%10:Nat):Int) from by show((48+n%10:Nat):Int)%256=_;omega];refine qD (k:=1) (y:=[.int .u8 ((48+n%10:Nat):Int)]) Xp Zz0 k30 rfl rfl dC λb2 w2 r l x p=>?_;have s:∀d:oK,yi0 xA yw (.slice (some ⟨b2,0,none⟩) 1 1) w2 d=d (.string (strOfNums [((48+n%10:Nat):Int)])) w2:=λd=>
   y6 (run_convert_bytes_arg w2 xA Ze Xp rK b2 0 1 1 [((48+n%10:Nat):Int)] rfl (λi hi=>by
    have:i=0:=oM;subst this;exact p.cell (i:=0) rfl) yw Zu)
  rw[s,kS (by rw[strOfNums_size];show 1+_<=_;omega),kg dC,show(n:Int).tdiv 10=((n/10:Nat):Int) from by rw[Int.tdiv_eq_ediv_of_nonneg oM];omega,zk oM oM];obtain⟨f,rfl⟩:∃g,f=g+1:=⟨f-1,oM⟩;refine q (n/10) _ _ oM ⟨n/10,_,f,rfl,rfl,oM,oM,?_,he.trans l,?_⟩
  .rw[ByteArray.size_append,strOfNums_size];show 1+acc.size+n/10<=k;omega
  .rw[<-m];show _=if 0<n then _ else _
   rw[y3 oM]
 .have o:n=0:=oM;subst o;obtain⟨f,rfl⟩:∃g,f=g+1:=⟨f-1,oM⟩;have:acc=digs (k+1) k ⟨#[]⟩:=by
   rw[<-m];show _=if 0<0 then _ else acc
   rw[y0 oM]
  subst this;rw[kS (by show 1+_<=_;omega)];exact b _ he
theorem markText_int {k:Int} (b:0<=k) (h:k<4611686018427387904) (a:∀w',Ext w w'->K (.string (Qs k.toNat)) w'):vcall ZA #[nI k] w K:=by
 obtain⟨n,rfl⟩:∃n:Nat,k=n:=⟨k.toNat,oM⟩;exact markText_spec oM a
theorem inc_wrap {k:Int} (a:0<=k) (h:k<4611686018427387904):IntKind.i64.wrap (k+1)=k+1:=zk oM oM
theorem markDeclS_spec {v:Value} {css:List (List Value)} {k:Int} (x:Own 0 2 x8 w v css) (A:0<=k) (B:k+2*css.length<4611686018427387904)
  (t:∀w',Same (λb=>v.ownBlock=some b) w w'->K (nI (k+2*css.length)) w'):vcall J6 #[v,nI k] w K:=by
 refine ze {loops:=[(2,[1,5])]} Tryz.func24 ?_;refine vloop_up css.length (λi u w'=>u=[nI (k+2*i),nI i]/\Same (λb=>v.ownBlock=some b) w w'/\∃c,c.length=css.length/\Own 0 2 x8 w' v c) ⟨by simp,Same.refl _ _,css,rfl,x⟩ ?_;rintro i _ _ w1 C hi ⟨rfl,h,r,e,f⟩ s;have o:=f.sl;simp only[push_cast,o.len,e];refine zb (λa=>?_) (λa=>?_)
 .refine markText_int oM oM λw2 d=>?_;have g:=f.ext d;have n:=g.sl;simp(disch:=exact oS) only[push_cast,n.iaddr];refine Own.stCell g rfl rfl Y3 (i:=i) (j:=0) oM dC λD l p y=>?_;rw[inc_wrap oM oM];refine Own.stCell l rfl rfl yJ (i:=i) (j:=1) (by rw[gI];omega) dC λE m q z=>?_;rw[inc_wrap oM oM,inc64' oM];refine s oM _ _ ⟨by rw[show k+2*(i:Int)+1+1=k+2*((i+1:Nat):Int) by omega],h.trans ((Same.of_ext d).trans (p.trans q)),_,by rw[gI,gI];exact e,m⟩
 .have:i=css.length:=oM;subst this;exact t _ h
end
section
variable {w:World} {K:oK} {F D G:Nat->Prop}
inductive Held:List M.Tm->Int->Int->Prop
 |nil (k:Int):Held [] k k
 |cons {t:M.Tm} {us:List M.Tm} {k m n:Int}:t.op=k->t.a=k+1->t.b=k+2->t.s=Qs (k+3).toNat->Held t.ks (k+4) m->Held us m n->Held (t::us) k n
theorem j50 {us:List M.Tm} {k m n:Int} {t:M.Tm} (h:Held us k m) (f:t.op=m) (g:t.a=m+1) (i:t.b=m+2) (j:t.s=Qs (m+3).toNat) (l:Held t.ks (m+4) n):Held (us++[t]) k n:=by
 induction h with
 |nil k=>exact .cons f g i j l (.nil _)
 |cons a b c d e _ _ o=>exact .cons a b c d e (o f g i j l)
abbrev MarkT (t:M.Tm):Prop:=∀{w:World} {K:oK} {D:Nat->Prop} {kv:Value} {css:List (List Value)} {Ds:Nat->Nat->Prop} {k:Int},Z70 w D kv t.ks css Ds->0<=k->k+4*M.szT t.ks t.ks.length<4611686018427387904->
 (∀w' us css',Same D w w'->Z70 w' D kv us css' Ds->us.length=t.ks.length->Held us k (k+4*M.szT t.ks t.ks.length)->K (nI (k+4*M.szT t.ks t.ks.length)) w')->vcall J5 #[kv,nI k] w K
theorem kk0 {us:List M.Tm} {i:Nat} {u:M.Tm} (h:i<us.length):(us.set i u).take (i+1)=us.take i++[u]:=by
 rw[M.take_add (by rw[gI];exact h) default,List.take_set_of_le (gz _),getD_set h,y3 rfl]
theorem markTermS_spec:∀t:M.Tm,MarkT t:=by
 refine M.Tm.ind λt ih=>?_;intro w K D kv css Ds k h h0 hk hK;refine ze {loops:=[(2,[1,5])]} Tryz.func25 ?_;refine vloop_up t.ks.length (λi u w'=>u=[nI (k+4*M.szT t.ks i),nI i]/\Same D w w'/\∃us F,us.length=t.ks.length/\Z70 w' D kv us F Ds/\Held (us.take i) k (k+4*M.szT t.ks i)/\∀j,i<=j->us.getD j default=t.ks.getD j default)
  ⟨by show _=[nI (k+4*((0:Nat):Int)),_];simp,Same.refl _ _,t.ks,css,rfl,h,by rw[pR];show Held [] k (k+4*((0:Nat):Int));simpa using Held.nil k,λj _=>rfl⟩ ?_
 rintro i _ _ w1 C hi ⟨rfl,O,us,d,l,hT,hH,n⟩ hC;have U:=hT;obtain⟨own1,L,f,A,p,g⟩:=U;have o:=own1.sl;have a4:=o.small;simp only[push_cast,o.len,L,l];refine zb (λa=>?_) (λa=>?_)
 .have q:i<t.ks.length:=oM;have a8:=M.szT_succ q;have W:=M.szT_mono (ks:=t.ks) (i:=i+1) (j:=t.ks.length) oM (gz _);have a7:=M.szT_all (t.ks.getD i default);obtain⟨m,hm⟩:∃m:Int,m=k+4*M.szT t.ks i:=⟨_,rfl⟩;have a5:0<=m:=oM;have a6:m+10+4*M.szT (t.ks.getD i default).ks (t.ks.getD i default).ks.length<4611686018427387914:=oM;have B:m+4+4*M.szT (t.ks.getD i default).ks (t.ks.getD i default).ks.length=k+4*M.szT t.ks (i+1):=oM;simp only[<-hm];simp(disch:=exact oS) only[push_cast,o.iaddr];have I:=g i oM;rw[n i (gz _)] at I;obtain⟨kvi,cssi,Dsi,ei,hp⟩:=qu0 I;refine Own.stCell own1 rfl rfl yJ (i:=i) (j:=0) oM dC λw2 r Z a9=>?_;rw[ei] at r;rw[inc_wrap oM oM];refine Own.stCell r rfl rfl yJ (i:=i) (j:=1) (by rw[gI];omega) dC λw3 s a0 aa=>?_;rw[getD_set oM,y3 rfl,PS] at s;rw[inc_wrap oM oM];refine Own.stCell s rfl rfl yJ (i:=i) (j:=2) (by rw[gI];omega) dC λw4 v a1 ab=>?_;rw[getD_set oM,y3 rfl,PS] at v;rw[inc_wrap oM oM,show m+1+1=m+2 by omega,show m+2+1=m+3 by omega];refine markText_int oM oM λw5 H=>?_;have Q:=v.ext H;refine Own.stCell Q rfl rfl Y3 (i:=i) (j:=3) (by rw[gI];omega) dC λw6 c a2 ac=>?_;rw[getD_set oM,y3 rfl,PS] at c;rw[inc_wrap oM oM,show m+3+1=m+4 by omega];rw[show m+1+1=m+2 by omega] at c;replace c:Own 0 5 zl w6 kv (d.set i [nI m,nI (m+1),nI (m+2),.string (Qs (m+3).toNat),kvi]):=c;have V:i<(d.set i [nI m,nI (m+1),nI (m+2),.string (Qs (m+3).toNat),kvi]).length:=by rw[gI];omega
  rw[Sl.ldField c.sl QR V (x:=kvi) (j:=4) (by rw[getD_set oM,y3 rfl];rfl)];have y:Same (λb=>kv.ownBlock=some b) w1 w6:=Z.trans (a0.trans (a1.trans ((Same.of_ext H).trans a2)));have X:=Xr hp y λb z e=>(f b e).2 i oM z;have N:t.ks.getD i default∈t.ks:=M.getD_mem q _;refine ih _ N X oM oM λw7 ui R E Y a3 G=>?_;rw[B] at G⊢;rw[inc64' oM];have T:Same D w1 w7:=(y.mono λb _ e=>(f b e).1).trans (E.mono λb _ e=>p i b oM e);have S:Same (λb=>kv.ownBlock=some b\/Ds i b) w1 w7:=(y.mono λb _ e=> .inl e).trans (E.mono λb _ e=> .inr e);refine hC oM _ _ ⟨rfl,O.trans T,us.set i (.mk m (m+1) (m+2) (Qs (m+3).toNat) ui),d.set i [nI m,nI (m+1),nI (m+2),.string (Qs (m+3).toNat),kvi],by rw[gI];exact l,⟨c.same E λb z e=>(f b z).2 i oM e,by rw[gI,gI];exact L,?_,?_,?_,λj J=>?_⟩,?_,λj J=>?_⟩
  .rw[gI];exact f
  .rw[gI];exact A
  .rw[gI];exact p
  .rw[gI] at J;rw[getD_set oM,getD_set oM];by_cases e:i=j
   .subst e;rw[y3 rfl,y3 rfl];exact Ze0 (t:= .mk m (m+1) (m+2) (Qs (m+3).toNat) ui) Y
   .rw[y0 e,y0 e];refine jB S _ (g j J) λb z hs=>?_;rcases hs with hs|hs
    .exact(f b hs).2 j J z
    .rcases Nat.lt_or_gt_of_ne e with h|h
     .exact A i j b h J hs z
     .exact A j i b h oM z hs
  .rw[kk0 oM];rw[<-hm] at hH;exact j50 hH rfl rfl rfl rfl G
  .rw[getD_set oM,y0 oM];exact n j oM
 .have q:i=t.ks.length:=oM;subst q;rw[<-l,gA,l] at hH;exact hK _ us d O hT l hH
end
end Go.Proofs.YtfjlkobhagjdaaaGreatDoor
namespace Go.Proofs.YtfjlkobhagjdaaaGreatDoor
open Go Go.Vc Go.Proofs Go.M
section
variable {w:World} {K:oK} {F:Nat->Prop} {c:Cnf}
theorem jg0 {xs ys:List Int} (c:xs.length=ys.length) (h:∀j,j<xs.length->xs.getD j 0=ys.getD j 0):xs=ys:=
 gK c λj a b=>by have:=h j a;simpa[y2,a,b] using this
theorem j90 {α:Type} {xs:List α} {i j:Nat} {x d:α} (hi:i<xs.length):(xs.set i x).getD j d=if i=j then x else xs.getD j d:=by
 simp only[y2,List.getElem?_set];by_cases e:i=j
 .subst e;simp[hi]
 .simp[e]
def ZO0 (k n:Nat):List Int:=(List.range n).map λj=>((k+j:Nat):Int)
theorem yZ0 (k n:Nat):(ZO0 k n).length=n:=by simp[ZO0]
theorem x00 {k n j:Nat} (h:j<n):(ZO0 k n).getD j 0=((k+j:Nat):Int):=by
 simp[ZO0,y2,h]
section
variable {w':World}
end
theorem markIntS_specX {v:Value} {xs:List Int} {k:Nat} (x:OwnI zh w v xs) (z:k<=4611686018427387904) (t:xs.length<=1048576)
  (n:∀w',Same (λb=>v.ownBlock=some b) w w'->w'.heap.size=w.heap.size->OwnI zh w' v (ZO0 k xs.length)->K (nI (k+xs.length:Nat)) w'):vcall JY #[v,nI k] w K:=by
 refine ze {loops:=[(2,[1,5])]} Tryz.func26 ?_;refine vloop_up xs.length (λi u w'=>u=[nI (k+i:Nat),nI i]/\Same (λb=>v.ownBlock=some b) w w'/\w'.heap.size=w.heap.size/\∃ys:List Int,ys.length=xs.length/\OwnI zh w' v ys/\∀j,j<i->ys.getD j 0=((k+j:Nat):Int)) ⟨by simp,Same.refl _ _,rfl,xs,rfl,x,oM⟩ ?_;rintro i _ _ w2 C hi ⟨rfl,d,m,ys,o,c,p⟩ r;have f:=c.ints;simp only[push_cast,f.len];refine zb (λa=>?_) (λa=>?_)
 .simp(disch:=exact oS) only[push_cast,f.iaddr];refine c.st yJ oM λA l h y=>?_;have q:IntKind.i64.wrap (((k+i:Nat):Int)+1)=((k+(i+1):Nat):Int):=by rw[zk oM oM];omega
  rw[inc64' oM];refine r oM _ _ ⟨by rw[<-q];simp,d.trans h,oM,_,by rw[gI];exact o,l,λj s=>?_⟩;rw[j90 oM];by_cases e:i=j
  .subst e;rw[y3 rfl];simp
  .rw[y0 e];exact p j oM
 .have g:i=xs.length:=oM;subst g;have:ys=ZO0 k xs.length:=jg0 (by rw[yZ0];exact o) λj s=>by rw[x00 oM];exact p j oM
  rw[<-this] at n;exact n w2 d m c
theorem heldIntS_specX {v:Value} {k n:Nat} (m:Ints F w v (ZO0 k n)) (o:k<=4611686018427387904) (l:n<=1048576) (h:∀w',Ext w w'->K (nI (k+n:Nat)) w'):vcall JZ #[v,nI k] w K:=by
 refine ze {loops:=[(2,[1,5])]} Tryz.func27 ?_;have j:=yZ0 k n;refine vloop_up n (λi u w'=>u=[nI (k+i:Nat),nI i]/\Ext w w') ⟨by simp,Same.refl _ _⟩ ?_;rintro i _ _ w2 C hi ⟨rfl,c⟩ g;have d:=m.ext c;simp only[push_cast,d.len];refine zb (λa=>?_) (λa=>?_)
 .simp(disch:=exact oS) only[push_cast,d.iaddr,d.load];refine zb (λb=>absurd (by rw[x00 oM];simp) b) (λb=>?_);have f:IntKind.i64.wrap (((k+i:Nat):Int)+1)=((k+(i+1):Nat):Int):=by rw[zk oM oM];omega
  rw[inc64' oM];exact g oM _ _ ⟨by rw[<-f];simp,c⟩
 .have e:i=n:=oM;subst e;exact h w2 c
end
end Go.Proofs.YtfjlkobhagjdaaaGreatDoor
section
namespace Go.Proofs.YtfjlkobhagjdaaaGreatDoor
open Go Go.Vc Go.Proofs
open Go.ChangeShapes Go.WideShapes Go.ChangeAt Go.RowKit
section
variable {H:Type} {enc:TypeId×Value->H} {W:World} {cs:List Value} {x:DataW H×List MemPlace} {held:Bool} {fuel:Nat}
theorem terms_in (h:DataW.trod enc P W 0 (λ_=>true) held fuel x7 cs=some x):∃v ks,cs=[v]/\TmsR (λ_=>True) W v ks/\∀k,k∈ks->Qc k=true:=by
 rcases DataW.trod_slice Zv h with⟨rfl,_⟩|⟨a,len,cap,elems,rest,n,_,rfl,_,_,e,hm,f,b,_,_⟩
 .exact⟨_,[],rfl,TmsR.nil,λk c=>by cases c⟩
 .obtain⟨css,ys,hs,j,l,d⟩:=each_in (α:=M.Tm) (R:=λcs t=>TmR (λ_=>True) W cs t/\Qc t=true) yL0 dC e hm f b λcs x g=>term_in _ g;refine⟨_,ys,rfl,⟨css,hs,oM,λi hi=>(d i oM).1⟩,λk c=>?_⟩;obtain⟨i,hi,rfl⟩:=gr c;have:=(d i oM).2;rwa[y2,V0 hi] at this
end
abbrev kidsT (ts:List M.Tm):M.Tm:= .mk 0 0 0 ⟨#[]⟩ ts
end Go.Proofs.YtfjlkobhagjdaaaGreatDoor
end
namespace Go.Proofs.YtfjlkobhagjdaaaGreatDoor
open Go Go.Vc Go.Proofs
section
variable {w:World} {K:oK} {D F F' G:Nat->Prop} {dv tv:Value} {ds:List M.Dcl} {ts:List M.Tm} {at_ an am ar ab:Addr}
theorem core_few (ds:List M.Dcl) (ts:List M.Tm):(VG ds ts).1.length<=8:=by
 unfold VG;split
 .next h=>
  have:=(all8_iff.1 (YN (ds:=ds) (ts:=ts) oM)).1;have:=coreA_len ds ts ts.length;rw[y4];omega
 .simp
theorem FnExactSolveCore_spec (hd:DclsR F w dv ds) (hz:Jp ds) (ht:TmsR F' w tv ts) (hs:∀k,k∈ts->Qc k=true) (er:Er w at_ an am ar ab) (hK:∀w',Ext w w'->K (.bool true) w'):vcall Z2 #[dv,tv] w K:=by
 have bx:=core_few ds ts;refine ze {cuts:=[(53262,[]),(90135,[])]} Tryz.func5 ?_;refine szDeclS_spec dC dC hz hd λw1 r a6 hr=>?_;refine oZ ?_;refine zb (λ_=>hK _ a6) (λc=>?_);rcases hr with h|⟨r0,r1,r2⟩
 .omega
 refine szTermS_of (λk _=>szTerm_spec k) (ht.ext a6) hs r0 r1 λw2 r' ba bc=>?_;have a2:=a6.trans ba;refine oZ ?_;refine zb (λ_=>hK _ a2) (λc'=>?_);rcases bc with h|⟨c2,c3,c4,n⟩
 .omega
 have H:ds.length<=1048576:=oM
 have I:ts.length<=1048576:=oM
 refine Zx (hd.ext a2) H λw3 bv bb b9=>?_;have aj:=a2.trans bb;refine toTermS_of (λk _=>toTerm_spec k) (ht.ext aj) I n λw4 c5 aw bd=>?_;have b8:=aj.trans aw;refine spec_SolveCore_spec hz (b9.ext aw) bd λw6 b7 ax a9 bw=>?_;have a3:=b8.trans ax;have bz:=ax.size;have ay:∀b,b7.ownBlock=some b->b<w6.heap.size:=λb G=>a9.lt G;refine oZ ?_;refine toDeclS_own (hd.ext a3) H λw7 x0 a7 J a0=>?_;have ak:=a3.trans a7;have c0:=a7.size;have a1:∀b,x0.ownBlock=some b->b<w7.heap.size:=λb G=>(J.lt G).2;refine toTermS_own (λk _=>toTerm_own k) (ht.ext ak) I n λw8 x1 bj bu p a5=>?_;have a4:=ak.trans p;have c1:=p.size;refine SolveCore_spec (J.sl.ext p) (Zd0 a5) oM (er.ext a4) λw10 ev i W B=>?_;have ac:=a4.trans i;have bn:=i.size;have z:Ext w6 w10:=a7.trans (p.trans i);refine oZ ?_;refine zo (λu w'=>u=[]/\Ext w10 w') (λC hC=>?_) ?_
 .refine eqIntS_same W.ints (a9.ext z).ints λbf d=>?_;simp only[push_cast,Gn];exact zb (λh=>absurd rfl h) (λ_=>hC _ _ ⟨rfl,d⟩)
 rintro _ _ bf ⟨rfl,d⟩;have N:=ac.trans d;refine Zx (hd.ext N) H λbg bk m ao=>?_;have ad:=N.trans m;have a8:Ext w7 bg:=p.trans (i.trans (d.trans m));refine eqDeclS_same (ds:=ds) (J.sl.ext a8) ao λc6 q=>?_;simp only[push_cast,Gn];have O:=ad.trans q;refine toTermS_of (λk _=>toTerm_spec k) (ht.ext O) I n λbh br s b0=>?_;have ae:=O.trans s;have A:Ext w8 bh:=i.trans (d.trans (m.trans (q.trans s)));refine eqTermS_of (λk _=>yI0 k) ((Zd0 a5).ext A) b0 λb2 t=>?_;simp only[push_cast,Gn];have af:=ae.trans t;have j:=A.trans t;have f:Ext w10 b2:=d.trans (m.trans (q.trans (s.trans t)));have be:=j.size;have b4:=f.size;refine markDeclS_spec ((J.ext p).ext j) dC (by rw[y4];omega) λc7 E=>?_;rw[y4];have bo:=E.size;have al:=Xr (Xr a5 j λ_ _ h=>h) E λb G e=>by have:=a1 _ e;omega
 refine markTermS_spec (kidsT ts) al oM (by show _+4*(M.szT ts ts.length:Int)<_;omega) λL bt b6 Z _ _ _=>?_;have bp:=Z.size;have l:Same (λb=>x0.ownBlock=some b\/(w7.heap.size<=b/\b<w8.heap.size)) b2 L:=(E.mono λ_ _ h=> .inl h).trans (Z.mono λ_ _ h=> .inr h);have ag:Ext w L:=Ext.then af l λy hy=>by
  have:=a3.size;rcases hy with hy|hy
  .have:=a0 y hy;omega
  .omega
 have D:=a9.same ((Same.of_ext (z.trans f)).trans l) λb G e=>by
  have:=ay b G;rcases e with e|e
  .have:=a0 _ e;omega
  .omega
 have o:=W.same ((Same.of_ext f).trans l) λb G e=>by
  have:=B b G;rcases e with e|e
  .have:=a1 _ e;omega
  .omega
 have b5:w10.heap.size<=L.heap.size:=by have:=l.size;omega
 refine zo (λu w'=>u=[]/\Ext L w') (λC hC=>?_) ?_
 .refine oZ ?_;refine zb (λa=>oM) (λ_=>?_);refine eqIntS_same o.ints D.ints λc8 aq=>?_;simp only[push_cast,Gn];exact zb (λh=>absurd rfl h) (λ_=>hC _ _ ⟨rfl,aq⟩)
 rintro _ _ c9 ⟨rfl,v⟩;have ah:=ag.trans v;refine markIntS_specX (k:=1) (o.ext v) oM oM λb3 Y bq X=>?_;have Q:Ext w b3:=Ext.then ah Y λy hy=>by have:=B y hy;have:=a4.size;omega
 have aa:=(D.ext v).same Y λb G e=>by have:=ay b G;have:=B b e;omega
 refine heldIntS_specX (k:=1) X.ints oM oM λca T=>?_;refine oZ ?_;refine zb (λa=>absurd a oM) (λ_=>?_);refine zb (λa=>absurd rfl a) (λ_=>?_);have R:=Q.trans T;refine Zx (hd.ext R) H λcb bl U ap=>?_;have S:=R.trans U;refine toTermS_of (λk _=>toTerm_spec k) (ht.ext S) I n λcc bs x b1=>?_;have ai:=S.trans x;refine SolveCore_spec (ap.ext x) b1 oM (er.ext ai) λbi bm au az _=>?_;have g:Ext b3 bi:=T.trans (U.trans (x.trans au));refine oZ ?_;refine eqIntS_same az.ints (aa.ext g).ints λcd V=>?_;simp only[push_cast,Gn];refine zb (λh=>absurd rfl h) (λ_=>?_);refine heldIntS_specX (k:=1) (X.ext (g.trans V)).ints oM oM λce av=>?_;refine oZ ?_;refine zb (λa=>absurd a oM) (λ_=>?_);refine zb (λa=>absurd rfl a) (λ_=>?_);exact hK _ (Q.trans (g.trans (V.trans av)))
end
end Go.Proofs.YtfjlkobhagjdaaaGreatDoor
section
namespace Go.Proofs.YtfjlkobhagjdaaaGreatDoor
open Go Go.Vc Go.Proofs
open Go.RowKit
theorem laid_at {l:List (String×DataW Unit)} {W:World} (h:laidMet P l W):∀k,laidMet P (l.drop k) W
 |0=>h
 |k+1=>by
  have a:=laid_at h k;rw[<-List.tail_drop];cases b:l.drop k with
  |nil=>rw[b] at a;exact a
  |cons x r=>rw[b] at a;exact a.tail
theorem z60: "*" ++ "errors.errorString" = "*errors.errorString" :=dC
theorem kn0 (u:TypeId) (h:P.typeName? 3 u=some "*errors.errorString"):u=yT:=
 typeName_ptr_named (nm:= "errors.errorString") (by rw[z60];kernel_rfl) rK dC u (by rw[z60];exact h)
def ifaceB (t:TypeId):Bool:=match P.underlying t with
 |some (.interface _)=>true
 |_=>false
theorem kI0 {t:TypeId} (h:ifaceB t=true):∃ms,P.underlying t=some (.interface ms):=by
 unfold ifaceB at h;split at h
 .exact⟨_,by assumption⟩
 .cases h
theorem xn0:∃ms,P.underlying xt=some (.interface ms):=kI0 rK
def fieldB (t u:TypeId):Bool:=match P.underlying t with
 |some (.struct fs)=>match fs.toList with
  |[f]=>decide (f.type=u)&&decide (f.offset=0)
  |_=>false
 |_=>false
theorem kN0 {t u:TypeId} (h:fieldB t u=true):∃f,P.underlying t=some (.struct #[f])/\f.type=u/\f.offset=0:=by
 unfold fieldB at h;split at h
 .rename_i fs a;split at h
  .rename_i f b;simp only[gk,X0] at h;refine⟨f,?_,h⟩;rw[a];congr 2;exact GJ.1 (by simpa using b)
  .cases h
 .cases h
theorem ko0:P.underlying yT=some (.pointer 435):=rK
theorem yo0:∃f,P.underlying 435=some (.struct #[f])/\f.type=yw/\f.offset=0:=kN0 rK
theorem yp0:P.underlying yw=some .string:=rK
theorem Yf0:P.cellsOf 435=1/\P.cellsOf yw=1:=⟨rK,rK⟩
theorem vars_len {H:Type} {enc:TypeId×Value->H} {w:World} {sp:Nat->Bool}:∀{ns:List String} {gs:List (DataW H)} {ps:List MemPlace},DataW.TrodVars enc P w sp ns gs ps->gs.length=ns.length
 |[],[],_,_=>rfl
 |[],_::_,_,h=>h.elim
 |_::_,[],_,h=>h.elim
 |_::_,_::_,_,⟨_,_,_,_,_,_,_,_,_,_,hs,_⟩=>by rw[gF,gF,vars_len hs]
theorem vlist5 {α:Type} {l:List α} (h:l.length=5):∃a b c d e,l=[a,b,c,d,e]:=by
 match l,h with
 |[a,b,c,d,e],_=>exact⟨a,b,c,d,e,rfl⟩
end Go.Proofs.YtfjlkobhagjdaaaGreatDoor
end
section
namespace Go.Proofs.YtfjlkobhagjdaaaGreatDoor
open Go Go.Vc Go.Proofs
open Go.RowKit
theorem XL {x y:String×DataW Unit} {r:List (String×DataW Unit)} {w:World} (h:laidMet P (x::y::r) w):laidMet P (x::r) w:=by
 obtain⟨ps,u,j,c⟩:=h;obtain⟨n,d⟩:=x;obtain⟨m,e⟩:=y;obtain⟨g,t,cs,fuel,p,q,o,a2,a3,a4,s,rfl⟩:=u;obtain⟨g2,t2,f,i,p2,l,_,_,_,_,k,rfl⟩:=s;have a:=pr (pM (MemPlace.row ⟨g,0,none⟩ cs.size++p)) (List.sublist_append_right (MemPlace.row ⟨g2,0,none⟩ f.size++p2) l);exact⟨_,⟨g,t,cs,fuel,p,l,o,a2,a3,a4,k,rfl⟩,List.Nodup.sublist a j,λb off hm=>c b off (a.subset hm)⟩
theorem jD {W:World} {g:Nat} {a c:Addr} (h:Sent W g a) (b:Sent W g c):a=c:=by
 unfold Sent at h b;rw[h] at b
 injection b with b
 injection b with _ b
 injection b with b
 exact K3 b
theorem kX {j k:String} {t0 t1:List UInt8} {r:List (String×DataW Unit)} {W:World} {g0 g1:Nat} (h:laidMet P ((j,.iface "*errors.errorString" (.ptr (.agg [.lit (.string t0)])))::(k,.iface "*errors.errorString" (.ptr (.agg [.lit (.string t1)])))::r) W)
  (c:P.globalNamed j=some g0) (g:(P.globals[g0]?).map (·.type)=some xt) (d:P.globalNamed k=some g1) (i:(P.globals[g1]?).map (·.type)=some xt):∃a b,Sent W g0 a/\Sent W g1 b/\a≠b/\RowA W a/\RowA W b:=by
 obtain⟨ms,hi⟩:=xn0;obtain⟨f,m,n,o⟩:=yo0;obtain⟨a0,l,u,s1,c0,c1,s,t,v0,v1,_,_,_,_,_,_,e,p,q⟩:=laid_sentinels2 h c g d i hi kn0 ko0 m n o yp0 Yf0.1 Yf0.2;exact⟨a0,l,by unfold Sent;simpa using World.var?_cell c v0 0,by unfold Sent;simpa using World.var?_cell d v1 0,e,⟨c0,s,p⟩,⟨c1,t,q⟩⟩
theorem er_of {nr nb nt nn nm:String} {tr tb tt tn tm:List UInt8} {r l:List (String×DataW Unit)} {W:World} (h:laidMet P l W) (k:Nat)
  (B:l.drop k=(nr,.iface "*errors.errorString" (.ptr (.agg [.lit (.string tr)])))::(nb,.iface "*errors.errorString" (.ptr (.agg [.lit (.string tb)])))::(nt,.iface "*errors.errorString" (.ptr (.agg [.lit (.string tt)])))::(nn,.iface "*errors.errorString" (.ptr (.agg [.lit (.string tn)])))::(nm,.iface "*errors.errorString" (.ptr (.agg [.lit (.string tm)])))::r)
  (er:P.globalNamed nr=some xQ) (eb:P.globalNamed nb=some j6) (et:P.globalNamed nt=some yN) (en:P.globalNamed nn=some jh) (em:P.globalNamed nm=some qp)
  (fr:(P.globals[xQ]?).map (·.type)=some xt) (fb:(P.globals[j6]?).map (·.type)=some xt) (ft:(P.globals[yN]?).map (·.type)=some xt) (fn:(P.globals[jh]?).map (·.type)=some xt) (fm:(P.globals[qp]?).map (·.type)=some xt):
  ∃at_ an am ar ab,Er W at_ an am ar ab:=by
 have a:=laid_at h k;rw[B] at a;obtain⟨ar,ab,sr,sb,_,rr,_⟩:=kX a er fr eb fb;have b:=XL a;obtain⟨w,at_,j,st,C,_,rt⟩:=kX b er fr et ft;have q:=XL b;obtain⟨x,an,m,sn,D,_,rn⟩:=kX q er fr en fn;obtain⟨y,am,n,sm,E,_,rm⟩:=kX (XL q) er fr em fm;have c:=b.tail;obtain⟨z,u,o,g,F,_⟩:=kX c et ft en fn;obtain⟨A,s,p,d,G,_⟩:=kX (XL c) et ft em fm;obtain⟨v,t,i,f,n6,_⟩:=kX c.tail en fn em fm;obtain rfl:=jD j sr;obtain rfl:=jD m sr;obtain rfl:=jD n sr;obtain rfl:=jD o st;obtain rfl:=jD p st;obtain rfl:=jD g sn;obtain rfl:=jD i sn;obtain rfl:=jD d sm;obtain rfl:=jD f sm;exact⟨_,_,_,_,ab,st,sn,sm,⟨sr,sb,id,id⟩,rt,rn,rm,rr,λe=>F e.symm,λe=>G e.symm,λe=>n6 e.symm,C,D,E⟩
end Go.Proofs.YtfjlkobhagjdaaaGreatDoor
end
end
