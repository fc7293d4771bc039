import Derived.Test.YtfnpmncplaibiaaGreatDoorWqdP2
import Derived.Laws.IdiomCopy
/- A part of the proof. -/
set_option linter.all false
set_option maxRecDepth 9999
set_option maxHeartbeats 2000000
noncomputable section
namespace Go.Proofs.YtfnpmncplaibiaaGreatDoor
open Go Go.Vc Go.Proofs
section
variable {v0:Value} {w:World} {R:oK}
theorem XX (h:qt zp w λa b=>ZB b λb=>vnil P v0 b λc e=>e=b/\zy yd c 0 b λe f=>f=b/\zu zx e b λf h=>h=b/\vnil P v0 b λh i=>i=b/\zy yd h 0 b λi j=>j=b/\zy zx i 1 b λj k=>k=b/\zu zA j b λk l=>l=b/\vbi .len [zA] zV [k] b λl m=>m=b/\∃I:(oA)->List Value->World->Prop,I (λ_=>False) [undef,undef,undef,undef,undef] b/\∀(d:oA) (u:List Value) (g:Fr) (w_11:World),I d u w_11->(vbi .len [zA] zV [k] w_11 λb m=>b=l/\m=w_11)/\(zu zA j w_11 λb m=>b=k/\m=w_11)/\(zy zx i 1 w_11 λb m=>b=j/\m=w_11)/\(zy yd h 0 w_11 λb m=>b=i/\m=w_11)/\(vnil P v0 w_11 λb m=>b=h/\m=w_11)/\(zu zx e w_11 λb m=>b=f/\m=w_11)/\(zy yd c 0 w_11 λb m=>b=e/\m=w_11)/\(vnil P v0 w_11 λb m=>b=c/\m=w_11)/\(((d 10->False)->vcall jt #[f,l] w_11 λc e=>I (λm=>m=10\/d m) [(sl 0 u),c,(sl 2 u),(sl 3 u),(sl 4 u)] e)/\((d 11->False)->vbuildS zh 1 [(0,(nI 1))] w_11 λc e=>I (λm=>m=11\/d m) [(sl 0 u),(sl 1 u),c,(sl 3 u),(sl 4 u)] e)/\((d 12->False)->d 11->vbuildS zI 1 [(0,(sl 2 u))] w_11 λc e=>I (λm=>m=12\/d m) [(sl 0 u),(sl 1 u),(sl 2 u),c,(sl 4 u)] e)/\((d 13->False)->d 10->d 12->yr zp [(0,(sl 1 u)),(1,(sl 3 u))] w_11 λc e=>e=w_11/\I (λm=>m=13\/d m) [(sl 0 u),(sl 1 u),(sl 2 u),(sl 3 u),c] w_11)/\((d 14->False)->qt zp w_11 λc e=>I (λm=>m=14\/d m) [c,(sl 1 u),(sl 2 u),(sl 3 u),(sl 4 u)] e)/\((d 15->False)->d 14->d 13->d 10->d 10->d 11->d 12->d 13->d 14->zT zp (sl 0 u) (sl 4 u) w_11 λ_ c=>I (λm=>m=15\/d m) [(sl 0 u),(sl 1 u),(sl 2 u),(sl 3 u),(sl 4 u)] c)/\True)/\(d 10->d 11->d 12->d 13->d 14->d 15->vnil P v0 w_11 λc e=>zy yd c 0 e λc e=>zy zx c 1 e λc e=>zu zA c e λc e=>vbi .len [zA] zV [c] e λe f=>Wq [(nI 0)] f λf h _ i=>qG .lss zV false (sl 0 h) e i λe i=>vif e (y6 zA c (sl 0 h) i λc e=>zu zm c e λc e=>qt zm e λe j=>zT zm e c j λ_ c=>ZB c λc=>zy zp (sl 0 u) 1 c λj k=>k=c/\zu zI j c λk l=>l=c/\zu zm e c λl n=>n=c/\vnil P v0 c λn o=>o=c/\zy yd n 0 c λn o=>o=c/\zu zx n c λn o=>o=c/\vcall jt #[n,(sl 0 h)] c λc n=>(zu zm e n λb m=>b=l/\m=n)/\(zu zI j n λb m=>b=k/\m=n)/\(zy zp (sl 0 u) 1 n λb m=>b=j/\m=n)/\qG .add zV true c (nI 1) n λc e=>e=n/\vcall ki #[l,c] n λc e=>(zu zI j e λb m=>b=k/\m=e)/\(zy zp (sl 0 u) 1 e λb m=>b=j/\m=e)/\vbi .append [zI,zI] zI [k,c] e λb c=>zy zp (sl 0 u) 1 c λe j=>j=c/\zT zI e b c λ_ b=>qG .add zV true (sl 0 h) (nI 1) b λb c=>f [b] c) (zu zp (sl 0 u) i λb c=>zT zp a b c λ_ b=>vlv zp a b λa b=>R a b))):vcall kC #[v0] w R:=Xh {ord:=[oz 5 (oR 14) [(0,[2,3,4,5,6,7,8,9,10]),(1,[2,3,4,5,6,7,8,9,10]),(2,[3,4,5,6,7,8,9]),(3,[7]),(4,[7]),(5,[7]),(6,[7])]],loops:=[(3,[26])],pars:=[(1,[0,1,2,3,4,5,6,7,8,9],[10,11,12,13,14,15],[3,16,17,18,19],[(0,[1,2,3,10,13,15]),(1,[2,3,10,13,15]),(2,[3,10,13,15]),(3,[10,13,15]),(4,[5,6,7,8,9,10,13,15]),(5,[6,7,8,9,10,13,15]),(6,[7,8,9,10,13,15]),(7,[8,9,10,13,15]),(8,[9,10,13,15]),(9,[10,13,15])])]} Tryz.func90 rK rK h
end
section
variable {v0 v1 v2:Value} {w:World} {R:oK}
theorem z80 (h:yF0 za v2 w λa b=>zy za a 0 b λb c=>zu zV b c λb c=>Xn zQ v0 b true c λb c=>qI b 0 c λc d=>qI b 1 d λb d=>qL0 (λe=>ZB d λd=>vun .not b d λb f=>f=d/\vif b (R (nI (-1)) d) (zy za a 4 d λb f=>f=d/\zu zl b d λf g=>g=d/\vbi .len [zl] zV [f] d λg h=>h=d/\vinvoke c mn_kids #[] d λd h=>(vbi .len [zl] zV [f] h λi j=>i=g/\j=h)/\(zu zl b h λi j=>i=f/\j=h)/\(zy za a 4 h λi j=>i=b/\j=h)/\qG .neq zV false g d h λb d=>d=h/\vif b (R (nI (-1)) h) (zu za a h λb d=>d=h/\vcall QW #[b] h λb d=>vun .not b d λb f=>f=d/\vif b (R (nI (-1)) d) (e [] d)))) (λ_ _ b=>zy za a 4 b λb d=>zu zl b d λb d=>vbi .len [zl] zV [b] d λd e=>Wq [(oN),(nI 0)] e λe f _ g=>qG .lss zV false (sl 1 f) d g λd g=>vif d (y6 zl b (sl 1 f) g λb d=>zu za b d λb d=>qt za d λd h=>zT za d b h λ_ b=>zu za d b λb d=>vcall jO #[v0,v1,b] d λb d=>qG .eql zV true b (nI (-1)) d λd h=>vif d (R (nI (-1)) h) (vbuildS zh 1 [(0,b)] h λb d=>vbi .append [zh,zh] zh [(sl 0 f),b] d λb d=>qG .add zV true (sl 1 f) (nI 1) d λd h=>e [b,d] h)) (zu za a g λa b=>vinvoke c kj #[v1,a,(sl 0 f)] b λa b=>R a b))):vcall jO #[v0,v1,v2] w R:=Xh {ord:=[oz 2 (oR 15) [(3,[6,7]),(4,[6,7]),(5,[6,7])]],loops:=[(6,[9,38])],cuts:=[(12292,[])]} Tryz.func126 rK rK h
end
section
variable {v0 v1 v2 v3:Value} {w:World} {R:oK}
theorem z60 (h:yF0 za v1 w λa b=>zy za a 0 b λb c=>zu zV b c λb c=>qG .eql zV true b (nI 20) c λc d=>vif c (zy za a 1 d λc e=>zu zV c e λc e=>zy za a 2 e λe f=>zu zV e f λe f=>yr zg [(0,c),(1,e)] f λc e=>vcall YK #[c] e λc e=>R c e) (qG .eql zV true b (nI 21) d λc d=>vif c (zy za a 3 d λc e=>zu yy c e λc e=>R c e) (qG .eql zV true b (nI 24) d λb c=>vif b (R (.string {data:= #[116,114,117,101]}) c) (zy za a 0 c λb c=>zu zV b c λb c=>Xn zQ v0 b false c λb c=>vinvoke b Zg #[] c λb c=>vbuildS yU 1 [(0,b)] c λb c=>qL0 (λd=>zy za a 0 c λc e=>zu zV c e λc e=>qG .eql zV true c (nI 22) e λc e=>vif c (ZB e λc=>zy za a 1 c λf g=>g=c/\zu zV f c λf g=>g=c/\zy za a 2 c λg h=>h=c/\zu zV g c λh i=>i=c/\vcall jc #[f] c λc f=>(zu zV g f λi j=>i=h/\j=f)/\(zy za a 2 f λi j=>i=g/\j=f)/\vcall jc #[h] f λf g=>vbuildS yU 2 [(0,c),(1,f)] g λc f=>vbi .append [yU,yU] yU [b,c] f λc f=>d [c] f) (d [b] e)) (λb _ c=>zy za a 4 c λa c=>zu zl a c λa c=>vbi .len [zl] zV [a] c λc d=>Wq [(sl 0 b),(nI 0)] d λb d _ e=>qG .lss zV false (sl 1 d) c e λc e=>vif c (y6 zl a (sl 1 d) e λa c=>zu za a c λa c=>qt za c λc f=>zT za c a f λ_ a=>zu za c a λa c=>vcall Zb #[v0,a] c λa c=>vbuildS yU 1 [(0,a)] c λa c=>vbi .append [yU,yU] yU [(sl 0 d),a] c λa c=>qG .add zV true (sl 1 d) (nI 1) c λc f=>b [a,c] f) (vcall YI #[(sl 0 d),(.string {data:= #[32]})] e λa b=>qG .add yy true (.string {data:= #[40]}) a b λa b=>qG .add yy true a (.string {data:= #[41]}) b λa b=>R a b)))))):vcall Zb #[v0,v1] w R:=Xh {ord:=[oz 10 [0,1,2,4,5,3,6,7,8,9] [(0,[1,2,4,5,3,6,7]),(1,[4,5]),(2,[4,5]),(4,[3]),(5,[3])]],loops:=[(12,[5,45])],cuts:=[(40971,[5])]} Tryz.func130 rK rK h
theorem VZ (h:yF0 za v2 w λa b=>qt zg b λb c=>zy za a 4 c λc d=>zu zl c d λc d=>vbi .len [zl] zV [c] d λd e=>Wq [(oN),(nI 0)] e λe f _ g=>qG .lss zV false (sl 1 f) d g λd g=>vif d (y6 zl c (sl 1 f) g λc d=>zu za c d λc d=>qt za d λd h=>zT za d c h λ_ c=>zu za d c λc d=>vcall kR #[v0,v1,c,v3] d λc d=>vbuildS xS 1 [(0,c)] d λc d=>vbi .append [xS,xS] xS [(sl 0 f),c] d λc d=>qG .add zV true (sl 1 f) (nI 1) d λd h=>e [c,d] h) (ZB g λc=>zu za a c λd e=>e=c/\zy za a 0 c λe g=>g=c/\zu zV e c λg h=>h=c/\Xn zQ v0 g false c λh i=>i=c/\zu za a c λi j=>j=c/\vcall jO #[v0,v1,d] c λc d=>(zu za a d λj k=>j=i/\k=d)/\(Xn zQ v0 g false d λj k=>j=h/\k=d)/\(zu zV e d λj k=>j=g/\k=d)/\(zy za a 0 d λj k=>j=e/\k=d)/\vinvoke h qM #[v3,i,(sl 0 f)] d λa d=>yr zg [(0,c),(1,a)] d λa c=>c=d/\zT zg b a d λ_ a=>vlv zg b a λa b=>R a b)):vcall kR #[v0,v1,v2,v3] w R:=Xh {ord:=[oz 7 [0,1,2,4,5,6,7,8,9,10,3,11,12,13] [(0,[1,2,4,5,6,7,8,9,10]),(1,[2,4,5,6,7,8,9,10]),(2,[4,5,6,7,8,9,10]),(4,[5,6,8,9,10,3]),(5,[8,9,10,3]),(6,[8,9,10,3]),(7,[8,9,10,3]),(8,[9,10,3]),(9,[10,3]),(10,[3])]],loops:=[(3,[9,15])]} Tryz.func140 rK rK h
end
def qU (v0 v1 v2 v3:Value) (w:World) (R:oK):Prop:=zu yH v2 w λa b=>zu yz v3 b λb c=>vcall qL #[a,b,v0,v1] c λa b=>R a b
theorem Zk {v0 v1 v2 v3 w R} (h:qU v0 v1 v2 v3 w R):vcall Zf #[v0,v1,v2,v3] w R:=Xh {} Tryz.func247 rK rK h
def qT (v0 v1 v2:Value) (w:World) (R:oK):Prop:=yF0 yH v0 w λa b=>vbi .len [zf] zV [v1] b λb c=>vcall K6 #[b] c λb c=>qt zf c λc d=>zT zf c b d λ_ b=>zu yH a b λb d=>vcall X3 #[b,v1,v2] d λb d=>Xm0 b 1 0 d (λb d e _ _ f=>d f λd=>zu yH a d λa d=>zu zf c d λd f=>vcall kD #[a,d,(sl 0 b),(nI (-1))] f λa b=>zT zf c a b λ_ a=>e a) (λa b=>zu zf c b λb d=>xM0 a d λa=>R b a) (λa b=>xM0 a b λa=>R (.slice none 0 0) a) (λa b=>zu zf c b λb c=>xM0 a c λa=>R b a)
def kL:Ann:={ord:=[],loops:=[],cuts:=[]}
theorem XM (v0 v1 v2:Value) (w:World) (R:oK):vx kL 0 ((Tryz.f255.body).getD .skip) (retF Tryz.f255.results.toList R) (retM Tryz.f255.results.toList R) (nthV [v0,v1,v2]) w=qT v0 v1 v2 w R:=rK
theorem XY {v0 v1 v2:Value} {w:World} {R:oK} (h:qT v0 v1 v2 w R):vcall kE #[v0,v1,v2] w R:=
 yr0 (T:=kL) (x:=0) (c:=(Tryz.f255.body).getD .skip) (n:=22) mixed Tryz.func255 rfl rfl rK rK rfl (by rw[XM];exact h)
def Zq (v0 v1:Value) (w:World) (R:oK):Prop:=vun .neg v0 w λa b=>R a b
theorem Jm {v0 v1 w R} (h:Zq v0 v1 w R):vcall Jb #[v0,v1] w R:=Xh {} Tryz.func286 rK rK h
section
variable {w:World} {K:oK} {F:oA}
theorem YC0 (x y:Bool):(Op.equal Y7 (.bool x) (.bool y)).run P w= .ok (x==y) w:=by
 have hu:P.underlying Y7=some .bool:=rK
 have:∀d,(Op.equalIn (d+1) Y7 (.bool x) (.bool y)).run P w= .ok (x==y) w:=λd=>by
  rw[Op.equalIn,Sem.run_bind,run_underlying hu];rfl
 exact this 9999
@[push_cast] theorem vbin_neb (b:Bool) (x y:Bool):qG .neq Y7 b (.bool x) (.bool y) w K=K (.bool (x != y)) w:=
 yq rfl (by simp[binOp,YC0,Result.andThen,bne])
theorem IndexFunc_Lint_int {v f:Value} {vs:List Value} {p:Nat->Bool} (e:Vals F w v vs) (n:∀i,i<vs.length->FnB w f #[vs.getD i undef] (p i))
  (k:∀w',Ext w w'->K (nI (idxI vs.length p)) w'):vcall jW #[v,f] w K:=by
 refine ze {loops:=[(2,[8])]} Tryz.func341 ?_;simp(disch:=exact oS) only[push_cast,e.len];have hlen:vs.length<=9223372036854775807:=by obtain⟨_,_,_,l,s,_⟩:=e.shape;simp at l;omega
 refine vloop_up vs.length (λi u w'=>u=[nI i]/\Ext w w'/\∀j,j<i->p j=false) ⟨rfl,Same.refl _ _,oM⟩ ?_;rintro i _ g w1 C hi ⟨rfl,he,d⟩ m;refine oZ ?_;refine zb (λr=>?_) (λo=>?_)
 .have b:=e.ext he;simp(disch:=exact oS) only[push_cast,b.iaddr,b.load];refine n i oM w1 _ he λw2 a=>zn (λc=>?_) (λc=>?_)
  .have:=k w2 (he.trans a);rwa[idxI_some oM c d] at this
  .simp(disch:=omega) only[push_cast,zk];exact m oM _ _ ⟨by simp,he.trans a,λj q=>by
    by_cases h:j=i
    .subst h;exact c
    .exact d j oM⟩
 .have:=k w1 he;rwa[Kr (λj q=>d j oM)] at this
theorem jq {v f:Value} {vs:List Value} {p:Nat->Bool} (c:Vals F w v vs) (b:∀i,i<vs.length->FnB w f #[vs.getD i undef] (p i))
  (a:∀w',Ext w w'->K (.bool ((List.range vs.length).any p)) w'):vcall jj #[v,f] w K:=by
 refine ze {} Tryz.func319 ?_;refine IndexFunc_Lint_int c b λw' he=>?_;simp only[push_cast,Xf];exact a w' he
end
end Go.Proofs.YtfnpmncplaibiaaGreatDoor
section
namespace Go.M
structure Gt where
 x:Bool
 a:Int
 b:Int
deriving DecidableEq
abbrev Gs:=List Gt
def absI (a:Int):Int:=if a<0 then-a else a
def turnI (c:Bool) (a:Int):Int:=if c then-a else a
def putG (n:Nat) (gs:Gs) (g:Gt):Gs×Int:=
 if g∈gs then(gs,2+n+gs.idxOf g) else if 600<=gs.length then(gs,0) else(gs++[g],2+n+gs.length)
def gateA (a b:Int):Gt:=if absI b<absI a then⟨false,b,a⟩ else⟨false,a,b⟩
def gateX (a b:Int):Gt:=if absI b<absI a then⟨true,absI b,absI a⟩ else⟨true,absI a,absI b⟩
def andG (n:Nat) (gs:Gs) (a b:Int):Gs×Int:=
 if a= -1\/b= -1 then(gs,-1) else if a=1 then(gs,b) else if b=1 then(gs,a) else if a=b then(gs,a) else if a= -b then(gs,-1) else putG n gs (gateA a b)
def xorG (n:Nat) (gs:Gs) (a b:Int):Gs×Int:=
 if absI a=1 then(gs,turnI (decide (a=1)) b) else if absI b=1 then(gs,turnI (decide (b=1)) a) else if a=b then(gs,-1) else if a= -b then(gs,1)
 else((putG n gs (gateX a b)).1,turnI (decide (a<0) != decide (b<0)) (putG n gs (gateX a b)).2)
inductive Bd (α:Type) where
 |ret (a:α)
 |and (x y:Int) (k:Int->Bd α)
 |xor (x y:Int) (k:Int->Bd α)
namespace Bd
def bind {α β:Type}:Bd α->(α->Bd β)->Bd β
 |ret a,f=>f a
 |and x y k,f=>and x y λv=>bind (k v) f
 |xor x y k,f=>xor x y λv=>bind (k v) f
def map {α β:Type} (f:α->β) (p:Bd α):Bd β:=p.bind λa=>ret (f a)
def Reach {α:Type}:Bd α->α->Prop
 |ret a,b=>b=a
 |and _ _ k,b=> ∃v,Reach (k v) b
 |xor _ _ k,b=> ∃v,Reach (k v) b
def run {α:Type} (n:Nat):Bd α->Gs->Option (Gs×α)
 |ret a,gs=>some (gs,a)
 |and x y k,gs=>if(andG n gs x y).2=0 then none else run n (k (andG n gs x y).2) (andG n gs x y).1
 |xor x y k,gs=>if(xorG n gs x y).2=0 then none else run n (k (xorG n gs x y).2) (xorG n gs x y).1
def Out {α:Type} (n:Nat) (p:Bd α) (st st':Option Gs) (a:α):Prop:=
 match st with
 |some gs=>(∃gs',p.run n gs=some (gs',a)/\st'=some gs')\/(p.run n gs=none/\st'=none/\p.Reach a)
 |none=>st'=none/\p.Reach a
theorem bind_assoc {α β γ:Type} (p:Bd α) (f:α->Bd β) (g:β->Bd γ):(p.bind f).bind g=p.bind λa=>(f a).bind g:=by
 induction p with
 |ret a=>rfl
 |and x y k b=>grind [bind]
 |xor x y k b=>grind [bind]
theorem run_bind {α β:Type} {n:Nat} (p:Bd α) (f:α->Bd β) (gs:Gs):(p.bind f).run n gs=(p.run n gs).bind λr=>(f r.2).run n r.1:=by
 induction p generalizing gs with
 |ret a=>rfl
 |and x y k b=>
  grind [bind,run]
 |xor x y k b=>
  grind [bind,run]
theorem reach_bind {α β:Type} {p:Bd α} {f:α->Bd β} {a:α} {b:β} (h:p.Reach a) (g:(f a).Reach b):(p.bind f).Reach b:=by
 induction p with
 |ret c=>cases h;exact g
 |and x y k e=>obtain⟨v,d⟩:=h;exact⟨v,e v d⟩
 |xor x y k e=>obtain⟨v,d⟩:=h;exact⟨v,e v d⟩
theorem reach_of_run {α:Type} {n:Nat} {p:Bd α} {gs gs':Gs} {a:α} (h:p.run n gs=some (gs',a)):p.Reach a:=by
 induction p generalizing gs with
 |ret c=>simp only[run,Gp,Gm] at h;exact h.2.symm
 |and x y k b=>
  simp only[run] at h;split at h
  .cases h
  .exact⟨_,b _ h⟩
 |xor x y k b=>
  simp only[run] at h;split at h
  .cases h
  .exact⟨_,b _ h⟩
theorem Out.reach {α:Type} {n:Nat} {p:Bd α} {st st':Option Gs} {a:α} (h:Out n p st st' a):p.Reach a:=by
 cases st with
 |none=>exact h.2
 |some gs=>
  rcases h with⟨gs',h,_⟩|⟨_,_,h⟩
  .exact reach_of_run h
  .exact h
theorem Out.ret {α:Type} {n:Nat} (a:α) (st:Option Gs):Out n (.ret a) st st a:=by
 cases st with
 |none=>exact⟨rfl,rfl⟩
 |some gs=>exact .inl ⟨gs,rfl,rfl⟩
theorem Out.bind {α β:Type} {n:Nat} {p:Bd α} {f:α->Bd β} {st st' d:Option Gs} {a:α} {b:β} (h:Out n p st st' a) (c:Out n (f a) st' d b):Out n (p.bind f) st d b:=by
 cases st with
 |none=>
  obtain⟨rfl,e⟩:=h;exact⟨c.1,reach_bind e c.2⟩
 |some gs=>
  rcases h with⟨gs',e,rfl⟩|⟨e,rfl,i⟩
  .rcases c with⟨g,c,rfl⟩|⟨c,rfl,i⟩
   .exact .inl ⟨g,by rw[run_bind,e];exact c,rfl⟩
   .exact .inr ⟨by rw[run_bind,e];exact c,rfl,reach_bind (reach_of_run e) i⟩
  .exact .inr ⟨by rw[run_bind,e];rfl,c.1,reach_bind i c.2⟩
theorem Out.map {α β:Type} {n:Nat} {p:Bd α} (f:α->β) {st st':Option Gs} {a:α} (h:Out n p st st' a):Out n (p.map f) st st' (f a):=h.bind (Out.ret _ _)
end Bd
theorem idxOf_pre {gs F:Gs} {g:Gt} (h:gs<+:F) (hm:g∈gs):F.idxOf g=gs.idxOf g:=by
 obtain⟨t,rfl⟩:=h
 grind
theorem put_pre {n:Nat} (gs:Gs) (g:Gt):gs<+:(putG n gs g).1:=by
 grind [putG]
theorem put_again {n:Nat} {gs F:Gs} {g:Gt} (b:(putG n gs g).2≠0) (h:(putG n gs g).1<+:F):putG n F g=(F,(putG n gs g).2):=by
 unfold putG at b h⊢;by_cases hm:g∈gs
 .grind [idxOf_pre]
 .rw[y0 hm] at b h⊢;by_cases c:600<=gs.length
  .grind
  .rw[y0 c] at h⊢;have a:g∈gs++[g]:=(by simp);rw[y3 (h.subset a),idxOf_pre h a,pN,y0 hm];simp
theorem and_pre {n:Nat} (gs:Gs) (a b:Int):gs<+:(andG n gs a b).1:=by
 grind [andG,put_pre]
theorem xor_pre {n:Nat} (gs:Gs) (a b:Int):gs<+:(xorG n gs a b).1:=by
 grind [xorG,put_pre]
theorem and_again {n:Nat} {gs F:Gs} {a b:Int} (c:(andG n gs a b).2≠0) (h:(andG n gs a b).1<+:F):andG n F a b=(F,(andG n gs a b).2):=by
 grind [andG,put_again]
theorem turn_zero {c:Bool} {m:Int}:turnI c m=0↔m=0:=by cases c<;>simp[turnI]
theorem qE0 {n:Nat} {gs F:Gs} {a b:Int} (c:(xorG n gs a b).2≠0) (h:(xorG n gs a b).1<+:F):xorG n F a b=(F,(xorG n gs a b).2):=by
 unfold xorG at c h⊢
 repeat' split at c
 all_goals simp_all
 have:=put_again (n:=n) (g:=gateX a b) (λe=>c (turn_zero.2 e)) h;rw[this];exact⟨rfl,rfl⟩
namespace Bd
theorem run_pre {α:Type} {n:Nat} {p:Bd α} {gs gs':Gs} {a:α} (h:p.run n gs=some (gs',a)):gs<+:gs':=by
 induction p generalizing gs with
 |ret c=>grind [run]
 |and x y k b=>
  grind [run,and_pre]
 |xor x y k b=>
  grind [run,xor_pre]
theorem run_again {α:Type} {n:Nat} {p:Bd α} {gs gs' F:Gs} {a:α} (h:p.run n gs=some (gs',a)) (hF:gs'<+:F):p.run n F=some (F,a):=by
 induction p generalizing gs with
 |ret c=>grind [run]
 |and x y k e=>
  simp only[run] at h⊢;split at h
  .cases h
  .next b=>
   have d:=(run_pre h).trans hF
   grind [and_again]
 |xor x y k e=>
  simp only[run] at h⊢;split at h
  .cases h
  .next b=>
   have d:=(run_pre h).trans hF
   grind [qE0]
end Bd
def has (k:Nat) (m:Int):Prop:=m≠0/\ -(k:Int)<=m/\m<=k
def gateOk (n k:Nat) (g:Gt):Prop:=2<=absI g.a/\absI g.a<absI g.b/\absI g.b<=1+n+k/\(g.x=true->0<g.a/\0<g.b)
structure NetG (n:Nat) (gs:Gs):Prop where
 few:gs.length<=600
 gate:∀k,(h:k<gs.length)->gateOk n k gs[k]
 once:gs.Nodup
theorem has_neg {k:Nat} {m:Int} (h:has k m):has k (-m):=⟨by have:=h.1;omega,by have:=h.2.2;omega,by have:=h.2.1;omega⟩
theorem has_mono {k l:Nat} {m:Int} (h:has k m) (a:k<=l):has l m:=⟨h.1,by have:=h.2.1;omega,by have:=h.2.2;omega⟩
theorem Ws {k:Nat} {m:Int} {c:Bool} (h:has k m):has k (turnI c m):=by cases c;exact h;exact has_neg h
end Go.M
end
section
namespace Go.M
def orB (x y:Int):Bd Int:= .and (-x) (-y) λv=> .ret (-v)
def muxB (c x y:Int):Bd Int:= .and c x λp=> .and (-c) y λq=>orB p q
def sumB:oI->oI->Int->Bd (oI)
 |x::xs,y::ys,c=> .xor x y λh=> .xor h c λs=> .and x y λp=> .and h c λq=>(orB p q).bind λc'=>(sumB xs ys c').map (s:: ·)
 |_,_,_=> .ret []
def lessB:oI->oI->Int->Bd Int
 |x::xs,y::ys,r=> .xor x y λd=>(muxB d y r).bind λr'=>lessB xs ys r'
 |_,_,r=> .ret r
def sameB:oI->oI->Int->Bd Int
 |x::xs,y::ys,r=> .xor x y λd=> .and r (-d) λr'=>sameB xs ys r'
 |_,_,r=> .ret r
def eachB (f:Int->Int->Bd Int):oI->oI->Bd (oI)
 |x::xs,y::ys=>(f x y).bind λs=>(eachB f xs ys).map (s:: ·)
 |_,_=> .ret []
def rowB (s:Int):oI->Bd (oI)
 |x::xs=> .and x s λv=>(rowB s xs).map (v:: ·)
 |[]=> .ret []
def offsL (n:Nat):oI:=List.replicate n (-1)
def mulB (xs:oI):oI->Nat->oI->Bd (oI)
 |y::ys,i,s=>(rowB y (xs.take (xs.length-i))).bind λr=>(sumB s (offsL i++r) (-1)).bind λs'=>mulB xs ys (i+1) s'
 |[],_,s=> .ret s
def negL (xs:oI):oI:=xs.map λx=> -x
def divB (xs wide:oI):Nat->oI->oI->Bd (oI×oI)
 |n+1,r,q=>(lessB (xs.getD n 0::r) wide (-1)).bind λl=>(sumB (xs.getD n 0::r) (negL wide) 1).bind λu=>
   (eachB (muxB l) ((xs.getD n 0::r).take xs.length) (u.take xs.length)).bind λr'=>divB xs wide n r' (q.set n (-l))
 |0,r,q=> .ret (q,r)
def fromL (up:Bool) (fill:Int) (s:oI) (by_ k:Nat):Int:=if up then(if k<by_ then fill else s.getD (k-by_) 0) else if k+by_<s.length then s.getD (k+by_) 0 else fill
def shiftB (up:Bool) (fill:Int):oI->Nat->oI->Bd (oI)
 |c::ys,i,s=>(eachB (muxB c) ((List.range s.length).map (fromL up fill s (2^i))) s).bind λs'=>shiftB up fill ys (i+1) s'
 |[],_,s=> .ret s
def unB (op:Int) (x:oI):Bd (oI):=if op=1 then .ret (negL x) else sumB (offsL x.length) (negL x) 1
def binB (op:Int) (x y:oI):Bd (oI):=
 if op=14 then .ret (y++x)
 else if op=3 then eachB (λa b=> .and a b .ret) x y
 else if op=4 then eachB orB x y
 else if op=5 then eachB (λa b=> .xor a b .ret) x y
 else if op=6 then sumB x y (-1)
 else if op=7 then sumB x (negL y) 1
 else if op=8 then mulB x y 0 (offsL x.length)
 else if op=9 then(divB x (y++[-1]) x.length (offsL x.length) (offsL x.length)).map (·.1)
 else if op=10 then(divB x (y++[-1]) x.length (offsL x.length) (offsL x.length)).map (·.2)
 else if op=11 then shiftB true (-1) y 0 x
 else if op=12 then shiftB false (-1) y 0 x
 else shiftB false (x.getD (x.length-1) 0) y 0 x
def swapT (x y:oI):oI:=x.set (x.length-1) (y.getD (x.length-1) 0)
def cmpB (op:Int) (x y:oI):Bd Int:=
 if op=15 then sameB x y 1 else if op=16 then lessB x y (-1) else lessB (swapT x y) (swapT y x) (-1)
def hasL (k:Nat) (xs:oI):Prop:=∀x,x∈xs->has k x
theorem hasL.mono {k l:Nat} {xs:oI} (h:hasL k xs) (a:k<=l):hasL l xs:=λx b=>has_mono (h x b) a
theorem jB0 {k:Nat} {x:Int} {xs:oI}:hasL k (x::xs)↔has k x/\hasL k xs:=by
 simp_all[hasL]
theorem Uw {k:Nat} {xs ys:oI} (h:hasL k xs) (a:hasL k ys):hasL k (xs++ys):=λx b=>(gk.1 b).elim (h x) (a x)
theorem Jr {k:Nat} {xs:oI} (h:hasL k xs):hasL k (negL xs):=λx a=>by
 obtain⟨y,b,rfl⟩:=gr.1 a;exact has_neg (h y b)
theorem Ks {k n:Nat} {xs:oI} (h:hasL k xs):hasL k (xs.take n):=λx a=>h x (Gc a)
theorem has_one {k:Nat} (h:1<=k):has k 1:=⟨dC,oM,oM⟩
theorem has_mone {k:Nat} (h:1<=k):has k (-1):=⟨dC,oM,oM⟩
theorem Kt {k n:Nat} (h:1<=k):hasL k (offsL n):=λx a=>by rw[GX a];exact has_mone h
theorem hasL_set {k n:Nat} {xs:oI} {y:Int} (h:hasL k xs) (c:has k y):hasL k (xs.set n y):=λx b=>by
 rcases pT b with a|a
 .exact h x a
 grind
theorem XP {k n:Nat} {xs:oI} (h:hasL k xs) (a:n<xs.length) (d:Int):has k (xs.getD n d):=by
 rw[y2,V0 a];exact h _ (G9 a)
section
variable {k:Nat}
theorem from_has {up:Bool} {fill:Int} {s:oI} {b j:Nat} (a:has k fill) (hs:hasL k s) (c:j<s.length):has k (fromL up fill s b j):=by
 grind [fromL,XP]
theorem swap_has {x y:oI} (b:hasL k x) (c:hasL k y) (e:x.length=y.length) (a:x≠[]):hasL k (swapT x y):=by
 have d:0<x.length:=by grind
 exact hasL_set b (XP c oM 0)
end
end Go.M
end
namespace Go.M
open Go.Vc
section
def oneM (t:Tm) (a:Int):Int:=
 if t.op=25 then(if a=0 then 0 else-1) else if a<1 then-1
 else if t.op=22 then(if 0<=t.b/\t.b<=t.a/\t.a<a then t.a-t.b+1 else-1) else a
def bothM (o a b:Int):Int:=
 if o=26\/o=27 then(if a=0/\b=0 then 0 else-1)
 else if a<1\/b<1 then-1
 else if o=14 then(if a+b<=4 then a+b else-1)
 else if a≠b then-1 else if 15<=o then 0 else a
section
variable {ds:List Dcl} {env:oI} {t:Tm}
def kid (t:Tm) (i:Nat):Tm:=t.ks.getD i default
theorem formed_iff:formed t=true↔arity t.op=t.ks.length/\plainM t=true:=by simp[formed]
theorem arity_one {o:Int} (h:arity o=1):o=1\/o=2\/o=22\/o=25:=by
 grind [arity]
theorem arity_two {o:Int} (h:arity o=2):(3<=o/\o<=17)\/o=26\/o=27:=by
 grind [arity]
theorem arity_three {o:Int} (h:arity o=3):o=23:=by
 grind [arity]
theorem arity_zero {o:Int} (h:arity o=0):o=20\/o=21\/o=24:=by
 grind [arity]
theorem ks1 (h:t.ks.length=1):t.ks=[kid t 0]:=by
 unfold kid;generalize t.ks=ks at h⊢
 match ks,h with
 |[x],_=>rfl
theorem ks2 (h:t.ks.length=2):t.ks=[kid t 0,kid t 1]:=by
 unfold kid;generalize t.ks=ks at h⊢
 match ks,h with
 |[x,y],_=>rfl
theorem ks3 (h:t.ks.length=3):t.ks=[kid t 0,kid t 1,kid t 2]:=by
 unfold kid;generalize t.ks=ks at h⊢
 match ks,h with
 |[x,y,z],_=>rfl
theorem kid_mem {i:Nat} (h:i<t.ks.length):kid t i∈t.ks:=getD_mem h _
theorem sort_bad (h: ¬formed t=true):sortM ds t= -1:=by
 rw[sortM_eq];simp_all[sortF]
theorem sort_leaf (a:formed t=true) (h:t.ks.length=0):sortM ds t=sortK ds t []:=by
 simp_all[sortM_eq,sortF]
theorem sort_one (g:declOk ds=true) (f:formed t=true) (h:t.ks.length=1):sortM ds t=oneM t (sortM ds (kid t 0)):=by
 have j:=arity_one (o:=t.op) (by have:=(formed_iff.1 f).1;omega);have i:=sort_range g (kid t 0);rw[sortM_eq,ks1 h];unfold sortF;simp only[GA,Px,gw];generalize sortM ds (kid t 0)=s at i⊢;unfold oneM;by_cases hs:s= -1
 .subst hs;rw[y0 (by simp)];split
  .split<;>omega
  .rfl
 .rw[y3 ⟨f,λe=>hs e.symm⟩];unfold sortK;rw[y0 oM,y0 oM];by_cases c:t.op=25
  .rw[y3 oM,y3 c];by_cases d:s=0
   .simp[d]
   .simp[d]
  rw[y0 oM,y0 c,y0 oM];simp only[pU];by_cases a:t.op=22
  .rw[y3 a,y3 a];by_cases b:s<1
   .rw[y3 b,y0 oM]
   .rw[y0 b]
  .rw[y0 a,y0 a,y3 oM];by_cases b:s<1
   .rw[y3 b,y0 oM]
   .rw[y0 b,y3 oM]
theorem sort_two (d:declOk ds=true) (e:formed t=true) (h:t.ks.length=2):sortM ds t=bothM t.op (sortM ds (kid t 0)) (sortM ds (kid t 1)):=by
 have g:=arity_two (o:=t.op) (by have:=(formed_iff.1 e).1;omega);have f:=sort_range d (kid t 0);have c:=sort_range d (kid t 1);rw[sortM_eq,ks2 h];unfold sortF;simp only[GA,Px,gg,gx,Ge];generalize sortM ds (kid t 0)=a at f⊢;generalize sortM ds (kid t 1)=b at c⊢;unfold bothM;by_cases hs: -1=a\/ -1=b
 .omega
 .rw[y3 ⟨e,hs⟩];unfold sortK
  grind
theorem sort_three (e:formed t=true) (h:t.ks.length=3):sortM ds t=if sortM ds (kid t 0)≠0\/sortM ds (kid t 1)≠sortM ds (kid t 2) then-1 else sortM ds (kid t 1):=by
 have f:=arity_three (o:=t.op) (by have:=(formed_iff.1 e).1;omega);rw[sortM_eq,ks3 h];unfold sortF;simp only[GA,Px,gg,gx,Ge];generalize sortM ds (kid t 0)=a;generalize sortM ds (kid t 1)=b;generalize sortM ds (kid t 2)=c;by_cases hs: -1=a\/ -1=b\/ -1=c
 .rw[y0 (λx=>x.2 hs)];split
  .rfl
  .omega
 .rw[y3 ⟨e,hs⟩];unfold sortK;rw[y0 oM,y0 oM,y0 oM,y3 f];simp only[pU,pr];by_cases d:a=0/\b=c
  .rw[y3 d,y0 oM]
  .rw[y0 d,y3 oM]
theorem kO {i:Nat} (h:i<t.ks.length):(t.ks.map (vecM ds env)).getD i (0,0)=(sortM ds (kid t i),evalM ds env (kid t i)):=by
 rw[getD_map _ h _ default,vecM_pair];rfl
theorem good_kid (h:sortM ds t≠ -1) {i:Nat} (hi:i<t.ks.length):sortM ds (kid t i)≠ -1:=(sort_parts h).2.1 _ (kid_mem hi)
theorem YL (he:envOk ds env=true) (h:sortM ds t≠ -1) {i:Nat} (hi:i<t.ks.length):inS (sortM ds (kid t i)) (evalM ds env (kid t i)):=eval_in he _ (good_kid h hi)
theorem one_good {a:Int} (c:t.op=1\/t.op=2\/t.op=22\/t.op=25) (h:oneM t a≠ -1):(t.op=25->a=0)/\(t.op≠25->1<=a)/\(t.op=22->0<=t.b/\t.b<=t.a/\t.a<a):=by
 grind [oneM]
theorem both_good {o a b:Int} (h:bothM o a b≠ -1):((o=26\/o=27)->a=0/\b=0)/\(¬(o=26\/o=27)->1<=a/\1<=b/\(o=14->a+b<=4)/\(o≠14->a=b)):=by
 grind [bothM]
theorem eval_un (he:envOk ds env=true) (h:sortM ds t≠ -1) (d:t.op=1\/t.op=2):t.ks.length=1/\vok (sortM ds (kid t 0)) (evalM ds env (kid t 0))=true/\evalM ds env t=(vecUn t.op (sortM ds (kid t 0)) (evalM ds env (kid t 0))).1.2:=by
 have c:=(sort_parts h).1;have a:t.ks.length=1:=by grind [formed_iff,arity]
 have hs:=sort_one (env_ok he).1 c a;rw[hs] at h;have e:=one_good oM h;have b:=inS_pos (YL he (by rw[hs];exact h) (i:=0) oM) oM;refine⟨a,b,?_⟩;rw[evalM_eq];unfold valK vecUn;rw[y0 oM,y0 oM,y0 oM,y0 oM,y0 oM,y0 oM,y0 oM,y0 oM,y3 oM,kO oM,y3 ⟨b,d⟩]
theorem eval_cut (he:envOk ds env=true) (h:sortM ds t≠ -1) (g:t.op=22):t.ks.length=1/\vok (sortM ds (kid t 0)) (evalM ds env (kid t 0))=true/\evalM ds env t=(vecCut (sortM ds (kid t 0)) (evalM ds env (kid t 0)) t.a t.b).1.2:=by
 have e:=(sort_parts h).1;have c:t.ks.length=1:=by grind [formed_iff,arity]
 have hs:=sort_one (env_ok he).1 e c;rw[hs] at h;have f:=one_good oM h;have d:=inS_pos (YL he (by rw[hs];exact h) (i:=0) oM) oM;refine⟨c,d,?_⟩;rw[evalM_eq];unfold valK vecCut;rw[y0 oM,y0 oM,y0 oM,y0 oM,y0 oM,y0 oM,y0 oM,y3 oM,kO oM,y3 ⟨d,f.2.2 g⟩]
theorem eval_bin (he:envOk ds env=true) (h:sortM ds t≠ -1) (g:3<=t.op) (j:t.op<=14):t.ks.length=2/\vok (sortM ds (kid t 0)) (evalM ds env (kid t 0))=true/\vok (sortM ds (kid t 1)) (evalM ds env (kid t 1))=true/\evalM ds env t=(vecBin t.op (sortM ds (kid t 0)) (evalM ds env (kid t 0)) (sortM ds (kid t 1)) (evalM ds env (kid t 1))).1.2:=by
 have c:=(sort_parts h).1;have e:t.ks.length=2:=by
  have:=(formed_iff.1 c).1
  grind [arity]
 have hs:=sort_two (env_ok he).1 c e;rw[hs] at h;have d:=(both_good h).2 oM;have f:=inS_pos (YL he (by rw[hs];exact h) (i:=0) oM) oM;have b:=inS_pos (YL he (by rw[hs];exact h) (i:=1) oM) oM;refine⟨e,f,b,?_⟩;rw[evalM_eq];unfold valK vecBin;rw[y0 (show¬t.op=20 by omega),y0 (show¬t.op=21 by omega),y0 (show¬t.op=24 by omega),y0 (show¬t.op=25 by omega),y0 (show¬t.op=26 by omega),y0 (show¬t.op=27 by omega),y0 (show¬t.op=23 by omega),y0 (show¬t.op=22 by omega),y0 (show¬t.op<=2 by omega),kO oM,kO oM,y3 (show vok _ _=true/\vok _ _=true from⟨f,b⟩)];by_cases a:t.op=14
 .rw[y3 a,y3 a,y3 (d.2.2.1 a)]
 .rw[y0 a,y0 a,y0 (show¬15<=t.op by omega),y3 (show 3<=t.op/\t.op<=13/\sortM ds (kid t 0)=sortM ds (kid t 1) from⟨g,oM,d.2.2.2 a⟩)]
theorem eval_cmp (he:envOk ds env=true) (h:sortM ds t≠ -1) (g:15<=t.op) (b:t.op<=17):t.ks.length=2/\vok (sortM ds (kid t 0)) (evalM ds env (kid t 0))=true/\vok (sortM ds (kid t 1)) (evalM ds env (kid t 1))=true/\evalM ds env t=b2i (vecCmp t.op (sortM ds (kid t 0)) (evalM ds env (kid t 0)) (sortM ds (kid t 1)) (evalM ds env (kid t 1))).1:=by
 have c:=(sort_parts h).1;have d:t.ks.length=2:=by
  have:=(formed_iff.1 c).1
  grind [arity]
 have hs:=sort_two (env_ok he).1 c d;rw[hs] at h;have f:=(both_good h).2 oM;have e:=inS_pos (YL he (by rw[hs];exact h) (i:=0) oM) oM;have a:=inS_pos (YL he (by rw[hs];exact h) (i:=1) oM) oM;refine⟨d,e,a,?_⟩;rw[evalM_eq];unfold valK vecCmp;rw[y0 oM,y0 oM,y0 oM,y0 oM,y0 oM,y0 oM,y0 oM,y0 oM,y0 oM,kO oM,kO oM,y0 oM,y3 oM,y3 ⟨e,a,f.2.2.2 oM,g,b⟩]
theorem eval_no (he:envOk ds env=true) (h:sortM ds t≠ -1) (f:t.op=25):t.ks.length=1/\inS 0 (evalM ds env (kid t 0))/\evalM ds env t=1-evalM ds env (kid t 0):=by
 have c:=(sort_parts h).1;have b:t.ks.length=1:=by grind [formed_iff,arity]
 have hs:=sort_one (env_ok he).1 c b;rw[hs] at h;have d:=one_good oM h;have a:=YL he (by rw[hs];exact h) (i:=0) oM;rw[d.1 f] at a;refine⟨b,a,?_⟩;rw[evalM_eq];unfold valK;rw[y0 oM,y0 oM,y0 oM,y3 oM,kO oM];simp only;rcases inS_zero a with e|e<;>rw[e]<;>rfl
theorem eval_two (he:envOk ds env=true) (h:sortM ds t≠ -1) (g:t.op=26\/t.op=27):t.ks.length=2/\inS 0 (evalM ds env (kid t 0))/\inS 0 (evalM ds env (kid t 1))/\evalM ds env t=if t.op=26 then evalM ds env (kid t 0)*evalM ds env (kid t 1) else max (evalM ds env (kid t 0)) (evalM ds env (kid t 1)):=by
 have j:=(sort_parts h).1;have f:t.ks.length=2:=by grind [formed_iff,arity]
 have hs:=sort_two (env_ok he).1 j f;rw[hs] at h;have d:=(both_good h).1 g;have c:=YL he (by rw[hs];exact h) (i:=0) oM;have a:=YL he (by rw[hs];exact h) (i:=1) oM;rw[d.1] at c;rw[d.2] at a;refine⟨f,c,a,?_⟩;rw[evalM_eq];unfold valK;rw[y0 oM,y0 oM,y0 oM,y0 oM,kO oM,kO oM];simp only;rcases g with e|e
 .rw[y3 e,y3 e];rcases inS_zero c with e|e<;>rcases inS_zero a with b|b<;>rw[e,b]<;>rfl
 .rw[y0 oM,y3 e,y0 oM];rcases inS_zero c with e|e<;>rcases inS_zero a with b|b<;>rw[e,b]<;>rfl
theorem eval_if (he:envOk ds env=true) (h:sortM ds t≠ -1) (e:t.op=23):t.ks.length=3/\inS 0 (evalM ds env (kid t 0))/\evalM ds env t=if evalM ds env (kid t 0)=1 then evalM ds env (kid t 1) else evalM ds env (kid t 2):=by
 have c:=(sort_parts h).1;have a:t.ks.length=3:=by grind [formed_iff,arity]
 have hs:=sort_three (ds:=ds) c a;have b:=YL he h (i:=0) oM;rw[hs] at h;have d:sortM ds (kid t 0)=0:=by
  omega
 rw[d] at b;refine⟨a,b,?_⟩;rw[evalM_eq];unfold valK
 grind [kO]
theorem eval_leaf (h:t.op=20\/t.op=21\/t.op=24):evalM ds env t=if t.op=20 then t.b else if t.op=21 then env.getD (findD ds t.s).toNat 0 else 1:=by
 rw[evalM_eq]
 grind [valK]
theorem name_found (h:sortM ds t≠ -1) (a:t.op=21):0<=findD ds t.s:=by
 obtain⟨_,_,hs⟩:=sort_parts h
 grind [sortK]
end
def wordL (o:Int):List UInt8:=
 if o=1 then[110,111,116] else if o=2 then[110,101,103] else if o=3 then[97,110,100] else if o=4 then[111,114] else if o=5 then[120,111,114]
 else if o=6 then[97,100,100] else if o=7 then[115,117,98] else if o=8 then[109,117,108] else if o=9 then[100,105,118] else if o=10 then[114,101,109]
 else if o=11 then[115,104,108] else if o=12 then[115,104,114] else if o=13 then[115,97,114] else if o=14 then[99,97,116] else if o=15 then[115,97,109,101]
 else if o=16 then[108,101,115,115] else if o=17 then[117,110,100,101,114] else if o=22 then[99,117,116] else if o=23 then[105,102] else if o=25 then[110,111]
 else if o=26 then[98,111,116,104] else if o=27 then[97,110,121] else[]
end
end Go.M
section
namespace Go.M
def YT0 (w a:Nat):List Bool:=(List.range w).map λi=>decide (a/2^i%2=1)
theorem bitsN_len (w a:Nat):(YT0 w a).length=w:=by unfold YT0;grind
def insM:List Dcl->oI->List Bool
 |d::ds,n::env=>(YT0 d.2.toNat n.toNat).reverse++insM ds env
 |_,_=>[]
def nameB (ds:List Dcl) (k:Nat):oI:=(List.range ((ds.getD k (nada,0)).2).toNat).map λ(j:Nat)=>2+bits (ds.take k)+(ds.getD k (nada,0)).2-1-j
def fixB (w n:Int):oI:=(List.range w.toNat).map λ(j:Nat)=>if n.toNat/2^j%2=1 then 1 else-1
def nodeB (ds:List Dcl) (t:Tm) (rs:List (oI)):Bd (oI):=
 if t.op=20 then .ret (fixB t.a t.b)
 else if t.op=21 then .ret (nameB ds (findD ds t.s).toNat)
 else if t.op=24 then .ret [1]
 else if t.op=25 then .ret [-((rs.getD 0 []).getD 0 0)]
 else if t.op=26 then .and ((rs.getD 0 []).getD 0 0) ((rs.getD 1 []).getD 0 0) λv=> .ret [v]
 else if t.op=27 then(orB ((rs.getD 0 []).getD 0 0) ((rs.getD 1 []).getD 0 0)).map λv=>[v]
 else if t.op=23 then eachB (muxB ((rs.getD 0 []).getD 0 0)) (rs.getD 1 []) (rs.getD 2 [])
 else if t.op=22 then .ret (((rs.getD 0 []).drop t.b.toNat).take (t.a-t.b+1).toNat)
 else if t.op<=2 then unB t.op (rs.getD 0 [])
 else if 15<=t.op/\t.op<=17 then(cmpB t.op (rs.getD 0 []) (rs.getD 1 [])).map λv=>[v]
 else binB t.op (rs.getD 0 []) (rs.getD 1 [])
def seqB:List (Bd (oI))->Bd (List (oI))
 |p::ps=>p.bind λr=>(seqB ps).map (r:: ·)
 |[]=> .ret []
def termB (ds:List Dcl):Tm->Bd (oI):=Tm.fold λt ps=>(seqB ps).bind (nodeB ds t)
theorem termB_eq (ds:List Dcl) (t:Tm):termB ds t=(seqB (t.ks.map (termB ds))).bind (nodeB ds t):=Tm.fold_eq _ t
theorem bits_cons' (d:Dcl) (ds:List Dcl):bits (d::ds)=d.2+bits ds:=by unfold bits;grind
theorem insM_len:∀{ds:List Dcl} {env:oI},env.length=ds.length->(∀d,d∈ds->0<=d.2)->((insM ds env).length:Int)=bits ds
 |[],env,_,_=>by cases env<;>rfl
 |d::ds,[],a,_=>by simp at a
 |d::ds,n::env,a,b=>by
  have e:=insM_len (ds:=ds) (env:=env) (by grind) λx c=>b x (gm _ c)
  grind [insM,bitsN_len,bits_cons']
theorem bits_pos' {ds:List Dcl}:(∀d,d∈ds->0<=d.2)->0<=bits ds:=by
 induction ds with
 |nil=>intro _;exact Pq _
 |cons d ds a=>
  grind [bits_cons']
section
variable {ds:List Dcl}
theorem dpos (h:declOk ds=true):∀d,d∈ds->0<=d.2:=λd a=>by
 obtain⟨j,b,rfl⟩:=gn a;have:=dcl_wide h b
 grind
theorem bits_le {k:Nat} (h:declOk ds=true) (f:k<ds.length):bits (ds.take k)+(ds.getD k (nada,0)).2<=bits ds/\0<=bits (ds.take k):=by
 have b:=dpos h;have e:bits ds=bits (ds.take k)+bits (ds.drop k):=by
  grind [bits,List.take_append_drop]
 have c:ds.drop k=ds.getD k (nada,0)::ds.drop (k+1):=by
  simp_all
 have d:=bits_pos' (ds:=ds.drop (k+1)) λx a=>b x (G0 a);rw[c,bits_cons'] at e;exact⟨oM,bits_pos' λx a=>b x (Gc a)⟩
theorem name_has {k m:Nat} (h:declOk ds=true) (c:k<ds.length) (hm:1+bits ds<=m):hasL m (nameB ds k):=λx d=>by
 obtain⟨j,a,rfl⟩:=gr.1 d;have b:=gJ.1 a;have:=bits_le h c;exact⟨oM,oM,oM⟩
theorem fix_has {k:Nat} {w n:Int} (b:1<=k):hasL k (fixB w n):=λx a=>by
 obtain⟨j,_,rfl⟩:=gr.1 a
 grind [has_one,has_mone]
end
end Go.M
end
section
namespace Go.M
namespace Bd
theorem reach_inv {α β:Type} {p:Bd α} {f:α->Bd β} {b:β} (h:(p.bind f).Reach b):∃a,p.Reach a/\(f a).Reach b:=by
 induction p with
 |ret a=>exact⟨a,rfl,h⟩
 |and x y k g=>obtain⟨v,e⟩:=h;obtain⟨a,c,d⟩:=g v e;exact⟨a,⟨v,c⟩,d⟩
 |xor x y k g=>obtain⟨v,e⟩:=h;obtain⟨a,c,d⟩:=g v e;exact⟨a,⟨v,c⟩,d⟩
theorem reach_map {α β:Type} {p:Bd α} {f:α->β} {b:β} (h:(p.map f).Reach b):∃a,p.Reach a/\b=f a:=by
 obtain⟨a,c,d⟩:=reach_inv h;exact⟨a,c,d⟩
end Bd
theorem sum_len:∀{xs ys:oI} {c:Int} {r:oI},(sumB xs ys c).Reach r->r.length=min xs.length ys.length
 |[],_,c,r,h=>by cases h;simp
 |_::_,[],c,r,h=>by cases h;simp
 |x::xs,y::ys,c,r,h=>by
  obtain⟨v1,v2,v3,v4,h⟩:=h;obtain⟨c',_,h⟩:=Bd.reach_inv h;obtain⟨b,a,rfl⟩:=Bd.reach_map h;rw[gB,sum_len a,gB,gB];omega
theorem each_len {f:Int->Int->Bd Int}:∀{xs ys:oI} {r:oI},(eachB f xs ys).Reach r->r.length=min xs.length ys.length
 |[],_,r,h=>by cases h;simp
 |_::_,[],r,h=>by cases h;simp
 |x::xs,y::ys,r,h=>by
  obtain⟨s,_,h⟩:=Bd.reach_inv h;obtain⟨b,a,rfl⟩:=Bd.reach_map h;rw[gB,each_len a,gB,gB];omega
theorem row_len {s:Int}:∀{xs:oI} {r:oI},(rowB s xs).Reach r->r.length=xs.length
 |[],r,h=>by cases h;rfl
 |x::xs,r,h=>by
  obtain⟨v,h⟩:=h;obtain⟨b,a,rfl⟩:=Bd.reach_map h;rw[gB,row_len a,gB]
theorem mul_len {xs:oI}:∀{ys:oI} {i:Nat} {s r:oI},i+ys.length<=xs.length->s.length=xs.length->(mulB xs ys i s).Reach r->r.length=xs.length
 |[],i,s,r,_,hs,h=>by cases h;exact hs
 |y::ys,i,s,r,hi,hs,h=>by
  rw[gB] at hi;obtain⟨w,hw,h⟩:=Bd.reach_inv h;obtain⟨d,b,h⟩:=Bd.reach_inv h;have c:=row_len hw;have a:=sum_len b;rw[q0,c,gh] at a;unfold offsL at a;rw[gD] at a;exact mul_len oM oM h
theorem negL_len (xs:oI):(negL xs).length=xs.length:=y4 _
theorem div_len {xs wide:oI} (hw:wide.length=xs.length+1):∀{n:Nat} {r q:oI} {p:oI×oI},r.length=xs.length->q.length=xs.length->(divB xs wide n r q).Reach p->p.1.length=xs.length/\p.2.length=xs.length
 |0,r,q,p,e,d,h=>by cases h;grind
 |n+1,r,q,p,e,d,h=>by
  obtain⟨l,_,h⟩:=Bd.reach_inv h;obtain⟨u,hu,h⟩:=Bd.reach_inv h;obtain⟨f,a,h⟩:=Bd.reach_inv h;have b:=sum_len hu;have c:=each_len a;rw[gB,negL_len] at b;rw[gh,gh,gB] at c;exact div_len hw oM (by grind) h
theorem shift_len {up:Bool} {fill:Int}:∀{ys:oI} {i:Nat} {s r:oI},(shiftB up fill ys i s).Reach r->r.length=s.length
 |[],i,s,r,h=>by cases h;rfl
 |c::ys,i,s,r,h=>by
  obtain⟨d,a,h⟩:=Bd.reach_inv h;have b:=each_len a;rw[y4,GP] at b;rw[shift_len h];omega
theorem offsL_len (n:Nat):(offsL n).length=n:=gD ..
theorem un_len {op:Int} {x r:oI} (h:(unB op x).Reach r):r.length=x.length:=by
 unfold unB at h;split at h
 .cases h;exact negL_len x
 .have:=sum_len h;rw[offsL_len,negL_len] at this;omega
theorem bin_len {op:Int} {x y r:oI} (h:(binB op x y).Reach r) (a:op≠14->x.length=y.length):r.length=if op=14 then x.length+y.length else x.length:=by
 unfold binB at h;by_cases c:op=14
 .rw[y3 c] at h⊢;cases h;grind
 rw[y0 c] at h⊢;have d:=a c
 repeat' split at h
 .have:=each_len h;omega
 .have:=each_len h;omega
 .have:=each_len h;omega
 .have:=sum_len h;omega
 .have:=sum_len h;rw[negL_len] at this;omega
 .exact mul_len oM (offsL_len _) h
 .obtain⟨p,b,rfl⟩:=Bd.reach_map h
  grind [div_len,List.length_append,offsL_len]
 .obtain⟨p,b,rfl⟩:=Bd.reach_map h
  grind [div_len,List.length_append,offsL_len]
 .exact shift_len h
 .exact shift_len h
 .exact shift_len h
theorem nameB_len {ds:List Dcl} {k:Nat}:(nameB ds k).length=((ds.getD k (nada,0)).2).toNat:=by unfold nameB;grind
theorem fixB_len {w n:Int}:(fixB w n).length=w.toNat:=by unfold fixB;grind
def lenS (w:Int):Nat:=(max 1 w).toNat
theorem node_len {ds:List Dcl} {t:Tm} (w:declOk ds=true) (hs:sortM ds t≠ -1) {rs:List (oI)} (z:∀i,i<t.ks.length->(rs.getD i []).length=lenS (sortM ds (kid t i))) {r:oI} (h:(nodeB ds t rs).Reach r):r.length=lenS (sortM ds t):=by
 obtain⟨y,E,q⟩:=sort_parts hs;simp only[formed,gd,X0] at y;obtain⟨C,F⟩:=y;have A:=arity_ops (o:=t.op) oM;have f:∀i,i<t.ks.length->(t.ks.map (sortM ds)).getD i 0=sortM ds (kid t i):=λi hi=>getD_map _ hi _ _;have G:∀i,-1<=sortM ds (kid t i)/\sortM ds (kid t i)<=4:=λi=>sort_range w _;rw[q] at hs⊢;unfold sortK at hs⊢;unfold nodeB at h;by_cases g:t.op=20
 .simp only[g,if_true] at hs h⊢;by_cases hv':vok t.a t.b=true
  .rw[y3 hv'];have:=vok_lt hv';cases h;rw[fixB_len];unfold lenS;omega
  grind
 simp only[y0 g] at hs h⊢;by_cases j:t.op=21
 .simp only[j,if_true] at hs h⊢;have D:=findD_lt ds t.s;by_cases p:findD ds t.s<0
  .omega
  .rw[y0 p];have hw:=dcl_wide w (i:=(findD ds t.s).toNat) oM;cases h;rw[nameB_len];unfold lenS;omega
 simp only[y0 j] at hs h⊢;by_cases m:24<=t.op
 .simp only[y3 m] at hs⊢;by_cases p:(t.ks.map (sortM ds)).any (λx=>decide (x≠0))=true
  .grind
  .rw[y0 p];show r.length=1;rcases(by omega:t.op=24\/t.op=25\/t.op=26\/t.op=27) with e|e|e|e
   .rw[y3 e] at h;cases h;rfl
   .rw[y0 oM,y3 e] at h;cases h;rfl
   .rw[y0 oM,y0 oM,y3 e] at h;obtain⟨v,h⟩:=h;cases h;rfl
   grind [Bd.reach_map]
 simp only[y0 m,y0 (show¬t.op=24 by omega),y0 (show¬t.op=25 by omega),y0 (show¬t.op=26 by omega),y0 (show¬t.op=27 by omega)] at hs h⊢;by_cases l:t.op=23
 .simp only[l,if_true] at hs h⊢;have u:t.ks.length=3:=(by grind [arity]);rw[f 0 oM,f 1 oM,f 2 oM] at hs⊢;by_cases d:sortM ds (kid t 0)=0/\sortM ds (kid t 1)=sortM ds (kid t 2)
  .rw[y3 d];have:=each_len h
   grind
  omega
 simp only[y0 l] at hs h⊢;by_cases k:t.op=22
 .simp only[k,if_true] at hs h⊢;have u:t.ks.length=1:=(by grind [arity]);rw[f 0 oM] at hs⊢;by_cases d:0<=t.b/\t.b<=t.a/\t.a<sortM ds (kid t 0)
  .rw[y3 d];cases h
   grind [lenS]
  omega
 simp only[y0 k] at hs h⊢;by_cases B:t.op<=2
 .grind [un_len]
 simp only[y0 B] at hs h⊢;have u:t.ks.length=2:=by
  grind [arity]
 rw[f 0 oM,f 1 oM] at hs⊢;have H:=z 0 oM;have I:=z 1 oM;by_cases c:t.op=14
 .simp only[c,if_true] at hs⊢;by_cases d:0<sortM ds (kid t 0)/\0<sortM ds (kid t 1)/\sortM ds (kid t 0)+sortM ds (kid t 1)<=4
  .rw[y3 d];rw[y0 oM] at h;have:=bin_len h λe=>absurd c e
   grind [lenS]
  omega
 simp only[y0 c] at hs⊢;by_cases n:15<=t.op
 .simp only[y3 n] at hs⊢;by_cases d:0<sortM ds (kid t 0)/\sortM ds (kid t 0)=sortM ds (kid t 1)
  .rw[y3 d];rw[y3 oM] at h;obtain⟨v,_,rfl⟩:=Bd.reach_map h;rfl
  omega
 grind [bin_len]
theorem seq_reach {f:Tm->Bd (oI)}:∀{ks:List Tm} {rs:List (oI)},(seqB (ks.map f)).Reach rs->rs.length=ks.length/\∀i,i<ks.length->(f (ks.getD i default)).Reach (rs.getD i [])
 |[],rs,h=>by cases h;grind
 |t::ks,rs,h=>by
  obtain⟨r,e,h⟩:=Bd.reach_inv h;obtain⟨d,c,rfl⟩:=Bd.reach_map h;obtain⟨a,b⟩:=seq_reach c
  grind
theorem term_len {ds:List Dcl} (c:declOk ds=true):∀t:Tm,sortM ds t≠ -1->∀{r:oI},(termB ds t).Reach r->r.length=lenS (sortM ds t):=by
 refine Tm.ind λt e hs r h=>?_;rw[termB_eq] at h;obtain⟨rs,a,b⟩:=Bd.reach_inv h;obtain⟨_,d⟩:=seq_reach a;exact node_len c hs (λi hi=>e _ (getD_mem hi _) (good_kid hs hi) (d i hi)) b
end Go.M
end
namespace Go.Proofs.YtfnpmncplaibiaaGreatDoor
open Go Go.Vc Go.Proofs Go.MapKept
section
variable {w:World} {K:oK}
def gv (g:M.Gt):Value:= .agg ⟨[.bool g.x,nI g.a,nI g.b]⟩
theorem XD0 {g h:M.Gt} (e:gv g=gv h):g=h:=by
 cases g;cases h;simp only[gv,Value.agg.injEq,Array.mk.injEq,gP,Value.bool.injEq,Value.int.injEq,gQ,y1] at e;obtain⟨rfl,rfl,rfl⟩:=e;rfl
theorem eqGate (g h:M.Gt) (w:World):(Op.equalIn 10000 zm (gv g) (gv h)).run P w= .ok (decide (g=h)) w:=by
 obtain⟨x,a,b⟩:=g;obtain⟨y,c,d⟩:=h;have o:(P.fieldsOf zm).toList=[(P.fieldsOf zm).getD 0 default,(P.fieldsOf zm).getD 1 default,(P.fieldsOf zm).getD 2 default]:=rK
 have k:((P.fieldsOf zm).getD 0 default).name≠ "_" :=by decide+kernel
 have l:((P.fieldsOf zm).getD 1 default).name≠ "_" :=by decide+kernel
 have m:((P.fieldsOf zm).getD 2 default).name≠ "_" :=by decide+kernel
 have i0:P.underlying ((P.fieldsOf zm).getD 0 default).type=some .bool:=rK
 have i1:P.underlying ((P.fieldsOf zm).getD 1 default).type=some (.int .i64):=rK
 have i2:P.underlying ((P.fieldsOf zm).getD 2 default).type=some (.int .i64):=rK
 have n:∀x y z:Value,(part ((P.fieldsOf zm).getD 0 default).type ⟨[x,y,z]⟩ ((P.fieldsOf zm).getD 0 default).offset).run P w= .ok x w:=λx y z=>rK
 have p1:∀x y z:Value,(part ((P.fieldsOf zm).getD 1 default).type ⟨[x,y,z]⟩ ((P.fieldsOf zm).getD 1 default).offset).run P w= .ok y w:=λx y z=>rK
 have p2:∀x y z:Value,(part ((P.fieldsOf zm).getD 2 default).type ⟨[x,y,z]⟩ ((P.fieldsOf zm).getD 2 default).offset).run P w= .ok z w:=λx y z=>rK
 have i:∀d,(Op.equalIn (d+1) ((P.fieldsOf zm).getD 0 default).type (.bool x) (.bool y)).run P w= .ok (x==y) w:=λd=>by
  rw[Op.equalIn,Sem.run_bind,run_underlying i0];rfl
 unfold gv;rw[run_equalIn_struct w 9999 zm _ _ rK rK,o];generalize (P.fieldsOf zm).getD 0 default=f0 at k i0 n i⊢;generalize (P.fieldsOf zm).getD 1 default=f1 at l i1 p1⊢;generalize (P.fieldsOf zm).getD 2 default=f2 at m i2 p2⊢;simp only[Op.eqFields,y3 k,y3 l,y3 m,Sem.run_bind,n,p1,p2,Result.andThen_ok,i 9998,run_equalIn_int w 9998 _ _ _ _ _ i1,run_equalIn_int w 9998 _ _ _ _ _ i2];by_cases e:x=y
 .by_cases f:a=c
  .by_cases j:b=d
   .subst e;subst f;subst j;simp[p1,p2,run_equalIn_int w 9998 _ _ _ _ _ i1,run_equalIn_int w 9998 _ _ _ _ _ i2]
   .subst e;subst f;simp[p1,p2,run_equalIn_int w 9998 _ _ _ _ _ i1,run_equalIn_int w 9998 _ _ _ _ _ i2,j]
  .subst e;simp[p1,p2,run_equalIn_int w 9998 _ _ _ _ _ i1,run_equalIn_int w 9998 _ _ _ _ _ i2,f]
 .simp[e]
def GMap (w:World) (b:Nat) (f:List (M.Gt×Int)):Prop:= ∃es cl,w.heap[b]?=some (.map es cl)/\Stamped es cl/\es.toList.map (λe=>(e.key,e.val))=f.map λp=>(gv p.1,nI p.2)
theorem GMap.lt {b:Nat} {f:List (M.Gt×Int)} (h:GMap w b f):b<w.heap.size:=by
 obtain⟨es,cl,a,_⟩:=h;exact(gA.1 a).1
theorem GMap.same {b:Nat} {f:List (M.Gt×Int)} {S:oA} {w':World} (h:GMap w b f) (hw:Same S w w') (hs: ¬S b):GMap w' b f:=by
 have a:=h.lt;obtain⟨es,cl,c,r⟩:=h;exact⟨es,cl,(hw.block b a hs).trans c,r⟩
theorem GMap.ext {b:Nat} {f:List (M.Gt×Int)} {w':World} (h:GMap w b f) (hw:Ext w w'):GMap w' b f:=h.same hw id
theorem Ux (g:M.Gt) (e:Bool) (w:World):(Instr.checkKey e 10000 zm (gv g)).run P w= .ok () w:=by
 obtain⟨x,a,b⟩:=g;kernel_rfl
def findP (g:M.Gt):List (M.Gt×Int)->Nat->Option (Nat×Int)
 |[],_=>none
 |p::r,i=>if g=p.1 then some (i,p.2) else findP g r (i+1)
theorem ask_run (g:M.Gt) (w:World):∀(l:List MapEntry) (f:List (M.Gt×Int)) (i:Nat),l.map (λe=>(e.key,e.val))=f.map (λp=>(gv p.1,nI p.2))->
  (Instr.findAsking zm (gv g) l i).run P w= .ok ((findP g f i).map λq=>(q.1,nI q.2)) w
 |[],[],i,_=>rfl
 |[],_::_,_,h=>by simp at h
 |_::_,[],_,h=>by simp at h
 |e::l,p::f,i,h=>by
  simp only[GA,gP,Gm] at h;obtain⟨⟨a,b⟩,d⟩:=h;have j:(Op.equal zm (gv g) e.key).run P w= .ok (decide (g=p.1)) w:=by rw[a];exact eqGate g p.1 w
  simp only[Instr.findAsking,Sem.run_bind,j,Result.andThen_ok,findP];by_cases c:g=p.1
  .rw[y3 (by simpa using c),y3 c];simp[b]
  .rw[y0 (by simpa using c),y0 c];exact ask_run g w l f (i+1) d
theorem gate_struct:∃fs,P.underlying zm=some (.struct fs):=by
 have h:(match P.underlying zm with|some (.struct _)=>true|_=>false)=true:=rK
 split at h
 .next fs e=>exact⟨fs,e⟩
 .cases h
theorem UC (g:M.Gt) (w:World) {l:List MapEntry} {f:List (M.Gt×Int)} (h:l.map (λe=>(e.key,e.val))=f.map (λp=>(gv p.1,nI p.2))):
  (Instr.findKey zm (gv g) l).run P w= .ok ((findP g f 0).map λq=>(q.1,nI q.2)) w:=by
 obtain⟨fs,a⟩:=gate_struct;unfold Instr.findKey;rw[Sem.run_bind,run_underlying a];simp only[Result.andThen_ok];cases l with
 |nil=>
  cases f with
  |nil=>rfl
  |cons p f=>simp at h
 |cons e l=>
  have:Instr.findNow (.struct fs) (gv g) (e::l) 0=none:=(by simp[Instr.findNow,Instr.sameNow]);rw[this];exact ask_run g w (e::l) f 0 h
theorem findP_none {g:M.Gt}:∀{f:List (M.Gt×Int)} {i:Nat},findP g f i=none↔ ∀p,p∈f->p.1≠g
 |[],i=>by simp[findP]
 |p::f,i=>by
  unfold findP;split
  .next e=>exact⟨λh=>(by cases h),λh=>absurd e.symm (h p gi)⟩
  .next e=>rw[findP_none (f:=f)];simp only[gg,forall_eq_or_imp];exact⟨λh=>⟨λa=>e a.symm,h⟩,λh=>h.2⟩
def YG (g:M.Gt) (f:List (M.Gt×Int)):Option Int:=(findP g f 0).map (·.2)
theorem XE0 {k:Option Value} (a:k=none) (c:∀b w',b=w.heap.size->GMap w' b []->Ext w w'->w'.heap.size=w.heap.size+1->K (.map (some b)) w'):Xj0 yb k w K:=by
 subst a;refine⟨.map (some w.heap.size),w.alloc (.map #[] 0),?_,c _ _ rfl ⟨#[],0,(heap_alloc w _).1,stamped_empty 0,rfl⟩ ⟨rfl,rfl,rfl,by simp,λk a _=>(heap_alloc w _).2 k a⟩ (by simp)⟩;simp[Instr.makeMap,newObj,Sem.run]
theorem glook {g:M.Gt} {ok:Bool} {b:Nat} {f:List (M.Gt×Int)} (h:GMap w b f):Xn yb (.map (some b)) (gv g) ok w K=K (match YG g f with|some n=>(if ok then .tuple #[nI n,.bool true] else nI n)|none=>if ok then .tuple #[nI 0,.bool false] else nI 0) w:=by
 obtain⟨es,cl,a,d,he⟩:=h;have hm:P.underlying yb=some (.map zm zV)/\yg zV (nI 0):=⟨qN,xK⟩;refine ya ?_;unfold YG;cases c:findP g f 0 with
 |none=>cases ok<;>simp[Instr.lookup,run_underlying hm.1,MapKept.run_getObj_map a,Ux,UC g w he,c,Yb hm.2,Result.andThen]
 |some p=>cases ok<;>simp[Instr.lookup,run_underlying hm.1,MapKept.run_getObj_map a,Ux,UC g w he,c,Result.andThen]
theorem Yf0 {g:M.Gt} {b:Nat} {f:List (M.Gt×Int)} (h:GMap w b f):Xn yb (.map (some b)) (gv g) true w K=K (match YG g f with|some n=> .tuple #[nI n,.bool true]|none=> .tuple #[nI 0,.bool false]) w:=by
 rw[glook h];cases YG g f<;>rfl
theorem XF0 {g:M.Gt} {b:Nat} {f:List (M.Gt×Int)} (h:GMap w b f):Xn yb (.map (some b)) (gv g) false w K=K (match YG g f with|some n=> nI n|none=> nI 0) w:=by
 rw[glook h];cases YG g f<;>rfl
theorem look_app {g h:M.Gt} {n:Int}:∀{f:List (M.Gt×Int)} {i:Nat},(findP g (f++[(h,n)]) i).map (·.2)=match(findP g f i).map (·.2) with|some m=>some m|none=>if g=h then some n else none
 |[],i=>by simp only[Gg,findP,Option.map_none];split<;>rfl
 |p::f,i=>by
  rw[Gz];unfold findP;split
  .rfl
  .exact look_app (f:=f)
theorem gset {g:M.Gt} {n:Int} {b:Nat} {f:List (M.Gt×Int)} (h:GMap w b f) (i:YG g f=none)
  (m:∀w',GMap w' b (f++[(g,n)])->Same (· =b) w w'->w'.heap.size=w.heap.size->K undef w'):zm0 yb (.map (some b)) (gv g) (nI n) w K:=by
 obtain⟨es,cl,c,j,he⟩:=h;have hm:P.underlying yb=some (.map zm zV):=qN;have d:findP g f 0=none:=by
  unfold YG at i;cases d:findP g f 0 with
  |none=>rfl
  |some p=>rw[d] at i;cases i
 have l:∀x,x∈es.toList->x.key≠gv g:=λx q e=>by
  have a:(x.key,x.val)∈f.map λp=>(gv p.1,nI p.2):=by rw[<-he];exact gr.2 ⟨x,q,rfl⟩
  obtain⟨p,o,k⟩:=gr.1 a;have:gv p.1=gv g:=by rw[<-e];exact congrArg Prod.fst k
  exact findP_none.1 d p o (XD0 this)
 refine⟨(),{w with heap:=w.heap.setIfInBounds b (.map (es.push {key:=gv g,val:= nI n,born:=cl}) (cl+1))},?_,m _ ⟨_,_,(heap_set c).1,stamped_push j l,by simp[he]⟩ (jN c) (by simp)⟩;simp[Instr.mapUpdate,run_underlying hm,MapKept.run_getObj_map c,Ux,UC g w he,d,run_setObj_map _ c,Result.andThen]
end
end Go.Proofs.YtfnpmncplaibiaaGreatDoor
namespace Go.Proofs.YtfnpmncplaibiaaGreatDoor
open Go Go.Vc Go.Proofs
section
variable {w:World} {K:oK} {F F' Fx X:oA}
section
variable {w' w'':World} {F'' S:oA}
theorem Same.thn {S T:oA} {a b c:World} (h:Same S a b) (k:Same T b c) (hs:∀x,T x->S x\/a.heap.size<=x):Same S a c:=
 ⟨k.os.trans h.os,k.tape.trans h.tape,k.output.trans h.output,gH h.size k.size,λi hi d=>
  (k.block i (pE hi h.size) (λe=>(hs i e).elim d λh=>oM)).trans (h.block i hi d)⟩
structure Mv (F:oA) (w:World) (F':oA) (w':World):Prop where
 same:Same F w w'
 new:∀b,F' b->F b\/w.heap.size<=b
theorem Mv.refl:Mv F w F w:=⟨Same.refl _ _,λ_ h=> .inl h⟩
theorem Mv.trans (h:Mv F w F' w') (k:Mv F' w' F'' w''):Mv F w F'' w'':=by
 have hs:=h.same.size;exact⟨Same.thn h.same k.same h.new,λb a=>(k.new b a).elim (h.new b) λh=> .inr oM⟩
theorem Mv.to (h:Mv F w F' w') (k:Same S w' w'') (a:∀b,S b->F' b\/w.heap.size<=b):Mv F w F' w'':=
 ⟨Same.thn h.same k λb c=>(a b c).elim (h.new b) .inr,h.new⟩
theorem Mv.ext (h:Mv F w F' w') (k:Ext w' w''):Mv F w F' w'':=h.to k λ_ h=>h.elim
theorem Mv.off (h:Mv F w F' w') {b:Nat} (c: ¬F b) (e:b<w.heap.size): ¬F' b:=λa=>(h.new b a).elim c λd=>oM
abbrev Off (X F:oA):oA:=λb=> ¬F b/\¬X b
theorem Ints.mv {v:Value} {xs:oI} (h:Ints (Off X F) w v xs) (hm:Mv F w F' w'):Ints (Off X F') w' v xs:=by
 have c:Ints (λb=>(¬F b/\¬X b)/\b<w.heap.size) w v xs:=Ints.weaken h λb a e=>⟨a,e⟩;have d:=Ints.same c hm.same λb a _=>a.1.1;exact Ints.weaken d λb a _=>⟨hm.off a.1.1 a.2,a.1.2⟩
structure NewI (X:oA) (w:World) (F':oA) (w':World) (v:Value) (xs:oI):Prop where
 own:OwnI zf w' v xs
 off:∀b,v.ownBlock=some b->w.heap.size<=b/\¬F' b
 out:∀b,v.ownBlock=some b->¬X b
theorem NewI.mv {v:Value} {xs:oI} (h:NewI X w F' w' v xs) (hm:Mv F' w' F'' w''):NewI X w F'' w'' v xs:=
 ⟨h.own.same hm.same λb a=>(h.off b a).2,λb a=>⟨(h.off b a).1,hm.off (h.off b a).2 (h.own.lt a)⟩,h.out⟩
theorem NewI.ints {v:Value} {xs:oI} (h:NewI X w F' w' v xs):Ints (Off X F') w' v xs:=Ints.weaken h.own.ints λb a _=>⟨(h.off b a).2,h.out b a⟩
theorem NewI.nil:NewI X w F' w' (oN) []:=⟨OwnI.nil,λb a=>(by cases a),λb a=>by cases a⟩
theorem NewI.app1 {ty b:Nat} {v:Value} {xs:oI} {x:Int} {e:TypeId} (h:NewI X w F' w' v xs) (c:Blk w' b [nI x] e) (j:w.heap.size<=w'.heap.size) (hF:∀b,F' b\/X b->b<w'.heap.size) (k:xs.length<=1000000)
  (g:∀v' w'',NewI X w F' w'' v' (xs++[x])->Same (λb=>v.ownBlock=some b) w' w''->K v' w''):vbi .append [zf,zf] ty [v,.slice (some ⟨b,0,none⟩) 1 1] w' K:=by
 refine h.own.app1 yE c oM oM λv' w'' i hs f=>g v' w'' ⟨i,λb c=>?_,λb c=>?_⟩ hs
 .rcases f b c with a|a
  .exact h.off b a
  .exact⟨oM,λd=>by have:=hF b (.inl d);omega⟩
 .rcases f b c with a|a
  .exact h.out b a
  .exact λd=>by have:=hF b (.inr d);omega
def Sent (w:World) (g:Nat) (a:Addr):Prop:=w.cell? ⟨g,0,none⟩=some (.iface yT (.pointer (some a)))
theorem Sent.lt {g:Nat} {a:Addr} (h:Sent w g a):g<w.heap.size:=World.block_lt_of_cell? w _ h
theorem Sent.same {g:Nat} {a:Addr} (h:Sent w g a) (hw:Same S w w') (b: ¬S g):Sent w' g a:=hw.cell b h
theorem Sent.cell {g:Nat} {a:Addr} (h:Sent w g a):w.cell? ⟨g,0,none⟩=some (.iface yT (.pointer (some a))):=h
def erv (a:Addr):Value:= .iface yT (.pointer (some a))
structure Errs (F:oA) (w:World) (ar ab:Addr):Prop where
 room:Sent w xX ar
 bits:Sent w je ab
 off: ¬F xX/\¬F je
theorem Errs.mv {ar ab:Addr} (h:Errs F w ar ab) (hm:Mv F w F' w'):Errs F' w' ar ab:=by
 have c:=h.room.lt;have d:=h.bits.lt;obtain⟨a,b⟩:=h.off;exact⟨h.room.same hm.same a,h.bits.same hm.same b,hm.off a c,hm.off b d⟩
theorem Errs.to {ar ab:Addr} {w0:World} (h:Errs F w ar ab) (a:Errs Fx w0 ar ab) (hs:Same S w w') (c:∀b,S b->w0.heap.size<=b):Errs F w' ar ab:=by
 have d:=a.room.lt;have e:=a.bits.lt;have key:∀b,b<w0.heap.size->¬S b:=λb f hs=>by have:=c b hs;omega
 exact⟨h.room.same hs (key _ d),h.bits.same hs (key _ e),h.off⟩
def yl (g:M.Gt):List Value:=[.bool g.x,nI g.a,nI g.b]
def GatesR (F:oA) (w:World) (v:Value) (gs:M.Gs):Prop:=Sl F w 3 v (gs.map yl)
def OwnG (w:World) (v:Value) (gs:M.Gs):Prop:=Own 0 3 zA w v (gs.map yl)
structure CktR (n:Nat) (bc:Nat) (w:World) (gs:M.Gs) (v:Value) (mb:Nat):Prop where
 blk:Blk w bc [nI n,v,.map (some mb)] yd
 own:OwnG w v gs
 map:∃f,GMap w mb f/\∀g,YG g f=if g∈gs then some (2+n+gs.idxOf g:Int) else none
 sep:bc≠mb/\v.ownBlock≠some bc/\v.ownBlock≠some mb
 few:gs.length<=600/\n<=8
def YH (bc mb:Nat) (v:Value) (b:Nat):Prop:=b=bc\/b=mb\/v.ownBlock=some b
section
variable {n bc mb:Nat} {gs:M.Gs} {v:Value}
theorem CktR.same (h:CktR n bc w gs v mb) (hw:Same S w w') (hs:∀b,YH bc mb v b->¬S b):CktR n bc w' gs v mb:=by
 obtain⟨f,c,d⟩:=h.map;exact⟨h.blk.same hw (hs _ (.inl rfl)),Own.same h.own hw λb a=>hs b (.inr (.inr a)),⟨f,c.same hw (hs _ (.inr (.inl rfl))),d⟩,h.sep,h.few⟩
theorem CktR.ext (h:CktR n bc w gs v mb) (hw:Ext w w'):CktR n bc w' gs v mb:=h.same hw λ_ _ h=>h
theorem CktR.lt (h:CktR n bc w gs v mb) {b:Nat} (a:YH bc mb v b):b<w.heap.size:=by
 obtain⟨f,c,_⟩:=h.map;rcases a with rfl|rfl|a
 .exact h.blk.lt
 .exact c.lt
 .exact(Own.lt h.own a).2
end
structure BdR (n bb:Nat) (ar ab:Addr) (X F:oA) (w:World) (st:Option M.Gs):Prop where
 err:Errs F w ar ab
 blk:∃bc,Blk w bb [oP bc 0,match st with|some _=> .nilIface |none=>erv ar] yL/\∀gs,st=some gs->∃v mb,CktR n bc w gs v mb/\¬YH bc mb v bb/\∀b,YH bc mb v b->F b
 foot:F bb
 lt:∀b,F b\/X b->b<w.heap.size
section
variable {n bb:Nat} {ar ab:Addr} {st:Option M.Gs}
theorem BdR.upd {w0:World} {f:oA} (h:BdR n bb ar ab X F w st) (g:Errs f w0 ar ab) (c:Same S w w') (hs:∀b,S b->w0.heap.size<=b/\¬F b):BdR n bb ar ab X F w' st:=by
 obtain⟨bc,j,k⟩:=h.blk;refine⟨h.err.to g c λb a=>(hs b a).1,⟨bc,j.same c λa=>(hs _ a).2 h.foot,λgs e=>?_⟩,h.foot,λb a=>by have:=h.lt b a;have:=c.size;omega⟩;obtain⟨v,mb,l,i,d⟩:=k gs e;exact⟨v,mb,l.same c λb a m=>(hs b m).2 (d b a),i,d⟩
theorem BdR.ext (h:BdR n bb ar ab X F w st) (hw:Ext w w'):BdR n bb ar ab X F w' st:=h.upd h.err hw λ_ h=>h.elim
end
end
end
section
variable {w:World} {K:oK} {F X:oA} {n bc mb:Nat} {gs:M.Gs} {v:Value}
theorem Blk.ldTake {b:Nat} {us r:List Value} {t0 t:TypeId} (h:Blk w b (us++r) t0) (a:aggB t us.length=true):zu t (oP b 0) w K=K (.agg ⟨us⟩) w:=by
 refine Xo a λi x hi=>?_;rw[yx,gX];refine h.cell ?_;rw[Gj (by have:=(Gk.1 hi).1;exact this)];exact hi
theorem node_spec {l:Int} (b:l.natAbs<=1000000) (a:K (nI (M.absI l)) w):vcall XB #[nI l] w K:=by
 refine ze {} Tryz.func192 ?_;unfold M.absI at a;refine oZ ?_;refine zb (λh=>?_) (λh=>?_)
 .rw[y3 h] at a;simp(disch:=omega) only[push_cast,zk,gO];exact a
 .rw[y0 h] at a;exact a
theorem turned_spec {l:Int} {c:Bool} (b:l.natAbs<=1000000) (a:K (nI (M.turnI c l)) w):vcall Yi #[nI l,.bool c] w K:=by
 refine ze {} Tryz.func315 ?_;refine zn (λh=>?_) (λh=>?_)
 .subst h;simp(disch:=omega) only[push_cast,zk,gO];exact a
 .subst h;exact a
theorem nodes_spec {k:Nat} (e:k<=1000000) (f:n<=1000000) (c:∀w',Ext w w'->K (nI (1+n+k:Int)) w'):vcall jt #[.agg ⟨[nI n,v]⟩,nI k] w K:=by
 refine ze {} Tryz.func132 ?_;refine zj λb w1 d he g a=>?_;simp(disch:=exact oS) only[push_cast,a.ld0,zk];exact c _ he
def Y90 (g:M.Gt):M.Gt:=if M.absI g.b<M.absI g.a then⟨g.x,g.b,g.a⟩ else g
theorem xx0 (gs:M.Gs):(gs.map yl).length=gs.length:=y4 _
theorem gate_spec {g:M.Gt} (h:CktR n bc w gs v mb) (ha:g.a.natAbs<=1000000) (C:g.b.natAbs<=1000000)
  (V:∀w' v',CktR n bc w' (M.putG n gs (Y90 g)).1 v' mb->Same (YH bc mb v) w w'->(∀b,v'.ownBlock=some b->v.ownBlock=some b\/w.heap.size<=b)->K (nI (M.putG n gs (Y90 g)).2) w'):
  vcall X1 #[oP bc 0,gv g] w K:=by
 refine ze {cuts:=[(8195,[])]} Tryz.func314 ?_;refine zj λgb w1 b4 a9 b5 am=>?_;have hf:=h.few;refine zo (λu w'=>Ext w w'/\Blk w' gb (yl (Y90 g)) zm) ?_ ?_
 .intro J hJ;refine zd λw2 W _=>?_;have d:=am.ext W;simp(disch:=exact oS) only[push_cast,d.ld1,d.ld2,y1];refine node_spec ha ?_;simp(disch:=exact oS) only[push_cast,d.ld1,d.ld2,y1,V1];refine node_spec C ?_;simp only[push_cast,y1];refine zb (λc=>?_) (λc=>?_)
  .simp(disch:=exact oS) only[push_cast,d.ld1,d.ld2];refine d.st rfl rfl yW rfl λw3 ax _ an=>?_;refine Blk.st (i:=2) an rfl rfl yW rfl λw4 ay _ ao=>?_;refine hJ _ _ ⟨Ext.then (a9.trans W) (ax.trans ay) λx s=>oM,?_⟩;unfold Y90;rw[y3 c];exact ao
  .refine hJ _ _ ⟨a9.trans W,?_⟩;unfold Y90;rw[y0 c];exact d
 rintro u _ w5 ⟨aq,a3⟩;generalize Y90 g=o at V a3;refine zd λw6 aa _=>?_;have e6:=aq.trans aa;have S:=h.ext e6;have a4:=a3.ext aa;obtain⟨f,ar,E⟩:=S.map;have D:∀w':World,Blk w' gb (yl o) zm->∀K:oK,zu zm (oP gb 0) w' K=K (gv o) w':=λw' hB K=>Blk.ldAgg hB (by exact xO);have t:=E o;have av:=D _ a4;simp(disch:=exact oS) only[push_cast,S.blk.ld2,y1,av,Yf0 ar];by_cases hm:o∈gs
 .rw[y3 hm] at t;simp only[t,push_cast,y1,V1];have e1:M.putG n gs o=(gs,(2+n+gs.idxOf o:Int)):=by unfold M.putG;rw[y3 hm]
  rw[e1] at V;exact V _ _ S (Same.of_ext e6) λb C=> .inl C
 rw[y0 hm] at t;simp only[t,push_cast,y1,V1];have az:=Own.sl S.own;simp(disch:=exact oS) only[push_cast,S.blk.ld1,az.len,xx0];refine zb (λhl=>?_) (λhl=>?_)
 .have e1:M.putG n gs o=(gs,0):=by unfold M.putG;rw[y0 hm,y3 oM]
  rw[e1] at V;exact V _ _ S (Same.of_ext e6) λb C=> .inl C
 have e1:M.putG n gs o=(gs++[o],(2+n+gs.length:Int)):=by unfold M.putG;rw[y0 hm,y0 oM]
 rw[e1] at V;refine zd λw7 X _=>?_;have e7:=e6.trans X;have h7:=S.ext X;have a5:=a4.ext X;have aw:=D _ a5;simp(disch:=exact oS) only[push_cast,h7.blk.ld1,y1,aw];refine qx ji rK ku (y:=yl o) rfl rfl (show 3<=16777216 by decide) λb8 w8 b3 Y b6 ap=>?_;have e8:=e7.trans Y;have h8:=h7.ext Y;have a7:=a5.ext Y;have s8:=e8.size;simp(disch:=exact oS) only[push_cast,h8.blk.ld1,y1,V1];refine Own.app1k (bs:=24) h8.own qE dC ap rfl (λc hc=>by simp only[yl,gg,gx,Ge] at hc;rcases hc with rfl|rfl|rfl<;>rfl) (by rw[xx0];omega) (by rw[xx0];omega) λv' w9 a1 F a0=>?_;have lbc:bc<w.heap.size:=h.lt (.inl rfl);have lmb:mb<w.heap.size:=h.lt (.inr (.inl rfl));have a6:=h8.blk.same F λs=>h.sep.2.1 s;have af: ¬v.ownBlock=some gb:=λs=>by have:=(Own.lt h.own s).2;omega
 have a8:=a7.same F af;refine Blk.st (i:=1) a6 (Sl.cells1 (Own.sl a1)) (Sl.one (Own.sl a1)) QP rfl λw10 p b1 z=>?_;have z:Blk w10 bc [nI n,v',.map (some mb)] yd:=z;have L:v'.ownBlock≠some bc:=λs=>(a0 bc s).elim h.sep.2.1 λh=>oM
 have Q:v'.ownBlock≠some mb:=λs=>(a0 mb s).elim h.sep.2.2 λh=>oM
 have ak:OwnG w10 v' (gs++[o]):=by
  have:=a1.same p λb C s=>L (by rw[<-s];exact C);unfold OwnG;rw[gz];exact this
 have T:=a8.same p (show¬gb=bc by omega);obtain⟨f,ae,E⟩:=h8.map;have ab:=(ae.same F h.sep.2.2).same p (λe=>h.sep.1 e.symm);refine zd λG j _=>?_;have m:=z.ext j;have R:=Own.ext ak j;have A:=T.ext j;have ag:=D _ A;have a2:=Own.sl R;have aj:∀K:oK,zu zx (oP bc 0) G K=K (.agg ⟨[nI n,v']⟩) G:=λK=>Blk.ldTake (us:=[nI n,v']) (r:=[.map (some mb)]) m zY;have au:(List.map yl (gs++[o])).length=gs.length+1:=by rw[xx0,q0];rfl
 have hlen:∀K:oK,vbi .len [zA] zV [v'] G K=K (nI ((gs.length+1:Nat):Int)) G:=λK=>by rw[a2.len qg,au]
 simp(disch:=exact oS) only[push_cast,m.ld1,m.ld2,y1,ag,aj,hlen];rw[show((gs.length:Int)+1)=((gs.length+1:Nat):Int) from by omega];refine nodes_spec oM oM λb7 k=>?_;rw[show(1+(n:Int)+((gs.length+1:Nat):Int))=2+n+gs.length from by omega];have H:=m.ext k;have B:=A.ext k;have ah:=D _ B;simp(disch:=exact oS) only[push_cast,H.ld2,y1,ah,V1];have ac:=ab.ext (j.trans k);have t:YG o f=none:=by rw[E,y0 hm]
 refine gset ac t λb9 ad q b2=>?_;refine zd λb0 l _=>?_;have I:=(H.same q h.sep.1).ext l;have U:=(B.same q (show¬gb=mb by omega)).ext l;have ai:=D _ U;have N:=ad.ext l;have al:OwnG b0 v' (gs++[o]):=Own.ext (Own.same (Own.ext R k) q λb C s=>Q (by rw[<-s];exact C)) l;have O:∀g,YG g (f++[(o,(2+n+gs.length:Int))])=if g∈gs++[o] then some (2+n+(gs++[o]).idxOf g:Int) else none:=λg=>by
  have e:=look_app (g:=g) (h:=o) (n:=(2+n+gs.length:Int)) (f:=f) (i:=0);have e2:=E g;unfold YG at e2⊢;rw[e,e2];by_cases hg:g∈gs
  .rw[y3 hg,y3 (gk.2 (.inl hg)),pN,y3 hg]
  .rw[y0 hg];by_cases ho:g=o
   .subst ho;simp only;rw[y3 trivial,y3 (by simp),pN,y0 hg];simp
   .simp only;rw[y0 ho,y0 (by simp[hg,ho])]
 have Z:=O o;rw[y3 (by simp),pN,y0 hm] at Z;simp only[List.idxOf_cons_self,GW] at Z;simp(disch:=exact oS) only[push_cast,I.ld2,y1,ai,XF0 N,Z,V1];refine V _ v' ⟨I,al,⟨_,N,O⟩,⟨h.sep.1,L,Q⟩,?_,hf.2⟩ ?_ λb C=>(a0 b C).imp id λh=>oM
 .rw[q0];simp;omega
 .refine Same.thn (Same.of_ext e8) ((((F.mono (S':=YH bc mb v) λx _ h=> .inr (.inr h)).trans (p.mono λx _ h=> .inl h)).trans (Same.of_ext (j.trans k))).trans ((q.mono λx _ h=> .inr (.inl h)).trans (Same.of_ext l))) λx s=> .inl s
end
section
variable {w:World} {K:oK} {n bc mb bb:Nat} {gs:M.Gs} {v:Value}
theorem absI_le {a:Int} {m:Nat} (h:a.natAbs<=m):(M.absI a).natAbs<=m:=by unfold M.absI;split<;>omega
theorem Jw {c:Bool} {a:Int}:(M.turnI c a).natAbs=a.natAbs:=by cases c<;>simp[M.turnI]
theorem put_abs {g:M.Gt} (h:gs.length<=600) (a:n<=8):(M.putG n gs g).2.natAbs<=1000:=by
 unfold M.putG;split
 .next hm=>have:=List.idxOf_lt_length_iff.2 hm;show(2+(n:Int)+(gs.idxOf g:Nat)).natAbs<=1000;omega
 .split
  .show(0:Int).natAbs<=1000;decide
  .show(2+(n:Int)+(gs.length:Nat)).natAbs<=1000;omega
theorem kd0 {a b:Int} (h:gs.length<=600) (c:n<=8) (d:a.natAbs<=1000) (e:b.natAbs<=1000):(M.andG n gs a b).2.natAbs<=1000:=by
 unfold M.andG
 repeat' split
 all_goals first|exact put_abs h c|(show(-1:Int).natAbs<=1000;decide)|assumption
theorem qF0 {a b:Int} (h:gs.length<=600) (c:n<=8) (d:a.natAbs<=1000) (e:b.natAbs<=1000):(M.xorG n gs a b).2.natAbs<=1000:=by
 unfold M.xorG
 repeat' split
 all_goals first|(show(-1:Int).natAbs<=1000;decide)|(show(1:Int).natAbs<=1000;decide)|(simp only[Jw];first|exact put_abs h c|assumption)
theorem YX0 (a b:Int):yr zm [(1,nI a),(2,nI b)] w K=K (gv ⟨false,a,b⟩) w:=zS Zl (us:=[[nI a],[nI b]]) rfl rfl
theorem cand_spec {a b:Int} (h:CktR n bc w gs v mb) (f:a.natAbs<=1000) (e:b.natAbs<=1000)
  (d:∀w' v',CktR n bc w' (M.andG n gs a b).1 v' mb->Same (YH bc mb v) w w'->(∀b,v'.ownBlock=some b->v.ownBlock=some b\/w.heap.size<=b)->K (nI (M.andG n gs a b).2) w'):
  vcall XH #[oP bc 0,nI a,nI b] w K:=by
 refine ze {} Tryz.func289 ?_;unfold M.andG at d
 try simp only[push_cast]
 refine zb (λc=>?_) (λc1=>?_)
 .rw[y3 (.inl c)] at d;exact d _ _ h (Same.refl _ _) λb e=> .inl e
 try simp only[push_cast]
 refine zb (λc=>?_) (λc2=>?_)
 .rw[y3 (.inr c)] at d;exact d _ _ h (Same.refl _ _) λb e=> .inl e
 rw[y0 (λh=>h.elim c1 c2)] at d
 try simp only[push_cast]
 refine zb (λc=>?_) (λc=>?_)
 .rw[y3 c] at d;exact d _ _ h (Same.refl _ _) λb e=> .inl e
 rw[y0 c] at d
 try simp only[push_cast]
 refine zb (λc=>?_) (λc=>?_)
 .rw[y3 c] at d;exact d _ _ h (Same.refl _ _) λb e=> .inl e
 rw[y0 c] at d
 try simp only[push_cast]
 refine zb (λc=>?_) (λc=>?_)
 .rw[y3 c] at d;exact d _ _ h (Same.refl _ _) λb e=> .inl e
 rw[y0 c] at d
 try simp(disch:=omega) only[push_cast,zk,gO]
 refine zb (λc=>?_) (λc=>?_)
 .rw[y3 c] at d;exact d _ _ h (Same.refl _ _) λb e=> .inl e
 rw[y0 c] at d;rw[YX0];exact gate_spec h (by show a.natAbs<=_;omega) (by show b.natAbs<=_;omega) d
theorem ZT0 (a b:Int):yr zm [(0,.bool true),(1,nI a),(2,nI b)] w K=K (gv ⟨true,a,b⟩) w:=zS Zl (us:=[[.bool true],[nI a],[nI b]]) rfl rfl
theorem absI_abs (a:Int):M.absI (M.absI a)=M.absI a:=by
 unfold M.absI;by_cases h:a<0
 .rw[y3 h,y0 oM]
 .rw[y0 h,y0 h]
theorem ordX (a b:Int):Y90 ⟨true,M.absI a,M.absI b⟩=M.gateX a b:=by unfold Y90 M.gateX;simp only[absI_abs]
theorem cxor_spec {a b:Int} (h:CktR n bc w gs v mb) (j:a.natAbs<=1000) (e:b.natAbs<=1000)
  (d:∀w' v',CktR n bc w' (M.xorG n gs a b).1 v' mb->Same (YH bc mb v) w w'->(∀b,v'.ownBlock=some b->v.ownBlock=some b\/w.heap.size<=b)->K (nI (M.xorG n gs a b).2) w'):
  vcall XG #[oP bc 0,nI a,nI b] w K:=by
 refine ze {} Tryz.func290 ?_;unfold M.xorG at d;refine node_spec oM ?_
 try simp only[push_cast]
 refine zb (λc=>?_) (λc=>?_)
 .rw[y3 c] at d
  try simp only[push_cast]
  exact turned_spec oM (d _ _ h (Same.refl _ _) λb e=> .inl e)
 rw[y0 c] at d;refine node_spec oM ?_
 try simp only[push_cast]
 refine zb (λc=>?_) (λc=>?_)
 .rw[y3 c] at d
  try simp only[push_cast]
  exact turned_spec oM (d _ _ h (Same.refl _ _) λb e=> .inl e)
 rw[y0 c] at d
 try simp only[push_cast]
 refine zb (λc=>?_) (λc=>?_)
 .rw[y3 c] at d;exact d _ _ h (Same.refl _ _) λb e=> .inl e
 rw[y0 c] at d
 try simp(disch:=omega) only[push_cast,zk,gO]
 refine zb (λc=>?_) (λc=>?_)
 .rw[y3 c] at d;exact d _ _ h (Same.refl _ _) λb e=> .inl e
 rw[y0 c] at d;refine node_spec oM (node_spec oM ?_);rw[ZT0];have k:=put_abs (g:=M.gateX a b) h.few.1 h.few.2;refine gate_spec h (absI_le oM) (absI_le oM) λw' v' f hs i=>?_;rw[ordX] at f⊢
 try simp only[push_cast]
 refine turned_spec (l:=(M.putG n gs (M.gateX a b)).2) oM ?_;exact d _ _ f hs i
theorem jc0:qG .eql xw true .nilIface .nilIface w K=K (.bool true) w:=yq rK rK
theorem YV:qG .neq xw true .nilIface .nilIface w K=K (.bool false) w:=yq rK rK
theorem YO0 {a:Addr}:qG .eql xw true (erv a) .nilIface w K=K (.bool false) w:=yq rK rK
theorem UW {a:Addr}:qG .neq xw true (erv a) .nilIface w K=K (.bool true) w:=yq rK rK
theorem KI {p e:Value} (a:K (.tuple #[]) w):vcall kf #[p,.bool false,e] w K:=by
 refine ze {} Tryz.func245 ?_;refine oZ ?_;exact a
theorem ZA0 {p:Value} {a:Addr} (c:Blk w bb [p,.nilIface] yL) (d:∀w',Same (· =bb) w w'->Blk w' bb [p,erv a] yL->K (.tuple #[]) w'):
  vcall kf #[oP bb 0,.bool true,erv a] w K:=by
 refine ze {} Tryz.func245 ?_;simp(disch:=exact oS) only[push_cast,c.ld1,jc0];refine Blk.st (i:=1) c rfl rfl Yp0 rfl λw' hs _ b=>d w' hs b
end
section
variable {w:World} {K:oK} {F F' X:oA} {n bc mb bb:Nat} {gs:M.Gs} {v:Value} {ar ab:Addr} {st:Option M.Gs}
theorem BdR.pre {w':World} {bc mb:Nat} {gs gs':M.Gs} {v v':Value} (h:BdR n bb ar ab X F w (some gs)) (g:Blk w bb [oP bc 0,.nilIface] yL) (d: ¬YH bc mb v bb) (hF:∀b,YH bc mb v b->F b)
  (i:CktR n bc w' gs' v' mb) (hs:Same (YH bc mb v) w w') (j:∀b,v'.ownBlock=some b->v.ownBlock=some b\/w.heap.size<=b):
  BdR n bb ar ab X (λb=>F b\/v'.ownBlock=some b) w' (some gs')/\Mv F w (λb=>F b\/v'.ownBlock=some b) w':=by
 have hm:Mv F w (λb=>F b\/v'.ownBlock=some b) w':=⟨hs.mono λx _ a=>hF x a,λb c=>c.elim .inl λc=>(j b c).imp (λh=>hF b (.inr (.inr h))) id⟩;refine⟨⟨h.err.mv hm,⟨bc,g.same hs d,λk e=>?_⟩,.inl h.foot,λb c=>?_⟩,hm⟩
 .cases e;refine⟨v',mb,i,?_,?_⟩
  .rintro(a|a|a)
   .exact d (.inl a)
   .exact d (.inr (.inl a))
   .rcases j _ a with f|f
    .exact d (.inr (.inr f))
    .have:=g.lt;omega
  .rintro b (a|a|a)
   .exact .inl (hF b (.inl a))
   .exact .inl (hF b (.inr (.inl a)))
   .exact .inr a
 .rcases c with(c|c)|c
  .have:=h.lt b (.inl c);have:=hs.size;omega
  .exact i.lt (.inr (.inr c))
  .have:=h.lt b (.inr c);have:=hs.size;omega
theorem made_spec {s:Int} (h:BdR n bb ar ab X F w (some gs)) (d:∀w',BdR n bb ar ab X F w' (if s=0 then none else some gs)->Mv F w F w'->K (nI (if s=0 then-1 else s)) w'):
  vcall X4 #[oP bb 0,nI s] w K:=by
 refine ze {} Tryz.func288 ?_;obtain⟨bc,f,j⟩:=h.blk;simp only at f;simp only[push_cast,y5 xt h.err.room.cell];by_cases hs:s=0
 .rw[y3 hs,y3 hs] at d;rw[gu hs];refine ZA0 f λw' c a=>?_;have hm:Mv F w F w':=⟨c.mono λx _ i=>i▸h.foot,λb g=> .inl g⟩;simp(disch:=exact oS) only[push_cast,a.ld1,UW];exact d _ ⟨h.err.mv hm,⟨bc,a,λ_ e=>by cases e⟩,h.foot,λb g=>by have:=h.lt b g;have:=c.size;omega⟩ hm
 .rw[y0 hs,y0 hs] at d;rw[gj hs];refine KI ?_;simp(disch:=exact oS) only[push_cast,f.ld1,YV];exact d _ h Mv.refl
abbrev Sm (x:Int):Prop:=x.natAbs<=1000
theorem bout {x y s:Int} {p:M.Bd Int} {a:M.Gs} (b:p.run n gs=if s=0 then none else some (a,s)) (c:p.Reach (-1)):M.Bd.Out n p (some gs) (if s=0 then none else some a) (if s=0 then-1 else s):=by
 by_cases hs:s=0
 .rw[y3 hs] at b;rw[y3 hs,y3 hs];exact .inr ⟨b,rfl,c⟩
 .rw[y0 hs] at b;rw[y0 hs,y0 hs];exact .inl ⟨a,b,rfl⟩
theorem qS {x y:Int} (h:BdR n bb ar ab X F w st) (k:Sm x) (l:Sm y)
  (j:∀w' F' st' r,BdR n bb ar ab X F' w' st'->Mv F w F' w'->Sm r->M.Bd.Out n (.and x y .ret) st st' r->K (nI r) w'):
  vcall XJ #[oP bb 0,nI x,nI y] w K:=by
 refine ze {} Tryz.func252 ?_;obtain⟨bc,a,p⟩:=h.blk;cases st with
 |none=>
  simp only at a;simp(disch:=exact oS) only[push_cast,a.ld1,UW];exact j _ _ none (-1) h Mv.refl dC ⟨rfl,-1,rfl⟩
 |some gs=>
  simp only at a;obtain⟨v,mb,c,b,hF⟩:=p gs rfl;simp(disch:=exact oS) only[push_cast,a.ld0,a.ld1,YV];refine cand_spec c k l λw1 v1 d i g=>?_;obtain⟨m,e⟩:=h.pre a b hF d i g;have q:=kd0 (n:=n) c.few.1 c.few.2 k l;refine made_spec m λw2 o f=>j _ _ _ _ o (e.trans f) ?_ (bout (x:=x) (y:=y) rfl ⟨-1,rfl⟩);split
  .decide
  .exact q
theorem Y5 {x y:Int} (h:BdR n bb ar ab X F w st) (k:Sm x) (l:Sm y)
  (j:∀w' F' st' r,BdR n bb ar ab X F' w' st'->Mv F w F' w'->Sm r->M.Bd.Out n (.xor x y .ret) st st' r->K (nI r) w'):
  vcall XI #[oP bb 0,nI x,nI y] w K:=by
 refine ze {} Tryz.func254 ?_;obtain⟨bc,a,p⟩:=h.blk;cases st with
 |none=>
  simp only at a;simp(disch:=exact oS) only[push_cast,a.ld1,UW];exact j _ _ none (-1) h Mv.refl dC ⟨rfl,-1,rfl⟩
 |some gs=>
  simp only at a;obtain⟨v,mb,c,b,hF⟩:=p gs rfl;simp(disch:=exact oS) only[push_cast,a.ld0,a.ld1,YV];refine cxor_spec c k l λw1 v1 d i g=>?_;obtain⟨m,e⟩:=h.pre a b hF d i g;have q:=qF0 (n:=n) c.few.1 c.few.2 k l;refine made_spec m λw2 o f=>j _ _ _ _ o (e.trans f) ?_ (bout (x:=x) (y:=y) rfl ⟨-1,rfl⟩);split
  .decide
  .exact q
theorem xI {α:Type} {x y r:Int} {k:Int->M.Bd α} {a:α} {st st' b:Option M.Gs} (h:M.Bd.Out n (.and x y .ret) st st' r) (c:M.Bd.Out n (k r) st' b a):M.Bd.Out n (.and x y k) st b a:=M.Bd.Out.bind (f:=k) h c
theorem ky {α:Type} {x y r:Int} {k:Int->M.Bd α} {a:α} {st st' b:Option M.Gs} (h:M.Bd.Out n (.xor x y .ret) st st' r) (c:M.Bd.Out n (k r) st' b a):M.Bd.Out n (.xor x y k) st b a:=M.Bd.Out.bind (f:=k) h c
theorem bor_spec {x y:Int} (h:BdR n bb ar ab X F w st) (i:Sm x) (j:Sm y)
  (d:∀w' F' st' r,BdR n bb ar ab X F' w' st'->Mv F w F' w'->Sm r->M.Bd.Out n (M.orB x y) st st' r->K (nI r) w'):
  vcall Qp #[oP bb 0,nI x,nI y] w K:=by
 refine ze {} Tryz.func253 ?_;simp(disch:=omega) only[push_cast,zk,gO];refine qS h (by unfold Sm at*;omega) (by unfold Sm at*;omega) λw1 g f k c a e b=>?_;simp(disch:=omega) only[push_cast,zk,gO];exact d _ _ _ _ c a (by unfold Sm at*;omega) (xI b (M.Bd.Out.ret _ _))
theorem bmux_spec {c x y:Int} (h:BdR n bb ar ab X F w st) (q:Sm c) (s:Sm x) (t:Sm y)
  (p:∀w' F' st' r,BdR n bb ar ab X F' w' st'->Mv F w F' w'->Sm r->M.Bd.Out n (M.muxB c x y) st st' r->K (nI r) w'):
  vcall qL #[oP bb 0,nI c,nI x,nI y] w K:=by
 refine ze {} Tryz.func248 ?_;refine qS h q s λw1 z u B l a i e=>?_;simp(disch:=omega) only[push_cast,zk,gO];refine qS l (by unfold Sm at*;omega) t λw2 F2 st2 C m b j f=>?_;refine bor_spec m i j λE A v D o d k g=>?_;exact p _ _ _ _ o (a.trans (b.trans d)) k (xI e (xI f g))
end
end Go.Proofs.YtfnpmncplaibiaaGreatDoor
section
namespace Go.Vc
open Go
section
variable {w w':World} {K:oK} {F:oA} {t:TypeId} {v:Value}
theorem Sl.cutLH {k lo hi:Nat} {xs:List (List Value)} {kl kh:IntKind} (h:Sl F w k v xs) (r:elB t k=true) (y:lo<=hi) (l:hi<=xs.length) (m:∀v',Sl F w k v' ((xs.drop lo).take (hi-lo))->K v' w'):
  xf t v (some (.int kl lo)) (some (.int kh hi)) none w' K:=by
 obtain⟨hu,hs⟩:=YM r;obtain⟨⟨a,c,rfl,u,p,d⟩,hw⟩:=h;have hlen:((xs.drop lo).take (hi-lo)).length=hi-lo:=by rw[gh,GU];omega
 refine⟨_,w',?_,m (sliced a lo hi c k) ⟨⟨_,c-lo,by unfold sliced;rw[hlen],oM,oM,λj=>?_⟩,λx s=>hw x (G0 (Gc s))⟩⟩
 .rw[run_sliceAt_slice w' t _ _ _ _ hu,run_slice_lh w' t _ _ _ hu kl kh lo hi oM oM oM,run_sizeOf hs];simp[Result.andThen]
 .have q:lo<hi:=by
   have:0<((xs.drop lo).take (hi-lo)).length:=GB.2 j;omega
  obtain⟨b,o,rfl,hF,n,g⟩:=d (λe=>by rw[e] at l;simp at l;omega);refine⟨b,o+lo*k,?_,hF,n,λi f=>?_⟩
  .rw[y0 oM];simp[yx]
  .rw[hlen] at f;have:=g (lo+i) oM;rw[show o+lo*k+i*k=o+(lo+i)*k by rw[GZ];omega];rwa[y2,List.getElem?_take_of_lt f,pc,<-y2]
theorem Vals.cutLH {lo hi:Nat} {vs:List Value} {kl kh:IntKind} (h:Vals F w v vs) (e:elB t 1=true) (d:lo<=hi) (c:hi<=vs.length) (b:∀v',Vals F w v' ((vs.drop lo).take (hi-lo))->K v' w'):
  xf t v (some (.int kl lo)) (some (.int kh hi)) none w' K:=by
 refine Sl.cutLH h e d (by simpa using c) λv' a=>b v' ?_;unfold Vals;rw[GH,Po];exact a
theorem Ints.cutLH {lo hi:Nat} {xs:oI} {kl kh:IntKind} (h:Ints F w v xs) (e:elB t 1=true) (d:lo<=hi) (c:hi<=xs.length) (b:∀v',Ints F w v' ((xs.drop lo).take (hi-lo))->K v' w'):
  xf t v (some (.int kl lo)) (some (.int kh hi)) none w' K:=by
 refine Vals.cutLH h e d (by simpa using c) λv' a=>b v' ?_;unfold Ints;rw[GH,Po];exact a
theorem blk_from {b n lo:Nat} {kl:IntKind} (a:elB t 1=true) (d:lo<=n):
  xf t (.slice (some ⟨b,0,none⟩) n n) (some (.int kl lo)) none none w K=K (.slice (some ⟨b,if n=lo then 0 else lo,none⟩) (n-lo) (n-lo)) w:=by
 obtain⟨hu,hs⟩:=YM a;refine ya ?_;rw[run_sliceAt_slice w t _ _ _ _ hu,run_slice_l w t _ _ _ hu kl lo oM oM,run_sizeOf hs];simp only[Result.andThen,sliced,gl];by_cases c:n=lo
 .simp[c]
 .simp[c,yx]
theorem blk_to {b n hi:Nat} {kl:IntKind} (a:elB t 1=true) (c:hi<=n):
  xf t (.slice (some ⟨b,0,none⟩) n n) none (some (.int kl hi)) none w K=K (.slice (some ⟨b,0,none⟩) hi n) w:=by
 obtain⟨hu,hs⟩:=YM a;refine ya ?_;rw[run_sliceAt_slice w t _ _ _ _ hu,run_slice_h w t _ _ _ hu kl hi oM oM,run_sizeOf hs];simp[Result.andThen,sliced,yx]
theorem xo0 {e n:Nat} (h:xZ e n=true):(P.info? e).map (·.size)=some n:=by
 unfold xZ at h;cases hi:P.info? e with
 |none=>rw[hi] at h;cases h
 |some i=>rw[hi] at h;simp[gq h]
theorem vcopy {t2 ty te:TypeId} {g off dLen dCap sLen sCap:Nat} {ad:Addr} {cur cs:List Value} (n:elB t 1=true) (c:Blk w g cur te) (l:cs.length=min sLen dLen)
  (b:∀j u,cs[j]?=some u->w.cell? (ad.add j)=some u) (a:off+cs.length<=cur.length) (f:∀u∈cs,u.oneCell'=true)
  (h:∀w',Same (· =g) w w'->w'.heap.size=w.heap.size->Blk w' g (cur.take off++(cs++cur.drop (off+cs.length))) te->K (nI cs.length) w'):
  vbi .copy [t,t2] ty [.slice (some ⟨g,off,none⟩) dLen dCap,.slice (some ad) sLen sCap] w K:=by
 obtain⟨hu,hs⟩:=YM n;have m:=run_copy_row (P:=P) w t t2 ty (P.elem t) g off dLen dCap ad sLen sCap ⟨cur⟩ te cs hu (xo0 hs) c l b (by simpa using a) f;refine⟨_,_,m,h _ ⟨rfl,rfl,rfl,by simp[World.setRow],λk o e=>setRow_other w g k _ e⟩ (by simp[World.setRow]) ?_⟩;have i:=c.lt;have d:w.heap[g]?=some (.cells ⟨cur⟩ te (0,0)):=c;unfold Blk World.setRow;simp only[GQ];simp[d,Gf]
theorem xN0 {t2 ty:TypeId} {d a:Option Addr} {dLen dCap sLen sCap:Nat} (c:elB t 1=true) (b:min sLen dLen=0):vbi .copy [t,t2] ty [.slice d dLen dCap,.slice a sLen sCap] w K=K (nI 0) w:=by
 obtain⟨hu,hs⟩:=YM c;exact ya (run_copy_none (P:=P) w t t2 ty (P.elem t) d a dLen dCap sLen sCap hu (xo0 hs) b)
theorem vmkS_blk {bs n:Nat} {z:Value} {u v:IntKind} {e:TypeId} (y:elZ t 1 bs=true) (he:Zx t=e) (k:yg e z) (s:z.cells= #[z]) (l:bs*n<=281474976710656) (m:n<=9223372036854775807)
  (x:∀b w',b=w.heap.size->Blk w' b (List.replicate n z) e->Ext w w'->K (.slice (some ⟨b,0,none⟩) n n) w'):vmkS t (.int u n) (.int v n) w K:=by
 obtain⟨hu,i,f,hi,d,r,o,F⟩:=yn0 y;subst he;have:f=z:=by
  unfold yg at k;rw[hi] at k;simp only[d,Gp] at k;exact k
 subst this;subst o;obtain⟨w',D,a,q⟩:=run_make_full (P:=P) w 0 t (Zx t) i f 1 hu hi d r u v n l (by simpa[maxLen] using m) oM;refine⟨_,w',D,x _ w' rfl ?_ ((Same.of_grown q).mono λ_ _ h=>by cases h)⟩;have e:(madeCells f.cells (n*1)).toList=List.replicate n f:=by
  refine gL (by simp[madeCells]) λj G H=>?_;simp[madeCells,s,Nat.mod_one]
 rw[e] at a;rcases a.2 with⟨h,_⟩|⟨g,cap,cur,E,I,B,C,A,p,c⟩
 .cases h
 .cases E;unfold Blk;rw[B];have:cur.toList=List.replicate n f:=(by rw[<-c,gC (by rw[po,p];exact gp _)]);rw[<-this]
theorem vappend_make {bs n:Nat} {ti ty:TypeId} {z:Value} {e:TypeId} (F:elZ t 1 bs=true) (he:Zx t=e) (p:yg e z) (A:z.cells= #[z]) (y:P.underlying ti=some (.int .i64)) (B:0<n) (D:n<=1000000) (C:n*bs<=140737488355328)
  (E:∀v' w',OwnV t w' v' (List.replicate n z)->Ext w w'->(∀b,v'.ownBlock=some b->w.heap.size<=b)->K v' w'):vbi .append [t,ti] ty [oN,nI n] w K:=by
 obtain⟨hu,i,o,hi,g,x,s,l⟩:=yn0 F;subst he;have:o=z:=by
  unfold yg at p;rw[hi] at p;simp only[g,Gp] at p;exact p
 subst this;subst s;have q:n*i.bytes<=281474976710656:=oM
 have c:n<=maxLen:=by simp only[maxLen];omega
 have I:n≠0:=oM
 have hw:IntKind.i64.wrap (n:Int)=n:=zk oM (by simp only[maxLen] at c;omega);have f: ¬(9223372036854775807<(n:Int)):=by simp only[maxLen] at c;omega
 have d: ¬(281474976710656<Builtin.nextslicecap n 0*i.bytes):=by rw[nextslicecap_zero B];omega
 have r: ¬((281474976710656:Int)<(n:Int)*i.bytes):=by
  have h:((n*i.bytes:Nat):Int)<=281474976710656:=oM;rw[Int.natCast_mul] at h;omega
 have J:(Builtin.append_ #[t,ti] ty #[oN,nI n]).run P w=
   .ok (.slice (some ⟨w.heap.size,0,none⟩) n (grownCap w n 0 (Zx t))) (w.drew.alloc (.cells (Builtin.zeroCells o.cells n++Builtin.zeroCells o.cells (grownCap w n 0 (Zx t)-n)) (Zx t))):=by
  simp[Builtin.append_,run_underlying hu,run_underlying y,sizeOf,typeInfo,zeroValue,hi,g,x,I,hw,f,d,r,asInt,asIntOf,Question.forced,run_firstCells_none,newRow,grownCap];intro h;omega
 have v:=grownCap_ge w n 0 (Zx t);have u:grownCap w n 0 (Zx t)<=maxLen:=grownCap_le_maxLen w n 0 (Zx t) c;have a:∀m,(Builtin.zeroCells o.cells m).toList=List.replicate m o:=λm=>by
  refine gL (by simp[Builtin.zeroCells,l]) λj L M=>?_;simp[Builtin.zeroCells,A,Nat.mod_one]
 refine⟨_,_,J,E _ _ ⟨⟨by simp,.inr ⟨w.heap.size,_,_,by simp,gF _,heap_alloc_new w.drew _,by simpa using v,u,?_,?_⟩⟩,by simp⟩ ⟨rfl,rfl,rfl,by simp,λk H _=>heap_alloc_old w.drew _ H⟩ λb G=>by cases G;exact gp _⟩
 .simp only[Array.size_append,size_zeroCells,l];omega
 .rw[Ps,a,a,flat1];simp
end
section
open Go.MapKept
theorem qJ0 {w:World} {K:oK} {t e:TypeId} {d:TypeDesc} {b:Nat} {f:List (Value×Value)} {k x:Value} (I:Zj0 t d e) (h:MapF d w b f) (q:IsKey d k)
  (E:∀w' C,MapF d w' b C->(∀p,p∈C->p=(k,x)\/p∈f)->Same (· =b) w w'->w'.heap.size=w.heap.size->K undef w'):zm0 t (.map (some b)) k x w K:=by
 obtain⟨kt,hm,u⟩:=I;obtain⟨es,cl,g,s,o,rfl⟩:=h;rcases findNow_spec q es.toList 0 o with⟨v,A⟩|⟨j,e,v,A,D⟩
 .refine⟨(),{w with heap:=w.heap.setIfInBounds b (.map (es.push {key:=k,val:=x,born:=cl}) (cl+1))},?_,E _ _ ⟨_,_,(heap_set g).1,stamped_push s A,λy a=>?_,rfl⟩ (λp m=>?_) (jN g) (by simp)⟩
  .simp[Instr.mapUpdate,run_underlying hm,MapKept.run_getObj_map g,run_checkKey u q,run_findKey u v,run_setObj_map _ g,Result.andThen]
  .rw[PH] at a;rcases gk.1 a with a|a
   .exact o y a
   .rw[gw.1 a];exact q
  .rw[PH,gz] at m;rcases gk.1 m with m|m
   .exact .inr m
   .exact .inl (by simpa using m)
 .have r:es[j]?=some e:=(by simpa using A);have J:∀y∈es.toList,es[0+j]?=some y->({y with key:=k,val:=x}:MapEntry).key=y.key:=λy _ a=>by
   rw[gX,r] at a;cases a;exact D.symm
  have l:∀y∈(es.modify (0+j) λy=>{y with key:=k,val:=x}).toList,(y.key=k/\y.val=x)\/y∈es.toList:=λy a=>by
   obtain⟨i,hi,G⟩:=gn a;have c:(es.modify (0+j) λy=>{y with key:=k,val:=x})[i]?=some y:=by
    rw[<-gM,V0 hi,G]
   rw[GQ] at c;split at c
   .cases F:es[i]? with
    |none=>rw[F] at c;cases c
    |some z=>rw[F] at c;simp only[Option.map_some,Gp] at c;left;rw[<-c];exact⟨rfl,rfl⟩
   .right;rw[<-gM] at c;exact GY c
  refine⟨(),{w with heap:=w.heap.setIfInBounds b (.map (es.modify (0+j) λy=>{y with key:=k,val:=x}) cl)},?_,E _ _ ⟨_,_,(heap_set g).1,stamped_modify s _ _ (λ_ _=>rfl) J,λy a=>?_,rfl⟩ (λp m=>?_) (jN g) (by simp)⟩
  .have B:((es[0+j]?).map (·.key)).getD k=k:=by rw[gX,r];exact D
   simp only[Instr.mapUpdate,Sem.run_bind,run_underlying hm,MapKept.run_getObj_map g,run_checkKey u q,run_findKey u v,Result.andThen,B,run_keyThatStays q,run_setObj_map _ g]
  .rcases l y a with⟨n,_⟩|n
   .rw[n];exact q
   .exact o y n
  .obtain⟨y,a,rfl⟩:=gr.1 m;rcases l y a with⟨n,H⟩|n
   .exact .inl (by rw[n,H])
   .exact .inr (gr.2 ⟨y,n,rfl⟩)
end
end Go.Vc
end
namespace Go.Proofs.YtfnpmncplaibiaaGreatDoor
open Go Go.Vc Go.Proofs
section
variable {w:World} {K:oK} {F F' Fx X:oA} {n bb:Nat} {v:Value} {ar ab:Addr} {st:Option M.Gs}
def SmL (xs:oI):Prop:=∀x,x∈xs->Sm x
theorem SmL.get {xs:oI} (h:SmL xs) {i:Nat} (hi:i<xs.length):Sm (xs.getD i 0):=h _ (M.getD_mem hi 0)
theorem SmL.app {xs ys:oI} (h:SmL xs) (a:SmL ys):SmL (xs++ys):=λx b=>(gk.1 b).elim (h x) (a x)
theorem SmL.one {x:Int} (h:Sm x):SmL [x]:=λy a=>by rw[gw.1 a];exact h
theorem SmL.nil:SmL []:=λx a=>by cases a
theorem yY {xs:oI} {i:Nat} (hi:i<xs.length):xs.drop i=xs.getD i 0::xs.drop (i+1):=by
 rw[PG hi,y2,V0 hi];rfl
theorem qY0 {i:Nat} {xs ys:oI} {c:Int} (h:xs.length<=i):M.sumB (xs.drop i) ys c= .ret []:=by
 rw[gY h];cases ys<;>rfl
theorem bsum_spec {xv yv:Value} {xs ys:oI} {c:Int} (h:BdR n bb ar ab X F w st) (hx:Ints (Off X F) w xv xs) (hy:Ints (Off X F) w yv ys) (hl:xs.length<=ys.length) (h8:xs.length<=1000) (L:SmL xs) (Q:SmL ys) (hc:Sm c)
  (hK:∀w' F' st' r zs,BdR n bb ar ab X F' w' st'->Mv F w F' w'->NewI X w F' w' r zs->SmL zs->M.Bd.Out n (M.sumB xs ys c) st st' zs->K r w'):
  vcall kD #[oP bb 0,xv,yv,nI c] w K:=by
 refine ze {loops:=[(3,[3,9,16])]} Tryz.func250 ?_;simp(disch:=exact oS) only[push_cast,hx.len];refine vloop_up xs.length (λi u w'=> ∃v a r zs c1,u=[nI c1,r,nI i]/\BdR n bb ar ab X v w' a/\Mv F w v w'/\NewI X w v w' r zs/\SmL zs/\zs.length=i/\Sm c1/\
  ∀st2 rs,M.Bd.Out n (M.sumB (xs.drop i) (ys.drop i) c1) a st2 rs->M.Bd.Out n (M.sumB xs ys c) st st2 (zs++rs)) ⟨F,st,_,[],c,rfl,h,Mv.refl,NewI.nil,SmL.nil,rfl,hc,λ_ _ h=>h⟩ ?_
 rintro i _ g w1 C hi ⟨v,a,r,zs,c1,rfl,h1,y,G,R,a8,x,f⟩ hC;refine oZ ?_;refine zb (λad=>?_) (λac=>?_)
 .have e:i<xs.length:=oM;refine zd λw2 j _=>?_;have h2:=h1.ext j;have m:=y.ext j;have I:=Ints.mv hx m;have N:=Ints.mv hy m;simp(disch:=exact oS) only[push_cast,I.iaddr,I.load,N.iaddr,N.load,y1];refine Y5 h2 (L.get e) (Q.get oM) λw3 F3 af d h3 A hd a3=>?_;refine Y5 h3 hd x λw4 U a9 s h4 B hs a4=>?_;refine zC yD y9 yi rfl rfl λb5 w5 aa k ae W=>?_;have D:=(m.trans (A.trans B)).ext k;have h5:=h4.ext k;have t:NewI X w U w5 r zs:=(G.mv ((Mv.refl.ext j).trans (A.trans B))).mv (Mv.refl.ext k);refine t.app1 W D.same.size h5.lt oM λr6 w6 a7 H=>?_;have h6:BdR n bb ar ab X U w6 a9:=h5.upd h.err H λb Y=>t.off b Y;have a0:Mv F w U w6:=D.to H λb Y=> .inr (t.off b Y).1;refine zd λw7 l _=>?_;have h7:=h6.ext l;have o:=a0.ext l;have J:=Ints.mv hx o;have O:=Ints.mv hy o;simp(disch:=exact oS) only[push_cast,J.iaddr,J.load,O.iaddr,O.load,y1];refine qS h7 (L.get e) (Q.get oM) λw8 F8 ag p h8 a1 hp a5=>?_;refine qS h8 hd x λw9 F9 ah q h9 a2 hq a6=>?_;refine bor_spec h9 hp hq λw10 T S c2 V z Z E=>?_;simp(disch:=omega) only[push_cast,zk];have hm:=a1.trans (a2.trans z);refine hC e _ _ ⟨T,S,r6,zs++[s],c2,by simp<;>exact⟨rfl,rfl⟩,V,o.trans hm,(a7.mv (Mv.refl.ext l)).mv hm,R.app (SmL.one hs),by simp[a8],Z,λst2 rs ho=>?_⟩;have:=f st2 (s::rs) ?_
  .simpa using this
  rw[yY e,yY (show i<ys.length by omega)];exact ky a3 (ky a4 (xI a5 (xI a6 (M.Bd.Out.bind E (M.Bd.Out.map _ ho)))))
 .have:=f a [] (by rw[qY0 oM];exact M.Bd.Out.ret _ _);rw[gE] at this;exact hK w1 v a r zs h1 y G R this
theorem xw0 {i:Nat} {xs ys:oI} {r:Int} (h:xs.length<=i):M.lessB (xs.drop i) ys r= .ret r:=by
 rw[gY h];cases ys<;>rfl
theorem bless_spec {xv yv:Value} {xs ys:oI} (h:BdR n bb ar ab X F w st) (E:Ints (Off X F) w xv xs) (T:Ints (Off X F) w yv ys) (Y:xs.length<=ys.length) (W:xs.length<=1000) (A:SmL xs) (t:SmL ys)
  (N:∀w' F' st' r,BdR n bb ar ab X F' w' st'->Mv F w F' w'->Sm r->M.Bd.Out n (M.lessB xs ys (-1)) st st' r->K (nI r) w'):
  vcall X5 #[oP bb 0,xv,yv] w K:=by
 refine ze {loops:=[(3,[7,12])]} Tryz.func259 ?_;simp(disch:=exact oS) only[push_cast,E.len];refine vloop_up xs.length (λi u w'=> ∃v a r,u=[nI r,nI i]/\BdR n bb ar ab X v w' a/\Mv F w v w'/\Sm r/\
  ∀st2 q,M.Bd.Out n (M.lessB (xs.drop i) (ys.drop i) r) a st2 q->M.Bd.Out n (M.lessB xs ys (-1)) st st2 q) ⟨F,st,-1,rfl,h,Mv.refl,dC,λ_ _ h=>h⟩ ?_
 rintro i _ g w1 C hi ⟨v,a,r,rfl,D,k,m,b⟩ L;refine oZ ?_;refine zb (λR=>?_) (λQ=>?_)
 .have c:i<xs.length:=oM;refine zd λw2 j _=>?_;have H:=D.ext j;have e:=k.ext j;have o:=Ints.mv E e;have f:=Ints.mv T e;simp(disch:=exact oS) only[push_cast,o.iaddr,o.load,f.iaddr,f.load,y1];refine Y5 H (A.get c) (t.get oM) λZ V U d I l O y=>?_;have p:=Ints.mv f l;simp(disch:=exact oS) only[push_cast,p.iaddr,p.load,y1];refine bmux_spec I O (t.get oM) m λw4 G B s J x hs z=>?_;simp(disch:=omega) only[push_cast,zk];refine L c _ _ ⟨G,B,s,by simp<;>exact⟨rfl,rfl⟩,J,e.trans (l.trans x),hs,λst2 q S=>b st2 q ?_⟩;rw[yY c,yY (show i<ys.length by omega)];exact ky y (M.Bd.Out.bind z S)
 .exact N w1 v a r D k m (b a r (by rw[xw0 oM];exact M.Bd.Out.ret _ _))
theorem xp0 {i:Nat} {xs ys:oI} {r:Int} (h:xs.length<=i):M.sameB (xs.drop i) ys r= .ret r:=by
 rw[gY h];cases ys<;>rfl
theorem bsame_spec {xv yv:Value} {xs ys:oI} (h:BdR n bb ar ab X F w st) (D:Ints (Off X F) w xv xs) (R:Ints (Off X F) w yv ys) (W:xs.length<=ys.length) (U:xs.length<=1000) (y:SmL xs) (z:SmL ys)
  (L:∀w' F' st' r,BdR n bb ar ab X F' w' st'->Mv F w F' w'->Sm r->M.Bd.Out n (M.sameB xs ys 1) st st' r->K (nI r) w'):
  vcall X2 #[oP bb 0,xv,yv] w K:=by
 refine ze {loops:=[(3,[7,12])]} Tryz.func258 ?_;simp(disch:=exact oS) only[push_cast,D.len];refine vloop_up xs.length (λi u w'=> ∃o a r,u=[nI r,nI i]/\BdR n bb ar ab X o w' a/\Mv F w o w'/\Sm r/\
  ∀st2 q,M.Bd.Out n (M.sameB (xs.drop i) (ys.drop i) r) a st2 q->M.Bd.Out n (M.sameB xs ys 1) st st2 q) ⟨F,st,1,rfl,h,Mv.refl,dC,λ_ _ h=>h⟩ ?_
 rintro i _ g w1 C hi ⟨o,a,r,rfl,B,j,k,b⟩ J;refine oZ ?_;refine zb (λO=>?_) (λN=>?_)
 .have c:i<xs.length:=oM;refine zd λw2 f _=>?_;have G:=B.ext f;have e:=j.ext f;have l:=Ints.mv D e;have m:=Ints.mv R e;simp(disch:=exact oS) only[push_cast,l.iaddr,l.load,m.iaddr,m.load,y1];refine Y5 G (y.get c) (z.get oM) λY T S d H p V v=>?_;simp(disch:=omega) only[push_cast,zk,gO];refine qS H k (by unfold Sm at*;omega) λZ E A s I t hs x=>?_
  try simp(disch:=omega) only[push_cast,zk]
  refine J c _ _ ⟨E,A,s,by simp<;>exact⟨rfl,rfl⟩,I,e.trans (p.trans t),hs,λst2 q Q=>b st2 q ?_⟩;rw[yY c,yY (show i<ys.length by omega)];exact ky v (xI x Q)
 .exact L w1 o a r B j k (b a r (by rw[xp0 oM];exact M.Bd.Out.ret _ _))
theorem Clone_signal {xv:Value} {xs:oI} (d:Ints Fx w xv xs) (v:xs.length<=1000000) (l:∀w' v',Ext w w'->OwnI zf w' v' xs->(∀x,v'.ownBlock=some x->w.heap.size<=x)->K v' w'):
  vcall qj #[xv] w K:=by
 refine ze {} Tryz.func199 ?_;obtain⟨a,c,rfl,r,s,f⟩:=d.shape;simp only[y4] at d r⊢;rw[Wc yX];refine zn (λm=>?_) (λm=>?_)
 .cases a with
  |some a=>cases m
  |none=>
   have k:xs=[]:=by
    have n:(List.map (λx=>[x]) (List.map (λx=>Value.int IntKind.i64 x) xs))=[]:=GJ λh=>by
     obtain⟨b,o,p,_⟩:=f h;cases p
    simpa using n
   subst k;exact l w _ (Same.refl _ _) OwnI.nil λx d=>by cases d
 .refine yj yD y9 λb w1 z he A q=>?_;have g:OwnI zf w1 (.slice (some ⟨b,0,none⟩) 0 0) []:=Blk.own1 (t:=zf) (cs:=[]) (by rw[yO];exact q) (gF _) rfl rfl oM;have j:Ints Fx w1 (.slice a xs.length c) xs:=d.ext he;refine g.app yE j (by simp;omega) (by simp;omega) λv' w2 u hs i=>?_;have y:=he.size;refine l w2 v' (Ext.then he hs λx d=>by have e:b=x:=K3 d;omega) u λx d=>?_;rcases i x d with h|h
  .have e:b=x:=K3 h;omega
  .omega
end
section
variable {w:World} {K:oK} {F F' Fx X:oA} {n bb:Nat} {v:Value} {ar ab:Addr} {st:Option M.Gs}
def X10 (n bb:Nat) (ar ab:Addr) (X F:oA) (w:World) (f:Value) (p:Int->Int->M.Bd Int):Prop:=
 ∀(w1:World) (F1:oA) (st1:Option M.Gs) (x y:Int) (K:oK),BdR n bb ar ab X F1 w1 st1->Mv F w F1 w1->Sm x->Sm y->
  (∀w' F' st' r,BdR n bb ar ab X F' w' st'->Mv F1 w1 F' w'->Sm r->M.Bd.Out n (p x y) st1 st' r->K (nI r) w')->vcallv f #[nI x,nI y] w1 K
theorem Ye {p:Int->Int->M.Bd Int} {i:Nat} {xs ys:oI} (h:xs.length<=i):M.eachB p (xs.drop i) ys= .ret []:=by
 rw[gY h];cases ys<;>rfl
theorem each_spec {p:Int->Int->M.Bd Int} {xv yv f:Value} {xs ys:oI} (h:BdR n bb ar ab X F w st) (S:Ints (Off X F) w xv xs) (hy:Ints (Off X F) w yv ys) (hl:xs.length<=ys.length) (h8:xs.length<=1000) (L:SmL xs) (N:SmL ys)
  (hf:X10 n bb ar ab X F w f p)
  (Z:∀w' F' st' r zs,BdR n bb ar ab X F' w' st'->Mv F w F' w'->NewI X w F' w' r zs->SmL zs->M.Bd.Out n (M.eachB p xs ys) st st' zs->K r w'):
  vcall x20 #[xv,yv,f] w K:=by
 refine ze {loops:=[(3,[7,11])]} Tryz.func246 ?_;simp(disch:=exact oS) only[push_cast,S.len];refine vloop_up xs.length (λi u w'=> ∃m a r zs,u=[r,nI i]/\BdR n bb ar ab X m w' a/\Mv F w m w'/\NewI X w m w' r zs/\SmL zs/\zs.length=i/\
  ∀st2 rs,M.Bd.Out n (M.eachB p (xs.drop i) (ys.drop i)) a st2 rs->M.Bd.Out n (M.eachB p xs ys) st st2 (zs++rs)) ⟨F,st,_,[],rfl,h,Mv.refl,NewI.nil,SmL.nil,rfl,λ_ _ h=>h⟩ ?_
 rintro i _ g w1 C hi ⟨m,a,r,zs,rfl,Q,o,v,A,O,d⟩ Y;refine oZ ?_;refine zb (λa2=>?_) (λa1=>?_)
 .have k:i<xs.length:=oM;refine zd λw2 e _=>?_;have U:=Q.ext e;have c:=o.ext e;have y:=Ints.mv S c;have z:=Ints.mv hy c;simp(disch:=exact oS) only[push_cast,y.iaddr,y.load,z.iaddr,z.load,y1];refine hf w2 m a _ _ _ U c (L.get k) (N.get oM) λw4 D B s V q hs I=>?_;refine zC yD y9 yi rfl rfl λb5 w5 a0 j a3 E=>?_;have t:=(c.trans q).ext j;have R:=V.ext j;have l:NewI X w D w5 r zs:=(v.mv ((Mv.refl.ext e).trans q)).mv (Mv.refl.ext j);refine l.app1 E t.same.size R.lt oM λr6 T J x=>?_;have W:BdR n bb ar ab X D T B:=R.upd h.err x λb G=>l.off b G;have H:Mv F w D T:=t.to x λb G=> .inr (l.off b G).1;simp(disch:=omega) only[push_cast,zk];refine Y k _ _ ⟨D,B,r6,zs++[s],by simp<;>exact⟨rfl,rfl⟩,W,H,J,A.app (SmL.one hs),by simp[O],λst2 rs ho=>?_⟩;have:=d st2 (s::rs) ?_
  .simpa using this
  rw[yY k,yY (show i<ys.length by omega)];exact M.Bd.Out.bind I (M.Bd.Out.map _ ho)
 .have:=d a [] (by rw[Ye oM];exact M.Bd.Out.ret _ _);rw[gE] at this;exact Z w1 m a r zs Q o v A this
theorem negated_spec {xv:Value} {xs:oI} (n:Ints Fx w xv xs) (G:xs.length<=1000) (s:SmL xs)
  (v:∀w' r,Ext w w'->OwnI zf w' r (M.negL xs)->(∀b,r.ownBlock=some b->w.heap.size<=b)->K r w'):vcall Vq #[xv] w K:=by
 refine ze {} Tryz.func249 ?_;refine ze {loops:=[(3,[7,11])]} Tryz.func246 ?_;simp(disch:=exact oS) only[push_cast,n.len];refine vloop_up xs.length (λi u w'=> ∃r,u=[r,nI i]/\Ext w w'/\OwnI zf w' r (M.negL (xs.take i))/\∀b,r.ownBlock=some b->w.heap.size<=b) ⟨_,rfl,Same.refl _ _,OwnI.nil,λb m=>by cases m⟩ ?_;rintro i _ g w1 C hi ⟨r,rfl,a,f,e⟩ t;refine oZ ?_;refine zb (λA=>?_) (λz=>?_)
 .have d:i<xs.length:=oM;refine zd λw2 c _=>?_;have l:=n.ext (a.trans c);simp(disch:=exact oS) only[push_cast,l.iaddr,l.load,y1];refine Jm ?_;unfold Zq;have m:=s.get d;simp(disch:=omega) only[push_cast,zk,gO];refine zC yD y9 yi rfl rfl λF H y j D o=>?_;have he:=a.trans (c.trans j);have B:=he.size;refine(f.ext (c.trans j)).app1 yE o (by simp[M.negL];omega) (by simp[M.negL];omega) λE I k q p=>?_
  try simp(disch:=omega) only[push_cast,zk]
  refine t d _ _ ⟨E,by simp<;>exact⟨rfl,rfl⟩,Ext.then he q λx n=>e x n,?_,λb m=>(p b m).elim (e b) λh=>oM⟩;rw[M.take_add d 0];unfold M.negL at k⊢;rw[gz];exact k
 .rw[gC oM] at f;exact v w1 r a f e
theorem NewI.of {w':World} {r:Value} {zs:oI} (h:OwnI zf w' r zs) (d:∀b,r.ownBlock=some b->w.heap.size<=b) (hF:∀b,F b\/X b->b<w.heap.size):NewI X w F w' r zs:=
 ⟨h,λb a=>⟨d b a,λc=>by have:=d b a;have:=hF b (.inl c);omega⟩,λb a c=>by have:=d b a;have:=hF b (.inr c);omega⟩
theorem SmL.neg {xs:oI} (h:SmL xs):SmL (M.negL xs):=λx a=>by
 obtain⟨y,b,rfl⟩:=gr.1 a;have:=h y b;unfold Sm at*;omega
theorem SmL.offs (m:Nat):SmL (M.offsL m):=λx a=>by rw[GX a];decide
end
section
variable {w:World} {K:oK} {F X:oA} {n:Nat} {v:Value}
theorem Wr {t ty:TypeId} {a:Option Addr} {l c:Nat} (b:isSl t=true):vbi .len [t] ty [.slice a l c] w K=K (nI l) w:=by
 obtain⟨e,he⟩:=Ut b;exact ya (by simp[biSem,Builtin.len_,xz he,goInt])
theorem Yy0 {x:Value}:sl 0 [x]=x:=rfl
theorem u_and {m:Nat} (hm:m<4294967296) {c:Bool}:qG .and Ju c (.int .u64 m) (.int .u64 4294967295) w K=K (.int .u64 m) w:=by
 have h:=ZC (w:=w) (K:=K) (c:=c) (t:=Ju) (a:=m) (b:=4294967295) oM dC;have e:m&&&4294967295=m:=by
  have:=Pj m 32;rw[show 2^32-1=4294967295 from rfl] at this;rw[this];exact Gn hm
 rw[e] at h;exact h
theorem u_shr {m:Nat} (hm:m<4294967296) {c:Bool}:qG .shr Ju c (.int .u64 m) (.int .u64 32) w K=K (.int .u64 0) w:=by
 have h:=xg0 (w:=w) (K:=K) (c:=c) (t:=Ju) (k:= .u64) (yk:= .u64) (x:=m) (y:=32) dC;have e:(m:Int)/2^min (32:Int).toNat IntKind.u64.bits=0:=by
  rw[show(2:Int)^min (32:Int).toNat IntKind.u64.bits=4294967296 from rfl];omega
 rw[e] at h;exact h
theorem wrapU' {x:Int} (a:0<=x) (h:x<18446744073709551616):IntKind.u64.wrap x=x:=by
 have:=wrapU (n:=x.toNat) oM;rwa[show((x.toNat:Nat):Int)=x by omega] at this
theorem Mul_one {m:Nat} (hm:m<=1000) (d:K (.tuple #[.int .u64 0,.int .u64 m]) w):vcall JX #[.int .u64 1,.int .u64 m] w K:=by
 refine ze {} Tryz.func285 ?_;refine ze {} Tryz.func313 ?_;have a:=λ(K:oK)=>u_and (w:=w) (K:=K) (m:=1) dC (c:=true);have a2:=λ(K:oK)=>u_shr (w:=w) (K:=K) (m:=1) dC (c:=true);have a3:=λ(K:oK)=>u_and (w:=w) (K:=K) (m:=m) oM (c:=true);have a4:=λ(K:oK)=>u_shr (w:=w) (K:=K) (m:=m) oM (c:=true);have a5:=λ(K:oK)=>u_and (w:=w) (K:=K) (m:=0) oM (c:=true);have b:=λ(K:oK)=>u_shr (w:=w) (K:=K) (m:=0) oM (c:=true);simp only[Int.cast_ofNat_Int] at a a2 a5 b;simp(disch:=omega) only[a,a2,a3,a4,a5,b,push_cast,wrapU',Int.one_mul,Int.zero_mul,Int.mul_zero,Int.zero_add,Int.add_zero];exact d
theorem Zb0 {m k:Nat} {a:Value} {r:List Value} (h:k<=m):(List.replicate m a++r).take k=List.replicate k a:=by
 rw[pC (by rw[gD];exact h),List.take_replicate,GG h]
theorem Zc0 {m k j:Nat} {a:Value} {r:List Value} (h:j=m+k):(List.replicate m a++r).drop j=r.drop k:=by
 subst h;rw[<-PZ,List.drop_left' (by rw[gD])]
theorem Repeat_signal {x:Value} {m:Nat} {y:Nat} {e0:TypeId} (Z:Blk w y [nI (-1)] e0) (hm:m<=1000) (hK:∀w' r,Ext w w'->OwnI zf w' r (M.offsL m)->(∀b,r.ownBlock=some b->w.heap.size<=b)->K r w'):
  vcall qb #[.slice (some ⟨y,0,none⟩) 1 1,nI m] w K:=by
 refine ze {loops:=[(8,[8])],cuts:=[(8195,[]),(20486,[])]} Tryz.func244 ?_;refine zo (λu w'=>w'=w) ?_ ?_
 .intro J B;refine oZ ?_;refine zb (λh=>?_) (λh=>B _ _ rfl);omega
 rintro _ _ w' hw;rw[hw];have V:∀K:oK,vbi .len [zf] zV [.slice (some ⟨y,0,none⟩) 1 1] w K=K (nI (1:Nat)) w:=λK=>Wr yX;have c1:∀K:oK,yE0 zV yy0 (nI (1:Nat)) w K=K (.int .u64 (1:Nat)) w:=λK=>by
  rw[jh zs0 jz0,wrapU dC]
 have c2:∀K:oK,yE0 zV yy0 (nI m) w K=K (.int .u64 m) w:=λK=>by
  rw[jh zs0 jz0,wrapU oM]
 have c3:∀K:oK,yE0 yy0 zV (.int .u64 m) w K=K (nI m) w:=λK=>by
  rw[jh Yx0 J0,wrapN oM]
 rw[V,c1,c2];refine Mul_one hm ?_;refine oZ ?_;refine zo (λu w'=>w'=w) ?_ ?_
 .intro J B;refine zb (λh=>?_) (λh=>?_)
  .omega
  refine zb (λh=>?_) (λh=>B _ _ rfl);omega
 rintro _ _ w' hw;rw[hw];rw[c3];refine vmkS_blk (bs:=8) yE yO yi rfl oM oM λb w1 hb z q=>?_;have a2:y≠b:=by have:=Z.lt;omega
 have step:∀(k:Nat) (w2:World) (J:oK),0<m->k<m->Ext w w2->Blk w2 b (List.replicate k (nI (-1))++List.replicate (m-k) (nI 0)) yz->∀(src:Addr) (sc sl:Nat) (ds:Nat),
   (∀j u,(List.replicate (min sl (m-k)) (nI (-1)))[j]?=some u->w2.cell? (src.add j)=some u)->
   (∀v,Ext w v->Blk v b (List.replicate (k+min sl (m-k)) (nI (-1))++List.replicate (m-(k+min sl (m-k))) (nI 0)) yz->J (nI (min sl (m-k):Nat)) v)->
   vbi .copy [zf,zf] zV [.slice (some ⟨b,k,none⟩) (m-k) ds,.slice (some src) sl sc] w2 J:=by
  intro k w2 J X hk f d src sc sl ds G B;refine vcopy (cs:=List.replicate (min sl (m-k)) (nI (-1))) yK d (by rw[gD]) G (by simp only[gD,q0];omega) (λu hu=>by rw[GX hu];rfl) λv W a3 i=>?_;rw[gD];refine B v (Ext.then f W λx hx=>oM) ?_;rw[Zb0 (gp _),Zc0 (m:=k) (k:=min sl (m-k)) (by rw[gD]),List.drop_replicate,<-Gf,List.replicate_append_replicate] at i;rw[show m-(k+min sl (m-k))=m-k-min sl (m-k) by omega];exact i
 have fin:∀(w2:World) (u:Value),Ext w w2->Blk w2 b (List.replicate m (nI (-1))) yz->K (.slice (some ⟨b,0,none⟩) m m) w2:=λw2 _ f d=>by
  refine hK w2 _ f ?_ λx hx=>by have e:b=x:=K3 hx;omega
  have:=Blk.own1 (t:=zf) (base:=0) (n:=m) (c:=m) (cs:=List.replicate m (nI (-1))) (by rw[yO];exact d) (gF _) (by rw[gD]) (by rw[gD]) oM;unfold OwnI OwnV M.offsL;rw[GF];exact this
 have loop:∀(k:Nat) (w2:World),Ext w w2->Blk w2 b (List.replicate k (nI (-1))++List.replicate (m-k) (nI 0)) yz->k<=m->(1<=k\/m=0)->
   Wq [nI k] w2 λC o _ H=>
    vbi .len [zf] zV [.slice (some ⟨b,0,none⟩) m m] H λt36 I=>
    qG .lss zV false (sl 0 o) t36 I λt37 p=>
    vif t37 (
     ZB p λa=>
     xf zf (.slice (some ⟨b,0,none⟩) m m) (some (sl 0 o)) none none a λt41 L=>L=a/\
     xf zf (.slice (some ⟨b,0,none⟩) m m) none (some (sl 0 o)) none a λt44 N=>N=a/\
     vbi .copy [zf,zf] zV [t41,t44] a λt45 l=>
     qG .add zV false (sl 0 o) t45 l λt46 O=>O=l/\
     C [t46] l) (
     K (.slice (some ⟨b,0,none⟩) m m) p):=by
  intro k0 w2 f d U Y;refine jJ (λr u w'=> ∃k:Nat,u=[nI k]/\r=m-k/\k<=m/\(1<=k\/m=0)/\Ext w w'/\Blk w' b (List.replicate k (nI (-1))++List.replicate (m-k) (nI 0)) yz) (m-k0) ⟨k0,rfl,rfl,U,Y,f,d⟩ ?_;rintro r _ g v C ⟨k,rfl,rfl,hk,Y,D,i⟩ hC;rw[Wr yX];refine oZ ?_;refine zb (λa1=>?_) (λa0=>?_)
  .have F:k<m:=oM;refine zd λw4 E _=>?_;have A:=i.ext E;simp only[Yy0,blk_from yK (show k<=m by omega),blk_to yK (show k<=m by omega),y1];rw[y0 oM];refine step k w4 _ oM F (D.trans E) A ⟨b,0,none⟩ m k _ (λj u s=>?_) λw5 R Q=>?_
   .have T:j<min k (m-k):=by have:=(Gk.1 s).1;rwa[gD] at this
    rw[yx];refine A.cell ?_;rw[gX,Gj (by rw[gD];omega)];rw[PL,y3 oM] at s⊢;exact s
   .simp(disch:=omega) only[push_cast,zk,y1];exact hC (m-(k+min k (m-k))) _ _ oM ⟨k+min k (m-k),by simp<;>rfl,rfl,oM,oM,R,Q⟩
  .have:k=m:=oM;subst this;rw[pj,pV,gE] at i;exact fin v undef D i
 by_cases X:m=0
 .subst X;rw[xN0 yK rfl];exact loop 0 w1 q z (gp _) (.inr rfl)
 .refine step 0 w1 _ oM oM q (by simpa using z) ⟨y,0,none⟩ 1 1 m (λj u s=>?_) λw2 f d=>?_
  .have T:j<min 1 (m-0):=by have:=(Gk.1 s).1;rwa[gD] at this
   have S:j=0:=oM;subst S;rw[PL,y3 oM] at s;rw[yx];exact(Z.ext q).cell s
  .exact loop _ w2 f (by simpa using d) oM (.inl oM)
theorem offs_spec {m:Nat} (hm:m<=1000) (e:∀w' r,Ext w w'->OwnI zf w' r (M.offsL m)->(∀b,r.ownBlock=some b->w.heap.size<=b)->K r w'):vcall K6 #[nI m] w K:=by
 refine ze {} Tryz.func196 ?_;refine zC yD y9 yi rfl rfl λb w1 j a i c=>?_;have:=a.size;exact Repeat_signal (x:=undef) c hm λw2 r d g f=>e w2 r (a.trans d) g λx h=>by have:=f x h;omega
end
end Go.Proofs.YtfnpmncplaibiaaGreatDoor
end
