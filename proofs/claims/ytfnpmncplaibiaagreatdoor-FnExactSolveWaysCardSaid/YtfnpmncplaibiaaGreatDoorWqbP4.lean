import Derived.Test.YtfnpmncplaibiaaGreatDoorWqbP2
/- A part of the proof. -/
set_option linter.all false
set_option maxRecDepth 9999
set_option maxHeartbeats 2000000
noncomputable section
namespace Go.Proofs.YtfnpmncplaibiaaGreatDoor
open Go Go.Vc Go.Proofs
def Xt0 (v0 v1 v2:Value) (w:World) (R:oK):Prop:=vbuildS zn 0 [] w λa b=>qX0 (λc=>vcall zP0 #[v0,v1] b λb d=>vun .not b d λb d=>vif b (R (.tuple #[a,(nI 4)]) d) (qu .lss zE true v2 (nI 0) d λb d=>vif b (R (.tuple #[a,(nI 4)]) d) (qu .gtr zE true v2 (nI 20) d λb d=>vif b (R (.tuple #[a,(nI 4)]) d) (c [] d)))) (λ_ _ b=>vcall Vv #[v0,v1] b λb c=>vcall zO0 #[v0,b] c λb c=>qo b 0 c λc d=>qo b 1 d λb d=>xS zq d λd e=>zG zq d c e λ_ c=>qX0 (λe=>vun .not b c λb c=>vif b (qu .gtr zE true v2 (nI 0) c λb f=>vif b (R (.tuple #[a,(nI 3)]) f) (e [] f)) (e [] c)) (λ_ _ b=>WO [a] b λa b _ c=>vbi .len [zn] zE [(sl 0 b)] c λc e=>qu .lss zE false c v2 e λc e=>vif c (zu zq d e λc f=>vcall Kw #[v0,c] f λc f=>qo c 0 f λf g=>qo c 1 g λc g=>qu .neq zE true c (nI 1) g λg h=>vif g (R (.tuple #[(sl 0 b),c]) h) (vbuildS zn 1 [(0,f)] h λc g=>vbi .append [zn,zn] zn [(sl 0 b),c] g λc g=>vbuildS zn 0 [] g λg h=>zD zq d 1 h λh i=>zu zn h i λh i=>vbi .append [zn,zn] zn [g,h] i λg h=>vcall KC #[v0,f] h λf h=>vcall Vw #[f] h λf h=>vbuildS zn 1 [(0,f)] h λf h=>vbi .append [zn,zn] zn [g,f] h λf g=>zD zq d 1 g λd g=>zG zn d f g λ_ d=>a [c] d)) (R (.tuple #[(sl 0 b),(nI 1)]) e)))
theorem Xu0 {v0 v1 v2 w R} (h:Xt0 v0 v1 v2 w R):vcall JA #[v0,v1,v2] w R:=XJ {loops:=[(7,[8])],cuts:=[(12292,[]),(24583,[])]} Tryz.func9 rK rK h
def jF (v0 v1 v2:Value) (w:World) (R:oK):Prop:=yO0 zE v2 w λa b=>xS zn b λb c=>xS zE c λc d=>vcall Ya #[v0,v1] d λd e=>qo d 0 e λe f=>qo d 1 f λd f=>xS zq f λf g=>zG zq f e g λ_ e=>zu zE a e λe f=>qu .lss zE true e (nI 0) f λe f=>vif e (zG zn b (.slice none 0 0) f λ_ e=>zG zE c (nI 4) e λ_ e=>vlv zn b e λe g=>vlv zE c g λg h=>R (.tuple #[e,g]) h) (zu zE a f λe f=>qu .gtr zE true e (nI 20) f λe f=>vif e (zG zn b (.slice none 0 0) f λ_ e=>zG zE c (nI 4) e λ_ e=>vlv zn b e λe g=>vlv zE c g λg h=>R (.tuple #[e,g]) h) (zu xw (oP yG 0) f λe f=>vcall xG #[d,e] f λd e=>vif d (zG zn b (.slice none 0 0) e λ_ d=>zG zE c (nI 4) d λ_ d=>vlv zn b d λd f=>vlv zE c f λf g=>R (.tuple #[d,f]) g) (xS zn e λd e=>zu zE a e λe f=>qu .eql zE true e (nI 0) f λe f=>vif e (zG zn b (.slice none 0 0) f λ_ e=>zG zE c (nI 1) e λ_ e=>vlv zn b e λe g=>vlv zE c g λg h=>R (.tuple #[e,g]) h) (vcall JG #[v0,v1] f λe f=>Ya0 e 2 0 f (λe f g h i j=>f j λf=>qu .neq zE true (sl 1 e) (nI 1) f λf j=>vif f (zu zn d j λf k=>zG zn b f k λ_ f=>zG zE c (sl 1 e) f λ_ f=>h f) (ZK j λf=>zu zn d f λh j=>j=f/\vcall qK #[(sl 0 e)] f λe f=>(zu zn d f λj k=>j=h/\k=f)/\vbuildS zn 1 [(0,e)] f λe f=>(zu zn d f λj k=>j=h/\k=f)/\vbi .append [zn,zn] zn [h,e] f λe f=>zG zn d e f λ_ e=>zu zn d e λe f=>vbi .len [zn] zE [e] f λe f=>zu zE a f λa f=>qu .eql zE false e a f λa e=>vif a (i e) (g e))) (λa e=>zu zn d e λe f=>zG zn b e f λ_ e=>zG zE c (nI 1) e λ_ e=>WN a e λa=>vlv zn b a λa e=>vlv zE c e λe f=>R (.tuple #[a,e]) f) (λa e=>WN a e λa=>vlv zn b a λa e=>vlv zE c e λe f=>R (.tuple #[a,e]) f) (λa e=>zu zn d e λd e=>zG zn b d e λ_ d=>zG zE c (nI 1) d λ_ d=>WN a d λa=>vlv zn b a λa b=>vlv zE c b λb c=>R (.tuple #[a,b]) c)))))
def ZJ:Ann:={ord:=[(12,[0,1,2,3,4,5],[(0,[4,5]),(1,[2,3,4,5]),(2,[3,4,5]),(3,[4,5]),(4,[5])])],loops:=[],cuts:=[]}
theorem JM (v0 v1 v2:Value) (w:World) (R:oK):vx ZJ 0 ((Tryz.f12.body).getD .skip) (retF Tryz.f12.results.toList R) (retM Tryz.f12.results.toList R) (nthV [v0,v1,v2]) w=jF v0 v1 v2 w R:=rK
theorem JV {v0 v1 v2:Value} {w:World} {R:oK} (h:jF v0 v1 v2 w R):vcall ZF #[v0,v1,v2] w R:=
 Jv (T:=ZJ) (x:=0) (c:=(Tryz.f12.body).getD .skip) (n:=51) mixed Tryz.func12 rfl rfl rK rK rfl (by rw[JM];exact h)
section
variable {v0:Value} {w:World} {R:oK}
theorem Qv (h:xS zq w λa b=>ZK b λb=>vnil P v0 b λc e=>e=b/\zD ye c 0 b λe f=>f=b/\zu zx e b λf h=>h=b/\vnil P v0 b λh i=>i=b/\zD ye h 0 b λi j=>j=b/\zD zx i 1 b λj k=>k=b/\zu zA j b λk l=>l=b/\vbi .len [zA] zE [k] b λl m=>m=b/\∃I:(oA)->List Value->World->Prop,I (λ_=>False) [undef,undef,undef,undef,undef] b/\∀(d:oA) (u:List Value) (g:Fr) (w_11:World),I d u w_11->(vbi .len [zA] zE [k] w_11 λb m=>b=l/\m=w_11)/\(zu zA j w_11 λb m=>b=k/\m=w_11)/\(zD zx i 1 w_11 λb m=>b=j/\m=w_11)/\(zD ye h 0 w_11 λb m=>b=i/\m=w_11)/\(vnil P v0 w_11 λb m=>b=h/\m=w_11)/\(zu zx e w_11 λb m=>b=f/\m=w_11)/\(zD ye c 0 w_11 λb m=>b=e/\m=w_11)/\(vnil P v0 w_11 λb m=>b=c/\m=w_11)/\(((d 10->False)->vcall jA #[f,l] w_11 λc e=>I (λm=>m=10\/d m) [(sl 0 u),c,(sl 2 u),(sl 3 u),(sl 4 u)] e)/\((d 11->False)->vbuildS zh 1 [(0,(nI 1))] w_11 λc e=>I (λm=>m=11\/d m) [(sl 0 u),(sl 1 u),c,(sl 3 u),(sl 4 u)] e)/\((d 12->False)->d 11->vbuildS zn 1 [(0,(sl 2 u))] w_11 λc e=>I (λm=>m=12\/d m) [(sl 0 u),(sl 1 u),(sl 2 u),c,(sl 4 u)] e)/\((d 13->False)->d 10->d 12->yA zq [(0,(sl 1 u)),(1,(sl 3 u))] w_11 λc e=>e=w_11/\I (λm=>m=13\/d m) [(sl 0 u),(sl 1 u),(sl 2 u),(sl 3 u),c] w_11)/\((d 14->False)->xS zq w_11 λc e=>I (λm=>m=14\/d m) [c,(sl 1 u),(sl 2 u),(sl 3 u),(sl 4 u)] e)/\((d 15->False)->d 14->d 13->d 10->d 10->d 11->d 12->d 13->d 14->zG zq (sl 0 u) (sl 4 u) w_11 λ_ c=>I (λm=>m=15\/d m) [(sl 0 u),(sl 1 u),(sl 2 u),(sl 3 u),(sl 4 u)] c)/\True)/\(d 10->d 11->d 12->d 13->d 14->d 15->vnil P v0 w_11 λc e=>zD ye c 0 e λc e=>zD zx c 1 e λc e=>zu zA c e λc e=>vbi .len [zA] zE [c] e λe f=>WO [(nI 0)] f λf h _ i=>qu .lss zE false (sl 0 h) e i λe i=>vif e (ya zA c (sl 0 h) i λc e=>zu zo c e λc e=>xS zo e λe j=>zG zo e c j λ_ c=>ZK c λc=>zD zq (sl 0 u) 1 c λj k=>k=c/\zu zn j c λk l=>l=c/\zu zo e c λl n=>n=c/\vnil P v0 c λn o=>o=c/\zD ye n 0 c λn o=>o=c/\zu zx n c λn o=>o=c/\vcall jA #[n,(sl 0 h)] c λc n=>(zu zo e n λb m=>b=l/\m=n)/\(zu zn j n λb m=>b=k/\m=n)/\(zD zq (sl 0 u) 1 n λb m=>b=j/\m=n)/\qu .add zE true c (nI 1) n λc e=>e=n/\vcall kF #[l,c] n λc e=>(zu zn j e λb m=>b=k/\m=e)/\(zD zq (sl 0 u) 1 e λb m=>b=j/\m=e)/\vbi .append [zn,zn] zn [k,c] e λb c=>zD zq (sl 0 u) 1 c λe j=>j=c/\zG zn e b c λ_ b=>qu .add zE true (sl 0 h) (nI 1) b λb c=>f [b] c) (zu zq (sl 0 u) i λb c=>zG zq a b c λ_ b=>vlv zq a b λa b=>R a b))):vcall kR #[v0] w R:=XJ {ord:=[oz 5 (oR 14) [(0,[2,3,4,5,6,7,8,9,10]),(1,[2,3,4,5,6,7,8,9,10]),(2,[3,4,5,6,7,8,9]),(3,[7]),(4,[7]),(5,[7]),(6,[7])]],loops:=[(3,[26])],pars:=[(1,[0,1,2,3,4,5,6,7,8,9],[10,11,12,13,14,15],[3,16,17,18,19],[(0,[1,2,3,10,13,15]),(1,[2,3,10,13,15]),(2,[3,10,13,15]),(3,[10,13,15]),(4,[5,6,7,8,9,10,13,15]),(5,[6,7,8,9,10,13,15]),(6,[7,8,9,10,13,15]),(7,[8,9,10,13,15]),(8,[9,10,13,15]),(9,[10,13,15])])]} Tryz.func90 rK rK h
end
section
variable {v0 v1 v2:Value} {w:World} {R:oK}
theorem zq0 (h:yO0 za v2 w λa b=>zD za a 0 b λb c=>zu zE b c λb c=>XO zS v0 b true c λb c=>qo b 0 c λc d=>qo b 1 d λb d=>qX0 (λe=>ZK d λd=>vun .not b d λb f=>f=d/\vif b (R (nI (-1)) d) (zD za a 4 d λb f=>f=d/\zu zl b d λf g=>g=d/\vbi .len [zl] zE [f] d λg h=>h=d/\vinvoke c mn_kids #[] d λd h=>(vbi .len [zl] zE [f] h λi j=>i=g/\j=h)/\(zu zl b h λi j=>i=f/\j=h)/\(zD za a 4 h λi j=>i=b/\j=h)/\qu .neq zE false g d h λb d=>d=h/\vif b (R (nI (-1)) h) (zu za a h λb d=>d=h/\vcall Js #[b] h λb d=>vun .not b d λb f=>f=d/\vif b (R (nI (-1)) d) (e [] d)))) (λ_ _ b=>zD za a 4 b λb d=>zu zl b d λb d=>vbi .len [zl] zE [b] d λd e=>WO [(oN),(nI 0)] e λe f _ g=>qu .lss zE false (sl 1 f) d g λd g=>vif d (ya zl b (sl 1 f) g λb d=>zu za b d λb d=>xS za d λd h=>zG za d b h λ_ b=>zu za d b λb d=>vcall jV #[v0,v1,b] d λb d=>qu .eql zE true b (nI (-1)) d λd h=>vif d (R (nI (-1)) h) (vbuildS zh 1 [(0,b)] h λb d=>vbi .append [zh,zh] zh [(sl 0 f),b] d λb d=>qu .add zE true (sl 1 f) (nI 1) d λd h=>e [b,d] h)) (zu za a g λa b=>vinvoke c kG #[v1,a,(sl 0 f)] b λa b=>R a b))):vcall jV #[v0,v1,v2] w R:=XJ {ord:=[oz 2 (oR 15) [(3,[6,7]),(4,[6,7]),(5,[6,7])]],loops:=[(6,[9,38])],cuts:=[(12292,[])]} Tryz.func126 rK rK h
end
section
variable {v0 v1 v2 v3:Value} {w:World} {R:oK}
theorem zp0 (h:yO0 za v1 w λa b=>zD za a 0 b λb c=>zu zE b c λb c=>qu .eql zE true b (nI 20) c λc d=>vif c (zD za a 1 d λc e=>zu zE c e λc e=>zD za a 2 e λe f=>zu zE e f λe f=>yA zg [(0,c),(1,e)] f λc e=>vcall Xd #[c] e λc e=>R c e) (qu .eql zE true b (nI 21) d λc d=>vif c (zD za a 3 d λc e=>zu yx c e λc e=>R c e) (qu .eql zE true b (nI 24) d λb c=>vif b (R (.string {data:= #[116,114,117,101]}) c) (zD za a 0 c λb c=>zu zE b c λb c=>XO zS v0 b false c λb c=>vinvoke b Zw #[] c λb c=>vbuildS yW 1 [(0,b)] c λb c=>qX0 (λd=>zD za a 0 c λc e=>zu zE c e λc e=>qu .eql zE true c (nI 22) e λc e=>vif c (ZK e λc=>zD za a 1 c λf g=>g=c/\zu zE f c λf g=>g=c/\zD za a 2 c λg h=>h=c/\zu zE g c λh i=>i=c/\vcall jk #[f] c λc f=>(zu zE g f λi j=>i=h/\j=f)/\(zD za a 2 f λi j=>i=g/\j=f)/\vcall jk #[h] f λf g=>vbuildS yW 2 [(0,c),(1,f)] g λc f=>vbi .append [yW,yW] yW [b,c] f λc f=>d [c] f) (d [b] e)) (λb _ c=>zD za a 4 c λa c=>zu zl a c λa c=>vbi .len [zl] zE [a] c λc d=>WO [(sl 0 b),(nI 0)] d λb d _ e=>qu .lss zE false (sl 1 d) c e λc e=>vif c (ya zl a (sl 1 d) e λa c=>zu za a c λa c=>xS za c λc f=>zG za c a f λ_ a=>zu za c a λa c=>vcall Zr #[v0,a] c λa c=>vbuildS yW 1 [(0,a)] c λa c=>vbi .append [yW,yW] yW [(sl 0 d),a] c λa c=>qu .add zE true (sl 1 d) (nI 1) c λc f=>b [a,c] f) (vcall X8 #[(sl 0 d),(.string {data:= #[32]})] e λa b=>qu .add yx true (.string {data:= #[40]}) a b λa b=>qu .add yx true a (.string {data:= #[41]}) b λa b=>R a b)))))):vcall Zr #[v0,v1] w R:=XJ {ord:=[oz 10 [0,1,2,4,5,3,6,7,8,9] [(0,[1,2,4,5,3,6,7]),(1,[4,5]),(2,[4,5]),(4,[3]),(5,[3])]],loops:=[(12,[5,45])],cuts:=[(40971,[5])]} Tryz.func130 rK rK h
theorem Wm (h:yO0 za v2 w λa b=>xS zg b λb c=>zD za a 4 c λc d=>zu zl c d λc d=>vbi .len [zl] zE [c] d λd e=>WO [(oN),(nI 0)] e λe f _ g=>qu .lss zE false (sl 1 f) d g λd g=>vif d (ya zl c (sl 1 f) g λc d=>zu za c d λc d=>xS za d λd h=>zG za d c h λ_ c=>zu za d c λc d=>vcall Z5 #[v0,v1,c,v3] d λc d=>vbuildS xR 1 [(0,c)] d λc d=>vbi .append [xR,xR] xR [(sl 0 f),c] d λc d=>qu .add zE true (sl 1 f) (nI 1) d λd h=>e [c,d] h) (ZK g λc=>zu za a c λd e=>e=c/\zD za a 0 c λe g=>g=c/\zu zE e c λg h=>h=c/\XO zS v0 g false c λh i=>i=c/\zu za a c λi j=>j=c/\vcall jV #[v0,v1,d] c λc d=>(zu za a d λj k=>j=i/\k=d)/\(XO zS v0 g false d λj k=>j=h/\k=d)/\(zu zE e d λj k=>j=g/\k=d)/\(zD za a 0 d λj k=>j=e/\k=d)/\vinvoke h qO #[v3,i,(sl 0 f)] d λa d=>yA zg [(0,c),(1,a)] d λa c=>c=d/\zG zg b a d λ_ a=>vlv zg b a λa b=>R a b)):vcall Z5 #[v0,v1,v2,v3] w R:=XJ {ord:=[oz 7 [0,1,2,4,5,6,7,8,9,10,3,11,12,13] [(0,[1,2,4,5,6,7,8,9,10]),(1,[2,4,5,6,7,8,9,10]),(2,[4,5,6,7,8,9,10]),(4,[5,6,8,9,10,3]),(5,[8,9,10,3]),(6,[8,9,10,3]),(7,[8,9,10,3]),(8,[9,10,3]),(9,[10,3]),(10,[3])]],loops:=[(3,[9,15])]} Tryz.func140 rK rK h
end
def qW (v0 v1 v2 v3:Value) (w:World) (R:oK):Prop:=zu yJ v2 w λa b=>zu yy v3 b λb c=>vcall qN #[a,b,v0,v1] c λa b=>R a b
theorem ZA {v0 v1 v2 v3 w R} (h:qW v0 v1 v2 v3 w R):vcall Zv #[v0,v1,v2,v3] w R:=XJ {} Tryz.func247 rK rK h
def qV (v0 v1 v2:Value) (w:World) (R:oK):Prop:=yO0 yJ v0 w λa b=>vbi .len [zf] zE [v1] b λb c=>vcall KH #[b] c λb c=>xS zf c λc d=>zG zf c b d λ_ b=>zu yJ a b λb d=>vcall Xu #[b,v1,v2] d λb d=>Ya0 b 1 0 d (λb d e _ _ f=>d f λd=>zu yJ a d λa d=>zu zf c d λd f=>vcall kS #[a,d,(sl 0 b),(nI (-1))] f λa b=>zG zf c a b λ_ a=>e a) (λa b=>zu zf c b λb d=>WN a d λa=>R b a) (λa b=>WN a b λa=>R (.slice none 0 0) a) (λa b=>zu zf c b λb c=>WN a c λa=>R b a)
def kZ:Ann:={ord:=[],loops:=[],cuts:=[]}
theorem Qk (v0 v1 v2:Value) (w:World) (R:oK):vx kZ 0 ((Tryz.f255.body).getD .skip) (retF Tryz.f255.results.toList R) (retM Tryz.f255.results.toList R) (nthV [v0,v1,v2]) w=qV v0 v1 v2 w R:=rK
theorem Qw {v0 v1 v2:Value} {w:World} {R:oK} (h:qV v0 v1 v2 w R):vcall kT #[v0,v1,v2] w R:=
 Jv (T:=kZ) (x:=0) (c:=(Tryz.f255.body).getD .skip) (n:=22) mixed Tryz.func255 rfl rfl rK rK rfl (by rw[Qk];exact h)
def ZI (v0 v1:Value) (w:World) (R:oK):Prop:=vun .neg v0 w λa b=>R a b
theorem JU {v0 v1 w R} (h:ZI v0 v1 w R):vcall JI #[v0,v1] w R:=XJ {} Tryz.func286 rK rK h
section
variable {w:World} {K:oK} {F:oA}
theorem Yj0 (x y:Bool):(Op.equal Yu (.bool x) (.bool y)).run P w= .ok (x==y) w:=by
 have hu:P.underlying Yu=some .bool:=rK
 have:∀d,(Op.equalIn (d+1) Yu (.bool x) (.bool y)).run P w= .ok (x==y) w:=λd=>by
  rw[Op.equalIn,Sem.run_bind,run_underlying hu];rfl
 exact this 9999
@[push_cast] theorem vbin_neb (b:Bool) (x y:Bool):qu .neq Yu b (.bool x) (.bool y) w K=K (.bool (x != y)) w:=
 yp rfl (by simp[binOp,Yj0,Result.andThen,bne])
theorem IndexFunc_Lint_int {v f:Value} {vs:List Value} {p:Nat->Bool} (e:Vals F w v vs) (n:∀i,i<vs.length->FnB w f #[vs.getD i undef] (p i))
  (k:∀w',Ext w w'->K (nI (idxI vs.length p)) w'):vcall km #[v,f] w K:=by
 refine ze {loops:=[(2,[8])]} Tryz.func341 ?_;simp(disch:=exact oS) only[push_cast,e.len];have hlen:vs.length<=9223372036854775807:=by obtain⟨_,_,_,l,s,_⟩:=e.shape;simp at l;omega
 refine vloop_up vs.length (λi u w'=>u=[nI i]/\Ext w w'/\∀j,j<i->p j=false) ⟨rfl,Same.refl _ _,oM⟩ ?_;rintro i _ g w1 C hi ⟨rfl,he,d⟩ m;refine oZ ?_;refine zb (λr=>?_) (λo=>?_)
 .have b:=e.ext he;simp(disch:=exact oS) only[push_cast,b.iaddr,b.load];refine n i oM w1 _ he λw2 a=>zm (λc=>?_) (λc=>?_)
  .have:=k w2 (he.trans a);rwa[idxI_some oM c d] at this
  .simp(disch:=omega) only[push_cast,zk];exact m oM _ _ ⟨by simp,he.trans a,λj q=>by
    by_cases h:j=i
    .subst h;exact c
    .exact d j oM⟩
 .have:=k w1 he;rwa[V7 (λj q=>d j oM)] at this
theorem jx {v f:Value} {vs:List Value} {p:Nat->Bool} (c:Vals F w v vs) (b:∀i,i<vs.length->FnB w f #[vs.getD i undef] (p i))
  (a:∀w',Ext w w'->K (.bool ((List.range vs.length).any p)) w'):vcall jp #[v,f] w K:=by
 refine ze {} Tryz.func319 ?_;refine IndexFunc_Lint_int c b λw' he=>?_;simp only[push_cast,XG];exact a w' he
end
section
variable {w:World} {K:oK} {F:oA}
theorem Clone_Lint {v:Value} {xs:oI} (d:Ints F w v xs) (i:xs.length*8<=140737488355328) (j:∀w' v',Ext w w'->OwnI zh w' v' xs->(∀x,v'.ownBlock=some x->w.heap.size<=x)->K v' w'):
  vcall qK #[v] w K:=by
 refine ze {} Tryz.func51 ?_;obtain⟨a,c,rfl,m,n,f⟩:=d.shape;simp only[K3] at d m⊢;rw[QG ZP0];refine zm (λh=>?_) (λh=>?_)
 .have:xs=[]:=by
   refine GK λg=>?_;obtain⟨b,o,e,_⟩:=f (by simpa using g);subst e;cases h
  subst this;exact j w _ (Same.refl _ _) OwnI.nil λx d=>by cases d
 .refine yc xt yM λb w1 s he u l=>?_;have q:=he.size;have k:OwnI zh w1 (.slice (some ⟨b,0,none⟩) 0 0) []:=Blk.own1 (t:=zh) (cs:=[]) (by rw[qB];exact l) (Gf _) rfl rfl oM;refine k.app (ys:=xs) xC (d.ext he) (by simp only[pK];omega) (by simpa using i) λv' w2 r hs p=>?_;refine j w2 v' (Ext.then he hs λx d=>?_) r λx d=>?_
  .have e:b=x:=V1 d;omega
  .rcases p x d with e|e
   .have e:b=x:=V1 e;omega
   .omega
end
end Go.Proofs.YtfnpmncplaibiaaGreatDoor
section
namespace Go.M
structure Gt where
 x:Bool
 a:Int
 b:Int
deriving DecidableEq
abbrev Gs:=List Gt
def absI (a:Int):Int:=if a<0 then-a else a
def turnI (c:Bool) (a:Int):Int:=if c then-a else a
def putG (n:Nat) (gs:Gs) (g:Gt):Gs×Int:=
 if g∈gs then(gs,2+n+gs.idxOf g) else if 600<=gs.length then(gs,0) else(gs++[g],2+n+gs.length)
def gateA (a b:Int):Gt:=if absI b<absI a then⟨false,b,a⟩ else⟨false,a,b⟩
def gateX (a b:Int):Gt:=if absI b<absI a then⟨true,absI b,absI a⟩ else⟨true,absI a,absI b⟩
def andG (n:Nat) (gs:Gs) (a b:Int):Gs×Int:=
 if a= -1\/b= -1 then(gs,-1) else if a=1 then(gs,b) else if b=1 then(gs,a) else if a=b then(gs,a) else if a= -b then(gs,-1) else putG n gs (gateA a b)
def xorG (n:Nat) (gs:Gs) (a b:Int):Gs×Int:=
 if absI a=1 then(gs,turnI (decide (a=1)) b) else if absI b=1 then(gs,turnI (decide (b=1)) a) else if a=b then(gs,-1) else if a= -b then(gs,1)
 else((putG n gs (gateX a b)).1,turnI (decide (a<0) != decide (b<0)) (putG n gs (gateX a b)).2)
inductive Bd (α:Type) where
 |ret (a:α)
 |and (x y:Int) (k:Int->Bd α)
 |xor (x y:Int) (k:Int->Bd α)
namespace Bd
def bind {α β:Type}:Bd α->(α->Bd β)->Bd β
 |ret a,f=>f a
 |and x y k,f=>and x y λv=>bind (k v) f
 |xor x y k,f=>xor x y λv=>bind (k v) f
def map {α β:Type} (f:α->β) (p:Bd α):Bd β:=p.bind λa=>ret (f a)
def Reach {α:Type}:Bd α->α->Prop
 |ret a,b=>b=a
 |and _ _ k,b=> ∃v,Reach (k v) b
 |xor _ _ k,b=> ∃v,Reach (k v) b
def run {α:Type} (n:Nat):Bd α->Gs->Option (Gs×α)
 |ret a,gs=>some (gs,a)
 |and x y k,gs=>if(andG n gs x y).2=0 then none else run n (k (andG n gs x y).2) (andG n gs x y).1
 |xor x y k,gs=>if(xorG n gs x y).2=0 then none else run n (k (xorG n gs x y).2) (xorG n gs x y).1
def Out {α:Type} (n:Nat) (p:Bd α) (st st':Option Gs) (a:α):Prop:=
 match st with
 |some gs=>(∃gs',p.run n gs=some (gs',a)/\st'=some gs')\/(p.run n gs=none/\st'=none/\p.Reach a)
 |none=>st'=none/\p.Reach a
theorem bind_assoc {α β γ:Type} (p:Bd α) (f:α->Bd β) (g:β->Bd γ):(p.bind f).bind g=p.bind λa=>(f a).bind g:=by
 induction p with
 |ret a=>rfl
 |and x y k b=>grind [bind]
 |xor x y k b=>grind [bind]
theorem run_bind {α β:Type} {n:Nat} (p:Bd α) (f:α->Bd β) (gs:Gs):(p.bind f).run n gs=(p.run n gs).bind λr=>(f r.2).run n r.1:=by
 induction p generalizing gs with
 |ret a=>rfl
 |and x y k b=>
  grind [bind,run]
 |xor x y k b=>
  grind [bind,run]
theorem reach_bind {α β:Type} {p:Bd α} {f:α->Bd β} {a:α} {b:β} (h:p.Reach a) (g:(f a).Reach b):(p.bind f).Reach b:=by
 induction p with
 |ret c=>cases h;exact g
 |and x y k e=>obtain⟨v,d⟩:=h;exact⟨v,e v d⟩
 |xor x y k e=>obtain⟨v,d⟩:=h;exact⟨v,e v d⟩
theorem reach_of_run {α:Type} {n:Nat} {p:Bd α} {gs gs':Gs} {a:α} (h:p.run n gs=some (gs',a)):p.Reach a:=by
 induction p generalizing gs with
 |ret c=>simp only[run,Gr,Gw] at h;exact h.2.symm
 |and x y k b=>
  simp only[run] at h;split at h
  .cases h
  .exact⟨_,b _ h⟩
 |xor x y k b=>
  simp only[run] at h;split at h
  .cases h
  .exact⟨_,b _ h⟩
theorem Out.reach {α:Type} {n:Nat} {p:Bd α} {st st':Option Gs} {a:α} (h:Out n p st st' a):p.Reach a:=by
 cases st with
 |none=>exact h.2
 |some gs=>
  rcases h with⟨gs',h,_⟩|⟨_,_,h⟩
  .exact reach_of_run h
  .exact h
theorem Out.ret {α:Type} {n:Nat} (a:α) (st:Option Gs):Out n (.ret a) st st a:=by
 cases st with
 |none=>exact⟨rfl,rfl⟩
 |some gs=>exact .inl ⟨gs,rfl,rfl⟩
theorem Out.bind {α β:Type} {n:Nat} {p:Bd α} {f:α->Bd β} {st st' d:Option Gs} {a:α} {b:β} (h:Out n p st st' a) (c:Out n (f a) st' d b):Out n (p.bind f) st d b:=by
 cases st with
 |none=>
  obtain⟨rfl,e⟩:=h;exact⟨c.1,reach_bind e c.2⟩
 |some gs=>
  rcases h with⟨gs',e,rfl⟩|⟨e,rfl,i⟩
  .rcases c with⟨g,c,rfl⟩|⟨c,rfl,i⟩
   .exact .inl ⟨g,by rw[run_bind,e];exact c,rfl⟩
   .exact .inr ⟨by rw[run_bind,e];exact c,rfl,reach_bind (reach_of_run e) i⟩
  .exact .inr ⟨by rw[run_bind,e];rfl,c.1,reach_bind i c.2⟩
theorem Out.map {α β:Type} {n:Nat} {p:Bd α} (f:α->β) {st st':Option Gs} {a:α} (h:Out n p st st' a):Out n (p.map f) st st' (f a):=h.bind (Out.ret _ _)
end Bd
theorem idxOf_pre {gs F:Gs} {g:Gt} (h:gs<+:F) (hm:g∈gs):F.idxOf g=gs.idxOf g:=by
 obtain⟨t,rfl⟩:=h
 grind
theorem put_pre {n:Nat} (gs:Gs) (g:Gt):gs<+:(putG n gs g).1:=by
 grind [putG]
theorem put_again {n:Nat} {gs F:Gs} {g:Gt} (b:(putG n gs g).2≠0) (h:(putG n gs g).1<+:F):putG n F g=(F,(putG n gs g).2):=by
 unfold putG at b h⊢;by_cases hm:g∈gs
 .grind [idxOf_pre]
 .rw[y3 hm] at b h⊢;by_cases c:600<=gs.length
  .grind
  .rw[y3 c] at h⊢;have a:g∈gs++[g]:=(by simp);rw[X0 (h.subset a),idxOf_pre h a,pQ,y3 hm];simp
theorem and_pre {n:Nat} (gs:Gs) (a b:Int):gs<+:(andG n gs a b).1:=by
 grind [andG,put_pre]
theorem xor_pre {n:Nat} (gs:Gs) (a b:Int):gs<+:(xorG n gs a b).1:=by
 grind [xorG,put_pre]
theorem and_again {n:Nat} {gs F:Gs} {a b:Int} (c:(andG n gs a b).2≠0) (h:(andG n gs a b).1<+:F):andG n F a b=(F,(andG n gs a b).2):=by
 grind [andG,put_again]
theorem turn_zero {c:Bool} {m:Int}:turnI c m=0↔m=0:=by cases c<;>simp[turnI]
theorem qP0 {n:Nat} {gs F:Gs} {a b:Int} (c:(xorG n gs a b).2≠0) (h:(xorG n gs a b).1<+:F):xorG n F a b=(F,(xorG n gs a b).2):=by
 unfold xorG at c h⊢
 repeat' split at c
 all_goals simp_all
 have:=put_again (n:=n) (g:=gateX a b) (λe=>c (turn_zero.2 e)) h;rw[this];exact⟨rfl,rfl⟩
namespace Bd
theorem run_pre {α:Type} {n:Nat} {p:Bd α} {gs gs':Gs} {a:α} (h:p.run n gs=some (gs',a)):gs<+:gs':=by
 induction p generalizing gs with
 |ret c=>grind [run]
 |and x y k b=>
  grind [run,and_pre]
 |xor x y k b=>
  grind [run,xor_pre]
theorem run_again {α:Type} {n:Nat} {p:Bd α} {gs gs' F:Gs} {a:α} (h:p.run n gs=some (gs',a)) (hF:gs'<+:F):p.run n F=some (F,a):=by
 induction p generalizing gs with
 |ret c=>grind [run]
 |and x y k e=>
  simp only[run] at h⊢;split at h
  .cases h
  .next b=>
   have d:=(run_pre h).trans hF
   grind [and_again]
 |xor x y k e=>
  simp only[run] at h⊢;split at h
  .cases h
  .next b=>
   have d:=(run_pre h).trans hF
   grind [qP0]
end Bd
def litV (vals:List Bool) (m:Int):Bool:=if 0<m then vals.getD (m-1).toNat false else !vals.getD (-m-1).toNat false
def has (k:Nat) (m:Int):Prop:=m≠0/\ -(k:Int)<=m/\m<=k
def gateV (vals:List Bool) (g:Gt):Bool:=if g.x then litV vals g.a != litV vals g.b else litV vals g.a&&litV vals g.b
def valsG:List Bool->Gs->List Bool
 |vals,[]=>vals
 |vals,g::gs=>valsG (vals++[gateV vals g]) gs
def gateOk (n k:Nat) (g:Gt):Prop:=2<=absI g.a/\absI g.a<absI g.b/\absI g.b<=1+n+k/\(g.x=true->0<g.a/\0<g.b)
structure NetG (n:Nat) (gs:Gs):Prop where
 few:gs.length<=600
 gate:∀k,(h:k<gs.length)->gateOk n k gs[k]
 once:gs.Nodup
theorem lit_neg (vals:List Bool) {m:Int} (h:m≠0):litV vals (-m)= !litV vals m:=by
 unfold litV;by_cases a:0<m
 .rw[y3 oM,X0 a,Int.neg_neg]
 .rw[X0 oM,y3 a,Bool.not_not]
theorem lit_pre {vals more:List Bool} {m:Int} (h:has vals.length m):litV (vals++more) m=litV vals m:=by
 unfold litV;obtain⟨a,b,c⟩:=h;split
 .rw[y4,Gb oM,<-y4]
 .rw[y4,Gb oM,<-y4]
theorem valsG_len:∀(gs:Gs) (vals:List Bool),(valsG vals gs).length=vals.length+gs.length
 |[],vals=>rfl
 |g::gs,vals=>by simp only[valsG,valsG_len gs,Q1,gF,pK];omega
theorem valsG_pre:∀(gs:Gs) (vals:List Bool),vals<+:valsG vals gs
 |[],vals=>Pq _
 |g::gs,vals=>(List.prefix_append _ _).trans (valsG_pre gs _)
theorem valsG_app:∀(gs hs:Gs) (vals:List Bool),valsG vals (gs++hs)=valsG (valsG vals gs) hs
 |[],hs,vals=>rfl
 |g::gs,hs,vals=>valsG_app gs hs _
theorem abs_pos {a:Int} (h:a≠0):0<absI a:=by unfold absI;omega
theorem has_abs {k:Nat} {m:Int}:has k m↔1<=absI m/\absI m<=k:=by
 unfold has absI;omega
theorem has_neg {k:Nat} {m:Int} (h:has k m):has k (-m):=⟨by have:=h.1;omega,by have:=h.2.2;omega,by have:=h.2.1;omega⟩
theorem has_mono {k l:Nat} {m:Int} (h:has k m) (a:k<=l):has l m:=⟨h.1,by have:=h.2.1;omega,by have:=h.2.2;omega⟩
theorem Yx {k:Nat} {m:Int} {c:Bool} (h:has k m):has k (turnI c m):=by cases c;exact h;exact has_neg h
theorem xH0 (vals:List Bool) {m:Int} (h:m≠0) (c:Bool):litV vals (turnI c m)=(c != litV vals m):=by
 cases c
 .show litV vals m=_;simp
 .show litV vals (-m)=_;rw[lit_neg vals h];simp
theorem valsG_at {n:Nat} {F:Gs} {ins:List Bool} (s:ins.length=n) {k:Nat} (r:k<F.length) (hF:gateOk n k F[k]):(valsG (true::ins) F).getD (1+n+k) false=gateV (valsG (true::ins) F) F[k]:=by
 have e:F=F.take k++F[k]::F.drop (k+1):=by simp_all
 have c:=hF;clear hF;generalize q:F[k]=g at e c⊢;have d:(valsG (true::ins) (F.take k)).length=1+n+k:=by grind [valsG_len]
 rw[e,valsG_app];show(valsG (valsG (true::ins) (F.take k)++[gateV (valsG (true::ins) (F.take k)) g]) (F.drop (k+1))).getD (1+n+k) false=gateV (valsG (valsG (true::ins) (F.take k)++[gateV (valsG (true::ins) (F.take k)) g]) (F.drop (k+1))) g;generalize valsG (true::ins) (F.take k)=vs at d⊢;obtain⟨t,f⟩:=valsG_pre (F.drop (k+1)) (vs++[gateV vs g]);rw[<-f,gZ];obtain⟨i,j,l,m⟩:=c;have o:has vs.length g.a:=has_abs.2 ⟨oM,oM⟩;have p:has vs.length g.b:=has_abs.2 ⟨oM,oM⟩;have h:gateV (vs++([gateV vs g]++t)) g=gateV vs g:=by
  grind [gateV,lit_pre]
 grind
theorem put_step {n:Nat} {gs:Gs} {g:Gt} (h:NetG n gs) (d:gateOk n gs.length g) (f:(putG n gs g).2≠0):
  NetG n (putG n gs g).1/\has (1+n+(putG n gs g).1.length) (putG n gs g).2/\∀{F:Gs} {ins:List Bool},ins.length=n->(putG n gs g).1<+:F->litV (valsG (true::ins) F) (putG n gs g).2=gateV (valsG (true::ins) F) g:=by
 have key:∀{F:Gs} {ins:List Bool} {k:Nat},ins.length=n->(c:k<F.length)->F[k]=g->gateOk n k g->litV (valsG (true::ins) F) (2+n+k)=gateV (valsG (true::ins) F) g:=λ{F ins k} i c he d=>by
  have:=valsG_at i c (he▸d)
  grind [litV]
 unfold putG at f⊢;by_cases hm:g∈gs
 .rw[X0 hm] at f⊢;have hi:gs.idxOf g<gs.length:=(by grind);refine⟨h,⟨oM,oM,by grind⟩,λ{F ins} i hF=>?_⟩;have c:gs.idxOf g<F.length:=(by grind);have he:F[gs.idxOf g]=g:=by
   obtain⟨t,rfl⟩:=hF
   grind
  refine key i c he ?_;have:=h.gate _ hi
  grind
 .rw[y3 hm] at f⊢;by_cases j:600<=gs.length
  .grind
  .rw[y3 j] at f⊢;refine⟨⟨by grind,λk c=>?_,?_⟩,?_,λ{F ins} i hF=>?_⟩
   .rw[Q1,gG] at c;by_cases e:k<gs.length
    .rw[PV e];exact h.gate k e
    grind
   .rw[Gu];exact⟨h.once,by simp,λa l b m e=>hm (by grind)⟩
   .rw[Q1,gG];exact⟨oM,oM,oM⟩
   .obtain⟨t,rfl⟩:=hF
    grind
theorem KY (ins:List Bool) (F:Gs):litV (valsG (true::ins) F) 1=true:=by
 obtain⟨t,a⟩:=valsG_pre F (true::ins);rw[<-a];rfl
theorem K4 (ins:List Bool) (F:Gs):litV (valsG (true::ins) F) (-1)=false:=by
 simp_all[lit_neg,KY]
theorem abs_eq {a b:Int} (h:absI a=absI b):a=b\/a= -b:=by grind [absI]
theorem lit_abs (vals:List Bool) {a:Int} (h:a≠0):litV vals a=(decide (a<0) != litV vals (absI a)):=by
 unfold absI
 grind [lit_neg]
theorem and_step {n:Nat} {gs:Gs} {a b:Int} (i:NetG n gs) (h:has (1+n+gs.length) a) (e:has (1+n+gs.length) b) (c:(andG n gs a b).2≠0):
  NetG n (andG n gs a b).1/\has (1+n+(andG n gs a b).1.length) (andG n gs a b).2/\
  ∀{F:Gs} {ins:List Bool},ins.length=n->(andG n gs a b).1<+:F->litV (valsG (true::ins) F) (andG n gs a b).2=(litV (valsG (true::ins) F) a&&litV (valsG (true::ins) F) b):=by
 have g:has (1+n+gs.length) (-1):=⟨dC,oM,oM⟩;unfold andG at c⊢;by_cases c1:a= -1\/b= -1
 .grind [K4]
 rw[y3 c1] at c⊢;by_cases c2:a=1
 .grind [KY]
 rw[y3 c2] at c⊢;by_cases c3:b=1
 .grind [KY]
 rw[y3 c3] at c⊢;by_cases f:a=b
 .grind
 rw[y3 f] at c⊢;by_cases d:a= -b
 .rw[X0 d];refine⟨i,g,λ{F ins} _ _=>?_⟩;rw[d,lit_neg _ e.1,K4,Bool.not_and_self]
 rw[y3 d] at c⊢;have a2:2<=absI a:=by have:=abs_pos h.1;grind [absI]
 have b2:2<=absI b:=by have:=abs_pos e.1;grind [absI]
 grind [abs_eq,has_abs,gateOk,gateA,put_step,gateV]
theorem xor_step {n:Nat} {gs:Gs} {a b:Int} (g:NetG n gs) (i:has (1+n+gs.length) a) (d:has (1+n+gs.length) b) (c:(xorG n gs a b).2≠0):
  NetG n (xorG n gs a b).1/\has (1+n+(xorG n gs a b).1.length) (xorG n gs a b).2/\
  ∀{F:Gs} {ins:List Bool},ins.length=n->(xorG n gs a b).1<+:F->litV (valsG (true::ins) F) (xorG n gs a b).2=(litV (valsG (true::ins) F) a != litV (valsG (true::ins) F) b):=by
 have one:∀{x y:Int} {F:Gs} {ins:List Bool},absI x=1->y≠0->litV (valsG (true::ins) F) (turnI (decide (x=1)) y)=(litV (valsG (true::ins) F) x != litV (valsG (true::ins) F) y):=λ{x y F ins} q r=>by
  rw[xH0 _ r];rcases abs_eq (b:=1) q with rfl|rfl
  .rw[KY];rfl
  .rw[K4];rfl
 unfold xorG at c⊢;by_cases c1:absI a=1
 .rw[X0 c1];exact⟨g,Yx d,λ{F ins} _ _=>one c1 d.1⟩
 rw[y3 c1] at c⊢;by_cases c2:absI b=1
 .rw[X0 c2];exact⟨g,Yx i,λ{F ins} _ _=>by grind [turnI]⟩
 rw[y3 c2] at c⊢;by_cases c3:a=b
 .rw[X0 c3];subst c3;exact⟨g,⟨oM,oM,oM⟩,λ{F ins} _ _=>by grind [K4]⟩
 rw[y3 c3] at c⊢;by_cases j:a= -b
 .rw[X0 j];exact⟨g,⟨oM,oM,oM⟩,λ{F ins} _ _=>by show litV _ 1=_;rw[j,lit_neg _ d.1,KY];simp⟩
 rw[y3 j] at c⊢;have a2:2<=absI a:=by have:=abs_pos i.1;omega
 have b2:2<=absI b:=by have:=abs_pos d.1;omega
 have p:absI a≠absI b:=by grind [abs_eq]
 have l:=(has_abs.1 i).2;have m:=(has_abs.1 d).2;have aa:∀x:Int,2<=absI x->absI (absI x)=absI x:=λx h=>by
  grind [absI]
 have k:gateOk n gs.length (gateX a b):=by
  unfold gateX;split
  .exact⟨by grind,by grind,by grind,λ_=>⟨by grind,by grind⟩⟩
  .exact⟨by grind,by grind,by grind,λ_=>⟨by grind,by grind⟩⟩
 have f:(putG n gs (gateX a b)).2≠0:=λe=>c (turn_zero.2 e);obtain⟨p1,p2,s⟩:=put_step g k f;refine⟨p1,Yx p2,λ{F ins} o hF=>?_⟩;show litV _ (turnI _ (putG n gs (gateX a b)).2)=_;rw[xH0 _ f,s o hF,lit_abs _ i.1,lit_abs _ d.1];have e:gateV (valsG (true::ins) F) (gateX a b)=(litV (valsG (true::ins) F) (absI a) != litV (valsG (true::ins) F) (absI b)):=by
  unfold gateX gateV
  grind
 grind
def Says {α:Type} (ρ:Int->Bool):Nat->Bd α->(Nat->α->Prop)->Prop
 |k,.ret a,Q=>Q k a
 |k,.and x y c,Q=>has k x/\has k y/\∀k' v,k<=k'->has k' v->ρ v=(ρ x&&ρ y)->Says ρ k' (c v) Q
 |k,.xor x y c,Q=>has k x/\has k y/\∀k' v,k<=k'->has k' v->ρ v=(ρ x != ρ y)->Says ρ k' (c v) Q
theorem Says.bind {α β:Type} {ρ:Int->Bool} {p:Bd α} {f:α->Bd β} {Q:Nat->β->Prop}:∀{k:Nat},Says ρ k p (λb a=>Says ρ b (f a) Q)->Says ρ k (p.bind f) Q:=by
 induction p with
 |ret a=>intro k h;exact h
 |and x y c l=>intro k ⟨d,e,h⟩;exact⟨d,e,λb v g j i=>l v (h b v g j i)⟩
 |xor x y c l=>intro k ⟨d,e,h⟩;exact⟨d,e,λb v g j i=>l v (h b v g j i)⟩
theorem Says.sound {α:Type} {n:Nat} {ins:List Bool} (k:ins.length=n) {F:Gs} {p:Bd α} {Q:Nat->α->Prop}:∀{gs gs':Gs} {a:α},NetG n gs->p.run n gs=some (gs',a)->gs'<+:F->Says (litV (valsG (true::ins) F)) (1+n+gs.length) p Q->NetG n gs'/\Q (1+n+gs'.length) a:=by
 induction p with
 |ret c=>
  intro gs gs' a b h hF hs;simp only[Bd.run,Gr,Gw] at h;obtain⟨rfl,rfl⟩:=h;exact⟨b,hs⟩
 |and x y c i=>
  intro gs gs' a b h hF ⟨e,f,hs⟩;simp only[Bd.run] at h;split at h
  .cases h
  .next d=>
   obtain⟨p1,p2,j⟩:=and_step b e f d;have g:=Bd.run_pre h
   grind [and_pre]
 |xor x y c i=>
  intro gs gs' a b h hF ⟨e,f,hs⟩;simp only[Bd.run] at h;split at h
  .cases h
  .next d=>
   obtain⟨p1,p2,j⟩:=xor_step b e f d;have g:=Bd.run_pre h
   grind [xor_pre]
end Go.M
end
section
namespace Go.M
def orB (x y:Int):Bd Int:= .and (-x) (-y) λv=> .ret (-v)
def muxB (c x y:Int):Bd Int:= .and c x λp=> .and (-c) y λq=>orB p q
def sumB:oI->oI->Int->Bd (oI)
 |x::xs,y::ys,c=> .xor x y λh=> .xor h c λs=> .and x y λp=> .and h c λq=>(orB p q).bind λc'=>(sumB xs ys c').map (s:: ·)
 |_,_,_=> .ret []
def lessB:oI->oI->Int->Bd Int
 |x::xs,y::ys,r=> .xor x y λd=>(muxB d y r).bind λr'=>lessB xs ys r'
 |_,_,r=> .ret r
def sameB:oI->oI->Int->Bd Int
 |x::xs,y::ys,r=> .xor x y λd=> .and r (-d) λr'=>sameB xs ys r'
 |_,_,r=> .ret r
def eachB (f:Int->Int->Bd Int):oI->oI->Bd (oI)
 |x::xs,y::ys=>(f x y).bind λs=>(eachB f xs ys).map (s:: ·)
 |_,_=> .ret []
def rowB (s:Int):oI->Bd (oI)
 |x::xs=> .and x s λv=>(rowB s xs).map (v:: ·)
 |[]=> .ret []
def offsL (n:Nat):oI:=List.replicate n (-1)
def mulB (xs:oI):oI->Nat->oI->Bd (oI)
 |y::ys,i,s=>(rowB y (xs.take (xs.length-i))).bind λr=>(sumB s (offsL i++r) (-1)).bind λs'=>mulB xs ys (i+1) s'
 |[],_,s=> .ret s
def negL (xs:oI):oI:=xs.map λx=> -x
def divB (xs wide:oI):Nat->oI->oI->Bd (oI×oI)
 |n+1,r,q=>(lessB (xs.getD n 0::r) wide (-1)).bind λl=>(sumB (xs.getD n 0::r) (negL wide) 1).bind λu=>
   (eachB (muxB l) ((xs.getD n 0::r).take xs.length) (u.take xs.length)).bind λr'=>divB xs wide n r' (q.set n (-l))
 |0,r,q=> .ret (q,r)
def fromL (up:Bool) (fill:Int) (s:oI) (by_ k:Nat):Int:=if up then(if k<by_ then fill else s.getD (k-by_) 0) else if k+by_<s.length then s.getD (k+by_) 0 else fill
def shiftB (up:Bool) (fill:Int):oI->Nat->oI->Bd (oI)
 |c::ys,i,s=>(eachB (muxB c) ((List.range s.length).map (fromL up fill s (2^i))) s).bind λs'=>shiftB up fill ys (i+1) s'
 |[],_,s=> .ret s
def unB (op:Int) (x:oI):Bd (oI):=if op=1 then .ret (negL x) else sumB (offsL x.length) (negL x) 1
def binB (op:Int) (x y:oI):Bd (oI):=
 if op=14 then .ret (y++x)
 else if op=3 then eachB (λa b=> .and a b .ret) x y
 else if op=4 then eachB orB x y
 else if op=5 then eachB (λa b=> .xor a b .ret) x y
 else if op=6 then sumB x y (-1)
 else if op=7 then sumB x (negL y) 1
 else if op=8 then mulB x y 0 (offsL x.length)
 else if op=9 then(divB x (y++[-1]) x.length (offsL x.length) (offsL x.length)).map (·.1)
 else if op=10 then(divB x (y++[-1]) x.length (offsL x.length) (offsL x.length)).map (·.2)
 else if op=11 then shiftB true (-1) y 0 x
 else if op=12 then shiftB false (-1) y 0 x
 else shiftB false (x.getD (x.length-1) 0) y 0 x
def swapT (x y:oI):oI:=x.set (x.length-1) (y.getD (x.length-1) 0)
def cmpB (op:Int) (x y:oI):Bd Int:=
 if op=15 then sameB x y 1 else if op=16 then lessB x y (-1) else lessB (swapT x y) (swapT y x) (-1)
def sumV:List Bool->List Bool->Bool->List Bool
 |x::xs,y::ys,c=>((x != y) != c)::sumV xs ys ((x&&y)||((x != y)&&c))
 |_,_,_=>[]
def lessV:List Bool->List Bool->Bool->Bool
 |x::xs,y::ys,r=>lessV xs ys (if x != y then y else r)
 |_,_,r=>r
def sameV:List Bool->List Bool->Bool->Bool
 |x::xs,y::ys,r=>sameV xs ys (r&& !(x != y))
 |_,_,r=>r
def eachV (f:Bool->Bool->Bool):List Bool->List Bool->List Bool
 |x::xs,y::ys=>f x y::eachV f xs ys
 |_,_=>[]
def WX (n:Nat):List Bool:=List.replicate n false
def mulV (xs:List Bool):List Bool->Nat->List Bool->List Bool
 |y::ys,i,s=>mulV xs ys (i+1) (sumV s (WX i++(xs.take (xs.length-i)).map λx=>x&&y) false)
 |[],_,s=>s
def divV (xs wide:List Bool):Nat->List Bool->List Bool->List Bool×List Bool
 |n+1,r,q=>
  let t:=xs.getD n false::r
  let l:=lessV t wide false
  divV xs wide n (eachV (λa b=>if l then a else b) (t.take xs.length) ((sumV t (wide.map (!·)) true).take xs.length)) (q.set n (!l))
 |0,r,q=>(q,r)
def fromV (up:Bool) (fill:Bool) (s:List Bool) (by_ k:Nat):Bool:=if up then(if k<by_ then fill else s.getD (k-by_) false) else if k+by_<s.length then s.getD (k+by_) false else fill
def shiftV (up:Bool) (fill:Bool):List Bool->Nat->List Bool->List Bool
 |c::ys,i,s=>shiftV up fill ys (i+1) (eachV (λa b=>if c then a else b) ((List.range s.length).map (fromV up fill s (2^i))) s)
 |[],_,s=>s
def unV (op:Int) (x:List Bool):List Bool:=if op=1 then x.map (!·) else sumV (WX x.length) (x.map (!·)) true
def Xl0 (op:Int) (x y:List Bool):List Bool:=
 if op=14 then y++x
 else if op=3 then eachV (· && ·) x y
 else if op=4 then eachV (· || ·) x y
 else if op=5 then eachV (· != ·) x y
 else if op=6 then sumV x y false
 else if op=7 then sumV x (y.map (!·)) true
 else if op=8 then mulV x y 0 (WX x.length)
 else if op=9 then(divV x (y++[false]) x.length (WX x.length) (WX x.length)).1
 else if op=10 then(divV x (y++[false]) x.length (WX x.length) (WX x.length)).2
 else if op=11 then shiftV true false y 0 x
 else if op=12 then shiftV false false y 0 x
 else shiftV false (x.getD (x.length-1) false) y 0 x
def swapV (x y:List Bool):List Bool:=x.set (x.length-1) (y.getD (x.length-1) false)
def cmpV (op:Int) (x y:List Bool):Bool:=
 if op=15 then sameV x y true else if op=16 then lessV x y false else lessV (swapV x y) (swapV y x) false
structure Rho (ρ:Int->Bool):Prop where
 neg:∀m,m≠0->ρ (-m)= !ρ m
 one:ρ 1=true
def hasL (k:Nat) (xs:oI):Prop:=∀x,x∈xs->has k x
theorem hasL.mono {k l:Nat} {xs:oI} (h:hasL k xs) (a:k<=l):hasL l xs:=λx b=>has_mono (h x b) a
theorem yy0 {k:Nat} {x:Int} {xs:oI}:hasL k (x::xs)↔has k x/\hasL k xs:=by
 simp_all[hasL]
theorem Zy {k:Nat} {xs ys:oI} (h:hasL k xs) (a:hasL k ys):hasL k (xs++ys):=λx b=>(gl.1 b).elim (h x) (a x)
theorem kW {k:Nat} {xs:oI} (h:hasL k xs):hasL k (negL xs):=λx a=>by
 obtain⟨y,b,rfl⟩:=gy.1 a;exact has_neg (h y b)
theorem kH {k n:Nat} {xs:oI} (h:hasL k xs):hasL k (xs.take n):=λx a=>h x (gU a)
theorem has_one {k:Nat} (h:1<=k):has k 1:=⟨dC,oM,oM⟩
theorem has_mone {k:Nat} (h:1<=k):has k (-1):=⟨dC,oM,oM⟩
theorem qx {k n:Nat} (h:1<=k):hasL k (offsL n):=λx a=>by rw[G8 a];exact has_mone h
theorem hasL_set {k n:Nat} {xs:oI} {y:Int} (h:hasL k xs) (c:has k y):hasL k (xs.set n y):=λx b=>by
 rcases pZ b with a|a
 .exact h x a
 grind
theorem jW {k n:Nat} {xs:oI} (h:hasL k xs) (a:n<xs.length) (d:Int):has k (xs.getD n d):=by
 rw[y4,gd a];exact h _ (pj a)
section
variable {ρ:Int->Bool} {k:Nat} {Q:Nat->Int->Prop} {QL:Nat->oI->Prop}
theorem Rho.mone (h:Rho ρ):ρ (-1)=false:=by rw[h.neg 1 dC,h.one];rfl
theorem UK (h:Rho ρ) {xs:oI} (a:hasL k xs):(negL xs).map ρ=(xs.map ρ).map (!·):=by
 unfold negL;rw[GV,GV];exact Gq λx hm=>h.neg x (a x hm).1
theorem Qh (h:Rho ρ) (n:Nat):(offsL n).map ρ=WX n:=by unfold offsL WX;rw[GO,h.mone]
theorem or_sat (h:Rho ρ) {x y:Int} (c:has k x) (d:has k y) (e:∀a v,k<=a->has a v->ρ v=(ρ x||ρ y)->Q a v):Says ρ k (orB x y) Q:=by
 refine⟨has_neg c,has_neg d,λa v f b g=>e a _ f (has_neg b) ?_⟩;rw[h.neg _ b.1,g,h.neg _ c.1,h.neg _ d.1]
 grind
theorem mux_sat (h:Rho ρ) {c x y:Int} (a:has k c) (l:has k x) (m:has k y) (f:∀b v,k<=b->has b v->ρ v=(if ρ c then ρ x else ρ y)->Q b v):Says ρ k (muxB c x y) Q:=by
 refine⟨a,l,λr p d g rp=>⟨has_mono (has_neg a) d,has_mono m d,λs q e i rq=>?_⟩⟩;refine or_sat h (has_mono g e) i λn v o j rv=>f n v oM j ?_;rw[rv,rp,rq,h.neg _ a.1]
 grind
theorem sum_sat (h:Rho ρ):∀{xs ys:oI} {c:Int} {k:Nat} {QL:Nat->oI->Prop},hasL k xs->hasL k ys->has k c->(∀l r,k<=l->hasL l r->r.map ρ=sumV (xs.map ρ) (ys.map ρ) (ρ c)->QL l r)->Says ρ k (sumB xs ys c) QL:=by
 intro xs;induction xs with
 |nil=>intro ys c k QL _ _ _ f;exact f k [] (gr _) (λx a=>by cases a) rfl
 |cons x xs A=>
  intro ys c k QL a z m f;cases ys with
  |nil=>exact f k [] (gr _) (λx a=>by cases a) rfl
  |cons y ys=>
   obtain⟨b,i⟩:=yy0.1 a;obtain⟨e,j⟩:=yy0.1 z;refine⟨b,e,λH d o n rd=>⟨n,has_mono m o,λI s D hs rs=>⟨has_mono b oM,has_mono e oM,λJ p E u rp=>⟨has_mono n oM,has_mono m oM,λK q t v rq=>?_⟩⟩⟩⟩;refine Says.bind (or_sat h (has_mono u t) v λL c' F g C=>?_);refine Says.bind (A (i.mono oM) (j.mono oM) g λB r G w rr=>?_);refine f B (s::r) oM (yy0.2 ⟨has_mono hs oM,w⟩) ?_
   grind [sumV]
theorem less_sat (h:Rho ρ):∀{xs ys:oI} {r:Int} {k:Nat} {Q:Nat->Int->Prop},hasL k xs->hasL k ys->has k r->(∀i v,k<=i->has i v->ρ v=lessV (xs.map ρ) (ys.map ρ) (ρ r)->Q i v)->Says ρ k (lessB xs ys r) Q:=by
 intro xs;induction xs with
 |nil=>intro ys r k Q _ _ c b;exact b k r (gr _) c rfl
 |cons x xs p=>
  intro ys r k Q n o c b;cases ys with
  |nil=>exact b k r (gr _) c rfl
  |cons y ys=>
   obtain⟨e,f⟩:=yy0.1 n;obtain⟨a,g⟩:=yy0.1 o;refine⟨e,a,λw d j l rd=>?_⟩;refine Says.bind (mux_sat h l (has_mono a j) (has_mono c j) λz v s m rv=>?_);refine p (f.mono oM) (g.mono oM) m λq u t hu ru=>b q u oM hu ?_;rw[ru,rv,rd];rfl
theorem same_sat (h:Rho ρ):∀{xs ys:oI} {r:Int} {k:Nat} {Q:Nat->Int->Prop},hasL k xs->hasL k ys->has k r->(∀i v,k<=i->has i v->ρ v=sameV (xs.map ρ) (ys.map ρ) (ρ r)->Q i v)->Says ρ k (sameB xs ys r) Q:=by
 intro xs;induction xs with
 |nil=>intro ys r k Q _ _ b a;exact a k r (gr _) b rfl
 |cons x xs p=>
  intro ys r k Q n o b a;cases ys with
  |nil=>exact a k r (gr _) b rfl
  |cons y ys=>
   obtain⟨c,e⟩:=yy0.1 n;obtain⟨f,g⟩:=yy0.1 o;refine⟨c,f,λw d l j rd=>⟨has_mono b l,has_neg j,λz v s m rv=>?_⟩⟩;refine p (e.mono oM) (g.mono oM) m λq u t hu ru=>a q u oM hu ?_;rw[ru,rv,h.neg _ j.1,rd];rfl
theorem each_sat {f:Int->Int->Bd Int} {g:Bool->Bool->Bool} {C:oA} (o:∀k l,C k->k<=l->C l) (p:∀{k:Nat} {x y:Int} {Q:Nat->Int->Prop},C k->has k x->has k y->(∀a v,k<=a->has a v->ρ v=g (ρ x) (ρ y)->Q a v)->Says ρ k (f x y) Q):
  ∀{xs ys:oI} {k:Nat} {QL:Nat->oI->Prop},C k->hasL k xs->hasL k ys->(∀a r,k<=a->hasL a r->r.map ρ=eachV g (xs.map ρ) (ys.map ρ)->QL a r)->Says ρ k (eachB f xs ys) QL:=by
 intro xs;induction xs with
 |nil=>intro ys k QL _ _ _ c;exact c k [] (gr _) (λx b=>by cases b) rfl
 |cons x xs u=>
  intro ys k QL m b t c;cases ys with
  |nil=>exact c k [] (gr _) (λx b=>by cases b) rfl
  |cons y ys=>
   obtain⟨e,h⟩:=yy0.1 b;obtain⟨i,j⟩:=yy0.1 t;refine Says.bind (p m e i λz s d hs rs=>?_);refine Says.bind (u (o _ _ m d) (h.mono d) (j.mono d) λw r n q rr=>?_);refine c w (s::r) oM (yy0.2 ⟨has_mono hs n,q⟩) ?_
   grind [eachV]
theorem row_sat {s:Int}:∀{xs:oI} {k:Nat} {QL:Nat->oI->Prop},hasL k xs->has k s->(∀e r,k<=e->hasL e r->r.map ρ=(xs.map ρ).map (λx=>x&&ρ s)->QL e r)->Says ρ k (rowB s xs) QL:=by
 intro xs;induction xs with
 |nil=>intro k QL _ _ a;exact a k [] (gr _) (λx b=>by cases b) rfl
 |cons x xs j=>
  intro k QL b hs a;obtain⟨c,d⟩:=yy0.1 b;refine⟨c,hs,λm v f i rv=>?_⟩;refine Says.bind (j (d.mono f) (has_mono hs f) λl r g h rr=>?_);refine a l (v::r) oM (yy0.2 ⟨has_mono i g,h⟩) ?_
  grind
theorem mul_sat (h:Rho ρ) {xs:oI}:∀{ys:oI} {i:Nat} {s:oI} {k:Nat} {QL:Nat->oI->Prop},1<=k->hasL k xs->hasL k ys->hasL k s->(∀e r,k<=e->hasL e r->r.map ρ=mulV (xs.map ρ) (ys.map ρ) i (s.map ρ)->QL e r)->Says ρ k (mulB xs ys i s) QL:=by
 intro ys;induction ys with
 |nil=>intro i s k QL _ _ _ hs a;exact a k s (gr _) hs rfl
 |cons y ys n=>
  intro i s k QL t g m hs a;obtain⟨c,d⟩:=yy0.1 m;refine Says.bind (row_sat (kH g) c λv r j l rr=>?_);refine Says.bind (sum_sat h (hs.mono j) (Zy (qx oM) l) (has_mone oM) λw x p b f=>?_);refine n oM (g.mono oM) (d.mono oM) b λo u q hu ru=>a o u oM hu ?_;rw[ru,f,h.mone,gE,Qh h,rr,GG];simp only[GF,mulV,K3]
theorem getD_rho {xs:oI} {n:Nat} (a:n<xs.length):ρ (xs.getD n 0)=(xs.map ρ).getD n false:=by
 grind
theorem div_sat (h:Rho ρ) {xs wide:oI}:∀{n:Nat} {r q:oI} {k:Nat} {QP:Nat->oI×oI->Prop},1<=k->n<=xs.length->hasL k xs->hasL k wide->hasL k r->hasL k q->
  (∀e p,k<=e->hasL e p.1->hasL e p.2->(p.1.map ρ,p.2.map ρ)=divV (xs.map ρ) (wide.map ρ) n (r.map ρ) (q.map ρ)->QP e p)->Says ρ k (divB xs wide n r q) QP:=by
 intro n;induction n with
 |zero=>intro r q k QP _ _ _ _ w d f;exact f k (q,r) (gr _) d w rfl
 |succ n B=>
  intro r q k QP z G s hw w d f;have o:hasL k (xs.getD n 0::r):=(by grind [yy0,jW]);refine Says.bind (less_sat h o hw (has_mone z) λH l v c rl=>?_);refine Says.bind (sum_sat h (o.mono v) ((kW hw).mono v) (has_one oM) λI u x hu ru=>?_);refine Says.bind (each_sat (C:=λk=>has k l) (g:=λa b=>if ρ l then a else b) (λ_ _ h c=>has_mono h c) (λy s A d=>mux_sat h y s A d) (has_mono c x) (kH (o.mono oM)) (kH hu) λJ K E m t=>?_);refine B oM oM (s.mono oM) (hw.mono oM) m (hasL_set (d.mono oM) (has_neg (has_mono c oM))) λD p F i j rp=>f D p oM i j ?_;rw[rp];simp only[divV,K3];rw[t,GG,GG,ru,P3,h.neg _ c.1,rl,UK h hw,h.mone,h.one,GF,getD_rho (ρ:=ρ) (xs:=xs) (n:=n) oM]
theorem from_has {up:Bool} {fill:Int} {s:oI} {b j:Nat} (a:has k fill) (hs:hasL k s) (c:j<s.length):has k (fromL up fill s b j):=by
 grind [fromL,jW]
theorem from_rho {up:Bool} {fill:Int} {s:oI} {b j:Nat} (a:j<s.length):ρ (fromL up fill s b j)=fromV up (ρ fill) (s.map ρ) b j:=by
 grind [fromL,fromV]
theorem shift_sat (h:Rho ρ) {up:Bool} {fill:Int}:∀{ys:oI} {i:Nat} {s:oI} {k:Nat} {QL:Nat->oI->Prop},has k fill->hasL k ys->hasL k s->(∀m r,k<=m->hasL m r->r.map ρ=shiftV up (ρ fill) (ys.map ρ) i (s.map ρ)->QL m r)->Says ρ k (shiftB up fill ys i s) QL:=by
 intro ys;induction ys with
 |nil=>intro i s k QL _ _ hs d;exact d k s (gr _) hs rfl
 |cons c ys w=>
  intro i s k QL q f hs d;obtain⟨j,l⟩:=yy0.1 f;refine Says.bind (each_sat (C:=λk=>has k c) (g:=λa b=>if ρ c then a else b) (λ_ _ h t=>has_mono h t) (λp o f v=>mux_sat h p o f v) j (λx o=>by
   grind [from_has]) hs λB D n e z=>?_)
  refine w (has_mono q n) (l.mono n) e λy u A hu ru=>d y u oM hu ?_
  grind [shiftV,List.map_congr_left,from_rho]
theorem X00 (h:Rho ρ) {op:Int} {x:oI} (f:1<=k) (c:hasL k x) (a:∀b r,k<=b->hasL b r->r.map ρ=unV op (x.map ρ)->QL b r):Says ρ k (unB op x) QL:=by
 unfold unB;unfold unV at a;rw[K3] at a;split
 .next e=>rw[X0 e] at a;exact a k _ (gr _) (kW c) (UK h c)
 .next e=>
  rw[y3 e] at a;exact sum_sat h (qx f) (kW c) (has_one f) λb r d g rr=>a b r d g (by rw[rr,Qh h,UK h c,h.one])
theorem bin_sat (h:Rho ρ) {op:Int} {x y:oI} (i:1<=k) (c:hasL k x) (e:hasL k y) (A:x≠[]) (a:∀b r,k<=b->hasL b r->r.map ρ=Xl0 op (x.map ρ) (y.map ρ)->QL b r):Says ρ k (binB op x y) QL:=by
 have B:0<x.length:=by grind
 unfold binB;unfold Xl0 at a;rw[K3] at a;by_cases n:op=14
 .rw[X0 n] at a⊢;exact a k _ (gr _) (Zy e c) (by grind)
 rw[y3 n] at a⊢;by_cases c3:op=3
 .rw[X0 c3] at a⊢;exact each_sat (C:=λ_=>True) (λ_ _ _ _=>trivial) (λ{_ _ _ _} _ c e o=>by exact⟨c,e,λb v f g d=>o b v f g d⟩) trivial c e a
 rw[y3 c3] at a⊢;by_cases q:op=4
 .rw[X0 q] at a⊢;exact each_sat (C:=λ_=>True) (λ_ _ _ _=>trivial) (λ_ c e o=>or_sat h c e o) trivial c e a
 rw[y3 q] at a⊢;by_cases s:op=5
 .rw[X0 s] at a⊢;exact each_sat (C:=λ_=>True) (λ_ _ _ _=>trivial) (λ{_ _ _ _} _ c e o=>by exact⟨c,e,λb v f g d=>o b v f g d⟩) trivial c e a
 rw[y3 s] at a⊢;by_cases t:op=6
 .rw[X0 t] at a⊢;exact sum_sat h c e (has_mone i) λb r f g d=>a b r f g (by rw[d,h.mone])
 rw[y3 t] at a⊢;by_cases u:op=7
 .rw[X0 u] at a⊢;exact sum_sat h c (kW e) (has_one i) λb r f g d=>a b r f g (by rw[d,h.one,UK h e])
 rw[y3 u] at a⊢;by_cases z:op=8
 .simp_all[mul_sat,qx,Qh]
 rw[y3 z] at a⊢;by_cases w:op=9
 .rw[X0 w] at a⊢;refine Says.bind (div_sat h i (gr _) c (Zy e λx c=>by grind [has_mone]) (qx i) (qx i) λb p f g _ d=>a b _ f g ?_);rw[Qh h,gE,G5,h.mone] at d;rw[<-d]
 rw[y3 w] at a⊢;by_cases j:op=10
 .rw[X0 j] at a⊢;refine Says.bind (div_sat h i (gr _) c (Zy e λx c=>by grind [has_mone]) (qx i) (qx i) λb p f _ g d=>a b _ f g ?_);rw[Qh h,gE,G5,h.mone] at d;rw[<-d]
 rw[y3 j] at a⊢;by_cases l:op=11
 .rw[X0 l] at a⊢;exact shift_sat h (has_mone i) e c λb r f g d=>a b r f g (by rw[d,h.mone])
 rw[y3 l] at a⊢;by_cases m:op=12
 .rw[X0 m] at a⊢;exact shift_sat h (has_mone i) e c λb r f g d=>a b r f g (by rw[d,h.mone])
 rw[y3 m] at a⊢
 grind [shift_sat,jW]
theorem swap_has {x y:oI} (b:hasL k x) (c:hasL k y) (e:x.length=y.length) (a:x≠[]):hasL k (swapT x y):=by
 have d:0<x.length:=by grind
 exact hasL_set b (jW c oM 0)
theorem swap_rho {x y:oI} (b:x.length=y.length) (a:x≠[]):(swapT x y).map ρ=swapV (x.map ρ) (y.map ρ):=by
 grind [List.length_pos_iff,swapT,swapV,List.map_set]
theorem cmp_sat (h:Rho ρ) {op:Int} {x y:oI} (o:1<=k) (m:hasL k x) (n:hasL k y) (l:x.length=y.length) (j:x≠[]) (b:∀a v,k<=a->has a v->ρ v=cmpV op (x.map ρ) (y.map ρ)->Q a v):Says ρ k (cmpB op x y) Q:=by
 have c:y≠[]:=by grind
 unfold cmpB;unfold cmpV at b;by_cases d:op=15
 .rw[X0 d] at b⊢;exact same_sat h m n (has_one o) λa v f g i=>b a v f g (by rw[i,h.one])
 rw[y3 d] at b⊢;by_cases e:op=16
 .rw[X0 e] at b⊢;exact less_sat h m n (has_mone o) λa v f g i=>b a v f g (by rw[i,h.mone])
 rw[y3 e] at b⊢;exact less_sat h (swap_has m n l j) (swap_has n m l.symm c) (has_mone o) λa v f g i=>b a v f g (by rw[i,h.mone,swap_rho l j,swap_rho l.symm c])
end
end Go.M
end
namespace Go.M
open Go.Vc
section
def oneM (t:Tm) (a:Int):Int:=
 if t.op=25 then(if a=0 then 0 else-1) else if a<1 then-1
 else if t.op=22 then(if 0<=t.b/\t.b<=t.a/\t.a<a then t.a-t.b+1 else-1) else a
def bothM (o a b:Int):Int:=
 if o=26\/o=27 then(if a=0/\b=0 then 0 else-1)
 else if a<1\/b<1 then-1
 else if o=14 then(if a+b<=4 then a+b else-1)
 else if a≠b then-1 else if 15<=o then 0 else a
section
variable {ds:List Dcl} {env:oI} {t:Tm}
def kid (t:Tm) (i:Nat):Tm:=t.ks.getD i default
theorem formed_iff:formed t=true↔arity t.op=t.ks.length/\plainM t=true:=by simp[formed]
theorem arity_one {o:Int} (h:arity o=1):o=1\/o=2\/o=22\/o=25:=by
 grind [arity]
theorem arity_two {o:Int} (h:arity o=2):(3<=o/\o<=17)\/o=26\/o=27:=by
 grind [arity]
theorem arity_three {o:Int} (h:arity o=3):o=23:=by
 grind [arity]
theorem arity_zero {o:Int} (h:arity o=0):o=20\/o=21\/o=24:=by
 grind [arity]
theorem ks1 (h:t.ks.length=1):t.ks=[kid t 0]:=by
 unfold kid;generalize t.ks=ks at h⊢
 match ks,h with
 |[x],_=>rfl
theorem ks2 (h:t.ks.length=2):t.ks=[kid t 0,kid t 1]:=by
 unfold kid;generalize t.ks=ks at h⊢
 match ks,h with
 |[x,y],_=>rfl
theorem ks3 (h:t.ks.length=3):t.ks=[kid t 0,kid t 1,kid t 2]:=by
 unfold kid;generalize t.ks=ks at h⊢
 match ks,h with
 |[x,y,z],_=>rfl
theorem kid_mem {i:Nat} (h:i<t.ks.length):kid t i∈t.ks:=getD_mem h _
theorem sort_bad (h: ¬formed t=true):sortM ds t= -1:=by
 rw[sortM_eq];simp_all[sortF]
theorem sort_leaf (a:formed t=true) (h:t.ks.length=0):sortM ds t=sortK ds t []:=by
 simp_all[sortM_eq,sortF]
theorem sort_one (g:declOk ds=true) (f:formed t=true) (h:t.ks.length=1):sortM ds t=oneM t (sortM ds (kid t 0)):=by
 have j:=arity_one (o:=t.op) (by have:=(formed_iff.1 f).1;omega);have i:=sort_range g (kid t 0);rw[sortM_eq,ks1 h];unfold sortF;simp only[GF,PG,gx];generalize sortM ds (kid t 0)=s at i⊢;unfold oneM;by_cases hs:s= -1
 .subst hs;rw[y3 (by simp)];split
  .split<;>omega
  .rfl
 .rw[X0 ⟨f,λe=>hs e.symm⟩];unfold sortK;rw[y3 oM,y3 oM];by_cases c:t.op=25
  .rw[X0 oM,X0 c];by_cases d:s=0
   .simp[d]
   .simp[d]
  rw[y3 oM,y3 c,y3 oM];simp only[pf];by_cases a:t.op=22
  .rw[X0 a,X0 a];by_cases b:s<1
   .rw[X0 b,y3 oM]
   .rw[y3 b]
  .rw[y3 a,y3 a,X0 oM];by_cases b:s<1
   .rw[X0 b,y3 oM]
   .rw[y3 b,X0 oM]
theorem sort_two (d:declOk ds=true) (e:formed t=true) (h:t.ks.length=2):sortM ds t=bothM t.op (sortM ds (kid t 0)) (sortM ds (kid t 1)):=by
 have g:=arity_two (o:=t.op) (by have:=(formed_iff.1 e).1;omega);have f:=sort_range d (kid t 0);have c:=sort_range d (kid t 1);rw[sortM_eq,ks2 h];unfold sortF;simp only[GF,PG,gj,gC,Gn];generalize sortM ds (kid t 0)=a at f⊢;generalize sortM ds (kid t 1)=b at c⊢;unfold bothM;by_cases hs: -1=a\/ -1=b
 .omega
 .rw[X0 ⟨e,hs⟩];unfold sortK
  grind
theorem sort_three (e:formed t=true) (h:t.ks.length=3):sortM ds t=if sortM ds (kid t 0)≠0\/sortM ds (kid t 1)≠sortM ds (kid t 2) then-1 else sortM ds (kid t 1):=by
 have f:=arity_three (o:=t.op) (by have:=(formed_iff.1 e).1;omega);rw[sortM_eq,ks3 h];unfold sortF;simp only[GF,PG,gj,gC,Gn];generalize sortM ds (kid t 0)=a;generalize sortM ds (kid t 1)=b;generalize sortM ds (kid t 2)=c;by_cases hs: -1=a\/ -1=b\/ -1=c
 .rw[y3 (λx=>x.2 hs)];split
  .rfl
  .omega
 .rw[X0 ⟨e,hs⟩];unfold sortK;rw[y3 oM,y3 oM,y3 oM,X0 f];simp only[pf,pg];by_cases d:a=0/\b=c
  .rw[X0 d,y3 oM]
  .rw[y3 d,X0 oM]
theorem Z2 {i:Nat} (h:i<t.ks.length):(t.ks.map (vecM ds env)).getD i (0,0)=(sortM ds (kid t i),evalM ds env (kid t i)):=by
 rw[getD_map _ h _ default,vecM_pair];rfl
theorem good_kid (h:sortM ds t≠ -1) {i:Nat} (hi:i<t.ks.length):sortM ds (kid t i)≠ -1:=(sort_parts h).2.1 _ (kid_mem hi)
theorem Ym (he:envOk ds env=true) (h:sortM ds t≠ -1) {i:Nat} (hi:i<t.ks.length):inS (sortM ds (kid t i)) (evalM ds env (kid t i)):=eval_in he _ (good_kid h hi)
theorem one_good {a:Int} (c:t.op=1\/t.op=2\/t.op=22\/t.op=25) (h:oneM t a≠ -1):(t.op=25->a=0)/\(t.op≠25->1<=a)/\(t.op=22->0<=t.b/\t.b<=t.a/\t.a<a):=by
 grind [oneM]
theorem both_good {o a b:Int} (h:bothM o a b≠ -1):((o=26\/o=27)->a=0/\b=0)/\(¬(o=26\/o=27)->1<=a/\1<=b/\(o=14->a+b<=4)/\(o≠14->a=b)):=by
 grind [bothM]
theorem eval_un (he:envOk ds env=true) (h:sortM ds t≠ -1) (d:t.op=1\/t.op=2):t.ks.length=1/\vok (sortM ds (kid t 0)) (evalM ds env (kid t 0))=true/\evalM ds env t=(vecUn t.op (sortM ds (kid t 0)) (evalM ds env (kid t 0))).1.2:=by
 have c:=(sort_parts h).1;have a:t.ks.length=1:=by grind [formed_iff,arity]
 have hs:=sort_one (env_ok he).1 c a;rw[hs] at h;have e:=one_good oM h;have b:=inS_pos (Ym he (by rw[hs];exact h) (i:=0) oM) oM;refine⟨a,b,?_⟩;rw[evalM_eq];unfold valK vecUn;rw[y3 oM,y3 oM,y3 oM,y3 oM,y3 oM,y3 oM,y3 oM,y3 oM,X0 oM,Z2 oM,X0 ⟨b,d⟩]
theorem eval_cut (he:envOk ds env=true) (h:sortM ds t≠ -1) (g:t.op=22):t.ks.length=1/\vok (sortM ds (kid t 0)) (evalM ds env (kid t 0))=true/\evalM ds env t=(vecCut (sortM ds (kid t 0)) (evalM ds env (kid t 0)) t.a t.b).1.2:=by
 have e:=(sort_parts h).1;have c:t.ks.length=1:=by grind [formed_iff,arity]
 have hs:=sort_one (env_ok he).1 e c;rw[hs] at h;have f:=one_good oM h;have d:=inS_pos (Ym he (by rw[hs];exact h) (i:=0) oM) oM;refine⟨c,d,?_⟩;rw[evalM_eq];unfold valK vecCut;rw[y3 oM,y3 oM,y3 oM,y3 oM,y3 oM,y3 oM,y3 oM,X0 oM,Z2 oM,X0 ⟨d,f.2.2 g⟩]
theorem eval_bin (he:envOk ds env=true) (h:sortM ds t≠ -1) (g:3<=t.op) (j:t.op<=14):t.ks.length=2/\vok (sortM ds (kid t 0)) (evalM ds env (kid t 0))=true/\vok (sortM ds (kid t 1)) (evalM ds env (kid t 1))=true/\evalM ds env t=(vecBin t.op (sortM ds (kid t 0)) (evalM ds env (kid t 0)) (sortM ds (kid t 1)) (evalM ds env (kid t 1))).1.2:=by
 have c:=(sort_parts h).1;have e:t.ks.length=2:=by
  have:=(formed_iff.1 c).1
  grind [arity]
 have hs:=sort_two (env_ok he).1 c e;rw[hs] at h;have d:=(both_good h).2 oM;have f:=inS_pos (Ym he (by rw[hs];exact h) (i:=0) oM) oM;have b:=inS_pos (Ym he (by rw[hs];exact h) (i:=1) oM) oM;refine⟨e,f,b,?_⟩;rw[evalM_eq];unfold valK vecBin;rw[y3 (show¬t.op=20 by omega),y3 (show¬t.op=21 by omega),y3 (show¬t.op=24 by omega),y3 (show¬t.op=25 by omega),y3 (show¬t.op=26 by omega),y3 (show¬t.op=27 by omega),y3 (show¬t.op=23 by omega),y3 (show¬t.op=22 by omega),y3 (show¬t.op<=2 by omega),Z2 oM,Z2 oM,X0 (show vok _ _=true/\vok _ _=true from⟨f,b⟩)];by_cases a:t.op=14
 .rw[X0 a,X0 a,X0 (d.2.2.1 a)]
 .rw[y3 a,y3 a,y3 (show¬15<=t.op by omega),X0 (show 3<=t.op/\t.op<=13/\sortM ds (kid t 0)=sortM ds (kid t 1) from⟨g,oM,d.2.2.2 a⟩)]
theorem eval_cmp (he:envOk ds env=true) (h:sortM ds t≠ -1) (g:15<=t.op) (b:t.op<=17):t.ks.length=2/\vok (sortM ds (kid t 0)) (evalM ds env (kid t 0))=true/\vok (sortM ds (kid t 1)) (evalM ds env (kid t 1))=true/\evalM ds env t=b2i (vecCmp t.op (sortM ds (kid t 0)) (evalM ds env (kid t 0)) (sortM ds (kid t 1)) (evalM ds env (kid t 1))).1:=by
 have c:=(sort_parts h).1;have d:t.ks.length=2:=by
  have:=(formed_iff.1 c).1
  grind [arity]
 have hs:=sort_two (env_ok he).1 c d;rw[hs] at h;have f:=(both_good h).2 oM;have e:=inS_pos (Ym he (by rw[hs];exact h) (i:=0) oM) oM;have a:=inS_pos (Ym he (by rw[hs];exact h) (i:=1) oM) oM;refine⟨d,e,a,?_⟩;rw[evalM_eq];unfold valK vecCmp;rw[y3 oM,y3 oM,y3 oM,y3 oM,y3 oM,y3 oM,y3 oM,y3 oM,y3 oM,Z2 oM,Z2 oM,y3 oM,X0 oM,X0 ⟨e,a,f.2.2.2 oM,g,b⟩]
theorem eval_no (he:envOk ds env=true) (h:sortM ds t≠ -1) (f:t.op=25):t.ks.length=1/\inS 0 (evalM ds env (kid t 0))/\evalM ds env t=1-evalM ds env (kid t 0):=by
 have c:=(sort_parts h).1;have b:t.ks.length=1:=by grind [formed_iff,arity]
 have hs:=sort_one (env_ok he).1 c b;rw[hs] at h;have d:=one_good oM h;have a:=Ym he (by rw[hs];exact h) (i:=0) oM;rw[d.1 f] at a;refine⟨b,a,?_⟩;rw[evalM_eq];unfold valK;rw[y3 oM,y3 oM,y3 oM,X0 oM,Z2 oM];simp only;rcases inS_zero a with e|e<;>rw[e]<;>rfl
theorem eval_two (he:envOk ds env=true) (h:sortM ds t≠ -1) (g:t.op=26\/t.op=27):t.ks.length=2/\inS 0 (evalM ds env (kid t 0))/\inS 0 (evalM ds env (kid t 1))/\evalM ds env t=if t.op=26 then evalM ds env (kid t 0)*evalM ds env (kid t 1) else max (evalM ds env (kid t 0)) (evalM ds env (kid t 1)):=by
 have j:=(sort_parts h).1;have f:t.ks.length=2:=by grind [formed_iff,arity]
 have hs:=sort_two (env_ok he).1 j f;rw[hs] at h;have d:=(both_good h).1 g;have c:=Ym he (by rw[hs];exact h) (i:=0) oM;have a:=Ym he (by rw[hs];exact h) (i:=1) oM;rw[d.1] at c;rw[d.2] at a;refine⟨f,c,a,?_⟩;rw[evalM_eq];unfold valK;rw[y3 oM,y3 oM,y3 oM,y3 oM,Z2 oM,Z2 oM];simp only;rcases g with e|e
 .rw[X0 e,X0 e];rcases inS_zero c with e|e<;>rcases inS_zero a with b|b<;>rw[e,b]<;>rfl
 .rw[y3 oM,X0 e,y3 oM];rcases inS_zero c with e|e<;>rcases inS_zero a with b|b<;>rw[e,b]<;>rfl
theorem eval_if (he:envOk ds env=true) (h:sortM ds t≠ -1) (e:t.op=23):t.ks.length=3/\inS 0 (evalM ds env (kid t 0))/\evalM ds env t=if evalM ds env (kid t 0)=1 then evalM ds env (kid t 1) else evalM ds env (kid t 2):=by
 have c:=(sort_parts h).1;have a:t.ks.length=3:=by grind [formed_iff,arity]
 have hs:=sort_three (ds:=ds) c a;have b:=Ym he h (i:=0) oM;rw[hs] at h;have d:sortM ds (kid t 0)=0:=by
  omega
 rw[d] at b;refine⟨a,b,?_⟩;rw[evalM_eq];unfold valK
 grind [Z2]
theorem eval_leaf (h:t.op=20\/t.op=21\/t.op=24):evalM ds env t=if t.op=20 then t.b else if t.op=21 then env.getD (findD ds t.s).toNat 0 else 1:=by
 rw[evalM_eq]
 grind [valK]
theorem name_found (h:sortM ds t≠ -1) (a:t.op=21):0<=findD ds t.s:=by
 obtain⟨_,_,hs⟩:=sort_parts h
 grind [sortK]
end
def wordL (o:Int):List UInt8:=
 if o=1 then[110,111,116] else if o=2 then[110,101,103] else if o=3 then[97,110,100] else if o=4 then[111,114] else if o=5 then[120,111,114]
 else if o=6 then[97,100,100] else if o=7 then[115,117,98] else if o=8 then[109,117,108] else if o=9 then[100,105,118] else if o=10 then[114,101,109]
 else if o=11 then[115,104,108] else if o=12 then[115,104,114] else if o=13 then[115,97,114] else if o=14 then[99,97,116] else if o=15 then[115,97,109,101]
 else if o=16 then[108,101,115,115] else if o=17 then[117,110,100,101,114] else if o=22 then[99,117,116] else if o=23 then[105,102] else if o=25 then[110,111]
 else if o=26 then[98,111,116,104] else if o=27 then[97,110,121] else[]
end
end Go.M
section
namespace Go.M
def bitsN (w a:Nat):List Bool:=(List.range w).map λi=>decide (a/2^i%2=1)
theorem bitsN_len (w a:Nat):(bitsN w a).length=w:=by unfold bitsN;grind
theorem bitsN_get {w a i:Nat} (h:i<w) (d:Bool):(bitsN w a).getD i d=decide (a/2^i%2=1):=by
 grind [bitsN]
def valB (w n:Int):List Bool:=if w=0 then[decide (n=1)] else bitsN w.toNat n.toNat
theorem valB_len {w n:Int} (h:0<=w):(valB w n).length=(max 1 w).toNat:=by
 grind [valB,bitsN_len]
theorem un_bits {op w a:Int} (c:op=1\/op=2) (h:vok w a=true):unV op (valB w a)=valB w (unM op w a):=by
 have hw:=vok_lt h;unfold valB;rw[y3 oM,y3 oM];have b:∀w:Fin 5,∀n:Fin 16,1<=w.1->n.1<2^w.1->unV 1 (bitsN w n)=bitsN w (unM 1 w n).toNat/\unV 2 (bitsN w n)=bitsN w (unM 2 w n).toNat:=by decide+kernel
 have:=small1 (p:=λw n=>unV 1 (bitsN w n)=bitsN w (unM 1 w n).toNat/\unV 2 (bitsN w n)=bitsN w (unM 2 w n).toNat) b h
 grind
def Xn0 (op w:Nat):Bool:=(List.range 16).all λa=>(List.range 16).all λb=> !(decide (a<2^w)&&decide (b<2^w))||decide (Xl0 op (bitsN w a) (bitsN w b)=bitsN w (binN op w a b))
theorem bin_bits {op w a b:Int} (m:3<=op) (d:op<=13) (i:vok w a=true) (j:vok w b=true):Xl0 op (valB w a) (valB w b)=valB w (binM op w a b):=by
 obtain⟨k,l,n,p⟩:=vok_iff.1 i;obtain⟨_,_,g,h⟩:=vok_iff.1 j;have e:((2^w.toNat:Nat):Int)=2^w.toNat:=by simp
 have f:2^w.toNat<=2^4:=gN oM oM;have c:∀o:Fin 14,∀v:Fin 5,3<=o.1->1<=v.1->Xn0 o v=true:=by decide+kernel
 have:=c ⟨op.toNat,oM⟩ ⟨w.toNat,oM⟩ (by grind) (by grind);simp only[Xn0,gQ,gJ,Gm,gS,GH,decide_eq_false_iff_not,V0] at this;unfold valB;rw[y3 oM,y3 oM,y3 oM]
 grind [binM,Int.toNat_natCast]
def Xj0 (op w:Nat):Bool:=(List.range 16).all λa=>(List.range 16).all λb=> !(decide (a<2^w)&&decide (b<2^w))||(cmpV op (bitsN w a) (bitsN w b)==cmpM op w a b)
theorem cmp_bits {op w a b:Int} (m:15<=op) (d:op<=17) (i:vok w a=true) (j:vok w b=true):cmpV op (valB w a) (valB w b)=cmpM op w a b:=by
 obtain⟨k,l,n,p⟩:=vok_iff.1 i;obtain⟨_,_,g,h⟩:=vok_iff.1 j;have e:((2^w.toNat:Nat):Int)=2^w.toNat:=by simp
 have f:2^w.toNat<=2^4:=gN oM oM;have c:∀o:Fin 18,∀v:Fin 5,15<=o.1->1<=v.1->Xj0 o v=true:=by decide+kernel
 have:=c ⟨op.toNat,oM⟩ ⟨w.toNat,oM⟩ (by grind) (by grind);simp only[Xj0,gQ,gJ,Gm,gS,GH,decide_eq_false_iff_not,beq_iff_eq] at this
 grind [valB]
def Xk0 (w v:Nat):Bool:=(List.range 16).all λa=>(List.range 16).all λb=> !(decide (a<2^w)&&decide (b<2^v))||decide (bitsN v b++bitsN w a=bitsN (w+v) (a*2^v+b))
theorem cat_bits {w v a b:Int} (j:vok w a=true) (k:vok v b=true) (hs:w+v<=4):valB v b++valB w a=valB (w+v) (catM v a b):=by
 obtain⟨m,n,o,p⟩:=vok_iff.1 j;obtain⟨q,r,g,i⟩:=vok_iff.1 k;have e:((2^w.toNat:Nat):Int)=2^w.toNat:=by simp
 have l:((2^v.toNat:Nat):Int)=2^v.toNat:=by simp
 have f:2^w.toNat<=2^4:=gN oM oM;have d:2^v.toNat<=2^4:=gN oM oM;have c:∀w:Fin 5,∀v:Fin 5,1<=w.1->1<=v.1->w.1+v.1<=4->Xk0 w v=true:=by decide+kernel
 have:=c ⟨w.toNat,oM⟩ ⟨v.toNat,oM⟩ (by grind) (by grind) (by grind);simp only[Xk0,gQ,gJ,Gm,gS,GH,decide_eq_false_iff_not,V0] at this;unfold valB;rw[y3 oM,y3 oM,y3 oM];rcases this a.toNat oM b.toNat oM with(h|h)|h
 .omega
 .omega
 grind [catM]
def Xi0 (w:Nat):Bool:=(List.range 16).all λa=>(List.range 4).all λhi=>(List.range 4).all λlo=> !(decide (a<2^w)&&decide (lo<=hi)&&decide (hi<w))||decide (((bitsN w a).drop lo).take (hi-lo+1)=bitsN (hi-lo+1) (a/2^lo%2^(hi-lo+1)))
theorem cut_bits {w a hi lo:Int} (d:vok w a=true) (f:0<=lo) (l:lo<=hi) (hw:hi<w):((valB w a).drop lo.toNat).take (hi-lo+1).toNat=valB (hi-lo+1) (cutM a hi lo):=by
 obtain⟨g,i,j,k⟩:=vok_iff.1 d;have e:((2^w.toNat:Nat):Int)=2^w.toNat:=by simp
 have c:2^w.toNat<=2^4:=gN oM oM;have b:∀w:Fin 5,1<=w.1->Xi0 w=true:=by decide+kernel
 have:=b ⟨w.toNat,oM⟩ (by grind);simp only[Xi0,gQ,gJ,Gm,gS,GH,decide_eq_false_iff_not,V0] at this;unfold valB;rw[y3 oM,y3 oM];rcases this a.toNat oM hi.toNat oM lo.toNat oM with((h|h)|h)|h
 .omega
 .omega
 .omega
 .rw[show(hi-lo+1).toNat=hi.toNat-lo.toNat+1 by omega,h];congr 1;unfold cutM;rw[show(hi-lo+1).toNat=hi.toNat-lo.toNat+1 by omega];have:((a.toNat/2^lo.toNat%2^(hi.toNat-lo.toNat+1):Nat):Int)=a/2^lo.toNat%2^(hi.toNat-lo.toNat+1):=by
   rw[Int.natCast_emod,Int.natCast_ediv,show((a.toNat:Nat):Int)=a by omega];simp
  omega
def insM:List Dcl->oI->List Bool
 |d::ds,n::env=>(bitsN d.2.toNat n.toNat).reverse++insM ds env
 |_,_=>[]
def nameB (ds:List Dcl) (k:Nat):oI:=(List.range ((ds.getD k (nada,0)).2).toNat).map λ(j:Nat)=>2+bits (ds.take k)+(ds.getD k (nada,0)).2-1-j
def fixB (w n:Int):oI:=(List.range w.toNat).map λ(j:Nat)=>if n.toNat/2^j%2=1 then 1 else-1
def nodeB (ds:List Dcl) (t:Tm) (rs:List (oI)):Bd (oI):=
 if t.op=20 then .ret (fixB t.a t.b)
 else if t.op=21 then .ret (nameB ds (findD ds t.s).toNat)
 else if t.op=24 then .ret [1]
 else if t.op=25 then .ret [-((rs.getD 0 []).getD 0 0)]
 else if t.op=26 then .and ((rs.getD 0 []).getD 0 0) ((rs.getD 1 []).getD 0 0) λv=> .ret [v]
 else if t.op=27 then(orB ((rs.getD 0 []).getD 0 0) ((rs.getD 1 []).getD 0 0)).map λv=>[v]
 else if t.op=23 then eachB (muxB ((rs.getD 0 []).getD 0 0)) (rs.getD 1 []) (rs.getD 2 [])
 else if t.op=22 then .ret (((rs.getD 0 []).drop t.b.toNat).take (t.a-t.b+1).toNat)
 else if t.op<=2 then unB t.op (rs.getD 0 [])
 else if 15<=t.op/\t.op<=17 then(cmpB t.op (rs.getD 0 []) (rs.getD 1 [])).map λv=>[v]
 else binB t.op (rs.getD 0 []) (rs.getD 1 [])
def seqB:List (Bd (oI))->Bd (List (oI))
 |p::ps=>p.bind λr=>(seqB ps).map (r:: ·)
 |[]=> .ret []
def termB (ds:List Dcl):Tm->Bd (oI):=Tm.fold λt ps=>(seqB ps).bind (nodeB ds t)
theorem termB_eq (ds:List Dcl) (t:Tm):termB ds t=(seqB (t.ks.map (termB ds))).bind (nodeB ds t):=Tm.fold_eq _ t
theorem bits_cons' (d:Dcl) (ds:List Dcl):bits (d::ds)=d.2+bits ds:=by unfold bits;grind
theorem insM_len:∀{ds:List Dcl} {env:oI},env.length=ds.length->(∀d,d∈ds->0<=d.2)->((insM ds env).length:Int)=bits ds
 |[],env,_,_=>by cases env<;>rfl
 |d::ds,[],a,_=>by simp at a
 |d::ds,n::env,a,b=>by
  have e:=insM_len (ds:=ds) (env:=env) (by grind) λx c=>b x (gp _ c)
  grind [insM,bitsN_len,bits_cons']
theorem bits_pos' {ds:List Dcl}:(∀d,d∈ds->0<=d.2)->0<=bits ds:=by
 induction ds with
 |nil=>intro _;exact Py _
 |cons d ds a=>
  grind [bits_cons']
theorem insM_get:∀{ds:List Dcl} {env:oI} {k i:Nat},env.length=ds.length->(∀d,d∈ds->0<=d.2)->k<ds.length->(i:Int)<(ds.getD k (nada,0)).2->
  (insM ds env).getD ((bits (ds.take k)).toNat+i) false=decide ((env.getD k 0).toNat/2^((ds.getD k (nada,0)).2.toNat-1-i)%2=1)
 |d::ds,n::env,0,i,e,f,c,hi=>by
  have b:i<d.2.toNat:=(by grind);show((bitsN d.2.toNat n.toNat).reverse++insM ds env).getD (0+i) false=decide (n.toNat/2^(d.2.toNat-1-i)%2=1);rw[Gi,y4,Gb (by grind [bitsN_len]),pN (by rw[bitsN_len];exact b),bitsN_len,<-y4,bitsN_get oM]
 |d::ds,n::env,k+1,i,e,f,c,hi=>by
  have a:∀x,x∈ds->0<=x.2:=(by grind);have l:=insM_get (ds:=ds) (env:=env) (k:=k) (i:=i) (by grind) a (by grind) (by grind);have h:=f d gk;have j:=bits_pos' (ds:=ds.take k) λx g=>a x (gU g);show((bitsN d.2.toNat n.toNat).reverse++insM ds env).getD ((bits (d::ds.take k)).toNat+i) false=_
  grind [bitsN_len,bits]
 |[],_,_,_,_,_,c,_=>by simp at c
 |_::_,[],_,_,e,_,_,_=>by simp at e
section
variable {ρ:Int->Bool} {ds:List Dcl} {env:oI}
def Ins (ρ:Int->Bool) (ds:List Dcl) (env:oI):Prop:=∀i:Nat,i<(insM ds env).length->ρ (2+i)=(insM ds env).getD i false
theorem dpos (h:declOk ds=true):∀d,d∈ds->0<=d.2:=λd a=>by
 obtain⟨j,b,rfl⟩:=gq a;have:=dcl_wide h b
 grind
theorem bits_le {k:Nat} (h:declOk ds=true) (f:k<ds.length):bits (ds.take k)+(ds.getD k (nada,0)).2<=bits ds/\0<=bits (ds.take k):=by
 have b:=dpos h;have e:bits ds=bits (ds.take k)+bits (ds.drop k):=by
  grind [bits,List.take_append_drop]
 have c:ds.drop k=ds.getD k (nada,0)::ds.drop (k+1):=by
  simp_all
 have d:=bits_pos' (ds:=ds.drop (k+1)) λx a=>b x (GY a);rw[c,bits_cons'] at e;exact⟨oM,bits_pos' λx a=>b x (gU a)⟩
theorem name_has {k m:Nat} (h:declOk ds=true) (c:k<ds.length) (hm:1+bits ds<=m):hasL m (nameB ds k):=λx d=>by
 obtain⟨j,a,rfl⟩:=gy.1 d;have b:=gJ.1 a;have:=bits_le h c;exact⟨oM,oM,oM⟩
theorem name_bits (he:envOk ds env=true) (hi:Ins ρ ds env) {k:Nat} (b:k<ds.length):(nameB ds k).map ρ=bitsN ((ds.getD k (nada,0)).2).toNat (env.getD k 0).toNat:=by
 obtain⟨a,c,h⟩:=env_ok he;have g:=bits_le a b;have hlen:=insM_len c (dpos a);unfold nameB bitsN;rw[GV];refine Gq λj d=>?_;have f:=gJ.1 d;have e:(2+bits (ds.take k)+(ds.getD k (nada,0)).2-1-(j:Int))=2+(((bits (ds.take k)).toNat+((ds.getD k (nada,0)).2.toNat-1-j):Nat):Int):=oM
 show ρ (2+bits (ds.take k)+(ds.getD k (nada,0)).2-1-(j:Int))=_;rw[e,hi _ oM,insM_get c (dpos a) b oM]
 grind
theorem fix_has {k:Nat} {w n:Int} (b:1<=k):hasL k (fixB w n):=λx a=>by
 obtain⟨j,_,rfl⟩:=gy.1 a
 grind [has_one,has_mone]
theorem Zg0 (h:Rho ρ) {w n:Int}:(fixB w n).map ρ=bitsN w.toNat n.toNat:=by
 unfold fixB bitsN;rw[GV];refine Gq λj _=>?_;show ρ (if _ then _ else _)=_;split
 .next e=>rw[h.one,gz e]
 .next e=>rw[h.mone,gm e]
theorem seq_sat {k0:Nat} {f:Tm->Bd (oI)} {g:Tm->List Bool}:∀{ks:List Tm} {k:Nat} {Q:Nat->List (oI)->Prop},k0<=k->(∀t,t∈ks->∀{k:Nat} {Q:Nat->oI->Prop},k0<=k->(∀a r,k<=a->hasL a r->r.map ρ=g t->Q a r)->Says ρ k (f t) Q)->
  (∀a rs,k<=a->(∀r,r∈rs->hasL a r)->rs.map (λr=>r.map ρ)=ks.map g->Q a rs)->Says ρ k (seqB (ks.map f)) Q:=by
 intro ks;induction ks with
 |nil=>intro k Q _ _ b;exact b k [] (gr _) (λr c=>by cases c) rfl
 |cons t ks l=>
  intro k Q i d b;refine Says.bind (d t gk i λo r n c rr=>?_);refine Says.bind (l oM (λu hu=>d u (gp _ hu)) λm rs h j rrs=>?_);refine b m (r::rs) oM (λx e=>?_) (by grind);rcases gj.1 e with rfl|e
  .exact c.mono h
  grind
theorem ZU (n:Int):valB 0 n=[decide (n=1)]:=rfl
theorem head_rho {r:oI} {b:Bool} (h:r.map ρ=[b]):r.length=1/\ρ (r.getD 0 0)=b:=by
 match r,h with
 |[x],h=>grind
theorem node_sat (h:Rho ρ) (he:envOk ds env=true) (hi:Ins ρ ds env) {t:Tm} (hs:sortM ds t≠ -1) {k:Nat} (hk:1+bits ds<=k) {rs:List (oI)} (a0:∀r,r∈rs->hasL k r)
  (D:rs.map (λr=>r.map ρ)=t.ks.map λu=>valB (sortM ds u) (evalM ds env u)) {Q:Nat->oI->Prop}
  (f:∀q r,k<=q->hasL q r->r.map ρ=valB (sortM ds t) (evalM ds env t)->Q q r):Says ρ k (nodeB ds t rs) Q:=by
 obtain⟨X,I,U⟩:=env_ok he;obtain⟨hf,a6,a1⟩:=sort_parts hs;have a4:0<=bits ds:=bits_pos' (dpos X);have z:1<=k:=oM
 simp only[formed,gg,V0] at hf;obtain⟨a3,a8⟩:=hf;have a2:=arity_ops (o:=t.op) oM;have a7:rs.length=t.ks.length:=by have:=congrArg List.length D;simpa using this
 have n:∀i,i<t.ks.length->(t.ks.map (sortM ds)).getD i 0=sortM ds (kid t i):=λi hi=>getD_map _ hi _ _;have w:∀i,i<t.ks.length->(t.ks.map (vecM ds env)).getD i (0,0)=(sortM ds (kid t i),evalM ds env (kid t i)):=λi hi=>by
  rw[getD_map _ hi _ default,vecM_pair];rfl
 have F:∀i,i<t.ks.length->inS (sortM ds (kid t i)) (evalM ds env (kid t i)):=λi hi=>Ym he hs hi;have J:∀i,i<t.ks.length->hasL k (rs.getD i [])/\(rs.getD i []).map ρ=valB (sortM ds (kid t i)) (evalM ds env (kid t i)):=λi T=>by
  refine⟨a0 _ (getD_mem oM _),?_⟩;have e:=congrArg (λl=>l.getD i []) D;rw[getD_map _ oM [] [],getD_map _ T [] default] at e;exact e
 have d:=evalM_eq ds env t;rw[a1] at hs f;unfold sortK at hs f;unfold valK at d;unfold nodeB;by_cases M:t.op=20
 .simp only[M,if_true] at hs f d⊢;by_cases hv':vok t.a t.b=true
  .rw[X0 hv'] at hs f;have:=vok_lt hv';refine f k _ (gr _) (fix_has z) ?_;rw[Zg0 h,d];unfold valB
   grind
  grind
 simp only[y3 M] at hs f d⊢;by_cases N:t.op=21
 .simp only[N,if_true] at hs f d⊢;have a5:=findD_lt ds t.s;by_cases Z:findD ds t.s<0
  .omega
  .rw[y3 Z] at hs f;have Y:(findD ds t.s).toNat<ds.length:=oM;have hw:=dcl_wide X Y;refine f k _ (gr _) (name_has X Y hk) ?_;rw[name_bits he hi Y,d];unfold valB
   grind
 simp only[y3 N] at hs f d⊢;by_cases R:24<=t.op
 .simp only[X0 R] at hs f;by_cases Z:(t.ks.map (sortM ds)).any (λx=>decide (x≠0))=true
  .grind
  .rw[y3 Z] at hs f;have hz:∀i,i<t.ks.length->sortM ds (kid t i)=0:=λi T=>by
    grind [List.mem_map_of_mem]
   have S:∀i,i<t.ks.length->has k ((rs.getD i []).getD 0 0)/\ρ ((rs.getD i []).getD 0 0)=decide (evalM ds env (kid t i)=1)/\(evalM ds env (kid t i)=0\/evalM ds env (kid t i)=1):=(by grind [ZU,head_rho,jW,inS_zero]);simp only[ZU] at f;rcases(by omega:t.op=24\/t.op=25\/t.op=26\/t.op=27) with e|e|e|e
   .rw[X0 e] at d⊢;exact f k _ (gr _) (yy0.2 ⟨has_one z,λx n=>by cases n⟩) (by rw[G5,h.one,d];rfl)
   .rw[y3 oM,X0 e] at d⊢;have h1:t.ks.length=1:=(by grind [arity]);obtain⟨b1,b2,b3⟩:=S 0 oM;rw[w 0 oM] at d;refine f k _ (gr _) (yy0.2 ⟨has_neg b1,λx n=>by cases n⟩) ?_;rw[G5,h.neg _ b1.1,b2,d];rcases b3 with b3|b3<;>simp only[b3]<;>rfl
   .rw[y3 oM,y3 oM,X0 e] at d⊢;have h1:t.ks.length=2:=(by grind [arity]);obtain⟨b1,b2,b3⟩:=S 0 oM;obtain⟨c1,c2,c3⟩:=S 1 oM;rw[w 0 oM,w 1 oM] at d;refine⟨b1,c1,λq v j U G=>f q _ j (yy0.2 ⟨U,λx n=>by cases n⟩) ?_⟩;rw[G5,G,b2,c2,d];rcases b3 with b3|b3<;>rcases c3 with c3|c3<;>simp only[b3,c3]<;>rfl
   .rw[y3 oM,y3 oM,y3 oM,X0 e] at d⊢;have h1:t.ks.length=2:=(by grind [arity]);obtain⟨b1,b2,b3⟩:=S 0 oM;obtain⟨c1,c2,c3⟩:=S 1 oM;rw[w 0 oM,w 1 oM] at d;refine Says.bind (or_sat h b1 c1 λq v j U G=>f q _ j (yy0.2 ⟨U,λx n=>by cases n⟩) ?_);rw[G5,G,b2,c2,d];rcases b3 with b3|b3<;>rcases c3 with c3|c3<;>simp only[b3,c3]<;>rfl
 simp only[y3 R,y3 (show¬t.op=24 by omega),y3 (show¬t.op=25 by omega),y3 (show¬t.op=26 by omega),y3 (show¬t.op=27 by omega)] at hs f d⊢;by_cases P:t.op=23
 .simp only[P,if_true] at hs f d⊢;have V:t.ks.length=3:=(by grind [arity]);rw[n 0 oM,n 1 oM,n 2 oM] at hs f;rw[w 0 oM,w 1 oM,w 2 oM] at d;by_cases m:sortM ds (kid t 0)=0/\sortM ds (kid t 1)=sortM ds (kid t 2)
  .rw[X0 m] at hs f;obtain⟨H,K⟩:=J 0 oM;obtain⟨p1,p2⟩:=J 1 oM;obtain⟨q1,q2⟩:=J 2 oM;rw[m.1,ZU] at K;obtain⟨l1,l2⟩:=head_rho K;have W:has k ((rs.getD 0 []).getD 0 0):=jW H oM 0;refine each_sat (C:=λk=>has k ((rs.getD 0 []).getD 0 0)) (g:=λa b=>if ρ ((rs.getD 0 []).getD 0 0) then a else b) (λ_ _ h I=>has_mono h I) (λm n w hq=>mux_sat h m n w hq) W p1 q1 λq r j B rr=>f q r j B ?_;have hlen:∀{a b:List Bool},a.length=b.length->∀c:Bool,eachV (λx y=>if c then x else y) a b=if c then a else b:=λ{a b}=>by
    induction a generalizing b with
    |nil=>
     intro I c;cases b with
     |nil=>cases c<;>rfl
     |cons y b=>simp at I
    |cons x a ih=>
     intro I c;cases b with
     |nil=>simp at I
     |cons y b=>simp only[eachV];rw[ih (by grind) c];grind
   rw[rr,p2,q2,hlen (by grind [valB,bitsN_len]),l2,d]
   grind
  omega
 simp only[y3 P] at hs f d⊢;by_cases O:t.op=22
 .simp only[O,if_true] at hs f d⊢;have V:t.ks.length=1:=(by grind [arity]);rw[n 0 oM] at hs f;rw[w 0 oM] at d;by_cases m:0<=t.b/\t.b<=t.a/\t.a<sortM ds (kid t 0)
  .rw[X0 m] at hs f;obtain⟨H,K⟩:=J 0 oM;have a9:=inS_pos (F 0 oM) oM;refine f k _ (gr _) (kH λx n=>H x (GY n)) ?_
   grind [List.map_take,List.map_drop,cut_bits]
  omega
 simp only[y3 O] at hs f d⊢;by_cases h2:t.op<=2
 .simp only[X0 h2] at hs f d⊢;have ho:t.op=1\/t.op=2:=oM;have V:t.ks.length=1:=(by grind [arity]);rw[n 0 oM] at hs f;rw[w 0 oM] at d;by_cases m:0<sortM ds (kid t 0)
  .rw[X0 m] at hs f
   grind [inS_pos,X00,un_bits]
  omega
 simp only[y3 h2] at hs f d⊢;have V:t.ks.length=2:=by
  grind [arity]
 rw[n 0 oM,n 1 oM] at hs f;rw[w 0 oM,w 1 oM] at d;obtain⟨H,K⟩:=J 0 oM;obtain⟨p1,p2⟩:=J 1 oM;have i0:=F 0 oM;have i1:=F 1 oM;have p:=congrArg List.length K;have A:=congrArg List.length p2;rw[K3] at p A;by_cases L:t.op=14
 .simp only[L,if_true] at hs f d;by_cases m:0<sortM ds (kid t 0)/\0<sortM ds (kid t 1)/\sortM ds (kid t 0)+sortM ds (kid t 1)<=4
  .rw[X0 m] at hs f;have v0:=inS_pos i0 m.1;have v1:=inS_pos i1 m.2.1;rw[valB_len oM] at p;rw[y3 oM];refine bin_sat h z H p1 (λe=>by grind) λq r j B rr=>f q r j B ?_;simp_all[Xl0,cat_bits]
  omega
 simp only[y3 L] at hs f d;by_cases E:15<=t.op
 .simp only[X0 E] at hs f d;by_cases m:0<sortM ds (kid t 0)/\sortM ds (kid t 0)=sortM ds (kid t 1)
  .rw[X0 m] at hs f;have v0:=inS_pos i0 m.1;have v1:vok (sortM ds (kid t 0)) (evalM ds env (kid t 1))=true:=by rw[m.2];exact inS_pos i1 oM
   rw[valB_len oM] at p A;rw[X0 oM];refine Says.bind (cmp_sat h z H p1 oM (λe=>by grind) λq v j hv' rv=>f q _ j (yy0.2 ⟨hv',λx n=>by cases n⟩) ?_);rw[G5,rv,K,p2,<-m.2,cmp_bits E oM v0 v1,d,ZU];cases cmpM t.op (sortM ds (kid t 0)) (evalM ds env (kid t 0)) (evalM ds env (kid t 1))<;>rfl
  omega
 simp only[y3 E] at hs f d;by_cases m:0<sortM ds (kid t 0)/\sortM ds (kid t 0)=sortM ds (kid t 1)
 .rw[X0 m] at hs f;have v0:=inS_pos i0 m.1;have v1:vok (sortM ds (kid t 0)) (evalM ds env (kid t 1))=true:=by rw[m.2];exact inS_pos i1 oM
  rw[valB_len oM] at p;rw[y3 oM];refine bin_sat h z H p1 (λe=>by grind) λq r j B rr=>f q r j B ?_
  grind [bin_bits]
 omega
theorem term_sat (h:Rho ρ) (he:envOk ds env=true) (hi:Ins ρ ds env):∀t:Tm,sortM ds t≠ -1->∀{k:Nat} {Q:Nat->oI->Prop},1+bits ds<=k->
  (∀a r,k<=a->hasL a r->r.map ρ=valB (sortM ds t) (evalM ds env t)->Q a r)->Says ρ k (termB ds t) Q:=by
 refine Tm.ind λt f hs k Q l j=>?_;rw[termB_eq];refine Says.bind (seq_sat (k0:=k) (g:=λu=>valB (sortM ds u) (evalM ds env u)) (gr _) (λu hu=>λ{m i} c d=>f u hu ((sort_parts hs).2.1 u hu) oM d) λa rs b e hm=>?_)
 grind [node_sat]
end
end Go.M
end
section
namespace Go.M
namespace Bd
theorem reach_inv {α β:Type} {p:Bd α} {f:α->Bd β} {b:β} (h:(p.bind f).Reach b):∃a,p.Reach a/\(f a).Reach b:=by
 induction p with
 |ret a=>exact⟨a,rfl,h⟩
 |and x y k g=>obtain⟨v,e⟩:=h;obtain⟨a,c,d⟩:=g v e;exact⟨a,⟨v,c⟩,d⟩
 |xor x y k g=>obtain⟨v,e⟩:=h;obtain⟨a,c,d⟩:=g v e;exact⟨a,⟨v,c⟩,d⟩
theorem reach_map {α β:Type} {p:Bd α} {f:α->β} {b:β} (h:(p.map f).Reach b):∃a,p.Reach a/\b=f a:=by
 obtain⟨a,c,d⟩:=reach_inv h;exact⟨a,c,d⟩
end Bd
theorem sum_len:∀{xs ys:oI} {c:Int} {r:oI},(sumB xs ys c).Reach r->r.length=min xs.length ys.length
 |[],_,c,r,h=>by cases h;simp
 |_::_,[],c,r,h=>by cases h;simp
 |x::xs,y::ys,c,r,h=>by
  obtain⟨v1,v2,v3,v4,h⟩:=h;obtain⟨c',_,h⟩:=Bd.reach_inv h;obtain⟨b,a,rfl⟩:=Bd.reach_map h;rw[gF,sum_len a,gF,gF];omega
theorem each_len {f:Int->Int->Bd Int}:∀{xs ys:oI} {r:oI},(eachB f xs ys).Reach r->r.length=min xs.length ys.length
 |[],_,r,h=>by cases h;simp
 |_::_,[],r,h=>by cases h;simp
 |x::xs,y::ys,r,h=>by
  obtain⟨s,_,h⟩:=Bd.reach_inv h;obtain⟨b,a,rfl⟩:=Bd.reach_map h;rw[gF,each_len a,gF,gF];omega
theorem row_len {s:Int}:∀{xs:oI} {r:oI},(rowB s xs).Reach r->r.length=xs.length
 |[],r,h=>by cases h;rfl
 |x::xs,r,h=>by
  obtain⟨v,h⟩:=h;obtain⟨b,a,rfl⟩:=Bd.reach_map h;rw[gF,row_len a,gF]
theorem mul_len {xs:oI}:∀{ys:oI} {i:Nat} {s r:oI},i+ys.length<=xs.length->s.length=xs.length->(mulB xs ys i s).Reach r->r.length=xs.length
 |[],i,s,r,_,hs,h=>by cases h;exact hs
 |y::ys,i,s,r,hi,hs,h=>by
  rw[gF] at hi;obtain⟨w,hw,h⟩:=Bd.reach_inv h;obtain⟨d,b,h⟩:=Bd.reach_inv h;have c:=row_len hw;have a:=sum_len b;rw[Q1,c,gh] at a;unfold offsL at a;rw[gI] at a;exact mul_len oM oM h
theorem negL_len (xs:oI):(negL xs).length=xs.length:=K3 _
theorem div_len {xs wide:oI} (hw:wide.length=xs.length+1):∀{n:Nat} {r q:oI} {p:oI×oI},r.length=xs.length->q.length=xs.length->(divB xs wide n r q).Reach p->p.1.length=xs.length/\p.2.length=xs.length
 |0,r,q,p,e,d,h=>by cases h;grind
 |n+1,r,q,p,e,d,h=>by
  obtain⟨l,_,h⟩:=Bd.reach_inv h;obtain⟨u,hu,h⟩:=Bd.reach_inv h;obtain⟨f,a,h⟩:=Bd.reach_inv h;have b:=sum_len hu;have c:=each_len a;rw[gF,negL_len] at b;rw[gh,gh,gF] at c;exact div_len hw oM (by grind) h
theorem shift_len {up:Bool} {fill:Int}:∀{ys:oI} {i:Nat} {s r:oI},(shiftB up fill ys i s).Reach r->r.length=s.length
 |[],i,s,r,h=>by cases h;rfl
 |c::ys,i,s,r,h=>by
  obtain⟨d,a,h⟩:=Bd.reach_inv h;have b:=each_len a;rw[K3,GZ] at b;rw[shift_len h];omega
theorem offsL_len (n:Nat):(offsL n).length=n:=gI ..
theorem un_len {op:Int} {x r:oI} (h:(unB op x).Reach r):r.length=x.length:=by
 unfold unB at h;split at h
 .cases h;exact negL_len x
 .have:=sum_len h;rw[offsL_len,negL_len] at this;omega
theorem bin_len {op:Int} {x y r:oI} (h:(binB op x y).Reach r) (a:op≠14->x.length=y.length):r.length=if op=14 then x.length+y.length else x.length:=by
 unfold binB at h;by_cases c:op=14
 .rw[X0 c] at h⊢;cases h;grind
 rw[y3 c] at h⊢;have d:=a c
 repeat' split at h
 .have:=each_len h;omega
 .have:=each_len h;omega
 .have:=each_len h;omega
 .have:=sum_len h;omega
 .have:=sum_len h;rw[negL_len] at this;omega
 .exact mul_len oM (offsL_len _) h
 .obtain⟨p,b,rfl⟩:=Bd.reach_map h
  grind [div_len,List.length_append,offsL_len]
 .obtain⟨p,b,rfl⟩:=Bd.reach_map h
  grind [div_len,List.length_append,offsL_len]
 .exact shift_len h
 .exact shift_len h
 .exact shift_len h
theorem nameB_len {ds:List Dcl} {k:Nat}:(nameB ds k).length=((ds.getD k (nada,0)).2).toNat:=by unfold nameB;grind
theorem fixB_len {w n:Int}:(fixB w n).length=w.toNat:=by unfold fixB;grind
def lenS (w:Int):Nat:=(max 1 w).toNat
theorem node_len {ds:List Dcl} {t:Tm} (w:declOk ds=true) (hs:sortM ds t≠ -1) {rs:List (oI)} (z:∀i,i<t.ks.length->(rs.getD i []).length=lenS (sortM ds (kid t i))) {r:oI} (h:(nodeB ds t rs).Reach r):r.length=lenS (sortM ds t):=by
 obtain⟨y,E,q⟩:=sort_parts hs;simp only[formed,gg,V0] at y;obtain⟨C,F⟩:=y;have A:=arity_ops (o:=t.op) oM;have f:∀i,i<t.ks.length->(t.ks.map (sortM ds)).getD i 0=sortM ds (kid t i):=λi hi=>getD_map _ hi _ _;have G:∀i,-1<=sortM ds (kid t i)/\sortM ds (kid t i)<=4:=λi=>sort_range w _;rw[q] at hs⊢;unfold sortK at hs⊢;unfold nodeB at h;by_cases g:t.op=20
 .simp only[g,if_true] at hs h⊢;by_cases hv':vok t.a t.b=true
  .rw[X0 hv'];have:=vok_lt hv';cases h;rw[fixB_len];unfold lenS;omega
  grind
 simp only[y3 g] at hs h⊢;by_cases j:t.op=21
 .simp only[j,if_true] at hs h⊢;have D:=findD_lt ds t.s;by_cases p:findD ds t.s<0
  .omega
  .rw[y3 p];have hw:=dcl_wide w (i:=(findD ds t.s).toNat) oM;cases h;rw[nameB_len];unfold lenS;omega
 simp only[y3 j] at hs h⊢;by_cases m:24<=t.op
 .simp only[X0 m] at hs⊢;by_cases p:(t.ks.map (sortM ds)).any (λx=>decide (x≠0))=true
  .grind
  .rw[y3 p];show r.length=1;rcases(by omega:t.op=24\/t.op=25\/t.op=26\/t.op=27) with e|e|e|e
   .rw[X0 e] at h;cases h;rfl
   .rw[y3 oM,X0 e] at h;cases h;rfl
   .rw[y3 oM,y3 oM,X0 e] at h;obtain⟨v,h⟩:=h;cases h;rfl
   grind [Bd.reach_map]
 simp only[y3 m,y3 (show¬t.op=24 by omega),y3 (show¬t.op=25 by omega),y3 (show¬t.op=26 by omega),y3 (show¬t.op=27 by omega)] at hs h⊢;by_cases l:t.op=23
 .simp only[l,if_true] at hs h⊢;have u:t.ks.length=3:=(by grind [arity]);rw[f 0 oM,f 1 oM,f 2 oM] at hs⊢;by_cases d:sortM ds (kid t 0)=0/\sortM ds (kid t 1)=sortM ds (kid t 2)
  .rw[X0 d];have:=each_len h
   grind
  omega
 simp only[y3 l] at hs h⊢;by_cases k:t.op=22
 .simp only[k,if_true] at hs h⊢;have u:t.ks.length=1:=(by grind [arity]);rw[f 0 oM] at hs⊢;by_cases d:0<=t.b/\t.b<=t.a/\t.a<sortM ds (kid t 0)
  .rw[X0 d];cases h
   grind [lenS]
  omega
 simp only[y3 k] at hs h⊢;by_cases B:t.op<=2
 .grind [un_len]
 simp only[y3 B] at hs h⊢;have u:t.ks.length=2:=by
  grind [arity]
 rw[f 0 oM,f 1 oM] at hs⊢;have H:=z 0 oM;have I:=z 1 oM;by_cases c:t.op=14
 .simp only[c,if_true] at hs⊢;by_cases d:0<sortM ds (kid t 0)/\0<sortM ds (kid t 1)/\sortM ds (kid t 0)+sortM ds (kid t 1)<=4
  .rw[X0 d];rw[y3 oM] at h;have:=bin_len h λe=>absurd c e
   grind [lenS]
  omega
 simp only[y3 c] at hs⊢;by_cases n:15<=t.op
 .simp only[X0 n] at hs⊢;by_cases d:0<sortM ds (kid t 0)/\sortM ds (kid t 0)=sortM ds (kid t 1)
  .rw[X0 d];rw[X0 oM] at h;obtain⟨v,_,rfl⟩:=Bd.reach_map h;rfl
  omega
 grind [bin_len]
theorem seq_reach {f:Tm->Bd (oI)}:∀{ks:List Tm} {rs:List (oI)},(seqB (ks.map f)).Reach rs->rs.length=ks.length/\∀i,i<ks.length->(f (ks.getD i default)).Reach (rs.getD i [])
 |[],rs,h=>by cases h;grind
 |t::ks,rs,h=>by
  obtain⟨r,e,h⟩:=Bd.reach_inv h;obtain⟨d,c,rfl⟩:=Bd.reach_map h;obtain⟨a,b⟩:=seq_reach c
  grind
theorem term_len {ds:List Dcl} (c:declOk ds=true):∀t:Tm,sortM ds t≠ -1->∀{r:oI},(termB ds t).Reach r->r.length=lenS (sortM ds t):=by
 refine Tm.ind λt e hs r h=>?_;rw[termB_eq] at h;obtain⟨rs,a,b⟩:=Bd.reach_inv h;obtain⟨_,d⟩:=seq_reach a;exact node_len c hs (λi hi=>e _ (getD_mem hi _) (good_kid hs hi) (d i hi)) b
end Go.M
end
namespace Go.Proofs.YtfnpmncplaibiaaGreatDoor
open Go Go.Vc Go.Proofs Go.MapKept
section
variable {w:World} {K:oK}
def gv (g:M.Gt):Value:= .agg ⟨[.bool g.x,nI g.a,nI g.b]⟩
theorem Xe0 {g h:M.Gt} (e:gv g=gv h):g=h:=by
 cases g;cases h;simp only[gv,Value.agg.injEq,Array.mk.injEq,Gg,Value.bool.injEq,Value.int.injEq,Gh,k5] at e;obtain⟨rfl,rfl,rfl⟩:=e;rfl
theorem eqGate (g h:M.Gt) (w:World):(Op.equalIn 10000 zo (gv g) (gv h)).run P w= .ok (decide (g=h)) w:=by
 obtain⟨x,a,b⟩:=g;obtain⟨y,c,d⟩:=h;have o:(P.fieldsOf zo).toList=[(P.fieldsOf zo).getD 0 default,(P.fieldsOf zo).getD 1 default,(P.fieldsOf zo).getD 2 default]:=rK
 have k:((P.fieldsOf zo).getD 0 default).name≠ "_" :=by decide+kernel
 have l:((P.fieldsOf zo).getD 1 default).name≠ "_" :=by decide+kernel
 have m:((P.fieldsOf zo).getD 2 default).name≠ "_" :=by decide+kernel
 have i0:P.underlying ((P.fieldsOf zo).getD 0 default).type=some .bool:=rK
 have i1:P.underlying ((P.fieldsOf zo).getD 1 default).type=some (.int .i64):=rK
 have i2:P.underlying ((P.fieldsOf zo).getD 2 default).type=some (.int .i64):=rK
 have n:∀x y z:Value,(part ((P.fieldsOf zo).getD 0 default).type ⟨[x,y,z]⟩ ((P.fieldsOf zo).getD 0 default).offset).run P w= .ok x w:=λx y z=>rK
 have p1:∀x y z:Value,(part ((P.fieldsOf zo).getD 1 default).type ⟨[x,y,z]⟩ ((P.fieldsOf zo).getD 1 default).offset).run P w= .ok y w:=λx y z=>rK
 have p2:∀x y z:Value,(part ((P.fieldsOf zo).getD 2 default).type ⟨[x,y,z]⟩ ((P.fieldsOf zo).getD 2 default).offset).run P w= .ok z w:=λx y z=>rK
 have i:∀d,(Op.equalIn (d+1) ((P.fieldsOf zo).getD 0 default).type (.bool x) (.bool y)).run P w= .ok (x==y) w:=λd=>by
  rw[Op.equalIn,Sem.run_bind,run_underlying i0];rfl
 unfold gv;rw[run_equalIn_struct w 9999 zo _ _ rK rK,o];generalize (P.fieldsOf zo).getD 0 default=f0 at k i0 n i⊢;generalize (P.fieldsOf zo).getD 1 default=f1 at l i1 p1⊢;generalize (P.fieldsOf zo).getD 2 default=f2 at m i2 p2⊢;simp only[Op.eqFields,X0 k,X0 l,X0 m,Sem.run_bind,n,p1,p2,Result.andThen_ok,i 9998,run_equalIn_int w 9998 _ _ _ _ _ i1,run_equalIn_int w 9998 _ _ _ _ _ i2];by_cases e:x=y
 .by_cases f:a=c
  .by_cases j:b=d
   .subst e;subst f;subst j;simp[p1,p2,run_equalIn_int w 9998 _ _ _ _ _ i1,run_equalIn_int w 9998 _ _ _ _ _ i2]
   .subst e;subst f;simp[p1,p2,run_equalIn_int w 9998 _ _ _ _ _ i1,run_equalIn_int w 9998 _ _ _ _ _ i2,j]
  .subst e;simp[p1,p2,run_equalIn_int w 9998 _ _ _ _ _ i1,run_equalIn_int w 9998 _ _ _ _ _ i2,f]
 .simp[e]
def GMap (w:World) (b:Nat) (f:List (M.Gt×Int)):Prop:= ∃es cl,w.heap[b]?=some (.map es cl)/\Stamped es cl/\es.toList.map (λe=>(e.key,e.val))=f.map λp=>(gv p.1,nI p.2)
theorem GMap.lt {b:Nat} {f:List (M.Gt×Int)} (h:GMap w b f):b<w.heap.size:=by
 obtain⟨es,cl,a,_⟩:=h;exact(gH.1 a).1
theorem GMap.same {b:Nat} {f:List (M.Gt×Int)} {S:oA} {w':World} (h:GMap w b f) (hw:Same S w w') (hs: ¬S b):GMap w' b f:=by
 have a:=h.lt;obtain⟨es,cl,c,r⟩:=h;exact⟨es,cl,(hw.block b a hs).trans c,r⟩
theorem GMap.ext {b:Nat} {f:List (M.Gt×Int)} {w':World} (h:GMap w b f) (hw:Ext w w'):GMap w' b f:=h.same hw id
theorem US (g:M.Gt) (e:Bool) (w:World):(Instr.checkKey e 10000 zo (gv g)).run P w= .ok () w:=by
 obtain⟨x,a,b⟩:=g;kernel_rfl
def findP (g:M.Gt):List (M.Gt×Int)->Nat->Option (Nat×Int)
 |[],_=>none
 |p::r,i=>if g=p.1 then some (i,p.2) else findP g r (i+1)
theorem ask_run (g:M.Gt) (w:World):∀(l:List MapEntry) (f:List (M.Gt×Int)) (i:Nat),l.map (λe=>(e.key,e.val))=f.map (λp=>(gv p.1,nI p.2))->
  (Instr.findAsking zo (gv g) l i).run P w= .ok ((findP g f i).map λq=>(q.1,nI q.2)) w
 |[],[],i,_=>rfl
 |[],_::_,_,h=>by simp at h
 |_::_,[],_,h=>by simp at h
 |e::l,p::f,i,h=>by
  simp only[GF,Gg,Gw] at h;obtain⟨⟨a,b⟩,d⟩:=h;have j:(Op.equal zo (gv g) e.key).run P w= .ok (decide (g=p.1)) w:=by rw[a];exact eqGate g p.1 w
  simp only[Instr.findAsking,Sem.run_bind,j,Result.andThen_ok,findP];by_cases c:g=p.1
  .rw[X0 (by simpa using c),X0 c];simp[b]
  .rw[y3 (by simpa using c),y3 c];exact ask_run g w l f (i+1) d
theorem gate_struct:∃fs,P.underlying zo=some (.struct fs):=by
 have h:(match P.underlying zo with|some (.struct _)=>true|_=>false)=true:=rK
 split at h
 .next fs e=>exact⟨fs,e⟩
 .cases h
theorem UX (g:M.Gt) (w:World) {l:List MapEntry} {f:List (M.Gt×Int)} (h:l.map (λe=>(e.key,e.val))=f.map (λp=>(gv p.1,nI p.2))):
  (Instr.findKey zo (gv g) l).run P w= .ok ((findP g f 0).map λq=>(q.1,nI q.2)) w:=by
 obtain⟨fs,a⟩:=gate_struct;unfold Instr.findKey;rw[Sem.run_bind,run_underlying a];simp only[Result.andThen_ok];cases l with
 |nil=>
  cases f with
  |nil=>rfl
  |cons p f=>simp at h
 |cons e l=>
  have:Instr.findNow (.struct fs) (gv g) (e::l) 0=none:=(by simp[Instr.findNow,Instr.sameNow]);rw[this];exact ask_run g w (e::l) f 0 h
theorem findP_none {g:M.Gt}:∀{f:List (M.Gt×Int)} {i:Nat},findP g f i=none↔ ∀p,p∈f->p.1≠g
 |[],i=>by simp[findP]
 |p::f,i=>by
  unfold findP;split
  .next e=>exact⟨λh=>(by cases h),λh=>absurd e.symm (h p gk)⟩
  .next e=>rw[findP_none (f:=f)];simp only[gj,forall_eq_or_imp];exact⟨λh=>⟨λa=>e a.symm,h⟩,λh=>h.2⟩
def X6 (g:M.Gt) (f:List (M.Gt×Int)):Option Int:=(findP g f 0).map (·.2)
theorem Xf0 {k:Option Value} (a:k=none) (c:∀b w',b=w.heap.size->GMap w' b []->Ext w w'->w'.heap.size=w.heap.size+1->K (.map (some b)) w'):YY0 yb k w K:=by
 subst a;refine⟨.map (some w.heap.size),w.alloc (.map #[] 0),?_,c _ _ rfl ⟨#[],0,(heap_alloc w _).1,stamped_empty 0,rfl⟩ ⟨rfl,rfl,rfl,by simp,λk a _=>(heap_alloc w _).2 k a⟩ (by simp)⟩;simp[Instr.makeMap,newObj,Sem.run]
theorem glook {g:M.Gt} {ok:Bool} {b:Nat} {f:List (M.Gt×Int)} (h:GMap w b f):XO yb (.map (some b)) (gv g) ok w K=K (match X6 g f with|some n=>(if ok then .tuple #[nI n,.bool true] else nI n)|none=>if ok then .tuple #[nI 0,.bool false] else nI 0) w:=by
 obtain⟨es,cl,a,d,he⟩:=h;have hm:P.underlying yb=some (.map zo zE)/\yl zE (nI 0):=⟨qP,xJ⟩;refine y9 ?_;unfold X6;cases c:findP g f 0 with
 |none=>cases ok<;>simp[Instr.lookup,run_underlying hm.1,MapKept.run_getObj_map a,US,UX g w he,c,YA hm.2,Result.andThen]
 |some p=>cases ok<;>simp[Instr.lookup,run_underlying hm.1,MapKept.run_getObj_map a,US,UX g w he,c,Result.andThen]
theorem ZW0 {g:M.Gt} {b:Nat} {f:List (M.Gt×Int)} (h:GMap w b f):XO yb (.map (some b)) (gv g) true w K=K (match X6 g f with|some n=> .tuple #[nI n,.bool true]|none=> .tuple #[nI 0,.bool false]) w:=by
 rw[glook h];cases X6 g f<;>rfl
theorem Xg0 {g:M.Gt} {b:Nat} {f:List (M.Gt×Int)} (h:GMap w b f):XO yb (.map (some b)) (gv g) false w K=K (match X6 g f with|some n=> nI n|none=> nI 0) w:=by
 rw[glook h];cases X6 g f<;>rfl
theorem look_app {g h:M.Gt} {n:Int}:∀{f:List (M.Gt×Int)} {i:Nat},(findP g (f++[(h,n)]) i).map (·.2)=match(findP g f i).map (·.2) with|some m=>some m|none=>if g=h then some n else none
 |[],i=>by simp only[Gk,findP,Option.map_none];split<;>rfl
 |p::f,i=>by
  rw[GM];unfold findP;split
  .rfl
  .exact look_app (f:=f)
theorem gset {g:M.Gt} {n:Int} {b:Nat} {f:List (M.Gt×Int)} (h:GMap w b f) (i:X6 g f=none)
  (m:∀w',GMap w' b (f++[(g,n)])->Same (· =b) w w'->w'.heap.size=w.heap.size->K undef w'):zC0 yb (.map (some b)) (gv g) (nI n) w K:=by
 obtain⟨es,cl,c,j,he⟩:=h;have hm:P.underlying yb=some (.map zo zE):=qP;have d:findP g f 0=none:=by
  unfold X6 at i;cases d:findP g f 0 with
  |none=>rfl
  |some p=>rw[d] at i;cases i
 have l:∀x,x∈es.toList->x.key≠gv g:=λx q e=>by
  have a:(x.key,x.val)∈f.map λp=>(gv p.1,nI p.2):=by rw[<-he];exact gy.2 ⟨x,q,rfl⟩
  obtain⟨p,o,k⟩:=gy.1 a;have:gv p.1=gv g:=by rw[<-e];exact congrArg Prod.fst k
  exact findP_none.1 d p o (Xe0 this)
 refine⟨(),{w with heap:=w.heap.setIfInBounds b (.map (es.push {key:=gv g,val:= nI n,born:=cl}) (cl+1))},?_,m _ ⟨_,_,(heap_set c).1,stamped_push j l,by simp[he]⟩ (jU c) (by simp)⟩;simp[Instr.mapUpdate,run_underlying hm,MapKept.run_getObj_map c,US,UX g w he,d,run_setObj_map _ c,Result.andThen]
end
end Go.Proofs.YtfnpmncplaibiaaGreatDoor
namespace Go.Proofs.YtfnpmncplaibiaaGreatDoor
open Go Go.Vc Go.Proofs
section
variable {w:World} {K:oK} {F F' Fx X:oA}
section
variable {w' w'':World} {F'' S:oA}
theorem Same.thn {S T:oA} {a b c:World} (h:Same S a b) (k:Same T b c) (hs:∀x,T x->S x\/a.heap.size<=x):Same S a c:=
 ⟨k.os.trans h.os,k.tape.trans h.tape,k.output.trans h.output,gY h.size k.size,λi hi d=>
  (k.block i (pH hi h.size) (λe=>(hs i e).elim d λh=>oM)).trans (h.block i hi d)⟩
structure Mv (F:oA) (w:World) (F':oA) (w':World):Prop where
 same:Same F w w'
 new:∀b,F' b->F b\/w.heap.size<=b
theorem Mv.refl:Mv F w F w:=⟨Same.refl _ _,λ_ h=> .inl h⟩
theorem Mv.trans (h:Mv F w F' w') (k:Mv F' w' F'' w''):Mv F w F'' w'':=by
 have hs:=h.same.size;exact⟨Same.thn h.same k.same h.new,λb a=>(k.new b a).elim (h.new b) λh=> .inr oM⟩
theorem Mv.to (h:Mv F w F' w') (k:Same S w' w'') (a:∀b,S b->F' b\/w.heap.size<=b):Mv F w F' w'':=
 ⟨Same.thn h.same k λb c=>(a b c).elim (h.new b) .inr,h.new⟩
theorem Mv.ext (h:Mv F w F' w') (k:Ext w' w''):Mv F w F' w'':=h.to k λ_ h=>h.elim
theorem Mv.off (h:Mv F w F' w') {b:Nat} (c: ¬F b) (e:b<w.heap.size): ¬F' b:=λa=>(h.new b a).elim c λd=>oM
abbrev Off (X F:oA):oA:=λb=> ¬F b/\¬X b
theorem Ints.mv {v:Value} {xs:oI} (h:Ints (Off X F) w v xs) (hm:Mv F w F' w'):Ints (Off X F') w' v xs:=by
 have c:Ints (λb=>(¬F b/\¬X b)/\b<w.heap.size) w v xs:=Ints.weaken h λb a e=>⟨a,e⟩;have d:=Ints.same c hm.same λb a _=>a.1.1;exact Ints.weaken d λb a _=>⟨hm.off a.1.1 a.2,a.1.2⟩
structure NewI (X:oA) (w:World) (F':oA) (w':World) (v:Value) (xs:oI):Prop where
 own:OwnI zf w' v xs
 off:∀b,v.ownBlock=some b->w.heap.size<=b/\¬F' b
 out:∀b,v.ownBlock=some b->¬X b
theorem NewI.mv {v:Value} {xs:oI} (h:NewI X w F' w' v xs) (hm:Mv F' w' F'' w''):NewI X w F'' w'' v xs:=
 ⟨h.own.same hm.same λb a=>(h.off b a).2,λb a=>⟨(h.off b a).1,hm.off (h.off b a).2 (h.own.lt a)⟩,h.out⟩
theorem NewI.ints {v:Value} {xs:oI} (h:NewI X w F' w' v xs):Ints (Off X F') w' v xs:=Ints.weaken h.own.ints λb a _=>⟨(h.off b a).2,h.out b a⟩
theorem NewI.nil:NewI X w F' w' (oN) []:=⟨OwnI.nil,λb a=>(by cases a),λb a=>by cases a⟩
theorem NewI.app1 {ty b:Nat} {v:Value} {xs:oI} {x:Int} {e:TypeId} (h:NewI X w F' w' v xs) (c:Blk w' b [nI x] e) (j:w.heap.size<=w'.heap.size) (hF:∀b,F' b\/X b->b<w'.heap.size) (k:xs.length<=1000000)
  (g:∀v' w'',NewI X w F' w'' v' (xs++[x])->Same (λb=>v.ownBlock=some b) w' w''->K v' w''):vbi .append [zf,zf] ty [v,.slice (some ⟨b,0,none⟩) 1 1] w' K:=by
 refine h.own.app1 yF c oM oM λv' w'' i hs f=>g v' w'' ⟨i,λb c=>?_,λb c=>?_⟩ hs
 .rcases f b c with a|a
  .exact h.off b a
  .exact⟨oM,λd=>by have:=hF b (.inl d);omega⟩
 .rcases f b c with a|a
  .exact h.out b a
  .exact λd=>by have:=hF b (.inr d);omega
def Sent (w:World) (g:Nat) (a:Addr):Prop:=w.cell? ⟨g,0,none⟩=some (.iface yV (.pointer (some a)))
theorem Sent.lt {g:Nat} {a:Addr} (h:Sent w g a):g<w.heap.size:=World.block_lt_of_cell? w _ h
theorem Sent.same {g:Nat} {a:Addr} (h:Sent w g a) (hw:Same S w w') (b: ¬S g):Sent w' g a:=hw.cell b h
theorem Sent.cell {g:Nat} {a:Addr} (h:Sent w g a):w.cell? ⟨g,0,none⟩=some (.iface yV (.pointer (some a))):=h
def erv (a:Addr):Value:= .iface yV (.pointer (some a))
structure Errs (F:oA) (w:World) (ar ab:Addr):Prop where
 room:Sent w xX ar
 bits:Sent w jm ab
 off: ¬F xX/\¬F jm
theorem Errs.mv {ar ab:Addr} (h:Errs F w ar ab) (hm:Mv F w F' w'):Errs F' w' ar ab:=by
 have c:=h.room.lt;have d:=h.bits.lt;obtain⟨a,b⟩:=h.off;exact⟨h.room.same hm.same a,h.bits.same hm.same b,hm.off a c,hm.off b d⟩
theorem Errs.to {ar ab:Addr} {w0:World} (h:Errs F w ar ab) (a:Errs Fx w0 ar ab) (hs:Same S w w') (c:∀b,S b->w0.heap.size<=b):Errs F w' ar ab:=by
 have d:=a.room.lt;have e:=a.bits.lt;have key:∀b,b<w0.heap.size->¬S b:=λb f hs=>by have:=c b hs;omega
 exact⟨h.room.same hs (key _ d),h.bits.same hs (key _ e),h.off⟩
def ym (g:M.Gt):List Value:=[.bool g.x,nI g.a,nI g.b]
def GatesR (F:oA) (w:World) (v:Value) (gs:M.Gs):Prop:=Sl F w 3 v (gs.map ym)
def OwnG (w:World) (v:Value) (gs:M.Gs):Prop:=Own 0 3 zA w v (gs.map ym)
structure CktR (n:Nat) (bc:Nat) (w:World) (gs:M.Gs) (v:Value) (mb:Nat):Prop where
 blk:Blk w bc [nI n,v,.map (some mb)] ye
 own:OwnG w v gs
 map:∃f,GMap w mb f/\∀g,X6 g f=if g∈gs then some (2+n+gs.idxOf g:Int) else none
 sep:bc≠mb/\v.ownBlock≠some bc/\v.ownBlock≠some mb
 few:gs.length<=600/\n<=8
def X7 (bc mb:Nat) (v:Value) (b:Nat):Prop:=b=bc\/b=mb\/v.ownBlock=some b
section
variable {n bc mb:Nat} {gs:M.Gs} {v:Value}
theorem CktR.same (h:CktR n bc w gs v mb) (hw:Same S w w') (hs:∀b,X7 bc mb v b->¬S b):CktR n bc w' gs v mb:=by
 obtain⟨f,c,d⟩:=h.map;exact⟨h.blk.same hw (hs _ (.inl rfl)),Own.same h.own hw λb a=>hs b (.inr (.inr a)),⟨f,c.same hw (hs _ (.inr (.inl rfl))),d⟩,h.sep,h.few⟩
theorem CktR.ext (h:CktR n bc w gs v mb) (hw:Ext w w'):CktR n bc w' gs v mb:=h.same hw λ_ _ h=>h
theorem CktR.lt (h:CktR n bc w gs v mb) {b:Nat} (a:X7 bc mb v b):b<w.heap.size:=by
 obtain⟨f,c,_⟩:=h.map;rcases a with rfl|rfl|a
 .exact h.blk.lt
 .exact c.lt
 .exact(Own.lt h.own a).2
end
structure BdR (n bb:Nat) (ar ab:Addr) (X F:oA) (w:World) (st:Option M.Gs):Prop where
 err:Errs F w ar ab
 blk:∃bc,Blk w bb [oP bc 0,match st with|some _=> .nilIface |none=>erv ar] yO/\∀gs,st=some gs->∃v mb,CktR n bc w gs v mb/\¬X7 bc mb v bb/\∀b,X7 bc mb v b->F b
 foot:F bb
 lt:∀b,F b\/X b->b<w.heap.size
section
variable {n bb:Nat} {ar ab:Addr} {st:Option M.Gs}
theorem BdR.upd {w0:World} {f:oA} (h:BdR n bb ar ab X F w st) (g:Errs f w0 ar ab) (c:Same S w w') (hs:∀b,S b->w0.heap.size<=b/\¬F b):BdR n bb ar ab X F w' st:=by
 obtain⟨bc,j,k⟩:=h.blk;refine⟨h.err.to g c λb a=>(hs b a).1,⟨bc,j.same c λa=>(hs _ a).2 h.foot,λgs e=>?_⟩,h.foot,λb a=>by have:=h.lt b a;have:=c.size;omega⟩;obtain⟨v,mb,l,i,d⟩:=k gs e;exact⟨v,mb,l.same c λb a m=>(hs b m).2 (d b a),i,d⟩
theorem BdR.ext (h:BdR n bb ar ab X F w st) (hw:Ext w w'):BdR n bb ar ab X F w' st:=h.upd h.err hw λ_ h=>h.elim
end
end
end
section
variable {w:World} {K:oK} {F X:oA} {n bc mb:Nat} {gs:M.Gs} {v:Value}
theorem Blk.ldTake {b:Nat} {us r:List Value} {t0 t:TypeId} (h:Blk w b (us++r) t0) (a:aggB t us.length=true):zu t (oP b 0) w K=K (.agg ⟨us⟩) w:=by
 refine XP a λi x hi=>?_;rw[yw,Gi];refine h.cell ?_;rw[Gb (by have:=(Gx.1 hi).1;exact this)];exact hi
theorem node_spec {l:Int} (b:l.natAbs<=1000000) (a:K (nI (M.absI l)) w):vcall Q7 #[nI l] w K:=by
 refine ze {} Tryz.func192 ?_;unfold M.absI at a;refine oZ ?_;refine zb (λh=>?_) (λh=>?_)
 .rw[X0 h] at a;simp(disch:=omega) only[push_cast,zk,Ga];exact a
 .rw[y3 h] at a;exact a
theorem turned_spec {l:Int} {c:Bool} (b:l.natAbs<=1000000) (a:K (nI (M.turnI c l)) w):vcall YH #[nI l,.bool c] w K:=by
 refine ze {} Tryz.func315 ?_;refine zm (λh=>?_) (λh=>?_)
 .subst h;simp(disch:=omega) only[push_cast,zk,Ga];exact a
 .subst h;exact a
theorem nodes_spec {k:Nat} (e:k<=1000000) (f:n<=1000000) (c:∀w',Ext w w'->K (nI (1+n+k:Int)) w'):vcall jA #[.agg ⟨[nI n,v]⟩,nI k] w K:=by
 refine ze {} Tryz.func132 ?_;refine zj λb w1 d he g a=>?_;simp(disch:=exact oS) only[push_cast,a.ld0,zk];exact c _ he
def ZS0 (g:M.Gt):M.Gt:=if M.absI g.b<M.absI g.a then⟨g.x,g.b,g.a⟩ else g
theorem xJ0 (gs:M.Gs):(gs.map ym).length=gs.length:=K3 _
theorem gate_spec {g:M.Gt} (h:CktR n bc w gs v mb) (ha:g.a.natAbs<=1000000) (C:g.b.natAbs<=1000000)
  (V:∀w' v',CktR n bc w' (M.putG n gs (ZS0 g)).1 v' mb->Same (X7 bc mb v) w w'->(∀b,v'.ownBlock=some b->v.ownBlock=some b\/w.heap.size<=b)->K (nI (M.putG n gs (ZS0 g)).2) w'):
  vcall Xs #[oP bc 0,gv g] w K:=by
 refine ze {cuts:=[(8195,[])]} Tryz.func314 ?_;refine zj λgb w1 b4 a9 b5 am=>?_;have hf:=h.few;refine zp (λu w'=>Ext w w'/\Blk w' gb (ym (ZS0 g)) zo) ?_ ?_
 .intro J hJ;refine zd λw2 W _=>?_;have d:=am.ext W;simp(disch:=exact oS) only[push_cast,d.ld1,d.ld2,k5];refine node_spec ha ?_;simp(disch:=exact oS) only[push_cast,d.ld1,d.ld2,k5,gi];refine node_spec C ?_;simp only[push_cast,k5];refine zb (λc=>?_) (λc=>?_)
  .simp(disch:=exact oS) only[push_cast,d.ld1,d.ld2];refine d.st rfl rfl yM rfl λw3 ax _ an=>?_;refine Blk.st (i:=2) an rfl rfl yM rfl λw4 ay _ ao=>?_;refine hJ _ _ ⟨Ext.then (a9.trans W) (ax.trans ay) λx s=>oM,?_⟩;unfold ZS0;rw[X0 c];exact ao
  .refine hJ _ _ ⟨a9.trans W,?_⟩;unfold ZS0;rw[y3 c];exact d
 rintro u _ w5 ⟨aq,a3⟩;generalize ZS0 g=o at V a3;refine zd λw6 aa _=>?_;have e6:=aq.trans aa;have S:=h.ext e6;have a4:=a3.ext aa;obtain⟨f,ar,E⟩:=S.map;have D:∀w':World,Blk w' gb (ym o) zo->∀K:oK,zu zo (oP gb 0) w' K=K (gv o) w':=λw' hB K=>Blk.ldAgg hB (by exact xO);have t:=E o;have av:=D _ a4;simp(disch:=exact oS) only[push_cast,S.blk.ld2,k5,av,ZW0 ar];by_cases hm:o∈gs
 .rw[X0 hm] at t;simp only[t,push_cast,k5,gi];have e1:M.putG n gs o=(gs,(2+n+gs.idxOf o:Int)):=by unfold M.putG;rw[X0 hm]
  rw[e1] at V;exact V _ _ S (Same.of_ext e6) λb C=> .inl C
 rw[y3 hm] at t;simp only[t,push_cast,k5,gi];have az:=Own.sl S.own;simp(disch:=exact oS) only[push_cast,S.blk.ld1,az.len,xJ0];refine zb (λhl=>?_) (λhl=>?_)
 .have e1:M.putG n gs o=(gs,0):=by unfold M.putG;rw[y3 hm,X0 oM]
  rw[e1] at V;exact V _ _ S (Same.of_ext e6) λb C=> .inl C
 have e1:M.putG n gs o=(gs++[o],(2+n+gs.length:Int)):=by unfold M.putG;rw[y3 hm,y3 oM]
 rw[e1] at V;refine zd λw7 X _=>?_;have e7:=e6.trans X;have h7:=S.ext X;have a5:=a4.ext X;have aw:=D _ a5;simp(disch:=exact oS) only[push_cast,h7.blk.ld1,k5,aw];refine qJ jo rK kL (y:=ym o) rfl rfl (show 3<=16777216 by decide) λb8 w8 b3 Y b6 ap=>?_;have e8:=e7.trans Y;have h8:=h7.ext Y;have a7:=a5.ext Y;have s8:=e8.size;simp(disch:=exact oS) only[push_cast,h8.blk.ld1,k5,gi];refine Own.app1k (bs:=24) h8.own qF dC ap rfl (λc hc=>by simp only[ym,gj,gC,Gn] at hc;rcases hc with rfl|rfl|rfl<;>rfl) (by rw[xJ0];omega) (by rw[xJ0];omega) λv' w9 a1 F a0=>?_;have lbc:bc<w.heap.size:=h.lt (.inl rfl);have lmb:mb<w.heap.size:=h.lt (.inr (.inl rfl));have a6:=h8.blk.same F λs=>h.sep.2.1 s;have af: ¬v.ownBlock=some gb:=λs=>by have:=(Own.lt h.own s).2;omega
 have a8:=a7.same F af;refine Blk.st (i:=1) a6 (Sl.cells1 (Own.sl a1)) (Sl.one (Own.sl a1)) Jl rfl λw10 p b1 z=>?_;have z:Blk w10 bc [nI n,v',.map (some mb)] ye:=z;have L:v'.ownBlock≠some bc:=λs=>(a0 bc s).elim h.sep.2.1 λh=>oM
 have Q:v'.ownBlock≠some mb:=λs=>(a0 mb s).elim h.sep.2.2 λh=>oM
 have ak:OwnG w10 v' (gs++[o]):=by
  have:=a1.same p λb C s=>L (by rw[<-s];exact C);unfold OwnG;rw[gE];exact this
 have T:=a8.same p (show¬gb=bc by omega);obtain⟨f,ae,E⟩:=h8.map;have ab:=(ae.same F h.sep.2.2).same p (λe=>h.sep.1 e.symm);refine zd λG j _=>?_;have m:=z.ext j;have R:=Own.ext ak j;have A:=T.ext j;have ag:=D _ A;have a2:=Own.sl R;have aj:∀K:oK,zu zx (oP bc 0) G K=K (.agg ⟨[nI n,v']⟩) G:=λK=>Blk.ldTake (us:=[nI n,v']) (r:=[.map (some mb)]) m y5;have au:(List.map ym (gs++[o])).length=gs.length+1:=by rw[xJ0,Q1];rfl
 have hlen:∀K:oK,vbi .len [zA] zE [v'] G K=K (nI ((gs.length+1:Nat):Int)) G:=λK=>by rw[a2.len qf,au]
 simp(disch:=exact oS) only[push_cast,m.ld1,m.ld2,k5,ag,aj,hlen];rw[show((gs.length:Int)+1)=((gs.length+1:Nat):Int) from by omega];refine nodes_spec oM oM λb7 k=>?_;rw[show(1+(n:Int)+((gs.length+1:Nat):Int))=2+n+gs.length from by omega];have H:=m.ext k;have B:=A.ext k;have ah:=D _ B;simp(disch:=exact oS) only[push_cast,H.ld2,k5,ah,gi];have ac:=ab.ext (j.trans k);have t:X6 o f=none:=by rw[E,y3 hm]
 refine gset ac t λb9 ad q b2=>?_;refine zd λb0 l _=>?_;have I:=(H.same q h.sep.1).ext l;have U:=(B.same q (show¬gb=mb by omega)).ext l;have ai:=D _ U;have N:=ad.ext l;have al:OwnG b0 v' (gs++[o]):=Own.ext (Own.same (Own.ext R k) q λb C s=>Q (by rw[<-s];exact C)) l;have O:∀g,X6 g (f++[(o,(2+n+gs.length:Int))])=if g∈gs++[o] then some (2+n+(gs++[o]).idxOf g:Int) else none:=λg=>by
  have e:=look_app (g:=g) (h:=o) (n:=(2+n+gs.length:Int)) (f:=f) (i:=0);have e2:=E g;unfold X6 at e2⊢;rw[e,e2];by_cases hg:g∈gs
  .rw[X0 hg,X0 (gl.2 (.inl hg)),pQ,X0 hg]
  .rw[y3 hg];by_cases ho:g=o
   .subst ho;simp only;rw[X0 trivial,X0 (by simp),pQ,y3 hg];simp
   .simp only;rw[y3 ho,y3 (by simp[hg,ho])]
 have Z:=O o;rw[X0 (by simp),pQ,y3 hm] at Z;simp only[List.idxOf_cons_self,G7] at Z;simp(disch:=exact oS) only[push_cast,I.ld2,k5,ai,Xg0 N,Z,gi];refine V _ v' ⟨I,al,⟨_,N,O⟩,⟨h.sep.1,L,Q⟩,?_,hf.2⟩ ?_ λb C=>(a0 b C).imp id λh=>oM
 .rw[Q1];simp;omega
 .refine Same.thn (Same.of_ext e8) ((((F.mono (S':=X7 bc mb v) λx _ h=> .inr (.inr h)).trans (p.mono λx _ h=> .inl h)).trans (Same.of_ext (j.trans k))).trans ((q.mono λx _ h=> .inr (.inl h)).trans (Same.of_ext l))) λx s=> .inl s
end
end Go.Proofs.YtfnpmncplaibiaaGreatDoor
end
