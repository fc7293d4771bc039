import Derived.Test.YtokflbdfnbppjaaGreatDoorWvbP3
import Derived.Test.YtokflbdfnbppjaaGreatDoorWvbP4
/- A part of the proof. -/
set_option linter.all false
namespace Go.Proofs.YtokflbdfnbppjaaGreatDoor
open Go Go.Vc Go.Proofs
section
variable {v0 v1 v2 v3 v4:Value} {w:World} {R:Value->World->Prop}
theorem U0 (h:yX P zF v0 w λ_ a=>yX P za v1 a λa b=>y3 P za b λb c=>zg P za a 4 c λc d=>zf P zb c d λc d=>vbi P .len [zb] ze [c] d λc d=>zq P .neq ze true c (.int .i64 2) d λc d=>vif c (zD P za [] d λc e=>zm P za b c e λ_ c=>vlv P za b c λc e=>R (.tuple #[c,(.bool false)]) e) (x7 (λc=>yb d λd=>zg P za a 4 d λe f=>f=d/\zf P zb e d λf g=>g=d/\zj P zb f (.int .i64 0) d λg h=>h=d/\zf P za g d λh i=>i=d/\zg P za a 4 d λi j=>j=d/\zf P zb i d λj k=>k=d/\zj P zb j (.int .i64 1) d λk l=>l=d/\zf P za k d λl m=>m=d/\(y3 P za d λm n=>(zf P za k n λo p=>o=l/\p=n)/\(zj P zb j (.int .i64 1) n λo p=>o=k/\p=n)/\(zf P zb i n λo p=>o=j/\p=n)/\(zg P za a 4 n λo p=>o=i/\p=n)/\(zf P za g n λo p=>o=h/\p=n)/\(zj P zb f (.int .i64 0) n λo p=>o=g/\p=n)/\(zf P zb e n λo p=>o=f/\p=n)/\(zg P za a 4 n λo p=>o=e/\p=n)/\(y3 P za n λn q=>(zf P za k q λo p=>o=l/\p=q)/\(zj P zb j (.int .i64 1) q λo p=>o=k/\p=q)/\(zf P zb i q λo p=>o=j/\p=q)/\(zg P za a 4 q λo p=>o=i/\p=q)/\(zf P za g q λo p=>o=h/\p=q)/\(zj P zb f (.int .i64 0) q λo p=>o=g/\p=q)/\(zf P zb e q λo p=>o=f/\p=q)/\(zg P za a 4 q λo p=>o=e/\p=q)/\(zm P za m h q λ_ q=>(zf P za k q λo p=>o=l/\p=q)/\(zj P zb j (.int .i64 1) q λo p=>o=k/\p=q)/\(zf P zb i q λo p=>o=j/\p=q)/\(zg P za a 4 q λo p=>o=i/\p=q)/\(zm P za n l q λ_ q=>c [m,n] q)/\True)/\True)/\True)/\(y3 P za d λd m=>(zf P za k m λo p=>o=l/\p=m)/\(zj P zb j (.int .i64 1) m λo p=>o=k/\p=m)/\(zf P zb i m λo p=>o=j/\p=m)/\(zg P za a 4 m λo p=>o=i/\p=m)/\(zf P za g m λo p=>o=h/\p=m)/\(zj P zb f (.int .i64 0) m λo p=>o=g/\p=m)/\(zf P zb e m λo p=>o=f/\p=m)/\(zg P za a 4 m λo p=>o=e/\p=m)/\(y3 P za m λm n=>(zf P za k n λo p=>o=l/\p=n)/\(zj P zb j (.int .i64 1) n λo p=>o=k/\p=n)/\(zf P zb i n λo p=>o=j/\p=n)/\(zg P za a 4 n λo p=>o=i/\p=n)/\(zf P za g n λo p=>o=h/\p=n)/\(zj P zb f (.int .i64 0) n λo p=>o=g/\p=n)/\(zf P zb e n λo p=>o=f/\p=n)/\(zg P za a 4 n λo p=>o=e/\p=n)/\(zm P za m h n λ_ e=>(zf P za k e λo p=>o=l/\p=e)/\(zj P zb j (.int .i64 1) e λo p=>o=k/\p=e)/\(zf P zb i e λo p=>o=j/\p=e)/\(zg P za a 4 e λo p=>o=i/\p=e)/\(zm P za d l e λ_ e=>c [m,d] e)/\True)/\True)/\True)/\True) (λc _ d=>x7 (λe=>x7 (λf=>zf P za (sl 0 c) d λd g=>vcall P j0 #[d,(.int .i64 0)] g λd g=>vif d (zf P za a g λd h=>vbuildS P zr 3 [(0,(.int .i64 4)),(1,(.int .i64 5)),(2,(.int .i64 6))] h λh i=>vcall P ko #[d,h] i λd h=>f [d] h) (f [(.bool false)] g)) (λd _ f=>vif (sl 0 d) (zf P za (sl 1 c) f λd g=>zm P za b d g λ_ d=>vlv P za b d λd g=>R (.tuple #[d,(.bool true)]) g) (zf P za (sl 0 c) f λd f=>vcall P j0 #[d,(.int .i64 0)] f λd f=>vif d (zf P za a f λd g=>vbuildS P zr 2 [(0,(.int .i64 3)),(1,(.int .i64 8))] g λg h=>vcall P ko #[d,g] h λd g=>vif d (zf P za (sl 0 c) g λd h=>zm P za b d h λ_ d=>vlv P za b d λd h=>R (.tuple #[d,(.bool true)]) h) (e [] g)) (e [] f)))) (λ_ _ d=>yb d λd=>zf P za (sl 0 c) d λe f=>f=d/\zf P za (sl 1 c) d λf g=>g=d/\vcall P j0 #[e,(.int .i64 1)] d λd e=>(zf P za (sl 1 c) e λo p=>o=f/\p=e)/\vif d (zg P za a 0 e λa c=>c=e/\zf P ze a e λa c=>c=e/\zq P .eql ze true a (.int .i64 8) e λa c=>c=e/\vcall P xZ #[a,f] e λa c=>zn P a 0 c λd g=>g=c/\zn P a 1 c λa g=>g=c/\zm P za b d c λ_ c=>vlv P za b c λc d=>R (.tuple #[c,a]) d) (vcall P xZ #[(.bool false),f] e λa c=>zn P a 0 c λd e=>e=c/\zn P a 1 c λa e=>e=c/\zm P za b d c λ_ c=>vlv P za b c λb c=>R (.tuple #[b,a]) c))))):vcall P jn #[v0,v1] w R:=zl {ord:=[oz 8 [0,7,1,2,3,4,5,6,8,9,10,11,12] [(0,[7]),(7,[1,2,3,4,5,6]),(9,[10])]],cuts:=[(16388,[6,7]),(20488,[]),(20485,[21])],trees:=[(3,(.st 0 (.st 1 (.st 2 (.st 3 (.st 4 (.st 5 (.st 6 (.st 7 (.alt 8 (.alt 9 (.alt 10 (.alt 11 .nil .no) .no) .no) (.alt 9 (.alt 8 (.alt 10 (.alt 11 .nil .no) .no) .no) .no)))))))))),[(0,[1,2,3,10,11]),(1,[2,3,10,11]),(2,[3,10,11]),(3,[10,11]),(4,[5,6,7,11]),(5,[6,7,11]),(6,[7,11]),(7,[11]),(8,[10,11]),(9,[10,11]),(10,[11])])]} Tryz.func179 rK rK h
theorem ks0 (h:yX P zc v0 w λa b=>zg P zc a 1 b λa b=>zf P ze a b λa b=>QZ P ze yy a b λa b=>R a b):vcall P zP #[v0] w R:=cQ {} Tryz.func180 h
theorem Ks (h:vcall P jP #[v0,(.int .i64 10)] w λa b=>R a b):vcall P ZJ #[v0] w R:=cQ {} Tryz.func181 h
def qn (P:Program) (v0 v1:Value) (w:World) (R:Value->World->Prop):Prop:=x7 (λa=>zq P .lss ze true v1 (.int .i64 0) w λb c=>vif b (Wv P zS (.string {data:= #[99,97,110,110,111,116,32,98,101,32,110,101,103,97,116,105,118,101]}) c λ_ _=>False) (a [] c)) (λ_ _ a=>vbi P .len [zd] ze [v0] a λa b=>QZ P ze Ue a b λa b=>QZ P ze Ue v1 b λb c=>vcall P XO #[a,b] c λa b=>zn P a 0 b λb c=>zn P a 1 c λa c=>x7 (λd=>zq P .gtr Ue true b (.int .u64 0) c λb c=>vif b (Wv P zS (.string {data:= #[116,104,101,32,114,101,115,117,108,116,32,111,102,32,40,108,101,110,40,120,41,32,42,32,99,111,117,110,116,41,32,111,118,101,114,102,108,111,119,115]}) c λ_ _=>False) (zq P .gtr Ue true a (.int .u64 9223372036854775807) c λb c=>vif b (Wv P zS (.string {data:= #[116,104,101,32,114,101,115,117,108,116,32,111,102,32,40,108,101,110,40,120,41,32,42,32,99,111,117,110,116,41,32,111,118,101,114,102,108,111,119,115]}) c λ_ _=>False) (d [] c))) (λ_ _ b=>QZ P Ue ze a b λa b=>Wo0 P zd a a b λa b=>vbi P .copy [zd,zd] ze [a,v0] b λb c=>yQ [b] c λb c _ d=>vbi P .len [zd] ze [a] d λd e=>zq P .lss ze false (sl 0 c) d e λd e=>vif d (yb e λd=>yY P zd a (some (sl 0 c)) none none d λf g=>g=d/\yY P zd a none (some (sl 0 c)) none d λg h=>h=d/\vbi P .copy [zd,zd] ze [f,g] d λd f=>zq P .add ze false (sl 0 c) d f λc d=>d=f/\b [c] f) (R a e)))
theorem jT {v0 v1 w R} (h:qn P v0 v1 w R):vcall P xi #[v0,v1] w R:=zl {ord:=[(9,[0,1,2,3,4,5,6,7,8,9],[(0,[8,9]),(1,[3,7,8,9]),(2,[3,7,8,9]),(3,[7,8,9]),(4,[6,7,8,9]),(5,[6,7,8,9]),(6,[7,8,9]),(7,[8,9]),(8,[9])])],loops:=[(8,[8])],cuts:=[(8195,[]),(20486,[])]} Tryz.func185 rK rK h
theorem Q2 (h:vif v1 (vnil P v0 w λa b=>zg P y8 a 1 b λa b=>zf P yg a b λa b=>zq P .eql yg true a .nilIface b λa b=>vif a (vnil P v0 b λa c=>zg P y8 a 1 c λa c=>zm P yg a v2 c λ_ a=>R (.tuple #[]) a) (R (.tuple #[]) b)) (R (.tuple #[]) w)):vcall P yG #[v0,v1,v2] w R:=cQ {} Tryz.func186 h
theorem jn0 (h:vbi P .len [zd] ze [v0] w λa b=>yQ [(.slice none 0 0),(.int .i64 0)] b λb c _ d=>zq P .lss ze false (sl 1 c) a d λa d=>vif a (yb d λa=>zj P zd v0 (sl 1 c) a λe f=>f=a/\zf P zv e a λe f=>f=a/\zj P zd v1 (sl 1 c) a λf g=>g=a/\zf P zv f a λf g=>g=a/\vcallv P v2 #[e,f] a λa e=>vbuildS P zd 1 [(0,a)] e λa e=>vbi P .append [zd,zd] zd [(sl 0 c),a] e λa e=>zq P .add ze true (sl 1 c) (.int .i64 1) e λe f=>b [a,e] f) (R (sl 0 c) d)):vcall P Zl #[v0,v1,v2] w R:=zl {ord:=[oz 5 (oR 14) [(0,[1,2,3,4,5,6,7,8,9,10,11]),(1,[2,3,4,5,6,7,8,9]),(2,[3,6,7,8,9]),(3,[6,7,8,9]),(4,[6,7,8,9]),(5,[6,7,8,9]),(6,[7])]],loops:=[(3,[7,11])]} Tryz.func187 rK rK h
def Yb (P:Program) (v0 v1 v2 v3:Value) (w:World) (R:Value->World->Prop):Prop:=zf P y0 v2 w λa b=>zf P zv v3 b λb c=>vcall P xf #[a,b,v0,v1] c λa b=>R a b
theorem Kv {v0 v1 v2 v3 w R} (h:Yb P v0 v1 v2 v3 w R):vcall P ZT #[v0,v1,v2,v3] w R:=zl {} Tryz.func188 rK rK h
theorem y10 (h:vcall P yP #[v0,v1,v2] w λa b=>vun P .neg v1 b λb c=>vcall P yP #[v0,b,v3] c λb c=>vcall P qJ #[v0,a,b] c λa b=>R a b):vcall P xf #[v0,v1,v2,v3] w R:=cQ {} Tryz.func189 h
theorem kl0 (h:vcall P Zl #[v0,v0,(.func (.func Ky) #[] #[])] w λa b=>R a b):vcall P jJ #[v0] w R:=cQ {} Tryz.func190 h
theorem y00 (h:vbi P .len [zd] ze [v1] w λa b=>yQ [v3,(.slice none 0 0),(.int .i64 0)] b λb c _ d=>zq P .lss ze false (sl 2 c) a d λa d=>vif a (yb d λa=>zj P zd v1 (sl 2 c) a λe f=>f=a/\zf P zv e a λe f=>f=a/\zj P zd v2 (sl 2 c) a λf g=>g=a/\zf P zv f a λf g=>g=a/\vcall P qa #[v0,e,f] a λa e=>vcall P qa #[v0,a,(sl 0 c)] e λe f=>vbuildS P zd 1 [(0,e)] f λe f=>vbi P .append [zd,zd] zd [(sl 1 c),e] f λe f=>yb f λf=>zj P zd v1 (sl 2 c) f λg h=>h=f/\zf P zv g f λg h=>h=f/\zj P zd v2 (sl 2 c) f λh i=>i=f/\zf P zv h f λh i=>i=f/\vcall P yP #[v0,g,h] f λf g=>vcall P yP #[v0,a,(sl 0 c)] g λa g=>vcall P qJ #[v0,f,a] g λa f=>zq P .add ze true (sl 2 c) (.int .i64 1) f λf g=>b [a,e,f] g) (R (sl 1 c) d)):vcall P qb #[v0,v1,v2,v3] w R:=zl {ord:=[oz 5 (oR 11) [(0,[1,2,3,4,5,6,7,8]),(1,[2,5,6,7,8]),(2,[5,6,7,8]),(3,[5,6,7,8]),(4,[5,6,7,8]),(5,[6])],oz 7 (oR 11) [(0,[1,2,3,4,5,6,7,8]),(1,[2,5,6,7,8]),(2,[5,6,7,8]),(3,[5,6,7,8]),(4,[5,6,7,8]),(5,[6])]],loops:=[(3,[3,9,16])]} Tryz.func191 rK rK h
theorem jU (h:vbi P .len [zC] ze [v0] w λa b=>yQ [(.int .i64 0),(.int .i64 0)] b λb c _ d=>zq P .lss ze false (sl 1 c) a d λa d=>vif a (zj P zC v0 (sl 1 c) d λa e=>zf P zd a e λa e=>vbi P .len [zd] ze [a] e λa e=>zq P .add ze false (sl 0 c) a e λa e=>zq P .lss ze true a (.int .i64 0) e λe f=>vif e (Wv P zS (.string {data:= #[108,101,110,32,111,117,116,32,111,102,32,114,97,110,103,101]}) f λ_ _=>False) (zq P .add ze true (sl 1 c) (.int .i64 1) f λe f=>b [a,e] f)) (vcall P xn #[(.slice none 0 0),(sl 0 c)] d λa b=>vbi P .len [zC] ze [v0] b λb c=>yQ [a,(.int .i64 0)] c λa c _ d=>zq P .lss ze false (sl 1 c) b d λb d=>vif b (zj P zC v0 (sl 1 c) d λb e=>zf P zd b e λb e=>vbi P .append [zd,zd] zd [(sl 0 c),b] e λb e=>zq P .add ze true (sl 1 c) (.int .i64 1) e λe f=>a [b,e] f) (R (sl 0 c) d))):vcall P xj #[v0] w R:=cQ {loops:=[(3,[3,11]),(11,[6,27])]} Tryz.func192 h
theorem y40 (h:vnil P v0 w λa b=>zg P y8 a 1 b λa b=>zf P yg a b λa b=>zq P .neq yg true a .nilIface b λa b=>vif a (R (.int .i64 (-1)) b) (vnil P v0 b λa b=>zg P y8 a 0 b λa b=>zf P Zd a b λa b=>vcall P ZR #[a,v1,v2] b λa b=>vcall P jx #[v0,a] b λa b=>R a b)):vcall P yP #[v0,v1,v2] w R:=cQ {} Tryz.func193 h
theorem xk0 (h:vun P .neg v1 w λa b=>vun P .neg v2 b λb c=>vcall P yP #[v0,a,b] c λa b=>vun P .neg a b λa b=>R a b):vcall P qJ #[v0,v1,v2] w R:=cQ {} Tryz.func194 h
theorem zZ0 (h:vnil P v0 w λa b=>zg P y8 a 1 b λa b=>zf P yg a b λa b=>zq P .neq yg true a .nilIface b λa b=>vif a (R (.int .i64 (-1)) b) (vnil P v0 b λa b=>zg P y8 a 0 b λa b=>zf P Zd a b λa b=>vcall P ZP #[a,v1,v2] b λa b=>vcall P jx #[v0,a] b λa b=>R a b)):vcall P qa #[v0,v1,v2] w R:=cQ {} Tryz.func195 h
def Ya (P:Program) (v0 v1 v2:Value) (w:World) (R:Value->World->Prop):Prop:=yX P y0 v0 w λa b=>vbi P .len [zd] ze [v1] b λb c=>vcall P kc #[b] c λb c=>y3 P zd c λc d=>zm P zd c b d λ_ b=>zf P y0 a b λb d=>vcall P XQ #[b,v1,v2] d λb d=>Uz0 P b 1 0 d (λb d e _ _ f=>d f λd=>zf P y0 a d λa d=>zf P zd c d λd f=>vcall P qb #[a,d,(sl 0 b),(.int .i64 (-1))] f λa b=>zm P zd c a b λ_ a=>e a) (λa b=>zf P zd c b λb d=>Qs0 a d λa=>R b a) (λa b=>Qs0 a b λa=>R (.slice none 0 0) a) (λa b=>zf P zd c b λb c=>Qs0 a c λa=>R b a)
def QW:Ann:={ord:=[],loops:=[],cuts:=[]}
theorem zD0 (v0 v1 v2:Value) (w:World) (R:Value->World->Prop):vx P QW 0 ((Tryz.f196.body).getD .skip) (retF P Tryz.f196.results.toList R) (retM P Tryz.f196.results.toList R) (nthV [v0,v1,v2]) w=Ya P v0 v1 v2 w R:=rK
theorem y20 {v0 v1 v2:Value} {w:World} {R:Value->World->Prop} (h:Ya P v0 v1 v2 w R):vcall P ZS #[v0,v1,v2] w R:=
 YW0 (T:=QW) (x:=0) (c:=(Tryz.f196.body).getD .skip) (n:=22) mixed Tryz.func196 rfl rfl rK rK rfl (by rw[zD0];exact h)
theorem VG (h:vbi P .len [zd] ze [v1] w λa b=>vcall P kc #[a] b λa b=>vbi P .len [zd] ze [v1] b λb c=>vcall P kc #[b] c λb c=>vcall P yj #[v2] c λc d=>vbuildS P zd 1 [(0,(.int .i64 (-1)))] d λd e=>vbi P .append [zd,zd] zd [c,d] e λc d=>vbi P .len [zd] ze [v1] d λd e=>zq P .sub ze true d (.int .i64 1) e λd e=>yQ [a,d] e λa d _ e=>zq P .geq ze true (sl 1 d) (.int .i64 0) e λe f=>vif e (zj P zd v1 (sl 1 d) f λe g=>zf P zv e g λe g=>vbuildS P zd 1 [(0,e)] g λe g=>vbi P .append [zd,zd] zd [e,(sl 0 d)] g λe g=>vcall P qP #[v0,e,c] g λg h=>vun P .neg g h λh i=>zj P zd b (sl 1 d) i λi j=>zm P zv i h j λ_ h=>vcall P jJ #[c] h λc h=>vcall P qb #[v0,e,c,(.int .i64 1)] h λc h=>vbi P .len [zd] ze [v1] h λh i=>Wo0 P zd h h i λh i=>vbi P .len [zd] ze [h] i λi j=>yQ [(.int .i64 0)] j λj k _ l=>zq P .lss ze false (sl 0 k) i l λi l=>vif i (yb l λi=>zj P zd e (sl 0 k) i λe m=>m=i/\zf P zv e i λe m=>m=i/\zj P zd c (sl 0 k) i λc m=>m=i/\zf P zv c i λc m=>m=i/\vcall P xf #[v0,g,e,c] i λc e=>zj P zd h (sl 0 k) e λg i=>i=e/\zm P zv g c e λ_ c=>zq P .add ze true (sl 0 k) (.int .i64 1) c λc e=>j [c] e) (zq P .sub ze true (sl 1 d) (.int .i64 1) l λc e=>a [h,c] e)) (R (.tuple #[b,(sl 0 d)]) f)):vcall P j6 #[v0,v1,v2] w R:=zl {ord:=[oz 15 (oR 15) [(0,[1,2,3,4,5,6,7,8,9,10,11,12]),(1,[2,3,4,5,6,7,8,9,10,11,12]),(2,[3,4,5,6,7,8,9,10,11]),(3,[4,5,6,7,8,9,10,11]),(4,[5,8,9,10,11]),(5,[8,9,10,11]),(6,[8,9,10,11]),(7,[8,9,10,11]),(8,[9])]],loops:=[(5,[8,10]),(13,[59])]} Tryz.func197 rK rK h
theorem U5 (h:vbi P .len [zd] ze [v2] w λa b=>yQ [v1,(.int .i64 0)] b λb c _ d=>zq P .lss ze false (sl 1 c) a d λa d=>vif a (zj P zd v2 (sl 1 c) d λa e=>zf P zv a e λa e=>zq P .shl ze true (.int .i64 1) (sl 1 c) e λe f=>x7 (λg=>vif v3 (vun P .neg e f λh i=>g [h] i) (g [e] f)) (λe _ f=>vbi P .len [zd] ze [(sl 0 c)] f λf g=>Wo0 P zd f f g λf g=>vbi P .len [zd] ze [(sl 0 c)] g λg h=>yQ [(.int .i64 0)] h λh i _ j=>zq P .lss ze false (sl 0 i) g j λg j=>vif g (zq P .add ze false (sl 0 i) (sl 0 e) j λe g=>zq P .geq ze true e (.int .i64 0) g λg k=>vif g (vbi P .len [zd] ze [(sl 0 c)] k λg l=>zq P .lss ze false e g l λg l=>vif g (zj P zd (sl 0 c) e l λe g=>zf P zv e g λe g=>zj P zd (sl 0 c) (sl 0 i) g λg m=>zf P zv g m λg m=>vcall P xf #[v0,a,e,g] m λe g=>zj P zd f (sl 0 i) g λg m=>zm P zv g e m λ_ e=>zq P .add ze true (sl 0 i) (.int .i64 1) e λe g=>h [e] g) (zj P zd (sl 0 c) (sl 0 i) l λe g=>zf P zv e g λe g=>vcall P xf #[v0,a,v4,e] g λe g=>zj P zd f (sl 0 i) g λg l=>zm P zv g e l λ_ e=>zq P .add ze true (sl 0 i) (.int .i64 1) e λe g=>h [e] g)) (zj P zd (sl 0 c) (sl 0 i) k λe g=>zf P zv e g λe g=>vcall P xf #[v0,a,v4,e] g λa e=>zj P zd f (sl 0 i) e λe g=>zm P zv e a g λ_ a=>zq P .add ze true (sl 0 i) (.int .i64 1) a λa e=>h [a] e)) (zq P .add ze true (sl 1 c) (.int .i64 1) j λa e=>b [f,a] e))) (R (sl 0 c) d)):vcall P qF #[v0,v1,v2,v3,v4] w R:=cQ {loops:=[(3,[11,22]),(10,[37])],cuts:=[(28680,[14])]} Tryz.func198 h
theorem zb0 (h:vbi P .len [zd] ze [v1] w λa b=>yQ [(.int .i64 1),(.int .i64 0)] b λb c _ d=>zq P .lss ze false (sl 1 c) a d λa d=>vif a (yb d λa=>zj P zd v1 (sl 1 c) a λe f=>f=a/\zf P zv e a λe f=>f=a/\zj P zd v2 (sl 1 c) a λf g=>g=a/\zf P zv f a λf g=>g=a/\vcall P qa #[v0,e,f] a λa e=>vun P .neg a e λa e=>vcall P yP #[v0,(sl 0 c),a] e λa e=>zq P .add ze true (sl 1 c) (.int .i64 1) e λe f=>b [a,e] f) (R (sl 0 c) d)):vcall P Zp #[v0,v1,v2] w R:=zl {ord:=[oz 5 (oR 11) [(0,[1,2,3,4,5,6,7,8]),(1,[2,5,6,7,8]),(2,[5,6,7,8]),(3,[5,6,7,8]),(4,[5,6,7,8]),(5,[6])]],loops:=[(3,[7,12])]} Tryz.func199 rK rK h
theorem ze0 (h:vbi P .len [zd] ze [v1] w λa b=>yQ [(.int .i64 (-1)),(.int .i64 0)] b λb c _ d=>zq P .lss ze false (sl 1 c) a d λa d=>vif a (yb d λa=>zj P zd v1 (sl 1 c) a λe f=>f=a/\zf P zv e a λe f=>f=a/\zj P zd v2 (sl 1 c) a λf g=>g=a/\zf P zv f a λf g=>g=a/\vcall P qa #[v0,e,f] a λa e=>zj P zd v2 (sl 1 c) e λe f=>zf P zv e f λe f=>vcall P xf #[v0,a,e,(sl 0 c)] f λa e=>zq P .add ze true (sl 1 c) (.int .i64 1) e λe f=>b [a,e] f) (R (sl 0 c) d)):vcall P qP #[v0,v1,v2] w R:=zl {ord:=[oz 5 (oR 11) [(0,[1,2,3,4,5,6,7,8]),(1,[2,5,6,7,8]),(2,[5,6,7,8]),(3,[5,6,7,8]),(4,[5,6,7,8]),(5,[6])]],loops:=[(3,[7,12])]} Tryz.func200 rK rK h
theorem U4 (h:vbi P .len [zd] ze [v1] w λa b=>zq P .sub ze true a (.int .i64 1) b λa b=>vcall P yj #[v1] b λb c=>vcall P yj #[v2] c λc d=>yb d λd=>zj P zd c a d λe f=>f=d/\zf P zv e d λe f=>f=d/\zj P zd b a d λf g=>g=d/\zf P zv f d λf g=>g=d/\zj P zd b a d λg h=>h=d/\zm P zv g e d λ_ d=>zj P zd c a d λa e=>e=d/\zm P zv a f d λ_ a=>vcall P qP #[v0,b,c] a λa b=>R a b):vcall P kY #[v0,v1,v2] w R:=zl {ord:=[oz 3 (oR 16) [(0,[1,2,3,4,5,6,7,8,9,10,11]),(1,[2,3,4,5,6,7,8,9,10,11]),(2,[3,4,5,6,7,8,9,10,11,12,13]),(3,[4,5,6,7,8,9,10,11,12,13]),(4,[5,8,9,10,11]),(5,[8,9,10,11]),(6,[8,9,10,11]),(7,[8,9,10,11]),(8,[9])]]} Tryz.func201 rK rK h
theorem UW (h:yb w λa=>vcall P qu #[v0,v1] a λa b=>vif a (vnil P v0 b λa c=>c=b/\zg P zH a 0 b λc d=>d=b/\zf P zr c b λd e=>e=b/\vnil P v0 b λe f=>f=b/\zg P zH e 1 b λf g=>g=b/\zf P zr f b λg h=>h=b/\vcall P yu #[v1] b λh i=>(zf P zr f i λj k=>j=g/\k=i)/\(zg P zH e 1 i λj k=>j=f/\k=i)/\(vnil P v0 i λj k=>j=e/\k=i)/\(zf P zr c i λj k=>j=d/\k=i)/\(zg P zH a 0 i λj k=>j=c/\k=i)/\(vnil P v0 i λj k=>j=a/\k=i)/\zj P zr g h i λa c=>c=i/\zf P ze a i λa c=>c=i/\zq P .sub ze true a (.int .i64 1) i λa c=>c=i/\zj P zr d a i λa c=>c=i/\zf P ze a i λa c=>c=i/\zq P .eql ze false a v1 i λa c=>c=i/\R a i) (R (.bool false) b)):vcall P Zg #[v0,v1] w R:=zl {ord:=[oz 1 [0,1,2,3,4,5,6,7,8,9,10,11,12,19,13,14,15,16,17,18,20,21,22] [(0,[1]),(4,[8,9,10,11,12,19,13,14,15,16]),(5,[8,9,10,11,12,19,13,14,15,16]),(6,[8,9,10,11,12,19,13,14,15,16]),(7,[8,9,10,11,12,19,13,14,15,16]),(8,[12,19,13]),(9,[12,19,13]),(10,[12,19,13]),(11,[12,19,13]),(12,[19]),(19,[13,14,15,16,17,18])]]} Tryz.func202 rK rK h
theorem Q0 (h:vbi P .len [zr] ze [v0] w λa b=>yQ [(.int .i64 0)] b λb c _ d=>zq P .lss ze false (sl 0 c) a d λa d=>vif a (zj P zr v0 (sl 0 c) d λa e=>zf P ze a e λa e=>vcallv P v1 #[a] e λa e=>vif a (R (sl 0 c) e) (zq P .add ze true (sl 0 c) (.int .i64 1) e λa c=>b [a] c)) (R (.int .i64 (-1)) d)):vcall P qN #[v0,v1] w R:=cQ {loops:=[(2,[8])]} Tryz.func203 h
theorem zN0 (h:yb w λa=>vnil P v0 a λb c=>c=a/\zg P zH b 1 a λc d=>d=a/\zf P zr c a λd e=>e=a/\vcall P yu #[v1] a λa e=>(zf P zr c e λf g=>f=d/\g=e)/\(zg P zH b 1 e λf g=>f=c/\g=e)/\(vnil P v0 e λf g=>f=b/\g=e)/\zj P zr d a e λa b=>b=e/\zf P ze a e λa b=>b=e/\zq P .sub ze true a (.int .i64 1) e λa b=>b=e/\R a e):vcall P qA #[v0,v1] w R:=zl {ord:=[oz 1 (oR 10) [(0,[4,5]),(1,[4,5]),(2,[4,5]),(3,[4,5])]]} Tryz.func204 rK rK h
theorem Vw (h:XP0 P qm v1 w λa b=>yQ [(.int .i64 0),(.slice none 0 0)] b λb c _ d=>Vb0 P a false T_T_ d λd e=>zn P d 0 e λd e=>vif d (XS0 P a e λa d=>zn P a 0 d λa d=>vcall P qX #[v0,a] d λd f=>zq P .gtr ze false d (sl 0 c) f λf g=>vif f (vbuildS P zr 1 [(0,a)] g λf h=>b [d,f] h) (zq P .eql ze false d (sl 0 c) g λd f=>vif d (vbuildS P zr 1 [(0,a)] f λa d=>vbi P .append [zr,zr] zr [(sl 1 c),a] d λa d=>b [(sl 0 c),a] d) (b [(sl 0 c),(sl 1 c)] f))) (R (.tuple #[(sl 0 c),(sl 1 c)]) e)):vcall P qY #[v0,v1] w R:=cQ {loops:=[(4,[6,7])]} Tryz.func205 h
def Z6 (P:Program) (v0 v1:Value) (w:World) (R:Value->World->Prop):Prop:=x7 (λa=>vbi P .len [zr] ze [v0] w λb c=>zq P .lss ze true b (.int .i64 1) c λb c=>vif b (Wv P zS (.string {data:= #[115,108,105,99,101,115,46,77,97,120,70,117,110,99,58,32,101,109,112,116,121,32,108,105,115,116]}) c λ_ _=>False) (a [] c)) (λ_ _ a=>zj P zr v0 (.int .i64 0) a λa b=>zf P ze a b λa b=>yQ [a,(.int .i64 1)] b λa b _ c=>vbi P .len [zr] ze [v0] c λc d=>zq P .lss ze false (sl 1 b) c d λc d=>vif c (zj P zr v0 (sl 1 b) d λc e=>zf P ze c e λc e=>vcallv P v1 #[c,(sl 0 b)] e λc e=>zq P .gtr ze true c (.int .i64 0) e λc e=>vif c (zj P zr v0 (sl 1 b) e λc f=>zf P ze c f λc f=>zq P .add ze true (sl 1 b) (.int .i64 1) f λf g=>a [c,f] g) (zq P .add ze true (sl 1 b) (.int .i64 1) e λc e=>a [(sl 0 b),c] e)) (R (sl 0 b) d))
theorem Jf {v0 v1 w R} (h:Z6 P v0 v1 w R):vcall P jd #[v0,v1] w R:=zl {loops:=[(5,[5,6])],cuts:=[(8195,[])]} Tryz.func206 rK rK h
theorem VA (h:yb w λa=>zf P zL v2 a λb c=>c=a/\vnil P b a λb c=>c=a/\zg P zA b 1 a λb c=>c=a/\zf P yJ b a λb c=>c=a/\zf P zL v2 a λc d=>d=a/\vnil P c a λd e=>e=a/\zg P zA d 1 a λe f=>f=a/\zf P yJ e a λf g=>g=a/\vcall P qA #[b,v0] a λa b=>(zf P yJ e b λg h=>g=f/\h=b)/\(zg P zA d 1 b λg h=>g=e/\h=b)/\(vnil P c b λg h=>g=d/\h=b)/\(zf P zL v2 b λg h=>g=c/\h=b)/\vcall P qA #[f,v1] b λb c=>vcall P kJ #[a,b] c λa b=>R a b):vcall P ka #[v0,v1,v2] w R:=zl {ord:=[oz 1 [0,1,2,3,4,6,7,8,9,10,5,11,12,13] [(0,[4,6,7,8,9,10]),(1,[4,6,7,8,9,10]),(2,[4,6,7,8,9,10]),(3,[4,6,7,8,9,10]),(4,[6,7,8,9,10]),(6,[10,5]),(7,[10,5]),(8,[10,5]),(9,[10,5]),(10,[5])]]} Tryz.func207 rK rK h
theorem xv0 (h:vcall P ZY #[v0] w λa b=>vcall P ZY #[v1] b λb c=>vif a (vif b (R (.int .i64 0) c) (R (.int .i64 (-1)) c)) (vif b (R (.int .i64 1) c) (zq P .lss ze false v0 v1 c λa b=>vif a (R (.int .i64 (-1)) b) (zq P .gtr ze false v0 v1 b λa b=>vif a (R (.int .i64 1) b) (R (.int .i64 0) b))))):vcall P kJ #[v0,v1] w R:=cQ {} Tryz.func208 h
theorem Vz (h:vcall P yu #[v0] w λa b=>vcall P yu #[v1] b λb c=>vcall P kJ #[a,b] c λa b=>R a b):vcall P yZ #[v0,v1] w R:=cQ {} Tryz.func210 h
theorem VE (h:yX P za v0 w λa b=>zf P za a b λa b=>vcall P Zc #[a] b λa b=>zn P a 0 b λ_ b=>zn P a 1 b λa b=>vun P .not a b λa b=>R a b):vcall P YC #[v0] w R:=cQ {} Tryz.func211 h
theorem qj0 (h:yX P za v0 w λa b=>zg P za a 3 b λb c=>zf P zS b c λb c=>zq P .neq zS true b (.string {data:= #[]}) c λb c=>vif b (R (.tuple #[(.int .i64 0),(.bool false)]) c) (x7 (λb=>zg P za a 0 c λc d=>zf P ze c d λc d=>zq P .eql ze true c (.int .i64 20) d λc d=>vif c (zg P za a 4 d λc e=>zf P zb c e λc e=>vbi P .len [zb] ze [c] e λc e=>zq P .eql ze true c (.int .i64 0) e λc e=>vif c (zg P za a 1 e λc f=>zf P ze c f λc f=>zg P za a 2 f λf g=>zf P ze f g λf g=>zD P zc [(0,c),(1,f)] g λc f=>vcall P xR #[c] f λc f=>b [c] f) (b [(.bool false)] e)) (b [(.bool false)] d)) (λb _ c=>vif (sl 0 b) (zg P za a 2 c λb d=>zf P ze b d λb d=>R (.tuple #[b,(.bool true)]) d) (zf P za a c λb c=>zD P za [(0,(.int .i64 24))] c λc d=>vcall P xx #[b,c] d λb c=>vif b (R (.tuple #[(.int .i64 1),(.bool true)]) c) (yb c λb=>zg P za a 0 b λc d=>d=b/\zf P ze c b λc d=>d=b/\zq P .eql ze true c (.int .i64 25) b λc d=>d=b/\vif c (zf P za a b λc d=>d=b/\vcall P Z9 #[] b λd e=>(zf P za a e λa f=>a=c/\f=e)/\vcall P xx #[c,d] e λa c=>vif a (R (.tuple #[(.int .i64 0),(.bool true)]) c) (R (.tuple #[(.int .i64 0),(.bool false)]) c)) (R (.tuple #[(.int .i64 0),(.bool false)]) b)))))):vcall P Zc #[v0] w R:=zl {ord:=[oz 7 (oR 9) [(4,[5])]],cuts:=[(16388,[8])]} Tryz.func212 rK rK h
theorem jp0 (h:y3 P za w λa b=>zq P .gtr ze true v0 (.int .i64 0) b λb c=>vif b (zD P za [(0,(.int .i64 20)),(1,v0),(2,v1)] c λb d=>zm P za a b d λ_ b=>vlv P za a b λb d=>R b d) (zq P .eql ze true v1 (.int .i64 1) c λb c=>vif b (zD P za [(0,(.int .i64 24))] c λb d=>zm P za a b d λ_ b=>vlv P za a b λb d=>R b d) (vcall P Z9 #[] c λb c=>zm P za a b c λ_ b=>vlv P za a b λa b=>R a b))):vcall P xY #[v0,v1] w R:=cQ {} Tryz.func213 h
theorem zU0 (h:yX P zF v0 w λa b=>yX P za v1 b λb c=>zg P zF a 1 c λc d=>zf P zw c d λc d=>zg P zF a 0 d λa d=>zf P zi a d λa d=>zf P za b d λb d=>vcall P kH #[c,a,b] d λa b=>R a b):vcall P j3 #[v0,v1] w R:=cQ {} Tryz.func214 h
theorem Kx0 (h:yX P za v0 w λa b=>zf P za a b λa b=>vcall P Zc #[a] b λa b=>zn P a 0 b λb c=>zn P a 1 c λa c=>vif a (zq P .eql ze false b v1 c λa b=>R a b) (R (.bool false) c)):vcall P j0 #[v0,v1] w R:=cQ {} Tryz.func215 h
theorem Ya0 (h:yX P za v1 w λa b=>y3 P za b λb c=>zf P za a c λa c=>zm P za b a c λ_ a=>vlv P za b a λa b=>R (.tuple #[a,v0]) b):vcall P xZ #[v0,v1] w R:=cQ {} Tryz.func216 h
theorem X50 (h:yX P za v0 w λa b=>zg P za a 0 b λa b=>zf P ze a b λa b=>vcall P kN #[v1,a] b λa b=>R a b):vcall P ko #[v0,v1] w R:=cQ {} Tryz.func217 h
theorem XE (h:zq P .eql ze true v1 (.int .i64 10) w λa b=>vif a (x7 (λa=>zq P .leq zk0 true (.int .i64 0) v0 b λc d=>vif c (zq P .lss zk0 true v0 (.int .i64 100) d λc e=>vif c (vcall P ZA #[v0] e λc f=>R c f) (a [] e)) (a [] d)) (λ_ _ a=>y3 P YG a λa c=>QZ P zk0 qd v0 c λc d=>x7 (λe=>zq P .lss zk0 true v0 (.int .i64 0) d λd f=>vif d (vun P .neg c f λd g=>e [d] g) (e [c] f)) (λc _ d=>vcall P XA #[(sl 0 c)] d λd e=>zq P .add ze true (.int .i64 1) d e λe f=>yY P YG a (some (.int .i64 1)) (some e) none f λe f=>vcall P Yn #[e,(sl 0 c)] f λ_ c=>zq P .lss zk0 true v0 (.int .i64 0) c λc e=>vif c (zj P YG a (.int .i64 0) e λc f=>zm P kC c (.int .u8 45) f λ_ c=>zq P .add ze true (.int .i64 1) d c λc f=>yY P YG a none (some c) none f λc f=>QZ P yi zS c f λc f=>R c f) (zq P .add ze true (.int .i64 1) d e λc d=>yY P YG a (some (.int .i64 1)) (some c) none d λa c=>QZ P yi zS a c λa c=>R a c)))) (QZ P zk0 qd v0 b λa b=>zq P .lss zk0 true v0 (.int .i64 0) b λb c=>vcall P YY #[(.slice none 0 0),a,v1,b,(.bool false)] c λa b=>zn P a 0 b λ_ b=>zn P a 1 b λa b=>R a b)):vcall P jP #[v0,v1] w R:=cQ {cuts:=[(12292,[]),(28680,[6])]} Tryz.func218 h
theorem jj0 (h:vcall P Jp #[v0,v1] w λa b=>zn P a 0 b λb c=>zn P a 1 c λa c=>R (.tuple #[b,a]) c):vcall P XO #[v0,v1] w R:=cQ {} Tryz.func221 h
def KE (P:Program) (v0 v1:Value) (w:World) (R:Value->World->Prop):Prop:=vun P .neg v0 w λa b=>R a b
theorem qe0 {v0 v1 w R} (h:KE P v0 v1 w R):vcall P Ky #[v0,v1] w R:=zl {} Tryz.func222 rK rK h
theorem kL (h:x7 (λa=>zq P .lss ze true v1 (.int .i64 0) w λb c=>vif b (Wv P zS (.string {data:= #[99,97,110,110,111,116,32,98,101,32,110,101,103,97,116,105,118,101]}) c λ_ _=>False) (a [] c)) (λ_ _ a=>vbi P .cap [zd] ze [v0] a λa b=>vbi P .len [zd] ze [v0] b λb c=>zq P .sub ze false a b c λa b=>zq P .sub ze false v1 a b λa b=>zq P .gtr ze true a (.int .i64 0) b λb c=>vif b (vbi P .cap [zd] ze [v0] c λb d=>yY P zd v0 none (some b) none d λb d=>vbi P .append [zd,ze] zd [b,a] d λa b=>vbi P .len [zd] ze [v0] b λb d=>yY P zd a none (some b) none d λa b=>R a b) (R v0 c))):vcall P xn #[v0,v1] w R:=cQ {cuts:=[(8195,[])]} Tryz.func223 h
theorem zd0 (h:zq P .eql zv true v1 (.int .i64 0) w λa b=>zf P yg (.pointer (some ⟨xz,0,none⟩)) b λb c=>vcall P yG #[v0,a,b] c λ_ a=>vnil P v0 a λa b=>zg P y8 a 1 b λa b=>zf P yg a b λa b=>zq P .neq yg true a .nilIface b λa b=>vif a (R (.int .i64 (-1)) b) (R v1 b)):vcall P jx #[v0,v1] w R:=cQ {} Tryz.func224 h
theorem zY0 (h:zq P .eql zv true v1 (.int .i64 (-1)) w λa b=>vif a (R (.int .i64 (-1)) b) (zq P .eql zv true v2 (.int .i64 (-1)) b λa b=>vif a (R (.int .i64 (-1)) b) (zq P .eql zv true v1 (.int .i64 1) b λa b=>vif a (R v2 b) (zq P .eql zv true v2 (.int .i64 1) b λa b=>vif a (R v1 b) (zq P .eql zv false v1 v2 b λa b=>vif a (R v1 b) (vun P .neg v2 b λa b=>zq P .eql zv false v1 a b λa b=>vif a (R (.int .i64 (-1)) b) (zD P zt [(1,v1),(2,v2)] b λa b=>vcall P jw #[v0,a] b λa b=>R a b))))))):vcall P ZR #[v0,v1,v2] w R:=cQ {} Tryz.func225 h
theorem zW0 (h:vcall P yE #[v1] w λa b=>zq P .eql ze true a (.int .i64 1) b λa b=>vif a (zq P .eql zv true v1 (.int .i64 1) b λa c=>vcall P qE #[v2,a] c λa c=>R a c) (vcall P yE #[v2] b λa b=>zq P .eql ze true a (.int .i64 1) b λa b=>vif a (zq P .eql zv true v2 (.int .i64 1) b λa c=>vcall P qE #[v1,a] c λa c=>R a c) (zq P .eql zv false v1 v2 b λa b=>vif a (R (.int .i64 (-1)) b) (vun P .neg v2 b λa b=>zq P .eql zv false v1 a b λa b=>vif a (R (.int .i64 1) b) (vcall P yE #[v1] b λa b=>vcall P yE #[v2] b λb c=>zD P zt [(0,(.bool true)),(1,a),(2,b)] c λa b=>vcall P jw #[v0,a] b λa b=>zq P .lss zv true v1 (.int .i64 0) b λb c=>zq P .lss zv true v2 (.int .i64 0) c λc d=>zq P .neq qI false b c d λb c=>vcall P qE #[a,b] c λa b=>R a b))))):vcall P ZP #[v0,v1,v2] w R:=cQ {} Tryz.func226 h
theorem zc0 (h:yX P y0 v0 w λa b=>yX P zd v1 b λb c=>yX P zd v2 c λc d=>kG0 P (.func j5) [] [c,b,a] d λa b=>R a b):vcall P XQ #[v0,v1,v2] w R:=cQ {} Tryz.func227 h
theorem jD0 (h:zq P .neq ze false v0 v0 w λa b=>R a b):vcall P ZY #[v0] w R:=cQ {} Tryz.func228 h
theorem qg0 (h:y3 P za w λa b=>zD P za [(0,(.int .i64 24))] b λb c=>vbuildS P zb 1 [(0,b)] c λb c=>zD P za [(0,(.int .i64 25)),(4,b)] c λb c=>zm P za a b c λ_ b=>vlv P za a b λa b=>R a b):vcall P Z9 #[] w R:=cQ {} Tryz.func231 h
theorem Qq (h:vcall P ZI #[v0,v1] w λa b=>zq P .geq ze true a (.int .i64 0) b λa b=>R a b):vcall P kN #[v0,v1] w R:=cQ {} Tryz.func232 h
theorem Jy (h:zq P .lss ze true v0 (.int .i64 10) w λa b=>vif a (zq P .add ze true v0 (.int .i64 1) b λa c=>yY P zS (.string {data:= #[48,49,50,51,52,53,54,55,56,57,97,98,99,100,101,102,103,104,105,106,107,108,109,110,111,112,113,114,115,116,117,118,119,120,121,122]}) (some v0) (some a) none c λa c=>R a c) (zq P .mul ze true v0 (.int .i64 2) b λa b=>zq P .mul ze true v0 (.int .i64 2) b λb c=>zq P .add ze true b (.int .i64 2) c λb c=>yY P zS (.string {data:= #[48,48,48,49,48,50,48,51,48,52,48,53,48,54,48,55,48,56,48,57,49,48,49,49,49,50,49,51,49,52,49,53,49,54,49,55,49,56,49,57,50,48,50,49,50,50,50,51,50,52,50,53,50,54,50,55,50,56,50,57,51,48,51,49,51,50,51,51,51,52,51,53,51,54,51,55,51,56,51,57,52,48,52,49,52,50,52,51,52,52,52,53,52,54,52,55,52,56,52,57,53,48,53,49,53,50,53,51,53,52,53,53,53,54,53,55,53,56,53,57,54,48,54,49,54,50,54,51,54,52,54,53,54,54,54,55,54,56,54,57,55,48,55,49,55,50,55,51,55,52,55,53,55,54,55,55,55,56,55,57,56,48,56,49,56,50,56,51,56,52,56,53,56,54,56,55,56,56,56,57,57,48,57,49,57,50,57,51,57,52,57,53,57,54,57,55,57,56,57,57]}) (some a) (some b) none c λa b=>R a b)):vcall P ZA #[v0] w R:=cQ {} Tryz.func233 h
theorem x80 (h:zq P .and qd true v0 (.int .u64 4294967295) w λa b=>zq P .shr qd true v0 (.int .u64 32) b λb c=>zq P .and qd true v1 (.int .u64 4294967295) c λc d=>zq P .shr qd true v1 (.int .u64 32) d λd e=>zq P .mul qd false a c e λe f=>zq P .mul qd false b c f λc f=>zq P .shr qd true e (.int .u64 32) f λe f=>zq P .add qd false c e f λc e=>zq P .and qd true c (.int .u64 4294967295) e λe f=>zq P .shr qd true c (.int .u64 32) f λc f=>zq P .mul qd false a d f λa f=>zq P .add qd false e a f λa e=>zq P .mul qd false b d e λb d=>zq P .add qd false b c d λb c=>zq P .shr qd true a (.int .u64 32) c λa c=>zq P .add qd false b a c λa b=>zq P .mul qd false v0 v1 b λb c=>R (.tuple #[a,b]) c):vcall P Jp #[v0,v1] w R:=cQ {} Tryz.func240 h
theorem z90 (h:yX P zt v1 w λa b=>x7 (λc=>yb b λb=>zg P zt a 1 b λd e=>e=b/\zf P ze d b λd e=>e=b/\zg P zt a 2 b λe f=>f=b/\zf P ze e b λf g=>g=b/\vcall P yE #[d] b λb d=>(zf P ze e d λg h=>g=f/\h=d)/\(zg P zt a 2 d λg h=>g=e/\h=d)/\vcall P yE #[f] d λd e=>zq P .gtr ze false b d e λb d=>d=e/\vif b (zg P zt a 2 e λb d=>zf P ze b d λb d=>zg P zt a 1 d λd f=>zf P ze d f λd f=>zg P zt a 1 f λf i=>zm P ze f b i λ_ b=>zg P zt a 2 b λb f=>zm P ze b d f λ_ b=>c [] b) (c [] e)) (λ_ _ b=>yb b λb=>vnil P v0 b λc d=>d=b/\zg P zT c 1 b λc d=>d=b/\zf P zK c b λc d=>d=b/\zf P zt a b λd e=>e=b/\Jg P zK c d true b λc d=>d=b/\zn P c 0 b λd e=>e=b/\zn P c 1 b λc e=>e=b/\vif c (R d b) (vnil P v0 b λb c=>zg P zT b 0 c λb c=>zg P zZ b 1 c λb c=>zf P zO b c λb c=>vbi P .len [zO] ze [b] c λb c=>zq P .eql ze true b (.int .i64 600) c λb c=>vif b (R (.int .i64 0) c) (yb c λb=>vnil P v0 b λc d=>d=b/\zg P zT c 0 b λd e=>e=b/\zg P zZ d 1 b λe f=>f=b/\zf P zO e b λf i=>i=b/\zf P zt a b λi j=>j=b/\vbuildS P zO 1 [(0,i)] b λb i=>(zf P zO e i λg h=>g=f/\h=i)/\(zg P zZ d 1 i λg h=>g=e/\h=i)/\(zg P zT c 0 i λg h=>g=d/\h=i)/\(vnil P v0 i λg h=>g=c/\h=i)/\vbi P .append [zO,zO] zO [f,b] i λb c=>vnil P v0 c λd e=>e=c/\zg P zT d 0 c λd e=>e=c/\zg P zZ d 1 c λd e=>e=c/\zm P zO d b c λ_ b=>yb b λb=>vnil P v0 b λc d=>d=b/\zg P zT c 1 b λd e=>e=b/\zf P zK d b λe f=>f=b/\zf P zt a b λf i=>i=b/\vnil P v0 b λi j=>j=b/\zg P zT i 0 b λi j=>j=b/\zf P zZ i b λi j=>j=b/\vnil P v0 b λj k=>k=b/\zg P zT j 0 b λj k=>k=b/\zg P zZ j 1 b λj k=>k=b/\zf P zO j b λj k=>k=b/\vbi P .len [zO] ze [j] b λj k=>k=b/\vcall P qf #[i,j] b λb i=>(zf P zt a i λg h=>g=f/\h=i)/\(zf P zK d i λg h=>g=e/\h=i)/\(zg P zT c 1 i λg h=>g=d/\h=i)/\(vnil P v0 i λg h=>g=c/\h=i)/\ZD P zK e f b i λ_ b=>yb b λb=>vnil P v0 b λc d=>d=b/\zg P zT c 1 b λc d=>d=b/\zf P zK c b λc d=>d=b/\zf P zt a b λa d=>d=b/\Jg P zK c a false b λa c=>c=b/\R a b)))):vcall P jw #[v0,v1] w R:=zl {ord:=[oz 1 [0,1,3,4,2,5,6] [(0,[3,4]),(1,[3,4]),(3,[2]),(4,[2])],oz 3 (oR 11) [(0,[4]),(1,[4]),(2,[4]),(3,[4]),(7,[8]),(8,[9])],oz 8 (oR 13) [(0,[1,2,3,4,5,6,7,8]),(1,[6,7]),(2,[6,7]),(3,[6,7]),(4,[6,7]),(5,[6,7])],oz 9 (oR 17) [(0,[4,5,6,7,8,9,10,11,12,13,14,15]),(1,[4,5,6,7,8,9,10,11,12,13,14,15]),(2,[4,5,6,7,8,9,10,11,12,13,14,15]),(3,[4,5,6,7,8,9,10,11,12,13,14,15]),(4,[5,6,7,8,9,10,11,12,13,14,15]),(5,[9,10,11,12,13,14]),(6,[9,10,11,12,13,14]),(7,[9,10,11,12,13,14]),(8,[9,10,11,12,13,14])],oz 10 (oR 7) [(0,[4]),(1,[4]),(2,[4]),(3,[4])]],cuts:=[(8195,[])]} Tryz.func241 rK rK h
theorem WT (h:vif v1 (vun P .neg v0 w λa b=>R a b) (R v0 w)):vcall P qE #[v0,v1] w R:=cQ {} Tryz.func242 h
theorem VF (h:zf P zd v1 w λa b=>vbi P .len [zd] ze [a] b λb c=>yQ [(.int .i64 0)] c λc d _ e=>zq P .lss ze false (sl 0 d) b e λb e=>vif b (zj P zd a (sl 0 d) e λa b=>zf P zv a b λa b=>vcall P kc #[(sl 0 d)] b λb f=>yQ [b,(sl 0 d)] f λb f _ g=>zf P zd v2 g λg h=>vbi P .len [zd] ze [g] h λg h=>zq P .lss ze false (sl 1 f) g h λg h=>vif g (yb h λg=>zf P y0 v3 g λi j=>j=g/\zf P zd v2 g λj k=>k=g/\zq P .sub ze false (sl 1 f) (sl 0 d) g λk l=>l=g/\zj P zd j k g λj k=>k=g/\zf P zv j g λj k=>k=g/\vcall P yP #[i,j,a] g λa g=>vbuildS P zd 1 [(0,a)] g λa g=>vbi P .append [zd,zd] zd [(sl 0 f),a] g λa g=>zq P .add ze true (sl 1 f) (.int .i64 1) g λg i=>b [a,g] i) (vcallv P v0 #[(sl 0 f)] h λa b=>vun P .not a b λa b=>vif a (R (.tuple #[]) b) (zq P .add ze true (sl 0 d) (.int .i64 1) b λa b=>c [a] b))) (R (.tuple #[]) e)):vcall P j5 #[v0,v1,v2,v3] w R:=zl {ord:=[oz 7 (oR 13) [(0,[1,2,3,4,5,6,7,8,9,10]),(1,[2,3,4,5,6,7,8]),(2,[3,4,5,8]),(3,[4,8]),(4,[8]),(5,[8]),(6,[8]),(7,[8])]],loops:=[(1,[11]),(5,[7,8])]} Tryz.func243 rK rK h
theorem Kr (h:vbi P .len [zr] ze [v0] w λa b=>yQ [(.int .i64 0)] b λb c _ d=>zq P .lss ze false (sl 0 c) a d λa d=>vif a (zj P zr v0 (sl 0 c) d λa e=>zf P ze a e λa e=>zq P .eql ze false v1 a e λa e=>vif a (R (sl 0 c) e) (zq P .add ze true (sl 0 c) (.int .i64 1) e λa c=>b [a] c)) (R (.int .i64 (-1)) d)):vcall P ZI #[v0,v1] w R:=cQ {loops:=[(2,[8])]} Tryz.func254 h
theorem js0 (h:yX P zc v0 w λa b=>zg P zc a 0 b λa b=>zf P ze a b λa b=>zq P .shl yy true (.int .u64 1) a b λa b=>zq P .sub yy true a (.int .u64 1) b λa b=>R a b):vcall P ZW #[v0] w R:=cQ {} Tryz.func283 h
theorem xg0 (h:yX P yx v0 w λa b=>zg P yx a 1 b λa b=>zf P ze a b λa b=>R a b):vcall P yV #[v0] w R:=cQ {} Tryz.func284 h
theorem xf0 (h:yX P yx v0 w λa b=>zg P yx a 0 b λa b=>zf P zS a b λa b=>R a b):vcall P xd #[v0] w R:=cQ {} Tryz.func285 h
theorem zM0 (h:yX P zX v0 w λ_ a=>yX P za v2 a λ_ a=>yb a λa=>zj P zr v3 (.int .i64 0) a λb c=>c=a/\zf P ze b a λb c=>c=a/\zq P .gtr ze true b (.int .i64 0) a λb c=>c=a/\zj P zr v3 (.int .i64 0) a λc d=>d=a/\zf P ze c a λc d=>d=a/\vcall P yB #[b,c] a λa b=>R a b):vcall P ZK #[v0,v1,v2,v3] w R:=zl {ord:=[oz 1 (oR 9) [(0,[4,5,6]),(1,[4,5,6]),(2,[4,5,6]),(3,[4,5,6])]]} Tryz.func286 rK rK h
theorem UV (h:yX P zX v0 w λ_ a=>yX P za v2 a λa b=>x7 (λc=>yb b λb=>zg P za a 0 b λd e=>e=b/\zf P ze d b λe f=>f=b/\zj P yh v3 (.int .i64 0) b λf g=>g=b/\zf P zc f b λg h=>h=b/\(vcall P Qu #[e,g] b λh i=>zn P h 0 i λj k=>k=i/\zn P h 1 i λk l=>l=i/\(y3 P zc i λi l=>(zn P h 1 l λm n=>m=k/\n=l)/\(zn P h 0 l λm n=>m=j/\n=l)/\(zm P zc i j l λ_ j=>(zn P h 1 j λm n=>m=k/\n=j)/\c [i] j)/\True)/\True)/\(y3 P zc b λb h=>(zf P zc f h λm n=>m=g/\n=h)/\(zj P yh v3 (.int .i64 0) h λm n=>m=f/\n=h)/\(zf P ze d h λm n=>m=e/\n=h)/\(zg P za a 0 h λm n=>m=d/\n=h)/\(vcall P Qu #[e,g] h λa d=>zn P a 0 d λe f=>f=d/\zn P a 1 d λf g=>g=d/\(zm P zc b e d λ_ d=>(zn P a 1 d λm n=>m=f/\n=d)/\c [b] d)/\True)/\True)/\True) (λa _ b=>zg P zc (sl 0 a) 1 b λa b=>zf P ze a b λa b=>R a b)):vcall P Zf #[v0,v1,v2,v3] w R:=zl {cuts:=[(8194,[9])],trees:=[(1,(.st 0 (.st 1 (.st 2 (.st 3 (.st 4 (.alt 5 (.st 6 (.st 7 (.st 8 (.alt 9 (.alt 10 (.st 11 .nil) .no) .no)))) (.alt 9 (.alt 5 (.st 6 (.st 7 (.st 8 (.alt 10 (.st 11 .nil) .no)))) .no) .no))))))),[(0,[1,5,6,7,8,10,11]),(1,[5,6,7,8,10,11]),(2,[3,4,5,6,7,8,10,11]),(3,[4,5,6,7,8,10,11]),(4,[5,6,7,8,10,11]),(5,[6,7,8,10,11]),(6,[7,8,10,11]),(7,[10,11]),(8,[11]),(9,[10,11]),(10,[11])])]} Tryz.func287 rK rK h
theorem Y50 (h:vif v0 (R v1 w) (R (.int .i64 (-1)) w)):vcall P yB #[v0,v1] w R:=cQ {} Tryz.func288 h
theorem X60 (h:yX P zc v1 w λa b=>y3 P zc b λb c=>zf P zc a c λc d=>vcall P xR #[c] d λc d=>vun P .not c d λc d=>vif c (zD P zc [] d λc e=>zm P zc b c e λ_ c=>vlv P zc b c λc e=>R (.tuple #[c,(.bool false)]) e) (zq P .eql ze true v0 (.int .i64 1) d λc d=>vif c (yb d λc=>zf P zc a c λe f=>f=c/\zf P zc a c λf g=>g=c/\vcall P zP #[f] c λc f=>(zf P zc a f λg h=>g=e/\h=f)/\vun P .xor c f λc i=>i=f/\vcall P Z4 #[e,c] f λc e=>zm P zc b c e λ_ c=>vlv P zc b c λc e=>R (.tuple #[c,(.bool true)]) e) (zq P .eql ze true v0 (.int .i64 2) d λc d=>vif c (yb d λc=>zf P zc a c λe f=>f=c/\zf P zc a c λf i=>i=c/\vcall P zP #[f] c λc f=>(zf P zc a f λg h=>g=e/\h=f)/\vun P .neg c f λa c=>c=f/\vcall P Z4 #[e,a] f λa c=>zm P zc b a c λ_ a=>vlv P zc b a λa c=>R (.tuple #[a,(.bool true)]) c) (zD P zc [] d λa c=>zm P zc b a c λ_ a=>vlv P zc b a λa b=>R (.tuple #[a,(.bool false)]) b)))):vcall P Qu #[v0,v1] w R:=zl {ord:=[oz 4 (oR 7) [(0,[1,2,3])],oz 6 (oR 7) [(0,[1,2,3])]]} Tryz.func289 rK rK h
theorem kr0 (h:yX P zc v0 w λa b=>y3 P zc b λb c=>yb c λc=>zg P zc a 0 c λd e=>e=c/\zf P ze d c λe f=>f=c/\zg P zc a 0 c λf g=>g=c/\zf P ze f c λf g=>g=c/\vcall P Yz #[v1,f] c λc f=>(zf P ze d f λg h=>g=e/\h=f)/\(zg P zc a 0 f λg h=>g=d/\h=f)/\QZ P yy ze c f λa c=>c=f/\zD P zc [(0,e),(1,a)] f λa c=>c=f/\zm P zc b a f λ_ a=>vlv P zc b a λa b=>R a b):vcall P Z4 #[v0,v1] w R:=zl {ord:=[oz 1 (oR 9) [(0,[2,3,4,5,6]),(1,[2,3,4,5,6]),(2,[3,4])]]} Tryz.func290 rK rK h
theorem kj0 (h:zq P .shl yy true (.int .u64 1) v1 w λa b=>zq P .sub yy true a (.int .u64 1) b λa b=>zq P .and yy false v0 a b λa b=>R a b):vcall P Yz #[v0,v1] w R:=cQ {} Tryz.func291 h
theorem za0 (h:yX P y6 v0 w λ_ a=>yX P za v2 a λ_ a=>yb a λa=>zj P zr v3 (.int .i64 0) a λb c=>c=a/\zf P ze b a λb c=>c=a/\zq P .gtr ze true b (.int .i64 0) a λb c=>c=a/\vif b (zj P zr v3 (.int .i64 1) a λb c=>c=a/\zf P ze b a λb c=>c=a/\zq P .gtr ze true b (.int .i64 0) a λb c=>c=a/\vif b (zj P zr v3 (.int .i64 0) a λb c=>c=a/\zf P ze b a λb c=>c=a/\zj P zr v3 (.int .i64 1) a λc d=>d=a/\zf P ze c a λc d=>d=a/\zq P .add ze false b c a λb c=>c=a/\zq P .leq ze true b (.int .i64 4) a λb c=>c=a/\zj P zr v3 (.int .i64 0) a λc d=>d=a/\zf P ze c a λc d=>d=a/\zj P zr v3 (.int .i64 1) a λd e=>e=a/\zf P ze d a λd e=>e=a/\zq P .add ze false c d a λc d=>d=a/\vcall P yB #[b,c] a λb c=>R b c) (zj P zr v3 (.int .i64 0) a λb c=>c=a/\zf P ze b a λb c=>c=a/\zj P zr v3 (.int .i64 1) a λc d=>d=a/\zf P ze c a λc d=>d=a/\zq P .add ze false b c a λb c=>c=a/\vcall P yB #[(.bool false),b] a λb c=>R b c)) (zj P zr v3 (.int .i64 0) a λb c=>c=a/\zf P ze b a λb c=>c=a/\zj P zr v3 (.int .i64 1) a λc d=>d=a/\zf P ze c a λc d=>d=a/\zq P .add ze false b c a λb c=>c=a/\vcall P yB #[(.bool false),b] a λa b=>R a b)):vcall P Zo #[v0,v1,v2,v3] w R:=zl {ord:=[oz 1 (oR 29) [(0,[20,21,22,23,24,25,26]),(1,[20,21,22,23,24,25,26]),(2,[20,21,22,23,24,25,26]),(3,[20,21,22,23,24,25,26]),(4,[20,21,22,23,24,25,26]),(5,[20,21,22,23,24,25,26]),(6,[20,21,22,23,24,25,26]),(7,[20,21,22,23,24,25,26]),(8,[20,21,22,23,24,25,26]),(9,[20,21,22,23,24,25,26]),(10,[20,21,22,23,24,25,26]),(11,[14,15,16,20,21,22,23,24,25,26]),(12,[14,15,16,20,21,22,23,24,25,26]),(13,[14,15,16,20,21,22,23,24,25,26]),(14,[20,21,22,23,24,25,26]),(15,[20,21,22,23,24,25,26]),(16,[20,21,22,23,24,25,26]),(17,[20,21,22,23,24,25,26]),(18,[20,21,22,23,24,25,26]),(19,[20,21,22,23,24,25,26]),(20,[23,24,25]),(21,[23,24,25]),(22,[23,24,25])]]} Tryz.func292 rK rK h
end
section
variable {v0 v1 v2 v3:Value} {w:World} {R:Value->World->Prop}
theorem U3 (h:yX P y6 v0 w λ_ a=>yX P za v2 a λa b=>x7 (λc=>yb b λb=>zg P za a 0 b λd e=>e=b/\zf P ze d b λe f=>f=b/\zj P yh v3 (.int .i64 0) b λf g=>g=b/\zf P zc f b λg h=>h=b/\zj P yh v3 (.int .i64 1) b λh i=>i=b/\zf P zc h b λi j=>j=b/\(vcall P kI #[e,g,i] b λj k=>zn P j 0 k λl m=>m=k/\zn P j 1 k λm n=>n=k/\(y3 P zc k λk n=>(zn P j 1 n λo p=>o=m/\p=n)/\(zn P j 0 n λo p=>o=l/\p=n)/\(zm P zc k l n λ_ l=>(zn P j 1 l λo p=>o=m/\p=l)/\c [k] l)/\True)/\True)/\(y3 P zc b λb j=>(zf P zc h j λo p=>o=i/\p=j)/\(zj P yh v3 (.int .i64 1) j λo p=>o=h/\p=j)/\(zf P zc f j λo p=>o=g/\p=j)/\(zj P yh v3 (.int .i64 0) j λo p=>o=f/\p=j)/\(zf P ze d j λo p=>o=e/\p=j)/\(zg P za a 0 j λo p=>o=d/\p=j)/\(vcall P kI #[e,g,i] j λa d=>zn P a 0 d λe f=>f=d/\zn P a 1 d λf g=>g=d/\(zm P zc b e d λ_ d=>(zn P a 1 d λo p=>o=f/\p=d)/\c [b] d)/\True)/\True)/\True) (λa _ b=>zg P zc (sl 0 a) 1 b λa b=>zf P ze a b λa b=>R a b)):vcall P kX #[v0,v1,v2,v3] w R:=zl {cuts:=[(8194,[9])],trees:=[(1,(.st 0 (.st 1 (.st 2 (.st 3 (.st 4 (.st 5 (.st 6 (.st 7 (.alt 8 (.st 9 (.st 10 (.st 11 (.alt 12 (.alt 13 (.st 14 .nil) .no) .no)))) (.alt 12 (.alt 8 (.st 9 (.st 10 (.st 11 (.alt 13 (.st 14 .nil) .no)))) .no) .no)))))))))),[(0,[1,8,9,10,11,13,14]),(1,[8,9,10,11,13,14]),(2,[3,4,8,9,10,11,13,14]),(3,[4,8,9,10,11,13,14]),(4,[8,9,10,11,13,14]),(5,[6,7,8,9,10,11,13,14]),(6,[7,8,9,10,11,13,14]),(7,[8,9,10,11,13,14]),(8,[9,10,11,13,14]),(9,[10,11,13,14]),(10,[13,14]),(11,[14]),(12,[13,14]),(13,[14])])]} Tryz.func293 rK rK h
theorem Ye0 (h:yX P zc v1 w λa b=>yX P zc v2 b λb c=>y3 P zc c λc d=>x7 (λe=>zf P zc a d λd f=>vcall P xR #[d] f λd f=>vun P .not d f λd f=>vif d (zD P zc [] f λd g=>zm P zc c d g λ_ d=>vlv P zc c d λd g=>R (.tuple #[d,(.bool false)]) g) (zf P zc b f λd f=>vcall P xR #[d] f λd f=>vun P .not d f λd f=>vif d (zD P zc [] f λd g=>zm P zc c d g λ_ d=>vlv P zc c d λd g=>R (.tuple #[d,(.bool false)]) g) (e [] f))) (λ_ _ d=>zq P .eql ze true v0 (.int .i64 14) d λd e=>vif d (yb e λd=>zg P zc a 0 d λf g=>g=d/\zf P ze f d λg h=>h=d/\zg P zc b 0 d λh i=>i=d/\zf P ze h d λi j=>j=d/\zq P .add ze false g i d λj k=>k=d/\zg P zc a 1 d λk l=>l=d/\zf P ze k d λl m=>m=d/\zg P zc b 0 d λm n=>n=d/\zf P ze m d λn o=>o=d/\zq P .shl ze false l n d λo p=>p=d/\zg P zc b 1 d λp q=>q=d/\zf P ze p d λq r=>r=d/\zq P .or ze false o q d λr s=>s=d/\zD P zc [(0,j),(1,r)] d λs t=>t=d/\y3 P zc d λd t=>(zD P zc [(0,j),(1,r)] t λu v=>u=s/\v=t)/\(zq P .or ze false o q t λu v=>u=r/\v=t)/\(zf P ze p t λu v=>u=q/\v=t)/\(zg P zc b 1 t λu v=>u=p/\v=t)/\(zq P .shl ze false l n t λu v=>u=o/\v=t)/\(zf P ze m t λu v=>u=n/\v=t)/\(zg P zc b 0 t λu v=>u=m/\v=t)/\(zf P ze k t λu v=>u=l/\v=t)/\(zg P zc a 1 t λu v=>u=k/\v=t)/\(zq P .add ze false g i t λu v=>u=j/\v=t)/\(zf P ze h t λu v=>u=i/\v=t)/\(zg P zc b 0 t λu v=>u=h/\v=t)/\(zf P ze f t λu v=>u=g/\v=t)/\(zg P zc a 0 t λu v=>u=f/\v=t)/\zm P zc d s t λ_ f=>zg P zc d 0 f λf g=>zf P ze f g λf g=>zq P .gtr ze true f (.int .i64 4) g λf g=>vif f (zD P zc [] g λf h=>zm P zc c f h λ_ f=>vlv P zc c f λf h=>R (.tuple #[f,(.bool false)]) h) (zf P zc d g λd f=>zm P zc c d f λ_ d=>vlv P zc c d λd f=>R (.tuple #[d,(.bool true)]) f)) (x7 (λd=>zq P .lss ze true v0 (.int .i64 3) e λe f=>vif e (zD P zc [] f λe g=>zm P zc c e g λ_ e=>vlv P zc c e λe g=>R (.tuple #[e,(.bool false)]) g) (zq P .gtr ze true v0 (.int .i64 13) f λe f=>vif e (zD P zc [] f λe g=>zm P zc c e g λ_ e=>vlv P zc c e λe g=>R (.tuple #[e,(.bool false)]) g) (zg P zc a 0 f λe f=>zf P ze e f λe f=>zg P zc b 0 f λf g=>zf P ze f g λf g=>zq P .neq ze false e f g λe f=>vif e (zD P zc [] f λe g=>zm P zc c e g λ_ e=>vlv P zc c e λe g=>R (.tuple #[e,(.bool false)]) g) (d [] f)))) (λ_ _ d=>yb d λd=>zf P zc a d λe f=>f=d/\zf P zc a d λf g=>g=d/\zf P zc b d λg h=>h=d/\vcall P XR #[] d λd h=>(zf P zc b h λu v=>u=g/\v=h)/\(zf P zc a h λu v=>u=f/\v=h)/\(zf P zc a h λu v=>u=e/\v=h)/\kH0 P ye d v0 h λb d=>d=h/\vcallv P b #[f,g] h λb d=>(zf P zc a d λu v=>u=e/\v=d)/\vcall P Z4 #[e,b] d λa b=>zm P zc c a b λ_ a=>vlv P zc c a λa b=>R (.tuple #[a,(.bool true)]) b)))):vcall P kI #[v0,v1,v2] w R:=zl {ord:=[(4,[0,1,2,3,4,5,6,7,8,9,10,11,12,13,14,15],[(0,[1,4,13,15]),(1,[4,13,15]),(2,[3,4,13,15]),(3,[4,13,15]),(4,[13,15]),(5,[6,9,12,13,15]),(6,[9,12,13,15]),(7,[8,9,12,13,15]),(8,[9,12,13,15]),(9,[12,13,15]),(10,[11,12,13,15]),(11,[12,13,15]),(12,[13,15]),(13,[15]),(14,[15])]),oz 10 [0,2,4,5,1,3,6,7,8,9] [(0,[2,4,5,1,3,6]),(2,[4,5,1]),(4,[5,1,3]),(5,[1,3])]],cuts:=[(8195,[]),(36874,[])]} Tryz.func294 rK rK h
theorem jr0 (h:y3 P ye w λa b=>zD P ye [(3,(.func (.func xQ) #[] #[])),(4,(.func (.func xP) #[] #[])),(5,(.func (.func xO) #[] #[])),(6,(.func (.func xN) #[] #[])),(7,(.func (.func xM) #[] #[])),(8,(.func (.func xL) #[] #[])),(9,(.func (.func xK) #[] #[])),(10,(.func (.func xJ) #[] #[])),(11,(.func (.func xI) #[] #[])),(12,(.func (.func xr) #[] #[])),(13,(.func (.func xq) #[] #[]))] b λb c=>zm P ye a b c λ_ b=>vlv P ye a b λa b=>R a b):vcall P XR #[] w R:=cQ {} Tryz.func295 h
theorem xu0 (h:yX P zc v0 w λa b=>yX P zc v1 b λb c=>yb c λc=>zf P zc a c λa d=>d=c/\zf P zc b c λd e=>e=c/\vcall P zP #[a] c λa c=>(zf P zc b c λb e=>b=d/\e=c)/\vcall P zP #[d] c λb c=>zq P .and yy false a b c λa b=>b=c/\R a c):vcall P xQ #[v0,v1] w R:=zl {ord:=[oz 1 [0,2,1,3,4,5] [(0,[2]),(2,[1])]]} Tryz.func296 rK rK h
theorem xt0 (h:yX P zc v0 w λa b=>yX P zc v1 b λb c=>yb c λc=>zf P zc a c λa d=>d=c/\zf P zc b c λd e=>e=c/\vcall P zP #[a] c λa c=>(zf P zc b c λb e=>b=d/\e=c)/\vcall P zP #[d] c λb c=>zq P .or yy false a b c λa b=>b=c/\R a c):vcall P xP #[v0,v1] w R:=zl {ord:=[oz 1 [0,2,1,3,4,5] [(0,[2]),(2,[1])]]} Tryz.func297 rK rK h
theorem xs0 (h:yX P zc v0 w λa b=>yX P zc v1 b λb c=>yb c λc=>zf P zc a c λa d=>d=c/\zf P zc b c λd e=>e=c/\vcall P zP #[a] c λa c=>(zf P zc b c λb e=>b=d/\e=c)/\vcall P zP #[d] c λb c=>zq P .xor yy false a b c λa b=>b=c/\R a c):vcall P xO #[v0,v1] w R:=zl {ord:=[oz 1 [0,2,1,3,4,5] [(0,[2]),(2,[1])]]} Tryz.func298 rK rK h
theorem xr0 (h:yX P zc v0 w λa b=>yX P zc v1 b λb c=>yb c λc=>zf P zc a c λa d=>d=c/\zf P zc b c λd e=>e=c/\vcall P zP #[a] c λa c=>(zf P zc b c λb e=>b=d/\e=c)/\vcall P zP #[d] c λb c=>zq P .add yy false a b c λa b=>b=c/\R a c):vcall P xN #[v0,v1] w R:=zl {ord:=[oz 1 [0,2,1,3,4,5] [(0,[2]),(2,[1])]]} Tryz.func299 rK rK h
theorem xq0 (h:yX P zc v0 w λa b=>yX P zc v1 b λb c=>yb c λc=>zf P zc a c λa d=>d=c/\zf P zc b c λd e=>e=c/\vcall P zP #[a] c λa c=>(zf P zc b c λb e=>b=d/\e=c)/\vcall P zP #[d] c λb c=>zq P .sub yy false a b c λa b=>b=c/\R a c):vcall P xM #[v0,v1] w R:=zl {ord:=[oz 1 [0,2,1,3,4,5] [(0,[2]),(2,[1])]]} Tryz.func300 rK rK h
theorem xp0 (h:yX P zc v0 w λa b=>yX P zc v1 b λb c=>yb c λc=>zf P zc a c λa d=>d=c/\zf P zc b c λd e=>e=c/\vcall P zP #[a] c λa c=>(zf P zc b c λb e=>b=d/\e=c)/\vcall P zP #[d] c λb c=>zq P .mul yy false a b c λa b=>b=c/\R a c):vcall P xL #[v0,v1] w R:=zl {ord:=[oz 1 [0,2,1,3,4,5] [(0,[2]),(2,[1])]]} Tryz.func301 rK rK h
theorem xo0 (h:yX P zc v0 w λa b=>yX P zc v1 b λb c=>zg P zc b 1 c λc d=>zf P ze c d λc d=>zq P .eql ze true c (.int .i64 0) d λc d=>vif c (zf P zc a d λc e=>vcall P ZW #[c] e λc e=>R c e) (yb d λc=>zf P zc a c λa d=>d=c/\zf P zc b c λd e=>e=c/\vcall P zP #[a] c λa c=>(zf P zc b c λb e=>b=d/\e=c)/\vcall P zP #[d] c λb c=>zq P .quo yy false a b c λa b=>b=c/\R a c)):vcall P xK #[v0,v1] w R:=zl {ord:=[oz 3 [0,2,1,3,4,5] [(0,[2]),(2,[1])]]} Tryz.func302 rK rK h
theorem xn0 (h:yX P zc v0 w λa b=>yX P zc v1 b λb c=>zg P zc b 1 c λc d=>zf P ze c d λc d=>zq P .eql ze true c (.int .i64 0) d λc d=>vif c (zf P zc a d λc e=>vcall P zP #[c] e λc e=>R c e) (yb d λc=>zf P zc a c λa d=>d=c/\zf P zc b c λd e=>e=c/\vcall P zP #[a] c λa c=>(zf P zc b c λb e=>b=d/\e=c)/\vcall P zP #[d] c λb c=>zq P .rem yy false a b c λa b=>b=c/\R a c)):vcall P xJ #[v0,v1] w R:=zl {ord:=[oz 3 [0,2,1,3,4,5] [(0,[2]),(2,[1])]]} Tryz.func303 rK rK h
theorem xm0 (h:yX P zc v0 w λa b=>yX P zc v1 b λb c=>yb c λc=>zf P zc a c λa d=>d=c/\zf P zc b c λd e=>e=c/\vcall P zP #[a] c λa c=>(zf P zc b c λb e=>b=d/\e=c)/\vcall P zP #[d] c λb c=>zq P .shl yy false a b c λa b=>b=c/\R a c):vcall P xI #[v0,v1] w R:=zl {ord:=[oz 1 [0,2,1,3,4,5] [(0,[2]),(2,[1])]]} Tryz.func304 rK rK h
theorem y60 (h:yX P zc v0 w λa b=>yX P zc v1 b λb c=>yb c λc=>zf P zc a c λa d=>d=c/\zf P zc b c λd e=>e=c/\vcall P zP #[a] c λa c=>(zf P zc b c λb e=>b=d/\e=c)/\vcall P zP #[d] c λb c=>zq P .shr yy false a b c λa b=>b=c/\R a c):vcall P xr #[v0,v1] w R:=zl {ord:=[oz 1 [0,2,1,3,4,5] [(0,[2]),(2,[1])]]} Tryz.func305 rK rK h
theorem y50 (h:yX P zc v0 w λa b=>yX P zc v1 b λb c=>yb c λc=>zf P zc a c λa d=>d=c/\zf P zc b c λd e=>e=c/\vcall P Z1 #[a] c λa c=>(zf P zc b c λb e=>b=d/\e=c)/\vcall P zP #[d] c λb c=>zq P .shr yy false a b c λa b=>b=c/\R a c):vcall P xq #[v0,v1] w R:=zl {ord:=[oz 1 [0,2,1,3,4,5] [(0,[2]),(2,[1])]]} Tryz.func306 rK rK h
theorem U9 (h:yX P zc v0 w λa b=>yb b λb=>zf P zc a b λc d=>d=b/\zg P zc a 0 b λd e=>e=b/\zf P ze d b λe f=>f=b/\zq P .sub ze true e (.int .i64 1) b λf g=>g=b/\vcall P zP #[c] b λb c=>(zq P .sub ze true e (.int .i64 1) c λg h=>g=f/\h=c)/\(zf P ze d c λg h=>g=e/\h=c)/\(zg P zc a 0 c λg h=>g=d/\h=c)/\vcall P jI #[b,f] c λb c=>vif b (yb c λb=>zf P zc a b λd e=>e=b/\zf P zc a b λe f=>f=b/\vcall P zP #[d] b λb d=>(zf P zc a d λg h=>g=e/\h=d)/\vcall P ZW #[e] d λd e=>vun P .xor d e λd f=>f=e/\zq P .and yy true d (.int .u64 4294967295) e λd f=>f=e/\zq P .or yy false b d e λb d=>d=e/\R b e) (zf P zc a c λa b=>vcall P zP #[a] b λa b=>R a b)):vcall P Z1 #[v0] w R:=zl {ord:=[oz 1 [0,2,3,4,1,5] [(0,[2,3,4]),(2,[1]),(3,[1]),(4,[1])],oz 2 [0,2,1,3,4,5,6,7] [(0,[2]),(2,[1])]]} Tryz.func307 rK rK h
theorem z80 (h:yX P zQ v0 w λ_ a=>yX P za v2 a λ_ a=>yb a λa=>zj P zr v3 (.int .i64 0) a λb c=>c=a/\zf P ze b a λb c=>c=a/\zq P .gtr ze true b (.int .i64 0) a λb c=>c=a/\vif b (zj P zr v3 (.int .i64 0) a λb c=>c=a/\zf P ze b a λb c=>c=a/\zj P zr v3 (.int .i64 1) a λc d=>d=a/\zf P ze c a λc d=>d=a/\zq P .eql ze false b c a λb c=>c=a/\vcall P yB #[b,(.int .i64 0)] a λb c=>R b c) (vcall P yB #[(.bool false),(.int .i64 0)] a λa b=>R a b)):vcall P Zn #[v0,v1,v2,v3] w R:=zl {ord:=[oz 1 (oR 15) [(5,[8,9,10]),(6,[8,9,10]),(7,[8,9,10])]]} Tryz.func308 rK rK h
theorem U2 (h:yX P zQ v0 w λ_ a=>yX P za v2 a λa b=>yb b λb=>zg P za a 0 b λa c=>c=b/\zf P ze a b λa c=>c=b/\zj P yh v3 (.int .i64 0) b λc d=>d=b/\zf P zc c b λc d=>d=b/\zj P yh v3 (.int .i64 1) b λd e=>e=b/\zf P zc d b λd e=>e=b/\vcall P Kh #[a,c,d] b λa b=>zn P a 0 b λc d=>d=b/\zn P a 1 b λ_ a=>a=b/\vcall P ZN #[c] b λa b=>R a b):vcall P kW #[v0,v1,v2,v3] w R:=zl {ord:=[oz 1 (oR 14) [(0,[2,3,4,5,6,7]),(1,[2,3,4,5,6,7]),(2,[5,6,7]),(3,[5,6,7]),(4,[5,6,7]),(10,[11]),(11,[12])]]} Tryz.func309 rK rK h
theorem Yd0 (h:yX P zc v1 w λa b=>yX P zc v2 b λb c=>x7 (λd=>zf P zc a c λc e=>vcall P xR #[c] e λc e=>vun P .not c e λc e=>vif c (R (.tuple #[(.bool false),(.bool false)]) e) (zf P zc b e λc e=>vcall P xR #[c] e λc e=>vun P .not c e λc e=>vif c (R (.tuple #[(.bool false),(.bool false)]) e) (zg P zc a 0 e λc e=>zf P ze c e λc e=>zg P zc b 0 e λe f=>zf P ze e f λe f=>zq P .neq ze false c e f λc e=>vif c (R (.tuple #[(.bool false),(.bool false)]) e) (d [] e)))) (λ_ _ c=>zq P .eql ze true v0 (.int .i64 15) c λc d=>vif c (zf P zc a d λc e=>zf P zc b e λe f=>zq P .eql zc false c e f λc e=>R (.tuple #[c,(.bool true)]) e) (zq P .eql ze true v0 (.int .i64 16) d λc d=>vif c (zg P zc a 1 d λc e=>zf P ze c e λc e=>zg P zc b 1 e λe f=>zf P ze e f λe f=>zq P .lss ze false c e f λc e=>R (.tuple #[c,(.bool true)]) e) (zq P .eql ze true v0 (.int .i64 17) d λc d=>vif c (yb d λc=>zf P zc a c λa e=>e=c/\zf P zc b c λe f=>f=c/\vcall P Zb #[a] c λa c=>(zf P zc b c λb f=>b=e/\f=c)/\vcall P Zb #[e] c λb c=>zq P .lss ze false a b c λa b=>b=c/\R (.tuple #[a,(.bool true)]) c) (R (.tuple #[(.bool false),(.bool false)]) d))))):vcall P Kh #[v0,v1,v2] w R:=zl {ord:=[oz 9 [0,2,1,3,4,5,6] [(0,[2]),(2,[1])]],cuts:=[(8195,[])]} Tryz.func310 rK rK h
theorem qi0 (h:yX P zc v0 w λa b=>zf P zc a b λb c=>vcall P xR #[b] c λb c=>vun P .not b c λb c=>vif b (R (.int .i64 0) c) (yb c λb=>zf P zc a b λc d=>d=b/\zg P zc a 0 b λd e=>e=b/\zf P ze d b λe f=>f=b/\zq P .sub ze true e (.int .i64 1) b λf g=>g=b/\vcall P zP #[c] b λb c=>(zq P .sub ze true e (.int .i64 1) c λg h=>g=f/\h=c)/\(zf P ze d c λg h=>g=e/\h=c)/\(zg P zc a 0 c λg h=>g=d/\h=c)/\vcall P jI #[b,f] c λb c=>vif b (yb c λb=>zg P zc a 1 b λd e=>e=b/\zf P ze d b λd e=>e=b/\zg P zc a 0 b λe f=>f=b/\zf P ze e b λe f=>f=b/\zq P .shl ze true (.int .i64 1) e b λe f=>f=b/\zq P .sub ze false d e b λd e=>e=b/\R d b) (zg P zc a 1 c λa b=>zf P ze a b λa b=>R a b))):vcall P Zb #[v0] w R:=zl {ord:=[oz 3 [0,2,3,4,1,5] [(0,[2,3,4]),(2,[1]),(3,[1]),(4,[1])],oz 4 (oR 7) [(0,[2,3,4]),(1,[2,3,4])]]} Tryz.func311 rK rK h
theorem UU (h:yX P y1 v0 w λ_ a=>yX P za v2 a λa b=>yb b λb=>zg P za a 1 b λc d=>d=b/\zf P ze c b λc d=>d=b/\zg P za a 2 b λd e=>e=b/\zf P ze d b λd e=>e=b/\zD P zc [(0,c),(1,d)] b λc d=>d=b/\zg P za a 1 b λd e=>e=b/\zf P ze d b λe f=>f=b/\vcall P xR #[c] b λb c=>(zf P ze d c λf g=>f=e/\g=c)/\(zg P za a 1 c λf g=>f=d/\g=c)/\vcall P yB #[b,e] c λa b=>R a b):vcall P Ze #[v0,v1,v2,v3] w R:=zl {ord:=[oz 1 [0,1,2,3,4,6,7,5,8,9] [(0,[2,3,6,7]),(1,[2,3,6,7]),(2,[6,7]),(3,[6,7]),(4,[6,7]),(6,[5]),(7,[5])]]} Tryz.func312 rK rK h
theorem WS (h:yX P y1 v0 w λ_ a=>yX P za v2 a λa b=>zg P za a 2 b λa b=>zf P ze a b λa b=>R a b):vcall P kS #[v0,v1,v2,v3] w R:=cQ {} Tryz.func313 h
theorem WX (h:yX P zU v0 w λ_ a=>yX P za v2 a λa b=>kG0 P (.func Ye) [] [a] b λa b=>vcall P yO #[v1,a] b λa b=>zq P .lss ze true a (.int .i64 0) b λb c=>vif b (R (.int .i64 (-1)) c) (zj P zi v1 a c λa b=>zg P zy a 1 b λa b=>zf P ze a b λa b=>R a b)):vcall P kU #[v0,v1,v2,v3] w R:=cQ {} Tryz.func314 h
theorem VB (h:yX P zU v0 w λ_ a=>yX P za v2 a λa b=>zg P za a 3 b λa b=>zf P zS a b λa b=>Jg P j9 v1 a false b λa b=>R a b):vcall P ke #[v0,v1,v2,v3] w R:=cQ {} Tryz.func315 h
theorem KP (h:yX P zy v0 w λa b=>zg P zy a 0 b λa b=>zf P zS a b λa b=>zg P za v1 3 b λb c=>zf P zS b c λb c=>zq P .eql zS false a b c λa b=>R a b):vcall P Ye #[v0,v1] w R:=cQ {} Tryz.func316 h
theorem z60 (h:yX P zY v0 w λ_ a=>yX P za v2 a λa b=>yb b λb=>zg P za a 2 b λc d=>d=b/\zf P ze c b λc d=>d=b/\zq P .geq ze true c (.int .i64 0) b λc d=>d=b/\vif c (zg P za a 1 b λc d=>d=b/\zf P ze c b λc d=>d=b/\zg P za a 2 b λd e=>e=b/\zf P ze d b λd e=>e=b/\zq P .geq ze false c d b λc d=>d=b/\vif c (zg P za a 1 b λc d=>d=b/\zf P ze c b λc d=>d=b/\zj P zr v3 (.int .i64 0) b λd e=>e=b/\zf P ze d b λd e=>e=b/\zq P .lss ze false c d b λc d=>d=b/\zg P za a 1 b λd e=>e=b/\zf P ze d b λd e=>e=b/\zg P za a 2 b λe f=>f=b/\zf P ze e b λe f=>f=b/\zq P .sub ze false d e b λd e=>e=b/\zq P .add ze true d (.int .i64 1) b λd e=>e=b/\vcall P yB #[c,d] b λc d=>R c d) (zg P za a 1 b λc d=>d=b/\zf P ze c b λc d=>d=b/\zg P za a 2 b λd e=>e=b/\zf P ze d b λd e=>e=b/\zq P .sub ze false c d b λc d=>d=b/\zq P .add ze true c (.int .i64 1) b λc d=>d=b/\vcall P yB #[(.bool false),c] b λc d=>R c d)) (zg P za a 1 b λc d=>d=b/\zf P ze c b λc d=>d=b/\zg P za a 2 b λa d=>d=b/\zf P ze a b λa d=>d=b/\zq P .sub ze false c a b λa c=>c=b/\zq P .add ze true a (.int .i64 1) b λa c=>c=b/\vcall P yB #[(.bool false),a] b λa b=>R a b)):vcall P Zm #[v0,v1,v2,v3] w R:=zl {ord:=[oz 1 (oR 26) [(0,[18,19,20,21,22,23]),(1,[18,19,20,21,22,23]),(2,[18,19,20,21,22,23]),(3,[18,19,20,21,22,23]),(4,[6,7,18,19,20,21,22,23]),(5,[6,7,18,19,20,21,22,23]),(6,[18,19,20,21,22,23]),(7,[18,19,20,21,22,23]),(8,[18,19,20,21,22,23]),(9,[18,19,20,21,22,23]),(10,[18,19,20,21,22,23]),(11,[13,14,15,18,19,20,21,22,23]),(12,[13,14,15,18,19,20,21,22,23]),(13,[18,19,20,21,22,23]),(14,[18,19,20,21,22,23]),(15,[18,19,20,21,22,23]),(16,[18,19,20,21,22,23]),(17,[18,19,20,21,22,23]),(18,[20,21]),(19,[20,21])]]} Tryz.func317 rK rK h
theorem U1 (h:yX P zY v0 w λ_ a=>yX P za v2 a λa b=>x7 (λc=>yb b λb=>zj P yh v3 (.int .i64 0) b λd e=>e=b/\zf P zc d b λe f=>f=b/\zg P za a 1 b λf g=>g=b/\zf P ze f b λg h=>h=b/\zg P za a 2 b λh i=>i=b/\zf P ze h b λi j=>j=b/\(vcall P XC #[e,g,i] b λj k=>zn P j 0 k λl m=>m=k/\zn P j 1 k λm n=>n=k/\(y3 P zc k λk n=>(zn P j 1 n λo p=>o=m/\p=n)/\(zn P j 0 n λo p=>o=l/\p=n)/\(zm P zc k l n λ_ l=>(zn P j 1 l λo p=>o=m/\p=l)/\c [k] l)/\True)/\True)/\(y3 P zc b λb j=>(zf P ze h j λo p=>o=i/\p=j)/\(zg P za a 2 j λo p=>o=h/\p=j)/\(zf P ze f j λo p=>o=g/\p=j)/\(zg P za a 1 j λo p=>o=f/\p=j)/\(zf P zc d j λo p=>o=e/\p=j)/\(zj P yh v3 (.int .i64 0) j λo p=>o=d/\p=j)/\(vcall P XC #[e,g,i] j λa d=>zn P a 0 d λe f=>f=d/\zn P a 1 d λf g=>g=d/\(zm P zc b e d λ_ d=>(zn P a 1 d λo p=>o=f/\p=d)/\c [b] d)/\True)/\True)/\True) (λa _ b=>zg P zc (sl 0 a) 1 b λa b=>zf P ze a b λa b=>R a b)):vcall P kV #[v0,v1,v2,v3] w R:=zl {cuts:=[(8194,[9])],trees:=[(1,(.st 0 (.st 1 (.st 2 (.st 3 (.st 4 (.st 5 (.st 6 (.alt 7 (.st 8 (.st 9 (.st 10 (.alt 11 (.alt 12 (.st 13 .nil) .no) .no)))) (.alt 11 (.alt 7 (.st 8 (.st 9 (.st 10 (.alt 12 (.st 13 .nil) .no)))) .no) .no))))))))),[(0,[1,2,7,8,9,10,12,13]),(1,[2,7,8,9,10,12,13]),(2,[7,8,9,10,12,13]),(3,[4,7,8,9,10,12,13]),(4,[7,8,9,10,12,13]),(5,[6,7,8,9,10,12,13]),(6,[7,8,9,10,12,13]),(7,[8,9,10,12,13]),(8,[9,10,12,13]),(9,[12,13]),(10,[13]),(11,[12,13]),(12,[13])])]} Tryz.func318 rK rK h
theorem Yc0 (h:yX P zc v0 w λa b=>y3 P zc b λb c=>x7 (λd=>zf P zc a c λc e=>vcall P xR #[c] e λc e=>vun P .not c e λc e=>vif c (zD P zc [] e λc f=>zm P zc b c f λ_ c=>vlv P zc b c λc f=>R (.tuple #[c,(.bool false)]) f) (zq P .lss ze true v2 (.int .i64 0) e λc e=>vif c (zD P zc [] e λc f=>zm P zc b c f λ_ c=>vlv P zc b c λc f=>R (.tuple #[c,(.bool false)]) f) (zq P .lss ze false v1 v2 e λc e=>vif c (zD P zc [] e λc f=>zm P zc b c f λ_ c=>vlv P zc b c λc f=>R (.tuple #[c,(.bool false)]) f) (zg P zc a 0 e λc e=>zf P ze c e λc e=>zq P .geq ze false v1 c e λc e=>vif c (zD P zc [] e λc f=>zm P zc b c f λ_ c=>vlv P zc b c λc f=>R (.tuple #[c,(.bool false)]) f) (d [] e))))) (λ_ _ c=>zq P .sub ze false v1 v2 c λc d=>zq P .add ze true c (.int .i64 1) d λc d=>zf P zc a d λa d=>vcall P zP #[a] d λa d=>zq P .shr yy false a v2 d λa d=>vcall P Yz #[a,c] d λa d=>QZ P yy ze a d λa d=>zD P zc [(0,c),(1,a)] d λa c=>zm P zc b a c λ_ a=>vlv P zc b a λa b=>R (.tuple #[a,(.bool true)]) b)):vcall P XC #[v0,v1,v2] w R:=cQ {cuts:=[(8195,[])]} Tryz.func319 h
theorem zT0 (h:yX P y7 v0 w λ_ a=>yX P za v2 a λ_ a=>yb a λa=>zj P zr v3 (.int .i64 0) a λb c=>c=a/\zf P ze b a λb c=>c=a/\zq P .eql ze true b (.int .i64 0) a λb c=>c=a/\vif b (zj P zr v3 (.int .i64 1) a λb c=>c=a/\zf P ze b a λb c=>c=a/\zj P zr v3 (.int .i64 2) a λc d=>d=a/\zf P ze c a λc d=>d=a/\zq P .eql ze false b c a λb c=>c=a/\zj P zr v3 (.int .i64 1) a λc d=>d=a/\zf P ze c a λc d=>d=a/\vcall P yB #[b,c] a λb c=>R b c) (zj P zr v3 (.int .i64 1) a λb c=>c=a/\zf P ze b a λb c=>c=a/\vcall P yB #[(.bool false),b] a λa b=>R a b)):vcall P ZO #[v0,v1,v2,v3] w R:=zl {ord:=[oz 1 (oR 18) [(0,[13,14,15]),(1,[13,14,15]),(2,[13,14,15]),(3,[13,14,15]),(4,[13,14,15]),(5,[8,9,10,13,14,15]),(6,[8,9,10,13,14,15]),(7,[8,9,10,13,14,15]),(8,[13,14,15]),(9,[13,14,15]),(10,[13,14,15]),(11,[13,14,15]),(12,[13,14,15])]]} Tryz.func320 rK rK h
theorem UZ (h:yX P y7 v0 w λ_ a=>yX P za v2 a λ_ a=>zj P yh v3 (.int .i64 0) a λa b=>zg P zc a 1 b λa b=>zf P ze a b λa b=>zq P .eql ze true a (.int .i64 1) b λa b=>vif a (zj P yh v3 (.int .i64 1) b λa c=>zg P zc a 1 c λa c=>zf P ze a c λa c=>R a c) (zj P yh v3 (.int .i64 2) b λa b=>zg P zc a 1 b λa b=>zf P ze a b λa b=>R a b)):vcall P Zi #[v0,v1,v2,v3] w R:=cQ {} Tryz.func321 h
theorem U6 (h:yX P zE v0 w λ_ a=>yX P za v2 a λ_ a=>vcall P xp #[v3,(.func (.func Yf) #[] #[])] a λa b=>vun P .not a b λa b=>vcall P yB #[a,(.int .i64 0)] b λa b=>R a b):vcall P kZ #[v0,v1,v2,v3] w R:=cQ {} Tryz.func322 h
theorem VI (h:yX P zE v0 w λa b=>yX P za v2 b λ_ b=>zg P zE a 1 b λa b=>zf P Y5 a b λa b=>vcallv P a #[v3] b λa b=>vcall P ZN #[a] b λa b=>R a b):vcall P kk #[v0,v1,v2,v3] w R:=cQ {} Tryz.func323 h
theorem KT (h:zq P .neq ze true v0 (.int .i64 0) w λa b=>R a b):vcall P Yf #[v0] w R:=cQ {} Tryz.func324 h
theorem zh0 (h:yX P y2 v0 w λ_ a=>yX P za v2 a λ_ a=>yb a λa=>zj P zr v3 (.int .i64 0) a λb c=>c=a/\zf P ze b a λb c=>c=a/\zq P .gtr ze true b (.int .i64 0) a λb c=>c=a/\vif b (zj P zr v3 (.int .i64 0) a λb c=>c=a/\zf P ze b a λb c=>c=a/\zj P zr v3 (.int .i64 1) a λc d=>d=a/\zf P ze c a λc d=>d=a/\zq P .eql ze false b c a λb c=>c=a/\zj P zr v3 (.int .i64 0) a λc d=>d=a/\zf P ze c a λc d=>d=a/\vcall P yB #[b,c] a λb c=>R b c) (zj P zr v3 (.int .i64 0) a λb c=>c=a/\zf P ze b a λb c=>c=a/\vcall P yB #[(.bool false),b] a λa b=>R a b)):vcall P Zr #[v0,v1,v2,v3] w R:=zl {ord:=[oz 1 (oR 18) [(0,[13,14,15]),(1,[13,14,15]),(2,[13,14,15]),(3,[13,14,15]),(4,[13,14,15]),(5,[8,9,10,13,14,15]),(6,[8,9,10,13,14,15]),(7,[8,9,10,13,14,15]),(8,[13,14,15]),(9,[13,14,15]),(10,[13,14,15]),(11,[13,14,15]),(12,[13,14,15])]]} Tryz.func325 rK rK h
theorem U8 (h:yX P y2 v0 w λ_ a=>yX P za v2 a λa b=>x7 (λc=>yb b λb=>zg P za a 0 b λd e=>e=b/\zf P ze d b λe f=>f=b/\zj P yh v3 (.int .i64 0) b λf g=>g=b/\zf P zc f b λg h=>h=b/\zj P yh v3 (.int .i64 1) b λh i=>i=b/\zf P zc h b λi j=>j=b/\(vcall P kI #[e,g,i] b λj k=>zn P j 0 k λl m=>m=k/\zn P j 1 k λm n=>n=k/\(y3 P zc k λk n=>(zn P j 1 n λo p=>o=m/\p=n)/\(zn P j 0 n λo p=>o=l/\p=n)/\(zm P zc k l n λ_ l=>(zn P j 1 l λo p=>o=m/\p=l)/\c [k] l)/\True)/\True)/\(y3 P zc b λb j=>(zf P zc h j λo p=>o=i/\p=j)/\(zj P yh v3 (.int .i64 1) j λo p=>o=h/\p=j)/\(zf P zc f j λo p=>o=g/\p=j)/\(zj P yh v3 (.int .i64 0) j λo p=>o=f/\p=j)/\(zf P ze d j λo p=>o=e/\p=j)/\(zg P za a 0 j λo p=>o=d/\p=j)/\(vcall P kI #[e,g,i] j λa d=>zn P a 0 d λe f=>f=d/\zn P a 1 d λf g=>g=d/\(zm P zc b e d λ_ d=>(zn P a 1 d λo p=>o=f/\p=d)/\c [b] d)/\True)/\True)/\True) (λa _ b=>zg P zc (sl 0 a) 1 b λa b=>zf P ze a b λa b=>R a b)):vcall P Z0 #[v0,v1,v2,v3] w R:=zl {cuts:=[(8194,[9])],trees:=[(1,(.st 0 (.st 1 (.st 2 (.st 3 (.st 4 (.st 5 (.st 6 (.st 7 (.alt 8 (.st 9 (.st 10 (.st 11 (.alt 12 (.alt 13 (.st 14 .nil) .no) .no)))) (.alt 12 (.alt 8 (.st 9 (.st 10 (.st 11 (.alt 13 (.st 14 .nil) .no)))) .no) .no)))))))))),[(0,[1,8,9,10,11,13,14]),(1,[8,9,10,11,13,14]),(2,[3,4,8,9,10,11,13,14]),(3,[4,8,9,10,11,13,14]),(4,[8,9,10,11,13,14]),(5,[6,7,8,9,10,11,13,14]),(6,[7,8,9,10,11,13,14]),(7,[8,9,10,11,13,14]),(8,[9,10,11,13,14]),(9,[10,11,13,14]),(10,[13,14]),(11,[14]),(12,[13,14]),(13,[14])])]} Tryz.func326 rK rK h
end
section
variable {w:World} {K:Value->World->Prop} {F:Nat->Prop}
theorem JH0 (x y:Bool):(Op.equal qI (.bool x) (.bool y)).run P w= .ok (x==y) w:=by
 have hu:P.underlying qI=some .bool:=rK
 have:∀d,(Op.equalIn (d+1) qI (.bool x) (.bool y)).run P w= .ok (x==y) w:=λd=>by
  rw[Op.equalIn,Sem.run_bind,run_underlying hu];rfl
 exact this 9999
@[push_cast] theorem vbin_neb (b:Bool) (x y:Bool):zq P .neq qI b (.bool x) (.bool y) w K=K (.bool (x != y)) w:=
 xc rfl (by simp[binOp,JH0,Result.andThen,bne])
@[push_cast] theorem vbin_eqb (b:Bool) (x y:Bool):zq P .eql qI b (.bool x) (.bool y) w K=K (.bool (x==y)) w:=
 xc rfl (by simp[binOp,JH0,Result.andThen])
theorem IndexFunc_Lint_int {v f:Value} {vs:List Value} {p:Nat->Bool} (e:Vals F w v vs) (n:∀i,i<vs.length->FnB P w f #[vs.getD i undef] (p i))
  (k:∀w',Ext w w'->K (.int .i64 (idxI vs.length p)) w'):vcall P qN #[v,f] w K:=by
 apply Q0;simp(disch:=first|(simp only[push_cast])|omega) only[push_cast,e.len];have hlen:vs.length<=9223372036854775807:=by obtain⟨_,_,_,l,s,_⟩:=e.shape;simp at l;omega
 refine vloop_up vs.length (λi u w'=>u=[.int .i64 i]/\Ext w w'/\∀j,j<i->p j=false) ⟨rfl,Same.refl _ _,oM⟩ ?_;rintro i _ g w1 C t ⟨rfl,he,d⟩ m;simp only[push_cast];refine zh (λr=>?_) (λo=>?_)
 ·have b:=e.ext he;simp(disch:=first|(simp only[push_cast])|omega) only[push_cast,b.iaddr,b.load];refine n i oM w1 _ he λw2 a=>zI (λc=>?_) (λc=>?_)
  ·have:=k w2 (he.trans a);rwa[idxI_some oM c d] at this
  ·simp(disch:=omega) only[push_cast,zJ];exact m oM _ _ ⟨by simp,he.trans a,λj q=>by
    by_cases h:j=i
    ·subst h;exact c
    ·exact d j oM⟩
 ·have:=k w1 he;rwa[qP0 (λj q=>d j oM)] at this
theorem YU {v f:Value} {vs:List Value} {p:Nat->Bool} (c:Vals F w v vs) (b:∀i,i<vs.length->FnB P w f #[vs.getD i undef] (p i))
  (a:∀w',Ext w w'->K (.bool ((List.range vs.length).any p)) w'):vcall P xp #[v,f] w K:=by
 apply YF;refine IndexFunc_Lint_int c b λw' he=>?_;simp only[push_cast,UR];exact a w' he
end
end Go.Proofs.YtokflbdfnbppjaaGreatDoor
section
namespace Go.M
structure Gt where
 x:Bool
 a:Int
 b:Int
deriving DecidableEq
abbrev Gs:=List Gt
def absI (a:Int):Int:=if a<0 then-a else a
def turnI (c:Bool) (a:Int):Int:=if c then-a else a
def putG (n:Nat) (gs:Gs) (g:Gt):Gs×Int:=
 if g∈gs then(gs,2+n+gs.idxOf g) else if 600<=gs.length then(gs,0) else(gs++[g],2+n+gs.length)
def VM0 (a b:Int):Gt:=if absI b<absI a then⟨false,b,a⟩ else⟨false,a,b⟩
def gateX (a b:Int):Gt:=if absI b<absI a then⟨true,absI b,absI a⟩ else⟨true,absI a,absI b⟩
def andG (n:Nat) (gs:Gs) (a b:Int):Gs×Int:=
 if a= -1\/b= -1 then(gs,-1) else if a=1 then(gs,b) else if b=1 then(gs,a) else if a=b then(gs,a) else if a= -b then(gs,-1) else putG n gs (VM0 a b)
def xorG (n:Nat) (gs:Gs) (a b:Int):Gs×Int:=
 if absI a=1 then(gs,turnI (decide (a=1)) b) else if absI b=1 then(gs,turnI (decide (b=1)) a) else if a=b then(gs,-1) else if a= -b then(gs,1)
 else((putG n gs (gateX a b)).1,turnI (decide (a<0) != decide (b<0)) (putG n gs (gateX a b)).2)
inductive Bd (α:Type) where
 |ret (a:α)
 |and (x y:Int) (k:Int->Bd α)
 |xor (x y:Int) (k:Int->Bd α)
namespace Bd
def bind {α β:Type}:Bd α->(α->Bd β)->Bd β
 |ret a,f=>f a
 |and x y k,f=>and x y λv=>bind (k v) f
 |xor x y k,f=>xor x y λv=>bind (k v) f
def map {α β:Type} (f:α->β) (p:Bd α):Bd β:=p.bind λa=>ret (f a)
def Reach {α:Type}:Bd α->α->Prop
 |ret a,b=>b=a
 |and _ _ k,b=> ∃v,Reach (k v) b
 |xor _ _ k,b=> ∃v,Reach (k v) b
def run {α:Type} (n:Nat):Bd α->Gs->Option (Gs×α)
 |ret a,gs=>some (gs,a)
 |and x y k,gs=>if(andG n gs x y).2=0 then none else run n (k (andG n gs x y).2) (andG n gs x y).1
 |xor x y k,gs=>if(xorG n gs x y).2=0 then none else run n (k (xorG n gs x y).2) (xorG n gs x y).1
def Out {α:Type} (n:Nat) (p:Bd α) (st st':Option Gs) (a:α):Prop:=
 match st with
 |some gs=>(∃gs',p.run n gs=some (gs',a)/\st'=some gs')\/(p.run n gs=none/\st'=none/\p.Reach a)
 |none=>st'=none/\p.Reach a
theorem run_bind {α β:Type} {n:Nat} (p:Bd α) (f:α->Bd β) (gs:Gs):(p.bind f).run n gs=(p.run n gs).bind λr=>(f r.2).run n r.1:=by
 induction p generalizing gs with
 |ret a=>rfl
 |and x y k b=>
  simp only[bind,run];split
  ·rfl
  ·exact b _ _
 |xor x y k b=>
  simp only[bind,run];split
  ·rfl
  ·exact b _ _
theorem reach_bind {α β:Type} {p:Bd α} {f:α->Bd β} {a:α} {b:β} (h:p.Reach a) (g:(f a).Reach b):(p.bind f).Reach b:=by
 induction p with
 |ret c=>cases h;exact g
 |and x y k e=>obtain⟨v,d⟩:=h;exact⟨v,e v d⟩
 |xor x y k e=>obtain⟨v,d⟩:=h;exact⟨v,e v d⟩
theorem reach_of_run {α:Type} {n:Nat} {p:Bd α} {gs gs':Gs} {a:α} (h:p.run n gs=some (gs',a)):p.Reach a:=by
 induction p generalizing gs with
 |ret c=>simp only[run,gV,GF] at h;exact h.2.symm
 |and x y k b=>
  simp only[run] at h;split at h
  ·cases h
  ·exact⟨_,b _ h⟩
 |xor x y k b=>
  simp only[run] at h;split at h
  ·cases h
  ·exact⟨_,b _ h⟩
theorem Out.reach {α:Type} {n:Nat} {p:Bd α} {st st':Option Gs} {a:α} (h:Out n p st st' a):p.Reach a:=by
 cases st with
 |none=>exact h.2
 |some gs=>
  rcases h with⟨gs',h,_⟩|⟨_,_,h⟩
  ·exact reach_of_run h
  ·exact h
theorem Out.ret {α:Type} {n:Nat} (a:α) (st:Option Gs):Out n (.ret a) st st a:=by
 cases st with
 |none=>exact⟨rfl,rfl⟩
 |some gs=>exact .inl ⟨gs,rfl,rfl⟩
theorem Out.bind {α β:Type} {n:Nat} {p:Bd α} {f:α->Bd β} {st st' d:Option Gs} {a:α} {b:β} (h:Out n p st st' a) (c:Out n (f a) st' d b):Out n (p.bind f) st d b:=by
 cases st with
 |none=>
  obtain⟨rfl,e⟩:=h;exact⟨c.1,reach_bind e c.2⟩
 |some gs=>
  rcases h with⟨gs',e,rfl⟩|⟨e,rfl,i⟩
  ·rcases c with⟨g,c,rfl⟩|⟨c,rfl,i⟩
   ·exact .inl ⟨g,by rw[run_bind,e];exact c,rfl⟩
   ·exact .inr ⟨by rw[run_bind,e];exact c,rfl,reach_bind (reach_of_run e) i⟩
  ·exact .inr ⟨by rw[run_bind,e];rfl,c.1,reach_bind i c.2⟩
theorem Out.map {α β:Type} {n:Nat} {p:Bd α} (f:α->β) {st st':Option Gs} {a:α} (h:Out n p st st' a):Out n (p.map f) st st' (f a):=h.bind (Out.ret _ _)
end Bd
theorem YP0 {gs F:Gs} {g:Gt} (h:gs<+:F) (hm:g∈gs):F.idxOf g=gs.idxOf g:=by
 obtain⟨t,rfl⟩:=h;rw[pV,if_pos hm]
theorem JK0 {n:Nat} (gs:Gs) (g:Gt):gs<+:(putG n gs g).1:=by
 unfold putG;split
 ·exact GU _
 ·split
  ·exact GU _
  ·exact List.prefix_append _ _
theorem YB0 {n:Nat} {gs F:Gs} {g:Gt} (b:(putG n gs g).2≠0) (h:(putG n gs g).1<+:F):putG n F g=(F,(putG n gs g).2):=by
 unfold putG at b h⊢;by_cases hm:g∈gs
 ·rw[if_pos hm] at h⊢;rw[if_pos (h.subset hm),YP0 h hm]
 ·rw[if_neg hm] at b h⊢;by_cases c:600<=gs.length
  ·rw[if_pos c] at b;exact absurd rfl b
  ·rw[if_neg c] at h⊢;have a:g∈gs++[g]:=(by simp);rw[if_pos (h.subset a),YP0 h a,pV,if_neg hm];simp
theorem KJ0 {n:Nat} (gs:Gs) (a b:Int):gs<+:(andG n gs a b).1:=by
 unfold andG
 repeat' split
 all_goals first|exact GU _|exact JK0 _ _
theorem Jj0 {n:Nat} (gs:Gs) (a b:Int):gs<+:(xorG n gs a b).1:=by
 unfold xorG
 repeat' split
 all_goals first|exact GU _|exact JK0 _ _
theorem KK0 {n:Nat} {gs F:Gs} {a b:Int} (c:(andG n gs a b).2≠0) (h:(andG n gs a b).1<+:F):andG n F a b=(F,(andG n gs a b).2):=by
 unfold andG at c h⊢
 repeat' split at c
 all_goals simp_all
 exact YB0 c h
theorem UF0 {c:Bool} {m:Int}:turnI c m=0↔m=0:=by cases c<;>simp[turnI]
theorem Jk0 {n:Nat} {gs F:Gs} {a b:Int} (c:(xorG n gs a b).2≠0) (h:(xorG n gs a b).1<+:F):xorG n F a b=(F,(xorG n gs a b).2):=by
 unfold xorG at c h⊢
 repeat' split at c
 all_goals simp_all
 have:=YB0 (n:=n) (g:=gateX a b) (λe=>c (UF0.2 e)) h;rw[this];exact⟨rfl,rfl⟩
namespace Bd
theorem run_pre {α:Type} {n:Nat} {p:Bd α} {gs gs':Gs} {a:α} (h:p.run n gs=some (gs',a)):gs<+:gs':=by
 induction p generalizing gs with
 |ret c=>simp only[run,gV,GF] at h;rw[h.1];exact GU _
 |and x y k b=>
  simp only[run] at h;split at h
  ·cases h
  ·exact(KJ0 gs x y).trans (b _ h)
 |xor x y k b=>
  simp only[run] at h;split at h
  ·cases h
  ·exact(Jj0 gs x y).trans (b _ h)
theorem run_again {α:Type} {n:Nat} {p:Bd α} {gs gs' F:Gs} {a:α} (h:p.run n gs=some (gs',a)) (hF:gs'<+:F):p.run n F=some (F,a):=by
 induction p generalizing gs with
 |ret c=>simp only[run,gV,GF] at h⊢;exact⟨trivial,h.2⟩
 |and x y k e=>
  simp only[run] at h⊢;split at h
  ·cases h
  ·next b=>
   have d:=(run_pre h).trans hF;rw[KK0 b d];simp only;rw[if_neg b];exact e _ h
 |xor x y k e=>
  simp only[run] at h⊢;split at h
  ·cases h
  ·next b=>
   have d:=(run_pre h).trans hF;rw[Jk0 b d];simp only;rw[if_neg b];exact e _ h
end Bd
def litV (vals:List Bool) (m:Int):Bool:=if 0<m then vals.getD (m-1).toNat false else !vals.getD (-m-1).toNat false
def has (k:Nat) (m:Int):Prop:=m≠0/\ -(k:Int)<=m/\m<=k
def US (vals:List Bool) (g:Gt):Bool:=if g.x then litV vals g.a != litV vals g.b else litV vals g.a&&litV vals g.b
def valsG:List Bool->Gs->List Bool
 |vals,[]=>vals
 |vals,g::gs=>valsG (vals++[US vals g]) gs
def xH0 (n k:Nat) (g:Gt):Prop:=2<=absI g.a/\absI g.a<absI g.b/\absI g.b<=1+n+k/\(g.x=true->0<g.a/\0<g.b)
structure NetG (n:Nat) (gs:Gs):Prop where
 few:gs.length<=600
 gate:∀k,(h:k<gs.length)->xH0 n k gs[k]
 once:gs.Nodup
theorem lit_neg (vals:List Bool) {m:Int} (h:m≠0):litV vals (-m)= !litV vals m:=by
 unfold litV;by_cases a:0<m
 ·rw[if_neg oM,if_pos a,PA]
 ·rw[if_pos oM,if_neg a,Bool.not_not]
theorem lit_pre {vals more:List Bool} {m:Int} (h:has vals.length m):litV (vals++more) m=litV vals m:=by
 unfold litV;obtain⟨a,b,c⟩:=h;split
 ·rw[q0,gy oM,<-q0]
 ·rw[q0,gy oM,<-q0]
theorem valsG_len:∀(gs:Gs) (vals:List Bool),(valsG vals gs).length=vals.length+gs.length
 |[],vals=>rfl
 |g::gs,vals=>by simp only[valsG,valsG_len gs,k6,gw,pA];omega
theorem valsG_pre:∀(gs:Gs) (vals:List Bool),vals<+:valsG vals gs
 |[],vals=>GU _
 |g::gs,vals=>(List.prefix_append _ _).trans (valsG_pre gs _)
theorem valsG_app:∀(gs hs:Gs) (vals:List Bool),valsG vals (gs++hs)=valsG (valsG vals gs) hs
 |[],hs,vals=>rfl
 |g::gs,hs,vals=>valsG_app gs hs _
theorem abs_pos {a:Int} (h:a≠0):0<absI a:=by unfold absI;split<;>omega
theorem has_abs {k:Nat} {m:Int}:has k m↔1<=absI m/\absI m<=k:=by
 unfold has absI;split<;>omega
theorem has_neg {k:Nat} {m:Int} (h:has k m):has k (-m):=⟨by have:=h.1;omega,by have:=h.2.2;omega,by have:=h.2.1;omega⟩
theorem has_mono {k l:Nat} {m:Int} (h:has k m) (a:k<=l):has l m:=⟨h.1,by have:=h.2.1;omega,by have:=h.2.2;omega⟩
theorem Z40 {k:Nat} {m:Int} {c:Bool} (h:has k m):has k (turnI c m):=by cases c;exact h;exact has_neg h
theorem Q60 (vals:List Bool) {m:Int} (h:m≠0) (c:Bool):litV vals (turnI c m)=(c != litV vals m):=by
 cases c
 ·show litV vals m=_;simp
 ·show litV vals (-m)=_;rw[lit_neg vals h];simp
theorem valsG_at {n:Nat} {F:Gs} {ins:List Bool} (l:ins.length=n) {k:Nat} (j:k<F.length) (hF:xH0 n k F[k]):(valsG (true::ins) F).getD (1+n+k) false=US (valsG (true::ins) F) F[k]:=by
 have e:F=F.take k++F[k]::F.drop (k+1):=by rw[<-GZ j,GL]
 have c:=hF;clear hF;generalize s:F[k]=g at e c⊢;have d:(valsG (true::ins) (F.take k)).length=1+n+k:=by rw[valsG_len,gw,gi,l];omega
 rw[e,valsG_app];show(valsG (valsG (true::ins) (F.take k)++[US (valsG (true::ins) (F.take k)) g]) (F.drop (k+1))).getD (1+n+k) false=US (valsG (valsG (true::ins) (F.take k)++[US (valsG (true::ins) (F.take k)) g]) (F.drop (k+1))) g;generalize valsG (true::ins) (F.take k)=vs at d⊢;obtain⟨t,m⟩:=valsG_pre (F.drop (k+1)) (vs++[US vs g]);rw[<-m,Gd];obtain⟨o,p,q,r⟩:=c;have h:has vs.length g.a:=has_abs.2 ⟨oM,oM⟩;have i:has vs.length g.b:=has_abs.2 ⟨oM,oM⟩;have f:US (vs++([US vs g]++t)) g=US vs g:=by
  unfold US;rw[lit_pre h,lit_pre i]
 rw[f,q0,gO oM,d,GC];rfl
theorem put_step {n:Nat} {gs:Gs} {g:Gt} (j:NetG n gs) (c:xH0 n gs.length g) (f:(putG n gs g).2≠0):
  NetG n (putG n gs g).1/\has (1+n+(putG n gs g).1.length) (putG n gs g).2/\∀{F:Gs} {ins:List Bool},ins.length=n->(putG n gs g).1<+:F->litV (valsG (true::ins) F) (putG n gs g).2=US (valsG (true::ins) F) g:=by
 have key:∀{F:Gs} {ins:List Bool} {k:Nat},ins.length=n->(d:k<F.length)->F[k]=g->xH0 n k g->litV (valsG (true::ins) F) (2+n+k)=US (valsG (true::ins) F) g:=λ{F ins k} i d he c=>by
  have:=valsG_at i d (he▸c);rw[he] at this;rw[<-this];unfold litV;rw[if_pos oM,show((2+n+k:Int)-1).toNat=1+n+k by omega]
 unfold putG at f⊢;by_cases hm:g∈gs
 ·rw[if_pos hm] at f⊢;have h:gs.idxOf g<gs.length:=PZ.2 hm;refine⟨j,⟨by show(2+n+_:Int)≠0;omega,by show _<=(2+n+_:Int);omega,by show(2+n+_:Int)<=((1+n+gs.length:Nat):Int);omega⟩,λ{F ins} i hF=>?_⟩;have d:gs.idxOf g<F.length:=gJ h hF.length_le;have he:F[gs.idxOf g]=g:=by
   obtain⟨t,rfl⟩:=hF;rw[pH h];exact List.getElem_idxOf h
  refine key i d he ?_;have:=j.gate _ h;rwa[List.getElem_idxOf h] at this
 ·rw[if_neg hm] at f⊢;by_cases m:600<=gs.length
  ·rw[if_pos m] at f;exact absurd rfl f
  ·rw[if_neg m] at f⊢;refine⟨⟨by rw[k6];simp;omega,λk d=>?_,?_⟩,?_,λ{F ins} i hF=>?_⟩
   ·rw[k6,gz] at d;by_cases e:k<gs.length
    ·rw[pH e];exact j.gate k e
    ·have:k=gs.length:=oM;subst this;rw[Pb (gq _)];simpa using c
   ·rw[Gy];exact⟨j.once,by simp,λa o b l e=>hm (by simp at l;rw[<-l,<-e];exact o)⟩
   ·rw[k6,gz];exact⟨oM,oM,oM⟩
   ·obtain⟨t,rfl⟩:=hF;have d:gs.length<(gs++[g]++t).length:=by rw[k6,k6,gz];omega
    refine key i d ?_ c;rw[pH (by rw[k6,gz];omega),Pb (gq _)];simp
theorem Kz0 (a b:Bool):(a != b)=(b != a):=by cases a<;>cases b<;>rfl
theorem qK0 (ins:List Bool) (F:Gs):litV (valsG (true::ins) F) 1=true:=by
 obtain⟨t,a⟩:=valsG_pre F (true::ins);rw[<-a];rfl
theorem Wm (ins:List Bool) (F:Gs):litV (valsG (true::ins) F) (-1)=false:=by
 rw[lit_neg _ dC,qK0];rfl
theorem abs_eq {a b:Int} (h:absI a=absI b):a=b\/a= -b:=by unfold absI at h;split at h<;>split at h<;>omega
theorem K20 (vals:List Bool) {a:Int} (h:a≠0):litV vals a=(decide (a<0) != litV vals (absI a)):=by
 unfold absI;by_cases b:a<0
 ·rw[if_pos b,lit_neg _ h,decide_eq_true b];simp
 ·rw[if_neg b,decide_eq_false b];simp
theorem and_step {n:Nat} {gs:Gs} {a b:Int} (d:NetG n gs) (i:has (1+n+gs.length) a) (j:has (1+n+gs.length) b) (c:(andG n gs a b).2≠0):
  NetG n (andG n gs a b).1/\has (1+n+(andG n gs a b).1.length) (andG n gs a b).2/\
  ∀{F:Gs} {ins:List Bool},ins.length=n->(andG n gs a b).1<+:F->litV (valsG (true::ins) F) (andG n gs a b).2=(litV (valsG (true::ins) F) a&&litV (valsG (true::ins) F) b):=by
 have l:has (1+n+gs.length) (-1):=⟨dC,oM,oM⟩;unfold andG at c⊢;by_cases c1:a= -1\/b= -1
 ·rw[if_pos c1];refine⟨d,l,λ{F ins} _ _=>?_⟩;rw[Wm];rcases c1 with rfl|rfl
  ·rw[Wm];rfl
  ·rw[Wm,G8]
 rw[if_neg c1] at c⊢;by_cases c2:a=1
 ·rw[if_pos c2];subst c2;exact⟨d,j,λ{F ins} _ _=>by rw[qK0,pI]⟩
 rw[if_neg c2] at c⊢;by_cases c3:b=1
 ·rw[if_pos c3];subst c3;exact⟨d,i,λ{F ins} _ _=>by rw[qK0,Py]⟩
 rw[if_neg c3] at c⊢;by_cases f:a=b
 ·rw[if_pos f];subst f;exact⟨d,i,λ{F ins} _ _=>by rw[Bool.and_self]⟩
 rw[if_neg f] at c⊢;by_cases g:a= -b
 ·rw[if_pos g];refine⟨d,l,λ{F ins} _ _=>?_⟩;rw[g,lit_neg _ j.1,Wm,Bool.not_and_self]
 rw[if_neg g] at c⊢;have a2:2<=absI a:=by have:=abs_pos i.1;unfold absI at*;split at this<;>omega
 have b2:2<=absI b:=by have:=abs_pos j.1;unfold absI at*;split at this<;>omega
 have q:absI a≠absI b:=λe=>by rcases abs_eq e with h|h;exact f h;exact g h
 have m:=(has_abs.1 i).2;have o:=(has_abs.1 j).2;have k:xH0 n gs.length (VM0 a b):=by
  unfold VM0;split
  ·exact⟨b2,oM,by show absI a<=_;omega,λh=>by cases h⟩
  ·exact⟨a2,by show absI a<absI b;omega,by show absI b<=_;omega,λh=>by cases h⟩
 obtain⟨p1,p2,r⟩:=put_step d k c;refine⟨p1,p2,λ{F ins} p hF=>?_⟩;rw[r p hF];unfold VM0 US;split
 ·exact Bool.and_comm _ _
 ·rfl
theorem xor_step {n:Nat} {gs:Gs} {a b:Int} (i:NetG n gs) (g:has (1+n+gs.length) a) (d:has (1+n+gs.length) b) (c:(xorG n gs a b).2≠0):
  NetG n (xorG n gs a b).1/\has (1+n+(xorG n gs a b).1.length) (xorG n gs a b).2/\
  ∀{F:Gs} {ins:List Bool},ins.length=n->(xorG n gs a b).1<+:F->litV (valsG (true::ins) F) (xorG n gs a b).2=(litV (valsG (true::ins) F) a != litV (valsG (true::ins) F) b):=by
 have one:∀{x y:Int} {F:Gs} {ins:List Bool},absI x=1->y≠0->litV (valsG (true::ins) F) (turnI (decide (x=1)) y)=(litV (valsG (true::ins) F) x != litV (valsG (true::ins) F) y):=λ{x y F ins} u v=>by
  rw[Q60 _ v];rcases abs_eq (b:=1) u with rfl|rfl
  ·rw[qK0];rfl
  ·rw[Wm];rfl
 unfold xorG at c⊢;by_cases c1:absI a=1
 ·rw[if_pos c1];exact⟨i,Z40 d,λ{F ins} _ _=>one c1 d.1⟩
 rw[if_neg c1] at c⊢;by_cases c2:absI b=1
 ·rw[if_pos c2];exact⟨i,Z40 g,λ{F ins} _ _=>by show litV _ (turnI (decide (b=1)) a)=_;rw[one c2 g.1];exact Kz0 _ _⟩
 rw[if_neg c2] at c⊢;by_cases c3:a=b
 ·rw[if_pos c3];subst c3;exact⟨i,⟨by show(-1:Int)≠0;decide,by show(-(_:Int))<= -1;omega,by show(-1:Int)<=_;omega⟩,λ{F ins} _ _=>by show litV _ (-1)=_;rw[Wm];simp⟩
 rw[if_neg c3] at c⊢;by_cases j:a= -b
 ·rw[if_pos j];exact⟨i,⟨by show(1:Int)≠0;decide,by show(-(_:Int))<=1;omega,by show(1:Int)<=_;omega⟩,λ{F ins} _ _=>by show litV _ 1=_;rw[j,lit_neg _ d.1,qK0];simp⟩
 rw[if_neg j] at c⊢;have a2:2<=absI a:=by have:=abs_pos g.1;omega
 have b2:2<=absI b:=by have:=abs_pos d.1;omega
 have t:absI a≠absI b:=λe=>by rcases abs_eq e with h|h;exact c3 h;exact j h
 have l:=(has_abs.1 g).2;have m:=(has_abs.1 d).2;have aa:∀x:Int,2<=absI x->absI (absI x)=absI x:=λx h=>by
  generalize absI x=y at h;unfold absI;rw[if_neg oM]
 have k:xH0 n gs.length (gateX a b):=by
  unfold gateX;split
  ·exact⟨by show 2<=absI (absI b);rw[aa b b2];exact b2,by show absI (absI b)<absI (absI a);rw[aa a a2,aa b b2];omega,by show absI (absI a)<=_;rw[aa a a2];omega,λ_=>⟨by show 0<absI b;omega,by show 0<absI a;omega⟩⟩
  ·exact⟨by show 2<=absI (absI a);rw[aa a a2];exact a2,by show absI (absI a)<absI (absI b);rw[aa a a2,aa b b2];omega,by show absI (absI b)<=_;rw[aa b b2];omega,λ_=>⟨by show 0<absI a;omega,by show 0<absI b;omega⟩⟩
 have f:(putG n gs (gateX a b)).2≠0:=λe=>c (UF0.2 e);obtain⟨p1,p2,w⟩:=put_step i k f;refine⟨p1,Z40 p2,λ{F ins} o hF=>?_⟩;show litV _ (turnI _ (putG n gs (gateX a b)).2)=_;rw[Q60 _ f,w o hF,K20 _ g.1,K20 _ d.1];have e:US (valsG (true::ins) F) (gateX a b)=(litV (valsG (true::ins) F) (absI a) != litV (valsG (true::ins) F) (absI b)):=by
  unfold gateX US;split
  ·exact Kz0 _ _
  ·rfl
 rw[e];generalize litV (valsG (true::ins) F) (absI a)=p;generalize litV (valsG (true::ins) F) (absI b)=q;generalize decide (a<0)=r;generalize decide (b<0)=s;cases p<;>cases q<;>cases r<;>cases s<;>rfl
def Says {α:Type} (ρ:Int->Bool):Nat->Bd α->(Nat->α->Prop)->Prop
 |k,.ret a,Q=>Q k a
 |k,.and x y c,Q=>has k x/\has k y/\∀k' v,k<=k'->has k' v->ρ v=(ρ x&&ρ y)->Says ρ k' (c v) Q
 |k,.xor x y c,Q=>has k x/\has k y/\∀k' v,k<=k'->has k' v->ρ v=(ρ x != ρ y)->Says ρ k' (c v) Q
theorem Says.bind {α β:Type} {ρ:Int->Bool} {p:Bd α} {f:α->Bd β} {Q:Nat->β->Prop}:∀{k:Nat},Says ρ k p (λb a=>Says ρ b (f a) Q)->Says ρ k (p.bind f) Q:=by
 induction p with
 |ret a=>intro k h;exact h
 |and x y c l=>intro k ⟨d,e,h⟩;exact⟨d,e,λb v g j i=>l v (h b v g j i)⟩
 |xor x y c l=>intro k ⟨d,e,h⟩;exact⟨d,e,λb v g j i=>l v (h b v g j i)⟩
theorem Says.sound {α:Type} {n:Nat} {ins:List Bool} (k:ins.length=n) {F:Gs} {p:Bd α} {Q:Nat->α->Prop}:∀{gs gs':Gs} {a:α},NetG n gs->p.run n gs=some (gs',a)->gs'<+:F->Says (litV (valsG (true::ins) F)) (1+n+gs.length) p Q->NetG n gs'/\Q (1+n+gs'.length) a:=by
 induction p with
 |ret c=>
  intro gs gs' a b h hF hs;simp only[Bd.run,gV,GF] at h;obtain⟨rfl,rfl⟩:=h;exact⟨b,hs⟩
 |and x y c i=>
  intro gs gs' a b h hF ⟨e,f,hs⟩;simp only[Bd.run] at h;split at h
  ·cases h
  ·next d=>
   obtain⟨p1,p2,j⟩:=and_step b e f d;have g:=Bd.run_pre h;refine i _ p1 h hF (hs _ _ ?_ p2 (j k (g.trans hF)));have:=(KJ0 (n:=n) gs x y).length_le;omega
 |xor x y c i=>
  intro gs gs' a b h hF ⟨e,f,hs⟩;simp only[Bd.run] at h;split at h
  ·cases h
  ·next d=>
   obtain⟨p1,p2,j⟩:=xor_step b e f d;have g:=Bd.run_pre h;refine i _ p1 h hF (hs _ _ ?_ p2 (j k (g.trans hF)));have:=(Jj0 (n:=n) gs x y).length_le;omega
end Go.M
end
section
namespace Go.M
def orB (x y:Int):Bd Int:= .and (-x) (-y) λv=> .ret (-v)
def muxB (c x y:Int):Bd Int:= .and c x λp=> .and (-c) y λq=>orB p q
def sumB:List Int->List Int->Int->Bd (List Int)
 |x::xs,y::ys,c=> .xor x y λh=> .xor h c λs=> .and x y λp=> .and h c λq=>(orB p q).bind λc'=>(sumB xs ys c').map (s:: ·)
 |_,_,_=> .ret []
def lessB:List Int->List Int->Int->Bd Int
 |x::xs,y::ys,r=> .xor x y λd=>(muxB d y r).bind λr'=>lessB xs ys r'
 |_,_,r=> .ret r
def sameB:List Int->List Int->Int->Bd Int
 |x::xs,y::ys,r=> .xor x y λd=> .and r (-d) λr'=>sameB xs ys r'
 |_,_,r=> .ret r
def eachB (f:Int->Int->Bd Int):List Int->List Int->Bd (List Int)
 |x::xs,y::ys=>(f x y).bind λs=>(eachB f xs ys).map (s:: ·)
 |_,_=> .ret []
def rowB (s:Int):List Int->Bd (List Int)
 |x::xs=> .and x s λv=>(rowB s xs).map (v:: ·)
 |[]=> .ret []
def offsL (n:Nat):List Int:=List.replicate n (-1)
def mulB (xs:List Int):List Int->Nat->List Int->Bd (List Int)
 |y::ys,i,s=>(rowB y (xs.take (xs.length-i))).bind λr=>(sumB s (offsL i++r) (-1)).bind λs'=>mulB xs ys (i+1) s'
 |[],_,s=> .ret s
def negL (xs:List Int):List Int:=xs.map λx=> -x
def divB (xs wide:List Int):Nat->List Int->List Int->Bd (List Int×List Int)
 |n+1,r,q=>(lessB (xs.getD n 0::r) wide (-1)).bind λl=>(sumB (xs.getD n 0::r) (negL wide) 1).bind λu=>
   (eachB (muxB l) ((xs.getD n 0::r).take xs.length) (u.take xs.length)).bind λr'=>divB xs wide n r' (q.set n (-l))
 |0,r,q=> .ret (q,r)
def fromL (up:Bool) (fill:Int) (s:List Int) (by_ k:Nat):Int:=if up then(if k<by_ then fill else s.getD (k-by_) 0) else if k+by_<s.length then s.getD (k+by_) 0 else fill
def shiftB (up:Bool) (fill:Int):List Int->Nat->List Int->Bd (List Int)
 |c::ys,i,s=>(eachB (muxB c) ((List.range s.length).map (fromL up fill s (2^i))) s).bind λs'=>shiftB up fill ys (i+1) s'
 |[],_,s=> .ret s
def unB (op:Int) (x:List Int):Bd (List Int):=if op=1 then .ret (negL x) else sumB (offsL x.length) (negL x) 1
def binB (op:Int) (x y:List Int):Bd (List Int):=
 if op=14 then .ret (y++x)
 else if op=3 then eachB (λa b=> .and a b .ret) x y
 else if op=4 then eachB orB x y
 else if op=5 then eachB (λa b=> .xor a b .ret) x y
 else if op=6 then sumB x y (-1)
 else if op=7 then sumB x (negL y) 1
 else if op=8 then mulB x y 0 (offsL x.length)
 else if op=9 then(divB x (y++[-1]) x.length (offsL x.length) (offsL x.length)).map (·.1)
 else if op=10 then(divB x (y++[-1]) x.length (offsL x.length) (offsL x.length)).map (·.2)
 else if op=11 then shiftB true (-1) y 0 x
 else if op=12 then shiftB false (-1) y 0 x
 else shiftB false (x.getD (x.length-1) 0) y 0 x
def swapT (x y:List Int):List Int:=x.set (x.length-1) (y.getD (x.length-1) 0)
def cmpB (op:Int) (x y:List Int):Bd Int:=
 if op=15 then sameB x y 1 else if op=16 then lessB x y (-1) else lessB (swapT x y) (swapT y x) (-1)
def sumV:List Bool->List Bool->Bool->List Bool
 |x::xs,y::ys,c=>((x != y) != c)::sumV xs ys ((x&&y)||((x != y)&&c))
 |_,_,_=>[]
def lessV:List Bool->List Bool->Bool->Bool
 |x::xs,y::ys,r=>lessV xs ys (if x != y then y else r)
 |_,_,r=>r
def sameV:List Bool->List Bool->Bool->Bool
 |x::xs,y::ys,r=>sameV xs ys (r&& !(x != y))
 |_,_,r=>r
def eachV (f:Bool->Bool->Bool):List Bool->List Bool->List Bool
 |x::xs,y::ys=>f x y::eachV f xs ys
 |_,_=>[]
def Ze0 (n:Nat):List Bool:=List.replicate n false
def mulV (xs:List Bool):List Bool->Nat->List Bool->List Bool
 |y::ys,i,s=>mulV xs ys (i+1) (sumV s (Ze0 i++(xs.take (xs.length-i)).map λx=>x&&y) false)
 |[],_,s=>s
def divV (xs wide:List Bool):Nat->List Bool->List Bool->List Bool×List Bool
 |n+1,r,q=>
  let t:=xs.getD n false::r
  let l:=lessV t wide false
  divV xs wide n (eachV (λa b=>if l then a else b) (t.take xs.length) ((sumV t (wide.map (!·)) true).take xs.length)) (q.set n (!l))
 |0,r,q=>(q,r)
def WZ0 (up:Bool) (fill:Bool) (s:List Bool) (by_ k:Nat):Bool:=if up then(if k<by_ then fill else s.getD (k-by_) false) else if k+by_<s.length then s.getD (k+by_) false else fill
def shiftV (up:Bool) (fill:Bool):List Bool->Nat->List Bool->List Bool
 |c::ys,i,s=>shiftV up fill ys (i+1) (eachV (λa b=>if c then a else b) ((List.range s.length).map (WZ0 up fill s (2^i))) s)
 |[],_,s=>s
def unV (op:Int) (x:List Bool):List Bool:=if op=1 then x.map (!·) else sumV (Ze0 x.length) (x.map (!·)) true
def UX0 (op:Int) (x y:List Bool):List Bool:=
 if op=14 then y++x
 else if op=3 then eachV (· && ·) x y
 else if op=4 then eachV (· || ·) x y
 else if op=5 then eachV (· != ·) x y
 else if op=6 then sumV x y false
 else if op=7 then sumV x (y.map (!·)) true
 else if op=8 then mulV x y 0 (Ze0 x.length)
 else if op=9 then(divV x (y++[false]) x.length (Ze0 x.length) (Ze0 x.length)).1
 else if op=10 then(divV x (y++[false]) x.length (Ze0 x.length) (Ze0 x.length)).2
 else if op=11 then shiftV true false y 0 x
 else if op=12 then shiftV false false y 0 x
 else shiftV false (x.getD (x.length-1) false) y 0 x
def Vn0 (x y:List Bool):List Bool:=x.set (x.length-1) (y.getD (x.length-1) false)
def cmpV (op:Int) (x y:List Bool):Bool:=
 if op=15 then sameV x y true else if op=16 then lessV x y false else lessV (Vn0 x y) (Vn0 y x) false
structure Rho (ρ:Int->Bool):Prop where
 neg:∀m,m≠0->ρ (-m)= !ρ m
 one:ρ 1=true
def hasL (k:Nat) (xs:List Int):Prop:=∀x,x∈xs->has k x
theorem hasL.mono {k l:Nat} {xs:List Int} (h:hasL k xs) (a:k<=l):hasL l xs:=λx b=>has_mono (h x b) a
theorem hasL_cons {k:Nat} {x:Int} {xs:List Int}:hasL k (x::xs)↔has k x/\hasL k xs:=by
 unfold hasL;simp only[gd,forall_eq_or_imp]
theorem qr0 {k:Nat} {xs ys:List Int} (h:hasL k xs) (a:hasL k ys):hasL k (xs++ys):=λx b=>(gj.1 b).elim (h x) (a x)
theorem qq0 {k:Nat} {xs:List Int} (h:hasL k xs):hasL k (negL xs):=λx a=>by
 obtain⟨y,b,rfl⟩:=gk.1 a;exact has_neg (h y b)
theorem zF0 {k n:Nat} {xs:List Int} (h:hasL k xs):hasL k (xs.take n):=λx a=>h x (gX a)
theorem has_one {k:Nat} (h:1<=k):has k 1:=⟨dC,oM,oM⟩
theorem has_mone {k:Nat} (h:1<=k):has k (-1):=⟨dC,oM,oM⟩
theorem XY {k n:Nat} (h:1<=k):hasL k (offsL n):=λx a=>by rw[Pd a];exact has_mone h
theorem Q90 {k n:Nat} {xs:List Int} {y:Int} (h:hasL k xs) (c:has k y):hasL k (xs.set n y):=λx b=>by
 rcases PS b with a|a
 ·exact h x a
 ·rw[a];exact c
theorem Wo {k n:Nat} {xs:List Int} (h:hasL k xs) (a:n<xs.length) (d:Int):has k (xs.getD n d):=by
 rw[q0,Q1 a];exact h _ (Gm a)
section
variable {ρ:Int->Bool} {k:Nat} {Q:Nat->Int->Prop} {QL:Nat->List Int->Prop}
theorem Rho.mone (h:Rho ρ):ρ (-1)=false:=by rw[h.neg 1 dC,h.one];rfl
theorem Zh0 (h:Rho ρ) {xs:List Int} (a:hasL k xs):(negL xs).map ρ=(xs.map ρ).map (!·):=by
 unfold negL;rw[GM,GM];exact Gb λx hm=>h.neg x (a x hm).1
theorem zy0 (h:Rho ρ) (n:Nat):(offsL n).map ρ=Ze0 n:=by unfold offsL Ze0;rw[po,h.mone]
theorem Q50 (h:Rho ρ) {x y:Int} (c:has k x) (d:has k y) (e:∀a v,k<=a->has a v->ρ v=(ρ x||ρ y)->Q a v):Says ρ k (orB x y) Q:=by
 refine⟨has_neg c,has_neg d,λa v f b g=>e a _ f (has_neg b) ?_⟩;rw[h.neg _ b.1,g,h.neg _ c.1,h.neg _ d.1];cases ρ x<;>cases ρ y<;>rfl
theorem mux_sat (h:Rho ρ) {c x y:Int} (a:has k c) (l:has k x) (m:has k y) (f:∀b v,k<=b->has b v->ρ v=(if ρ c then ρ x else ρ y)->Q b v):Says ρ k (muxB c x y) Q:=by
 refine⟨a,l,λr p d g rp=>⟨has_mono (has_neg a) d,has_mono m d,λs q e i rq=>?_⟩⟩;refine Q50 h (has_mono g e) i λn v o j rv=>f n v oM j ?_;rw[rv,rp,rq,h.neg _ a.1];cases ρ c<;>cases ρ x<;>cases ρ y<;>rfl
theorem sum_sat (h:Rho ρ):∀{xs ys:List Int} {c:Int} {k:Nat} {QL:Nat->List Int->Prop},hasL k xs->hasL k ys->has k c->(∀l r,k<=l->hasL l r->r.map ρ=sumV (xs.map ρ) (ys.map ρ) (ρ c)->QL l r)->Says ρ k (sumB xs ys c) QL:=by
 intro xs;induction xs with
 |nil=>intro ys c k QL _ _ _ f;exact f k [] (gq _) (λx a=>by cases a) rfl
 |cons x xs B=>
  intro ys c k QL a A n f;cases ys with
  |nil=>exact f k [] (gq _) (λx a=>by cases a) rfl
  |cons y ys=>
   obtain⟨b,i⟩:=hasL_cons.1 a;obtain⟨e,j⟩:=hasL_cons.1 A;refine⟨b,e,λH d t o rd=>⟨o,has_mono n t,λI s D hs rs=>⟨has_mono b oM,has_mono e oM,λJ p E v rp=>⟨has_mono o oM,has_mono n oM,λK q u w rq=>?_⟩⟩⟩⟩;refine Says.bind (Q50 h (has_mono v u) w λL c' F g m=>?_);refine Says.bind (B (i.mono oM) (j.mono oM) g λC r G z rr=>?_);refine f C (s::r) oM (hasL_cons.2 ⟨has_mono hs oM,z⟩) ?_;simp only[gU,sumV];rw[rs,rd,rr,m,rp,rq,rd]
theorem less_sat (h:Rho ρ):∀{xs ys:List Int} {r:Int} {k:Nat} {Q:Nat->Int->Prop},hasL k xs->hasL k ys->has k r->(∀i v,k<=i->has i v->ρ v=lessV (xs.map ρ) (ys.map ρ) (ρ r)->Q i v)->Says ρ k (lessB xs ys r) Q:=by
 intro xs;induction xs with
 |nil=>intro ys r k Q _ _ c b;exact b k r (gq _) c rfl
 |cons x xs p=>
  intro ys r k Q n o c b;cases ys with
  |nil=>exact b k r (gq _) c rfl
  |cons y ys=>
   obtain⟨e,f⟩:=hasL_cons.1 n;obtain⟨a,g⟩:=hasL_cons.1 o;refine⟨e,a,λw d j l rd=>?_⟩;refine Says.bind (mux_sat h l (has_mono a j) (has_mono c j) λz v s m rv=>?_);refine p (f.mono oM) (g.mono oM) m λq u t hu ru=>b q u oM hu ?_;rw[ru,rv,rd];rfl
theorem same_sat (h:Rho ρ):∀{xs ys:List Int} {r:Int} {k:Nat} {Q:Nat->Int->Prop},hasL k xs->hasL k ys->has k r->(∀i v,k<=i->has i v->ρ v=sameV (xs.map ρ) (ys.map ρ) (ρ r)->Q i v)->Says ρ k (sameB xs ys r) Q:=by
 intro xs;induction xs with
 |nil=>intro ys r k Q _ _ b a;exact a k r (gq _) b rfl
 |cons x xs p=>
  intro ys r k Q n o b a;cases ys with
  |nil=>exact a k r (gq _) b rfl
  |cons y ys=>
   obtain⟨c,e⟩:=hasL_cons.1 n;obtain⟨f,g⟩:=hasL_cons.1 o;refine⟨c,f,λw d l j rd=>⟨has_mono b l,has_neg j,λz v s m rv=>?_⟩⟩;refine p (e.mono oM) (g.mono oM) m λq u t hu ru=>a q u oM hu ?_;rw[ru,rv,h.neg _ j.1,rd];rfl
theorem each_sat {f:Int->Int->Bd Int} {g:Bool->Bool->Bool} {C:Nat->Prop} (o:∀k l,C k->k<=l->C l) (p:∀{k:Nat} {x y:Int} {Q:Nat->Int->Prop},C k->has k x->has k y->(∀a v,k<=a->has a v->ρ v=g (ρ x) (ρ y)->Q a v)->Says ρ k (f x y) Q):
  ∀{xs ys:List Int} {k:Nat} {QL:Nat->List Int->Prop},C k->hasL k xs->hasL k ys->(∀a r,k<=a->hasL a r->r.map ρ=eachV g (xs.map ρ) (ys.map ρ)->QL a r)->Says ρ k (eachB f xs ys) QL:=by
 intro xs;induction xs with
 |nil=>intro ys k QL _ _ _ c;exact c k [] (gq _) (λx b=>by cases b) rfl
 |cons x xs u=>
  intro ys k QL m b t c;cases ys with
  |nil=>exact c k [] (gq _) (λx b=>by cases b) rfl
  |cons y ys=>
   obtain⟨e,h⟩:=hasL_cons.1 b;obtain⟨i,j⟩:=hasL_cons.1 t;refine Says.bind (p m e i λz s d hs rs=>?_);refine Says.bind (u (o _ _ m d) (h.mono d) (j.mono d) λw r n q rr=>?_);refine c w (s::r) oM (hasL_cons.2 ⟨has_mono hs n,q⟩) ?_;simp only[gU,eachV];rw[rs,rr]
theorem row_sat {s:Int}:∀{xs:List Int} {k:Nat} {QL:Nat->List Int->Prop},hasL k xs->has k s->(∀e r,k<=e->hasL e r->r.map ρ=(xs.map ρ).map (λx=>x&&ρ s)->QL e r)->Says ρ k (rowB s xs) QL:=by
 intro xs;induction xs with
 |nil=>intro k QL _ _ a;exact a k [] (gq _) (λx b=>by cases b) rfl
 |cons x xs j=>
  intro k QL b hs a;obtain⟨c,d⟩:=hasL_cons.1 b;refine⟨c,hs,λm v f i rv=>?_⟩;refine Says.bind (j (d.mono f) (has_mono hs f) λl r g h rr=>?_);refine a l (v::r) oM (hasL_cons.2 ⟨has_mono i g,h⟩) ?_;simp only[gU];rw[rv,rr]
theorem mul_sat (h:Rho ρ) {xs:List Int}:∀{ys:List Int} {i:Nat} {s:List Int} {k:Nat} {QL:Nat->List Int->Prop},1<=k->hasL k xs->hasL k ys->hasL k s->(∀e r,k<=e->hasL e r->r.map ρ=mulV (xs.map ρ) (ys.map ρ) i (s.map ρ)->QL e r)->Says ρ k (mulB xs ys i s) QL:=by
 intro ys;induction ys with
 |nil=>intro i s k QL _ _ _ hs a;exact a k s (gq _) hs rfl
 |cons y ys n=>
  intro i s k QL t g m hs a;obtain⟨c,d⟩:=hasL_cons.1 m;refine Says.bind (row_sat (zF0 g) c λv r j l rr=>?_);refine Says.bind (sum_sat h (hs.mono j) (qr0 (XY oM) l) (has_mone oM) λw x p b f=>?_);refine n oM (g.mono oM) (d.mono oM) b λo u q hu ru=>a o u oM hu ?_;rw[ru,f,h.mone,gu,zy0 h,rr,GK];simp only[gU,mulV,X0]
theorem qs0 {xs:List Int} {n:Nat} (a:n<xs.length):ρ (xs.getD n 0)=(xs.map ρ).getD n false:=by
 rw[q0,q0,Gk,Q1 a];rfl
theorem div_sat (h:Rho ρ) {xs wide:List Int}:∀{n:Nat} {r q:List Int} {k:Nat} {QP:Nat->List Int×List Int->Prop},1<=k->n<=xs.length->hasL k xs->hasL k wide->hasL k r->hasL k q->
  (∀f p,k<=f->hasL f p.1->hasL f p.2->(p.1.map ρ,p.2.map ρ)=divV (xs.map ρ) (wide.map ρ) n (r.map ρ) (q.map ρ)->QP f p)->Says ρ k (divB xs wide n r q) QP:=by
 intro n;induction n with
 |zero=>intro r q k QP _ _ _ _ o d i;exact i k (q,r) (gq _) d o rfl
 |succ n B=>
  intro r q k QP z G e hw o d i;have t:hasL k (xs.getD n 0::r):=hasL_cons.2 ⟨Wo e oM 0,o⟩;refine Says.bind (less_sat h t hw (has_mone z) λH l w c rl=>?_);refine Says.bind (sum_sat h (t.mono w) ((qq0 hw).mono w) (has_one oM) λI u x hu ru=>?_);refine Says.bind (each_sat (C:=λk=>has k l) (g:=λa b=>if ρ l then a else b) (λ_ _ h c=>has_mono h c) (λy e A d=>mux_sat h y e A d) (has_mono c x) (zF0 (t.mono oM)) (zF0 hu) λJ K E s v=>?_);refine B oM oM (e.mono oM) (hw.mono oM) s (Q90 (d.mono oM) (has_neg (has_mono c oM))) λD p F j m rp=>i D p oM j m ?_;rw[rp];simp only[divV,X0];rw[v,GK,GK,ru,pY,h.neg _ c.1,rl,Zh0 h hw,h.mone,h.one,gU,qs0 (ρ:=ρ) (xs:=xs) (n:=n) oM]
theorem from_has {up:Bool} {fill:Int} {s:List Int} {b j:Nat} (a:has k fill) (hs:hasL k s) (c:j<s.length):has k (fromL up fill s b j):=by
 unfold fromL
 repeat' split
 all_goals first|exact a|exact Wo hs oM 0
theorem from_rho {up:Bool} {fill:Int} {s:List Int} {b j:Nat} (a:j<s.length):ρ (fromL up fill s b j)=WZ0 up (ρ fill) (s.map ρ) b j:=by
 unfold fromL WZ0;rw[X0]
 repeat' split
 all_goals first|rfl|exact qs0 oM
theorem shift_sat (h:Rho ρ) {up:Bool} {fill:Int}:∀{ys:List Int} {i:Nat} {s:List Int} {k:Nat} {QL:Nat->List Int->Prop},has k fill->hasL k ys->hasL k s->(∀p r,k<=p->hasL p r->r.map ρ=shiftV up (ρ fill) (ys.map ρ) i (s.map ρ)->QL p r)->Says ρ k (shiftB up fill ys i s) QL:=by
 intro ys;induction ys with
 |nil=>intro i s k QL _ _ hs d;exact d k s (gq _) hs rfl
 |cons c ys A=>
  intro i s k QL v m hs d;obtain⟨n,o⟩:=hasL_cons.1 m;refine Says.bind (each_sat (C:=λk=>has k c) (g:=λa b=>if ρ c then a else b) (λ_ _ h y=>has_mono h y) (λw l m z=>mux_sat h w l m z) n (λx l=>by
   obtain⟨j,e,rfl⟩:=gk.1 l;exact from_has v hs (gr.1 e)) hs λE F t f q=>?_)
  refine A (has_mono v t) (o.mono t) f λB u D hu ru=>d B u oM hu ?_;rw[ru,q];simp only[gU,shiftV,X0,GM];congr 2;exact Gb λj e=>from_rho (gr.1 e)
theorem UA0 (h:Rho ρ) {op:Int} {x:List Int} (f:1<=k) (c:hasL k x) (a:∀b r,k<=b->hasL b r->r.map ρ=unV op (x.map ρ)->QL b r):Says ρ k (unB op x) QL:=by
 unfold unB;unfold unV at a;rw[X0] at a;split
 ·next e=>rw[if_pos e] at a;exact a k _ (gq _) (qq0 c) (Zh0 h c)
 ·next e=>
  rw[if_neg e] at a;exact sum_sat h (XY f) (qq0 c) (has_one f) λb r d g rr=>a b r d g (by rw[rr,zy0 h,Zh0 h c,h.one])
theorem bin_sat (h:Rho ρ) {op:Int} {x y:List Int} (i:1<=k) (b:hasL k x) (g:hasL k y) (s:x≠[]) (a:∀c r,k<=c->hasL c r->r.map ρ=UX0 op (x.map ρ) (y.map ρ)->QL c r):Says ρ k (binB op x y) QL:=by
 have D:0<x.length:=gG.2 s;unfold binB;unfold UX0 at a;rw[X0] at a;by_cases o:op=14
 ·rw[if_pos o] at a⊢;exact a k _ (gq _) (qr0 g b) (by rw[gu])
 rw[if_neg o] at a⊢;by_cases c3:op=3
 ·rw[if_pos c3] at a⊢;exact each_sat (C:=λ_=>True) (λ_ _ _ _=>trivial) (λ{_ _ _ _} _ b g q=>by exact⟨b,g,λc v e f d=>q c v e f d⟩) trivial b g a
 rw[if_neg c3] at a⊢;by_cases t:op=4
 ·rw[if_pos t] at a⊢;exact each_sat (C:=λ_=>True) (λ_ _ _ _=>trivial) (λ_ b g q=>Q50 h b g q) trivial b g a
 rw[if_neg t] at a⊢;by_cases u:op=5
 ·rw[if_pos u] at a⊢;exact each_sat (C:=λ_=>True) (λ_ _ _ _=>trivial) (λ{_ _ _ _} _ b g q=>by exact⟨b,g,λc v e f d=>q c v e f d⟩) trivial b g a
 rw[if_neg u] at a⊢;by_cases w:op=6
 ·rw[if_pos w] at a⊢;exact sum_sat h b g (has_mone i) λc r e f d=>a c r e f (by rw[d,h.mone])
 rw[if_neg w] at a⊢;by_cases z:op=7
 ·rw[if_pos z] at a⊢;exact sum_sat h b (qq0 g) (has_one i) λc r e f d=>a c r e f (by rw[d,h.one,Zh0 h g])
 rw[if_neg z] at a⊢;by_cases A:op=8
 ·rw[if_pos A] at a⊢;exact mul_sat h i b g (XY i) λc r e f d=>a c r e f (by rw[d,zy0 h])
 rw[if_neg A] at a⊢;by_cases B:op=9
 ·rw[if_pos B] at a⊢;refine Says.bind (div_sat h i (gq _) b (qr0 g λx b=>by rw[gn.1 b];exact has_mone i) (XY i) (XY i) λc p e f _ d=>a c _ e f ?_);rw[zy0 h,gu,G5,h.mone] at d;rw[<-d]
 rw[if_neg B] at a⊢;by_cases j:op=10
 ·rw[if_pos j] at a⊢;refine Says.bind (div_sat h i (gq _) b (qr0 g λx b=>by rw[gn.1 b];exact has_mone i) (XY i) (XY i) λc p e _ f d=>a c _ e f ?_);rw[zy0 h,gu,G5,h.mone] at d;rw[<-d]
 rw[if_neg j] at a⊢;by_cases l:op=11
 ·rw[if_pos l] at a⊢;exact shift_sat h (has_mone i) g b λc r e f d=>a c r e f (by rw[d,h.mone])
 rw[if_neg l] at a⊢;by_cases m:op=12
 ·rw[if_pos m] at a⊢;exact shift_sat h (has_mone i) g b λc r e f d=>a c r e f (by rw[d,h.mone])
 rw[if_neg m] at a⊢;exact shift_sat h (Wo b oM 0) g b λc r e f d=>a c r e f (by rw[d,qs0 (ρ:=ρ) (xs:=x) (n:=x.length-1) oM])
theorem swap_has {x y:List Int} (b:hasL k x) (c:hasL k y) (e:x.length=y.length) (a:x≠[]):hasL k (swapT x y):=by
 have d:0<x.length:=gG.2 a;exact Q90 b (Wo c oM 0)
theorem swap_rho {x y:List Int} (c:x.length=y.length) (a:x≠[]):(swapT x y).map ρ=Vn0 (x.map ρ) (y.map ρ):=by
 have b:0<x.length:=gG.2 a;unfold swapT Vn0;rw[pY,X0,qs0 (ρ:=ρ) (xs:=y) (n:=x.length-1) oM]
theorem U80 (h:Rho ρ) {op:Int} {x y:List Int} (p:1<=k) (n:hasL k x) (o:hasL k y) (m:x.length=y.length) (d:x≠[]) (b:∀a v,k<=a->has a v->ρ v=cmpV op (x.map ρ) (y.map ρ)->Q a v):Says ρ k (cmpB op x y) Q:=by
 have c:y≠[]:=λe=>d (gC (by rw[m,e];rfl));unfold cmpB;unfold cmpV at b;by_cases f:op=15
 ·rw[if_pos f] at b⊢;exact same_sat h n o (has_one p) λa v i j l=>b a v i j (by rw[l,h.one])
 rw[if_neg f] at b⊢;by_cases g:op=16
 ·rw[if_pos g] at b⊢;exact less_sat h n o (has_mone p) λa v i j l=>b a v i j (by rw[l,h.mone])
 rw[if_neg g] at b⊢;exact less_sat h (swap_has n o m d) (swap_has o n m.symm c) (has_mone p) λa v i j l=>b a v i j (by rw[l,h.mone,swap_rho m d,swap_rho m.symm c])
end
end Go.M
end
