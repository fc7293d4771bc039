import Derived.Ground.NamesProg
import Derived.Ground.SlsfProg
import Derived.Shelf.SlSortCmp.Whole1
import Derived.Shelf.Strings.OnBuilder
import Derived.Shelf.Strings.SlTrimAscii
import Derived.Shelf.SlGeneric
import Derived.Test.YtfjlkobhagjdaaaGreatDoorWzaP6
/- A part of the proof. -/
set_option linter.all false
set_option maxRecDepth 9999
set_option maxHeartbeats 2000000
noncomputable section
namespace Go.Proofs
open Go.Shelf
def YtfjlkobhagjdaaaGreatDoor.sortL_ren:Go.Shelf.Ren:=⟨λ|6=>291 |15=>316 |14=>315 |28=>339 |29=>340 |20=>331 |21=>332 |22=>333 |23=>334 |24=>335 |25=>336 |26=>337 |27=>338 |46=>346 |47=>347 |48=>348 |49=>349 |50=>350 |57=>353 |n=>n,λ|22=>45 |24=>3 |25=>145 |3=>3 |39=>288 |0=>0 |53=>380 |55=>253 |4=>4 |46=>390 |45=>389 |50=>48 |5=>5 |9=>9 |66=>398 |70=>150 |76=>403 |77=>29 |n=>n,λ|n=>n⟩
theorem YtfjlkobhagjdaaaGreatDoor.sortL:Go.Proofs.SlLaysF.n6 Tryz.prog YtfjlkobhagjdaaaGreatDoor.sortL_ren:={
 mixed:=rK
 f6:=⟨Tryz.f291.name,dC,Tryz.func291.trans (congrArg some rK)⟩
 f14:=⟨Tryz.f315.name,dC,Tryz.func315.trans (congrArg some rK)⟩
 f15:=Tryz.func316.trans (congrArg some rK)
 f20:=⟨Tryz.f331.name,dC,Tryz.func331.trans (congrArg some rK)⟩
 f21:=⟨Tryz.f332.name,dC,Tryz.func332.trans (congrArg some rK)⟩
 f22:=⟨Tryz.f333.name,dC,Tryz.func333.trans (congrArg some rK)⟩
 f23:=⟨Tryz.f334.name,dC,Tryz.func334.trans (congrArg some rK)⟩
 f24:=⟨Tryz.f335.name,dC,Tryz.func335.trans (congrArg some rK)⟩
 f25:=⟨Tryz.f336.name,dC,Tryz.func336.trans (congrArg some rK)⟩
 f26:=⟨Tryz.f337.name,dC,Tryz.func337.trans (congrArg some rK)⟩
 f27:=⟨Tryz.f338.name,dC,Tryz.func338.trans (congrArg some rK)⟩
 f28:=Tryz.func339.trans (congrArg some rK)
 f29:=Tryz.func340.trans (congrArg some rK)
 f46:=⟨Tryz.f346.name,dC,Tryz.func346.trans (congrArg some rK)⟩
 f47:=Tryz.func347.trans (congrArg some rK)
 f48:=Tryz.func348.trans (congrArg some rK)
 f49:=⟨Tryz.f349.name,dC,Tryz.func349.trans (congrArg some rK)⟩
 f50:=⟨Tryz.f350.name,dC,Tryz.func350.trans (congrArg some rK)⟩
 f57:=⟨Tryz.f353.name,dC,Tryz.func353.trans (congrArg some rK)⟩
 t0:=Tryz.underlying0
 a0:=Tryz.isAgg0
 z0:=Tryz.sizeOf0
 v0:=Tryz.zeroValue0
 t3:=Tryz.underlying3
 a3:=Tryz.isAgg3
 z3:=Tryz.sizeOf3
 v3:=Tryz.zeroValue3
 t4:=Tryz.underlying4
 a4:=Tryz.isAgg4
 z4:=Tryz.sizeOf4
 v4:=Tryz.zeroValue4
 t5:=Tryz.underlying5
 a5:=Tryz.isAgg5
 z5:=Tryz.sizeOf5
 v5:=Tryz.zeroValue5
 t9:=Tryz.underlying9
 a9:=Tryz.isAgg9
 z9:=Tryz.sizeOf9
 v9:=Tryz.zeroValue9
 t22:=Tryz.underlying45
 a22:=Tryz.isAgg45
 z22:=Tryz.sizeOf45
 v22:=Tryz.zeroValue45
 a24:=Tryz.isAgg3
 z24:=Tryz.sizeOf3
 t25:=Tryz.underlying145
 a25:=Tryz.isAgg145
 z25:=Tryz.sizeOf145
 v25:=Tryz.zeroValue145
 t39:=Tryz.underlying288
 a39:=Tryz.isAgg288
 z39:=Tryz.sizeOf288
 v39:=Tryz.zeroValue288
 t45:=Tryz.underlying389
 a45:=Tryz.isAgg389
 z45:=Tryz.sizeOf389
 v45:=Tryz.zeroValue389
 t46:=Tryz.underlying390
 a46:=Tryz.isAgg390
 z46:=Tryz.sizeOf390
 v46:=Tryz.zeroValue390
 t50:=Tryz.underlying48
 a50:=Tryz.isAgg48
 z50:=Tryz.sizeOf48
 v50:=Tryz.zeroValue48
 t53:=Tryz.underlying380
 a53:=Tryz.isAgg380
 z53:=Tryz.sizeOf380
 v53:=Tryz.zeroValue380
 t55:=Tryz.underlying253
 a55:=Tryz.isAgg253
 z55:=Tryz.sizeOf253
 v55:=Tryz.zeroValue253
 t66:=Tryz.underlying398
 a66:=Tryz.isAgg398
 z66:=Tryz.sizeOf398
 v66:=Tryz.zeroValue398
 t70:=Tryz.underlying150
 a70:=Tryz.isAgg150
 z70:=Tryz.sizeOf150
 v70:=Tryz.zeroValue150
 t76:=Tryz.underlying403
 a76:=Tryz.isAgg403
 z76:=Tryz.sizeOf403
 v76:=Tryz.zeroValue403
 t77:=Tryz.underlying29
 a77:=Tryz.isAgg29
 z77:=Tryz.sizeOf29
 v77:=Tryz.zeroValue29}
def YtfjlkobhagjdaaaGreatDoor.trimL_ren:Go.Shelf.Ren:=⟨λ|160=>95 |232=>118 |231=>117 |227=>119 |234=>121 |233=>120 |236=>123 |235=>122 |228=>141 |271=>144 |151=>143 |197=>142 |120=>181 |152=>180 |260=>179 |137=>212 |119=>213 |224=>214 |225=>215 |217=>251 |266=>293 |n=>n,λ|9=>9 |4=>4 |3=>3 |5=>5 |117=>183 |116=>182 |0=>0 |124=>186 |21=>21 |105=>219 |46=>288 |119=>287 |139=>291 |138=>290 |n=>n,λ|3=>4 |4=>5 |n=>n⟩
theorem YtfjlkobhagjdaaaGreatDoor.trimL:Go.Proofs.Lays.n160 Tryz.prog YtfjlkobhagjdaaaGreatDoor.trimL_ren:={
 mixed:=rK
 f119:=Tryz.func213.trans (congrArg some rK)
 f120:=Tryz.func181.trans (congrArg some rK)
 f137:=Tryz.func212.trans (congrArg some rK)
 f151:=Tryz.func143.trans (congrArg some rK)
 f152:=Tryz.func180.trans (congrArg some rK)
 f160:=Tryz.func95.trans (congrArg some rK)
 f197:=Tryz.func142.trans (congrArg some rK)
 f217:=Tryz.func251.trans (congrArg some rK)
 f224:=Tryz.func214.trans (congrArg some rK)
 f225:=Tryz.func215.trans (congrArg some rK)
 f227:=Tryz.func119.trans (congrArg some rK)
 f228:=Tryz.func141.trans (congrArg some rK)
 f231:=Tryz.func117.trans (congrArg some rK)
 f232:=Tryz.func118.trans (congrArg some rK)
 f233:=Tryz.func120.trans (congrArg some rK)
 f234:=Tryz.func121.trans (congrArg some rK)
 f235:=Tryz.func122.trans (congrArg some rK)
 f236:=Tryz.func123.trans (congrArg some rK)
 f260:=Tryz.func179.trans (congrArg some rK)
 f266:=Tryz.func293.trans (congrArg some rK)
 f271:=Tryz.func144.trans (congrArg some rK)
 t0:=Tryz.underlying0
 a0:=Tryz.isAgg0
 z0:=Tryz.sizeOf0
 v0:=Tryz.zeroValue0
 t3:=Tryz.underlying3
 a3:=Tryz.isAgg3
 z3:=Tryz.sizeOf3
 v3:=Tryz.zeroValue3
 t4:=Tryz.underlying4
 a4:=Tryz.isAgg4
 z4:=Tryz.sizeOf4
 v4:=Tryz.zeroValue4
 t5:=Tryz.underlying5
 a5:=Tryz.isAgg5
 z5:=Tryz.sizeOf5
 v5:=Tryz.zeroValue5
 t9:=Tryz.underlying9
 a9:=Tryz.isAgg9
 z9:=Tryz.sizeOf9
 v9:=Tryz.zeroValue9
 t21:=Tryz.underlying21
 a21:=Tryz.isAgg21
 z21:=Tryz.sizeOf21
 v21:=Tryz.zeroValue21
 t46:=Tryz.underlying288
 a46:=Tryz.isAgg288
 z46:=Tryz.sizeOf288
 v46:=Tryz.zeroValue288
 t105:=Tryz.underlying219
 a105:=Tryz.isAgg219
 z105:=Tryz.sizeOf219
 v105:=Tryz.zeroValue219
 t116:=Tryz.underlying182
 a116:=Tryz.isAgg182
 z116:=Tryz.sizeOf182
 t117:=Tryz.underlying183
 a117:=Tryz.isAgg183
 z117:=Tryz.sizeOf183
 v117:=Tryz.zeroValue183
 t119:=Tryz.underlying287
 a119:=Tryz.isAgg287
 z119:=Tryz.sizeOf287
 t124:=Tryz.underlying186
 a124:=Tryz.isAgg186
 z124:=Tryz.sizeOf186
 v124:=Tryz.zeroValue186
 t138:=Tryz.underlying290
 a138:=Tryz.isAgg290
 z138:=Tryz.sizeOf290
 v138:=Tryz.zeroValue290
 t139:=Tryz.underlying291
 a139:=Tryz.isAgg291
 z139:=Tryz.sizeOf291
 v139:=Tryz.zeroValue291
 g3:=rK
 g4:=rK}
def YtfjlkobhagjdaaaGreatDoor.joinL_ren:Go.Shelf.Ren:=⟨λ|156=>235 |165=>265 |166=>266 |169=>267 |240=>305 |241=>306 |276=>324 |277=>325 |n=>n,λ|31=>126 |9=>9 |3=>3 |4=>4 |0=>0 |20=>20 |72=>335 |76=>336 |70=>333 |37=>42 |75=>143 |127=>362 |164=>377 |5=>5 |80=>312 |n=>n,λ|n=>n⟩
theorem YtfjlkobhagjdaaaGreatDoor.joinL:Go.Proofs.Lays.n156 Tryz.prog YtfjlkobhagjdaaaGreatDoor.joinL_ren:={
 mixed:=rK
 f156:=Tryz.func235.trans (congrArg some rK)
 f165:=Tryz.func265.trans (congrArg some rK)
 f166:=Tryz.func266.trans (congrArg some rK)
 f169:=Tryz.func267.trans (congrArg some rK)
 f240:=Tryz.func305.trans (congrArg some rK)
 f241:=Tryz.func306.trans (congrArg some rK)
 f276:=Tryz.func324.trans (congrArg some rK)
 f277:=Tryz.func325.trans (congrArg some rK)
 t0:=Tryz.underlying0
 a0:=Tryz.isAgg0
 z0:=Tryz.sizeOf0
 v0:=Tryz.zeroValue0
 t3:=Tryz.underlying3
 a3:=Tryz.isAgg3
 z3:=Tryz.sizeOf3
 v3:=Tryz.zeroValue3
 t4:=Tryz.underlying4
 a4:=Tryz.isAgg4
 z4:=Tryz.sizeOf4
 v4:=Tryz.zeroValue4
 t9:=Tryz.underlying9
 a9:=Tryz.isAgg9
 z9:=Tryz.sizeOf9
 v9:=Tryz.zeroValue9
 t20:=Tryz.underlying20
 a20:=Tryz.isAgg20
 z20:=Tryz.sizeOf20
 v20:=Tryz.zeroValue20
 t31:=Tryz.underlying126
 a31:=Tryz.isAgg126
 z31:=Tryz.sizeOf126
 v31:=Tryz.zeroValue126
 t37:=Tryz.underlying42
 a37:=Tryz.isAgg42
 z37:=Tryz.sizeOf42
 v37:=Tryz.zeroValue42
 t70:=Tryz.underlying333
 a70:=Tryz.isAgg333
 z70:=Tryz.sizeOf333
 v70:=Tryz.zeroValue333
 t72:=Tryz.underlying335
 a72:=Tryz.isAgg335
 z72:=Tryz.sizeOf335
 v72:=Tryz.zeroValue335
 t75:=Tryz.underlying143
 a75:=Tryz.isAgg143
 z75:=Tryz.sizeOf143
 v75:=Tryz.zeroValue143
 t76:=Tryz.underlying336
 a76:=Tryz.isAgg336
 z76:=Tryz.sizeOf336
 v76:=Tryz.zeroValue336
 t127:=Tryz.underlying362
 a127:=Tryz.isAgg362
 z127:=Tryz.sizeOf362
 v127:=Tryz.zeroValue362
 t164:=Tryz.underlying377
 a164:=Tryz.isAgg377
 z164:=Tryz.sizeOf377
 v164:=Tryz.zeroValue377}
end Go.Proofs
namespace Go.Proofs.YtfjlkobhagjdaaaGreatDoor
open Go Go.Vc Go.Proofs
section
variable {w:World} {K:oK} {F G:Nat->Prop}
theorem dw_nil {α:Type} {p:α->Bool}:∀{l:List α},l.dropWhile p=[]↔ ∀x,x∈l->p x=true
 |[]=>by simp
 |a::l=>by
  rw[Pz];split
  .rename_i h;rw[dw_nil];constructor
   .intro b x c;rcases gi.1 c with rfl|c
    .exact h
    .exact b x c
   .intro b x c;exact b x (gp _ c)
  .rename_i h;constructor
   .intro b;cases b
   .intro b;exact absurd (b a gm) h
theorem dw_head {α:Type} {p:α->Bool}:∀{l:List α},l.dropWhile p≠[]->∃x,x∈l.dropWhile p/\p x=false
 |[],h=>absurd rfl h
 |a::l,h=>by
  rw[Pz] at h⊢;split
  .rename_i b;rw[k6 b] at h;exact dw_head h
  .rename_i b;exact⟨a,gm,by simpa using b⟩
theorem dw_sub {α:Type} {p:α->Bool}:∀{l:List α} {x:α},x∈l.dropWhile p->x∈l
 |[],_,h=>h
 |a::l,x,h=>by
  rw[Pz] at h;split at h
  .exact gp _ (dw_sub h)
  .exact h
theorem ke0 {l cs:List UInt8}:Lib.trimS l cs=[]↔ ∀x,x∈l->cs.contains x=true:=by
 unfold Lib.trimS Lib.trimLeftS Lib.trimRightS;rw[dw_nil];constructor
 .intro h;by_cases a:∀x,x∈l->cs.contains x=true
  .exact a
  .exfalso;have b:List.dropWhile (λx=>cs.contains x) l.reverse≠[]:=λe=>a λx c=>dw_nil.1 e x (Pl.2 c);obtain⟨y,g,f⟩:=dw_head b;have d:=h y (Pl.2 g);rw[f] at d;cases d
 .intro h x c;exact h x (Pl.1 (dw_sub (Pl.1 c)))
def abc:ByteArray:=⟨#[97,98,99,100,101,102,103,104,105,106,107,108,109,110,111,112,113,114,115,116,117,118,119,120,121,122]⟩
theorem abc_in (x:UInt8):abc.data.toList.contains x=(decide (97<=x.toNat)&&decide (x.toNat<=122)):=by
 have a:∀n:Fin 256,abc.data.toList.contains (UInt8.ofNat n.1)=(decide (97<=(UInt8.ofNat n.1).toNat)&&decide ((UInt8.ofNat n.1).toNat<=122)):=by decide+kernel
 have:=a ⟨x.toNat,x.toNat_lt⟩;simpa using this
theorem y60 {w w':World} (h:Go.RowKit.Below w.heap.size w w'):Ext w w':=⟨h.os,h.tape,h.output,h.size,λb a _=>h.block b a⟩
def zM0 (s:ByteArray):Bool:=s.data.all λc=>decide (97<=c.toNat)&&decide (c.toNat<=122)
theorem jw0 {s:ByteArray} (hs:s.size<=9223372036854775807) (f:∀w' r,Ext w w'->(r=⟨#[]⟩↔zM0 s=true)->K (.string r) w'):vcall KI #[.string s,.string abc] w K:=by
 refine⟨rK,?_⟩;refine(Any.strings_Trim_laid YtfjlkobhagjdaaaGreatDoor.trimL rK s abc w hs dC (ascii_of_all dC)).mono ?_;rintro e w' ⟨rfl,g⟩;refine f w' _ (y60 g) ?_;have c:((⟨(Lib.trimS s.data.toList abc.data.toList).toArray⟩:ByteArray)=⟨#[]⟩)↔Lib.trimS s.data.toList abc.data.toList=[]:=by
  constructor
  .intro h;have d:=congrArg (λb:ByteArray=>b.data.toList) h;simpa using d
  .intro h;rw[h]
 rw[c,ke0];unfold zM0;rw[pk];constructor
 .intro h x a;rw[<-abc_in];exact h x (pN.2 a)
 .intro h x a;rw[abc_in];exact h x (pN.1 a)
theorem stDecl {b:Nat} {x y:Value} {t:TypeId} {s:ByteArray} {n:Int} (h:Blk w b [x,y] t) (c:∀w',Same (· =b) w w'->w'.heap.size=w.heap.size->Blk w' b [.string s,nI n] t->K undef w'):zW xq (oP b 0) (.agg ⟨[.string s,nI n]⟩) w K:=
 h.stAgg rfl rK (by intro v a;simp only[gi,gz,Gh] at a;rcases a with rfl|rfl<;>rfl) c
theorem ZD (s:ByteArray):M.nameOk s=(decide (1<=s.size)&&decide (s.size<=4)&&decide (s≠M.tru)&&zM0 s):=rfl
theorem DeclOk_spec {v:Value} {ds:List M.Dcl} (N:DclsR F w v ds) (D:∀w',Ext w w'->K (.bool (M.declOk ds)) w'):vcall U4 #[v] w K:=by
 refine zf {loops:=[(5,[3,11])],cuts:=[(32777,[])]} Tryz.func67 ?_;simp only[push_cast,N.len];refine zb (λa=>?_) (λa=>?_)
 .have:=D w (Same.refl _ _);rwa[show M.declOk ds=false from by rw[GQ];intro h;have:=(M.decl_iff.1 h).1;omega] at this
 refine vloop_up ds.length (λi u w'=>u=[nI (M.bitT ds i),nI i]/\Ext w w'/\(∀j,j<i->M.dclOk ds j=true)/\ -4*(i:Int)<=M.bitT ds i/\M.bitT ds i<=4*i) ⟨rfl,Same.refl _ _,oM,by simp[M.bitT],by simp[M.bitT]⟩ ?_;rintro i _ _ w1 C hi ⟨rfl,o,q,a0,a1⟩ hC;have E:=N.ext o;refine oZ ?_;refine zb (λb=>?_) (λb=>?_)
 .have z:i<ds.length:=oM;have d:M.dclOk ds i=false->∀w',Ext w w'->K (.bool false) w':=λe w' he=>by
   have:=D w' he;rwa[show M.declOk ds=false from by rw[GQ];intro h;have:=(M.decl_iff.1 h).2.1 i z;rw[e] at this;cases this] at this
  unfold M.dclOk at d;rw[ZD] at d;simp(disch:=exact oS) only[push_cast,E.iaddr,E.load];obtain⟨s,n,B⟩:∃s n,ds.getD i xc0=(s,n):=⟨_,_,rfl⟩;simp only[B] at d⊢;refine zj xZ λb1 w2 U O a4 W=>?_;refine stDecl W λw3 R _ S=>?_;have a6:=o.size;have k:Ext w w3:=Ext.then (o.trans O) R λy hy=>by subst hy;omega
  refine zp (λu w'=>u=[]/\Ext w3 w'/\M.nameOk s=true) (λC' L=>?_) ?_
  .simp(disch:=exact oS) only[push_cast,S.ld0,Xp kT];refine zb (λc=>?_) (λc=>?_)
   .exact d (by rw[gg (show¬1<=s.size by omega)];simp) _ k
   refine zb (λc2=>?_) (λc2=>?_)
   .exact d (by rw[gg (show¬s.size<=4 by omega)];simp) _ k
   refine zb (λc3=>?_) (λc3=>?_)
   .exact d (by rw[show decide (s≠M.tru)=false from gg (λh=>h c3)];simp) _ k
   refine jw0 oM λw4 r l V=>?_;refine oZ ?_;refine zb (λI=>?_) (λI=>?_)
   .have:zM0 s=false:=by
     rw[GQ];exact λh=>I (V.2 h)
    exact d (by rw[this];simp) _ (k.trans l)
   .have J:r=⟨#[]⟩:=by
     by_cases h:r=⟨#[]⟩
     .exact h
     .exact absurd h I
    refine L _ _ ⟨rfl,l,?_⟩;rw[ZD,gk (show 1<=s.size by omega),gk (show s.size<=4 by omega),show decide (s≠M.tru)=true from gk c3,V.1 J];rfl
  .rintro u g w4 ⟨rfl,l,A⟩;have T:=S.ext l;have f:=k.trans l;have G:=N.ext f;rw[ZD] at A;rw[A] at d;rw[G.cut (by intro e;subst e;simp at z) rK oM];refine oZ ?_;have a3:(ds.take i).length=i:=by rw[gl];omega
   refine QQ (p:=λj=>decide (((ds.take i).getD j xc0).1=s)) (G.taken oM) (λj hj=>?_) λw5 m=>?_
   .intro w' K he D;refine oZ ?_;refine zf {} Tryz.func97 ?_;refine zk λb3 w6 a2 H a5 Y=>?_;have Z:=(T.ext he).ext H;simp(disch:=exact oS) only[push_cast,Y.ld0,Z.ld0];exact D _ H
   .rw[<-Xf];have X:=T.ext m;have efd:idxI (ds.take i).length (λj=>decide (((ds.take i).getD j xc0).1=s))=M.findD (ds.take i) s:=rfl;rw[efd];refine zb (λc=>?_) (λc=>?_)
    .exact d (by rw[gg (show¬M.findD (ds.take i) s<0 by omega)];simp) _ (f.trans m)
    simp(disch:=exact oS) only[push_cast,X.ld1];refine zb (λc1=>?_) (λc1=>?_)
    .exact d (by rw[gg (show¬1<=n by omega)];simp) _ (f.trans m)
    refine zb (λc2=>?_) (λc2=>?_)
    .exact d (by rw[gg (show¬n<=4 by omega)];simp) _ (f.trans m)
    have t:=M.bitT_succ z;rw[show ds.getD i (M.nada,0)=(s,n) from B] at t;rw[zl (x:=M.bitT ds i+n) oM oM,inc64' oM,show M.bitT ds i+n=M.bitT ds (i+1) from t.symm];refine hC oM _ _ ⟨rfl,f.trans m,λj hj=>?_,oM,oM⟩;by_cases e:j=i
    .subst e;unfold M.dclOk;rw[show ds.getD j (M.nada,0)=(s,n) from B,ZD,A];simp only[pJ,gj,X0];exact⟨⟨oM,oM⟩,oM⟩
    .exact q j oM
 .have Q:i=ds.length:=oM;subst Q;have:=D w1 o;rw[M.bitT_all];have e:M.declOk ds=decide (M.bits ds<=8):=by
   rw[PY,M.decl_iff,X0];exact⟨λh=>h.2.2,λh=>⟨oM,q,h⟩⟩
  rwa[e] at this
theorem TermSort_spec {dv v:Value} {ds:List M.Dcl} {t:M.Tm} (r:DclsR F w dv ds) (z:TermR G w v t) (q:∀w',Ext w w'->K (nI (M.tsort ds t)) w'):vcall K7 #[dv,v] w K:=by
 refine zf {} Tryz.func37 ?_;obtain⟨cs,rfl,c⟩:=z.cells;refine zk λb1 w1 u g y n=>?_;rw[n.ldAgg (t:=za) (by rw[zS c];exact zc)];refine TermMany_spec (c.ext g).term λw2 i=>?_;refine oZ ?_;have e:=g.trans i;refine DeclOk_spec (r.ext e) λw3 j=>?_;have f:=e.trans j;have m:=q w3 f;unfold M.tsort at m;refine oZ ?_;refine zn (λa=>?_) (λa=>?_)
 .rwa[y3 (λh=>by rw[h.2] at a;cases a)] at m
 .rw[Gb] at a;refine zb (λb=>?_) (λb=>?_)
  .rw[y3 (λh=>by
    have n:=M.fits_iff.1 h.1;unfold M.manyM at b;rw[k6 h.1] at b;omega)] at m
   exact m
  .have x:M.fits t=true:=by
    by_cases h:M.fits t=true
    .exact h
    .unfold M.manyM at b;rw[y3 h] at b;omega
   refine zd λB k _=>?_;have p:=((n.ext i).ext j).ext k;rw[p.ldAgg (t:=za) (by rw[zS c];exact zc)];refine⟨rfl,VZ λC mb l hm=>?_⟩;have s:=p.ext l;rw[s.ldAgg (t:=za) (by rw[zS c];exact zc)];have d:=(f.trans k).trans l;refine⟨⟨rfl,rfl⟩,sortOf_spec t hm (r.ext d) a (c.ext d).term λA o=>?_⟩;have:=q A (d.trans o);unfold M.tsort at this;rwa[k6 ⟨x,a⟩] at this
end
section
variable {w:World} {K:oK} {F G:Nat->Prop}
theorem l2Name_spec {s:ByteArray} (hs:s.size<=9223372036854775807) (d:K (.bool (M.nameOk s)) w):vcall WE #[.string s] w K:=by
 refine zf {loops:=[(2,[3])]} Tryz.func73 ?_;rw[ZD] at d;refine vloop_up s.size (λi u w'=>u=[nI i]/\w'=w/\∀j,j<i->(decide (97<=(s.data.getD j 0).toNat)&&decide ((s.data.getD j 0).toNat<=122))=true) ⟨rfl,rfl,oM⟩ ?_;rintro i _ _ w1 C hi ⟨rfl,rfl,g⟩ o;simp(disch:=exact oS) only[push_cast,Xp kT];have l:i<s.size->(decide (97<=(s.data.getD i 0).toNat)&&decide ((s.data.getD i 0).toNat<=122))=false->zM0 s=false:=λf h=>by
  rw[GQ];intro k;unfold zM0 at k;rw[pk] at k;have m:i<s.data.size:=f;have:=k (s.data.getD i 0) (by rw[gP,Gw m];exact Array.getElem_mem m);rw[h] at this;cases this
 refine zb (λa=>?_) (λa=>?_)
 .have f:i<s.size:=oM;rw[vindex_str kT oM oM,gq];refine oZ ?_;refine zb (λb=>?_) (λb=>?_)
  .rw[l f (by rw[gg (show¬97<=(s.data.getD i 0).toNat by omega)];rfl),pz] at d;exact d
  rw[vindex_str kT oM oM,gq];refine oZ ?_;refine zb (λc=>?_) (λc=>?_)
  .rw[l f (by rw[gg (show¬(s.data.getD i 0).toNat<=122 by omega)];simp),pz] at d;exact d
  rw[inc64' oM];refine o f _ _ ⟨rfl,rfl,λj n=>?_⟩;by_cases e:j=i
  .subst e;simp only[gj,X0];omega
  .exact g j oM
 .have p:i=s.size:=oM;have k:zM0 s=true:=by
   unfold zM0;rw[pk];intro x q;obtain⟨j,n,rfl⟩:=Array.getElem_of_mem q;have:=g j (by have:s.data.size=s.size:=rfl;omega);rwa[gP,Gw n] at this
  rw[k,Pq] at d
  try simp(disch:=exact oS) only[push_cast,Xp kT]
  refine zb (λb=>?_) (λb=>?_)
  .refine zb (λc=>?_) (λc=>?_)
   .rw[gk (show 1<=s.size by omega),gk (show s.size<=4 by omega)] at d;exact d
   .rw[gg (show¬s.size<=4 by omega)] at d;simpa using d
  .rw[gg (show¬1<=s.size by omega)] at d;simpa using d
theorem l2Find_spec {v:Value} {ds:List M.Dcl} {s:ByteArray} (f:DclsR F w v ds) (d:K (nI (M.findD ds s)) w):vcall WF #[v,.string s] w K:=by
 refine zf {loops:=[(2,[5])]} Tryz.func74 ?_;have k:=f.small;refine vloop_up ds.length (λi u w'=>u=[nI i]/\w'=w/\∀j,j<i->(ds.getD j xc0).1≠s) ⟨rfl,rfl,oM⟩ ?_;rintro i _ _ w1 C hi ⟨rfl,rfl,c⟩ g;simp only[push_cast,f.len];refine zb (λa=>?_) (λa=>?_)
 .try simp(disch:=exact oS) only[push_cast,f.iaddr]
  try simp(disch:=exact oS) only[push_cast,f.load0]
  refine zb (λb=>?_) (λb=>?_)
  .rw[M.findD_of oM b c] at d;exact d
  .rw[inc64' oM];refine g oM _ _ ⟨rfl,rfl,λj h=>?_⟩;by_cases e:j=i
   .subst e;exact b
   .exact c j oM
 .rw[M.findD_none (λj h=>c j oM)] at d;exact d
theorem spec_DeclOk_spec {v:Value} {ds:List M.Dcl} (E:DclsR F w v ds) (D:∀i,i<ds.length->(ds.getD i xc0).1.size<=9223372036854775807) (A:∀w',Ext w w'->K (.bool (M.declOk ds)) w'):vcall WN #[v] w K:=by
 refine zf {loops:=[(5,[3,4])]} Tryz.func42 ?_;simp only[push_cast,E.len];refine zb (λa=>?_) (λa=>?_)
 .have:=A w (Same.refl _ _);rwa[show M.declOk ds=false from by rw[GQ];intro h;have:=(M.decl_iff.1 h).1;omega] at this
 refine vloop_up ds.length (λi u w'=>u=[nI (M.bitT ds i),nI i]/\Ext w w'/\(∀j,j<i->M.dclOk ds j=true)/\ -4*(i:Int)<=M.bitT ds i/\M.bitT ds i<=4*i) ⟨rfl,Same.refl _ _,oM,by simp[M.bitT],by simp[M.bitT]⟩ ?_;rintro i _ _ w1 C hi ⟨rfl,p,m,H,I⟩ G;have r:=E.ext p;simp only[push_cast,r.len];refine zb (λb=>?_) (λb=>?_)
 .have g:i<ds.length:=oM;have f:M.dclOk ds i=false->∀w',Ext w w'->K (.bool false) w':=λe w' he=>by
   have:=A w' he;rwa[show M.declOk ds=false from by rw[GQ];intro h;have:=(M.decl_iff.1 h).2.1 i g;rw[e] at this;cases this] at this
  unfold M.dclOk at f;refine zd λw2 t _=>?_;have d:=r.ext t;have k:=p.trans t;simp(disch:=exact oS) only[push_cast,d.iaddr,y4];simp(disch:=exact oS) only[push_cast,d.load0,d.load1,y4];have y:=D i g;have o:=M.bitT_succ g;obtain⟨s,n,l⟩:∃s n,ds.getD i xc0=(s,n):=⟨_,_,rfl⟩;rw[show ds.getD i (M.nada,0)=(s,n) from l] at o;simp only[l] at f y⊢;refine l2Name_spec y ?_;simp only[push_cast,y4];refine zn (λc=>?_) (λc=>?_)
  .exact f (by rw[show M.nameOk s=false by simpa using c];simp) _ k
  rw[Gb] at c;rw[c] at f;have ecut:∀(w:World) (K:oK),xr xA v none (some (nI (i:Int))) none w K=K (cutV v i) w:=λw K=>d.cut (by intro e;subst e;simp at g) rK oM;have z:∀(K:oK),zt yH (.pointer (some ((eaddr v 2 i).add 0))) w2 K=K (.string s) w2:=λK=>(by rw[d.load0 kp0 g,l]);have q:∀(K:oK),zt zU (.pointer (some ((eaddr v 2 i).add 1))) w2 K=K (nI n) w2:=λK=>by rw[d.load1 Wg g,l]
  try simp(disch:=exact oS) only[push_cast,d.iaddr,y4]
  try simp(disch:=exact oS) only[push_cast,d.iaddr,z,q,ecut,y4]
  refine zb (λc1=>?_) (λc1=>?_)
  .exact f (by rw[gg (show¬1<=n by omega)];simp) _ k
  refine zb (λc2=>?_) (λc2=>?_)
  .exact f (by rw[gg (show¬n<=4 by omega)];simp) _ k
  refine l2Find_spec (d.taken oM) ?_;simp only[push_cast,y4];refine zb (λc3=>?_) (λc3=>?_)
  .exact f (by rw[gg (show¬M.findD (ds.take i) s<0 by omega)];simp) _ k
  try simp(disch:=exact oS) only[push_cast,d.iaddr]
  try simp(disch:=exact oS) only[push_cast,q]
  rw[zl (x:=M.bitT ds i+n) oM oM,inc64' oM,show M.bitT ds i+n=M.bitT ds (i+1) from o.symm];refine G oM _ _ ⟨rfl,k,λj J=>?_,oM,oM⟩;by_cases e:j=i
  .subst e;unfold M.dclOk;rw[show ds.getD j (M.nada,0)=(s,n) from l,c];simp only[pJ,gj,X0];exact⟨⟨oM,oM⟩,oM⟩
  .exact m j oM
 .have B:i=ds.length:=oM;subst B;have:=A w1 p;rw[M.bitT_all];have e:M.declOk ds=decide (M.bits ds<=8):=by
   rw[PY,M.decl_iff,X0];exact⟨λh=>h.2.2,λh=>⟨oM,m,h⟩⟩
  rwa[e] at this
theorem spec_TermMany_spec:∀(t:M.Tm) {w:World} {K:oK} {F:Nat->Prop} {v:Value},TermR F w v t->(∀w',Ext w w'->K (.tuple #[nI (M.manyM t),nI (M.lvlM t)]) w')->vcall JU #[v] w K:=by
 refine M.Tm.ind λt ih w K F v ht R=>?_;refine zf {loops:=[(4,[4,5,6])],cuts:=[(20486,[])]} Tryz.func63 ?_;obtain⟨ksv,rfl,y⟩:=ht;refine zk λb1 w1 S B a1 O=>?_;have a2:=y.small;have hS:=M.szT_all t;have hD:=M.dpT_all t;have k:M.fits t=true↔M.sizeM t<=20/\M.deepM t<=7:=M.fits_iff;refine vloop_up t.ks.length (λi u w'=> ∃n d:Nat,u=[nI n,nI d,nI i]/\Ext w1 w'/\n<=41/\d<=8/\(1+M.szT t.ks i<=20/\M.dpT t.ks i<=7->n=1+M.szT t.ks i/\d=M.dpT t.ks i)/\(¬(1+M.szT t.ks i<=20/\M.dpT t.ks i<=7)->20<n\/7<d))
  ⟨1,0,rfl,Same.refl _ _,oM,oM,λh=>⟨rfl,rfl⟩,λh=>by
   have I:M.szT t.ks 0=0:=rfl;have e2:M.dpT t.ks 0=0:=rfl;omega⟩ ?_
 rintro i _ _ w2 C hi ⟨n,d,rfl,o,c1,c2,c3,H⟩ Q;have J:=O.ext o;have L:=B.trans o;have l:=y.ext L;have V:=M.szT_mono (ks:=t.ks) (i:=i) (j:=t.ks.length) oM (gu _);have W:=M.dpT_mono (ks:=t.ks) (i:=i) (j:=t.ks.length) oM (gu _);have I:IntKind.i64.wrap ((d:Int)+1)=((d+1:Nat):Int):=inc64' oM;have m:(20<n\/i=t.ks.length)->∀q,(q=K)->vif (.bool (decide ((20:Int)<n))) (q (.tuple #[nI 21,nI 8]) w2) (vif (.bool (decide ((7:Int)<((d+1:Nat):Int)))) (q (.tuple #[nI 21,nI 8]) w2) (q (.tuple #[nI (n:Int),nI ((d+1:Nat):Int)]) w2)):=by
  rintro a0 q rfl;have p:=R w2 L;unfold M.manyM M.lvlM at p;have c:(20<n\/7<d+1)->¬(M.fits t=true):=λh T=>by
   have N:=k.1 T;have:=c3 oM;omega
  refine zb (λa=>?_) (λa=>?_)
  .rw[y3 (c oM),y3 (c oM)] at p;exact p
  refine zb (λb=>?_) (λb=>?_)
  .rw[y3 (c oM),y3 (c oM)] at p;exact p
  .have E:i=t.ks.length:=oM;subst E;have r:M.sizeM t<=20/\M.deepM t<=7:=by
    by_cases h:1+M.szT t.ks t.ks.length<=20/\M.dpT t.ks t.ks.length<=7
    .have:=c3 h;omega
    .have:=H h;omega
   have h3:=c3 oM;rw[k6 (k.2 r),k6 (k.2 r)] at p;rw[show n=M.sizeM t by omega,show d+1=M.deepM t by omega];exact p
 refine zp (λu w'=>u=[]/\w'=w2/\i<t.ks.length/\n<=20) (λC' z=>?_) ?_
 .simp only[push_cast,J.ld4,l.len,I];refine zb (λa=>?_) (λa=>?_)
  .refine zb (λb=>?_) (λb=>?_)
   .exact z _ _ ⟨rfl,rfl,oM,oM⟩
   .exact m (.inl oM) K rfl
  .exact m (.inr oM) K rfl
 .rintro u g w3 ⟨rfl,rfl,U,hn⟩;have X:=M.szT_succ (ks:=t.ks) (i:=i) oM;have Y:=M.dpT_succ (ks:=t.ks) (i:=i) oM;have Z:=M.szT_mono (ks:=t.ks) (i:=i+1) (j:=t.ks.length) oM (gu _);simp(disch:=exact oS) only[push_cast,J.ld4,l.iaddr];refine l.load zc oM λx N=>?_;refine ih _ (M.getD_mem oM _) N λw4 D=>?_;have f:=M.fits_iff (t:=t.ks.getD i default);have G:M.manyM (t.ks.getD i default)<=21:=by
   unfold M.manyM;split
   .have:=f.1 (by assumption);omega
   .omega
  have A:M.lvlM (t.ks.getD i default)<=8:=by
   unfold M.lvlM;split
   .have:=f.1 (by assumption);omega
   .omega
  have e:M.sizeM (t.ks.getD i default)<=20/\M.deepM (t.ks.getD i default)<=7->M.manyM (t.ks.getD i default)=M.sizeM (t.ks.getD i default)/\M.lvlM (t.ks.getD i default)=M.deepM (t.ks.getD i default):=λh=>by
   unfold M.manyM M.lvlM;rw[k6 (f.2 h),k6 (f.2 h)];exact⟨rfl,rfl⟩
  have c: ¬(M.sizeM (t.ks.getD i default)<=20/\M.deepM (t.ks.getD i default)<=7)->M.manyM (t.ks.getD i default)=21/\M.lvlM (t.ks.getD i default)=8:=λh=>by
   unfold M.manyM M.lvlM;rw[y3 (λx=>h (f.1 x)),y3 (λx=>h (f.1 x))];exact⟨rfl,rfl⟩
  generalize M.manyM (t.ks.getD i default)=nk at G e c⊢;generalize M.lvlM (t.ks.getD i default)=dk at A e c⊢;refine oZ ?_;refine l1Max_spec ?_
  try simp only[push_cast]
  rw[inc64' oM,zl (x:=(n:Int)+nk) oM oM,show(n:Int)+(nk:Int)=((n+nk:Nat):Int) by omega,show max (d:Int) (dk:Int)=((max d dk:Nat):Int) by omega];refine Q oM _ _ ⟨n+nk,max d dk,rfl,o.trans D,oM,oM,λh=>?_,λh=>?_⟩
  .have:=c3 oM;have:=e oM;omega
  .by_cases r:M.sizeM (t.ks.getD i default)<=20/\M.deepM (t.ks.getD i default)<=7
   .have h5:=e r;by_cases s:1+M.szT t.ks i<=20/\M.dpT t.ks i<=7
    .have:=c3 s;omega
    .have:=H s;omega
   .have:=c r;omega
end
section
variable {w:World} {K:oK} {F G:Nat->Prop}
theorem l2Arity_spec {o:Int} (h:K (nI (M.arity o)) w):vcall KY #[nI o] w K:=by
 refine zf {cuts:=[(12293,[4])]} Tryz.func116 ?_;have f:∀c,M.arity o=c->K (nI c) w:=λc e=>e▸h;refine zp (λu w'=>u=[.bool (decide (o=20\/o=21\/o=24))]/\w'=w) (λC d=>?_) ?_
 .refine oZ ?_;refine zb (λa=>?_) (λa=>?_)
  .exact d _ _ ⟨by rw[gk a,gk (.inl a)],rfl⟩
  refine zb (λb=>?_) (λb=>?_)
  .exact d _ _ ⟨by rw[gk b,gk (.inr (.inl b))],rfl⟩
  .refine d _ _ ⟨?_,rfl⟩;by_cases c:o=24
   .rw[gk c,gk (.inr (.inr c))]
   .rw[gg c,gg oM]
 .rintro u g w1 ⟨rfl,rfl⟩;simp only[push_cast]
  repeat' first
   |exact f _ (by
    unfold M.arity;repeat' split
    all_goals omega)
   |refine zb (λ_=>?_) (λ_=>?_)
theorem zQ0 {v:Value} {t:M.Tm} (A:TermR F w v t) (p:∀w',Ext w w'->K (.bool (M.formed t)) w'):vcall KX #[v] w K:=by
 refine zf {cuts:=[(8195,[]),(16389,[])]} Tryz.func90 ?_;obtain⟨ksv,rfl,o⟩:=A;refine zk λb1 w1 y j z l=>?_;have q:=p _ j;have f:M.plainM t=false->K (.bool false) w1:=λh=>by
  unfold M.formed at q;rwa[h,pz] at q
 unfold M.plainM at f;refine zp (λu w'=>u=[]/\w'=w1/\(decide (t.op=21)||decide (t.s=M.nada))=true) (λC m=>?_) ?_
 .simp only[push_cast,l.ld0,l.ld3];refine zb (λa=>?_) (λa=>?_)
  .refine zb (λb=>?_) (λb=>?_)
   .exact f (by rw[gg a,show decide (t.s=M.nada)=false from gg b];simp)
   .exact m _ _ ⟨rfl,rfl,by rw[show decide (t.s=M.nada)=true from gk (G8.1 b)];simp⟩
  .exact m _ _ ⟨rfl,rfl,by rw[gk (G8.1 a)];simp⟩
 rintro u g w2 ⟨rfl,rfl,r⟩;rw[r,Pq] at f;refine zp (λu w'=>u=[]/\w'=w2/\(decide (t.op=20)||decide (t.op=22)||(decide (t.a=0)&&decide (t.b=0)))=true) (λC m=>?_) ?_
 .simp only[push_cast,l.ld0,l.ld1,l.ld2];refine zb (λa=>?_) (λa=>?_)
  .refine zb (λb=>?_) (λb=>?_)
   .refine zb (λc=>?_) (λc=>?_)
    .exact f (by rw[gg a,gg b,gg c];simp)
    refine zb (λd=>?_) (λd=>?_)
    .exact f (by rw[gg a,gg b,gg d];simp)
    .exact m _ _ ⟨rfl,rfl,by rw[gk (G8.1 c),gk (G8.1 d)];simp⟩
   .exact m _ _ ⟨rfl,rfl,by rw[gk (G8.1 b)];simp⟩
  .exact m _ _ ⟨rfl,rfl,by rw[gk (G8.1 a)];simp⟩
 rintro u g w3 ⟨rfl,rfl,hm⟩;refine zd λB k _=>?_;have n:=l.ext k;have i:=o.ext (j.trans k);simp only[push_cast,n.ld0,n.ld4,i.len,y4];refine l2Arity_spec ?_;simp only[push_cast,n.ld4,i.len,y4,gh];have:=p _ (j.trans k);have e:M.formed t=decide ((t.ks.length:Int)=M.arity t.op):=by
  unfold M.formed M.plainM;rw[hm,r];simp only[Pq];by_cases h:M.arity t.op=t.ks.length
  .rw[gk h,gk h.symm]
  .rw[gg h,gg (λx=>h x.symm)]
 rwa[e] at this
theorem l2One_spec {v:Value} {t:M.Tm} {a:Int} (q:TermR F w v t) (r: -1<=a/\a<=4) (m:∀w',Ext w w'->K (nI (M.oneM t a)) w'):vcall zx0 #[v,nI a] w K:=by
 refine zf {cuts:=[(8194,[5]),(16388,[13]),(28679,[40])]} Tryz.func92 ?_;obtain⟨ksv,rfl,o⟩:=q;refine zk λb1 w1 n l p j=>?_;have k:∀c,M.oneM t a=c->K (nI c) w1:=λc e=>e▸m _ l;unfold M.oneM at k;refine zp (λu w'=>u=[.bool (decide (t.op=25/\a=0))]/\w'=w1) (λC i=>?_) ?_
 .simp only[push_cast,j.ld0];refine zb (λb=>?_) (λb=>?_)
  .refine i _ _ ⟨?_,rfl⟩;simp only[b,y4]
  .exact i _ _ ⟨by rw[gg (λh=>b h.1)],rfl⟩
 rintro u g w2 ⟨rfl,rfl⟩;refine oZ ?_;refine zb (λb=>?_) (λb=>?_)
 .exact k _ (by rw[k6 b.1,k6 b.2])
 refine zp (λu w'=>u=[.bool (decide (t.op=25\/a<1))]/\w'=w2) (λC i=>?_) ?_
 .simp only[push_cast,j.ld0];refine zb (λc=>?_) (λc=>?_)
  .exact i _ _ ⟨by rw[gk (.inl c)],rfl⟩
  .refine i _ _ ⟨?_,rfl⟩;simp only[c,false_or]
 rintro u g w3 ⟨rfl,rfl⟩;refine oZ ?_;refine zb (λc=>?_) (λc=>?_)
 .exact k _ (by
   repeat' split
   all_goals omega)
 simp only[push_cast,j.ld0];refine zb (λd=>?_) (λd=>?_)
 .refine zp (λu w'=>u=[.bool (decide (0<=t.b/\t.b<=t.a/\t.a<a))]/\w'=w3) (λC i=>?_) ?_
  .simp only[push_cast,j.ld1,j.ld2];refine zb (λe=>?_) (λe=>?_)
   .refine zb (λf=>?_) (λf=>?_)
    .refine i _ _ ⟨?_,rfl⟩;simp only[e,f,y4]
    .exact i _ _ ⟨by rw[gg (λh=>f h.2.1)],rfl⟩
   .exact i _ _ ⟨by rw[gg (λh=>e h.1)],rfl⟩
  rintro u g s ⟨rfl,rfl⟩;refine oZ ?_;refine zb (λe=>?_) (λe=>?_)
  .simp only[push_cast,j.ld1,j.ld2];rw[zl (x:=t.a-t.b) oM oM,zl oM oM];exact k _ (by rw[y3 oM,y3 oM,k6 d,k6 e])
  .exact k _ (by rw[y3 oM,y3 oM,k6 d,y3 e])
 .exact k _ (by rw[y3 oM,y3 oM,y3 d])
theorem l2Both_spec {o a b:Int} (l: -1<=a/\a<=4) (k: -1<=b/\b<=4) (j:K (nI (M.bothM o a b)) w):vcall WH #[nI o,nI a,nI b] w K:=by
 refine zf {cuts:=[(12291,[8]),(24582,[21])]} Tryz.func93 ?_;have h:∀c,M.bothM o a b=c->K (nI c) w:=λc e=>e▸j;unfold M.bothM at h;refine zp (λu w'=>u=[.bool (decide (o=26\/o=27))]/\w'=w) (λC f=>?_) ?_
 .refine oZ ?_;refine zb (λc=>?_) (λc=>?_)
  .exact f _ _ ⟨by rw[gk (.inl c)],rfl⟩
  .refine f _ _ ⟨?_,rfl⟩;simp only[c,false_or]
 rintro u g w2 ⟨rfl,rfl⟩;refine oZ ?_;refine zb (λc=>?_) (λc=>?_)
 .repeat' first
   |exact h _ (by
    repeat' split
    all_goals omega)
   |refine zb (λ_=>?_) (λ_=>?_)
 refine zp (λu w'=>u=[.bool (decide (a<1\/b<1))]/\w'=w2) (λC f=>?_) ?_
 .try simp only[push_cast]
  refine zb (λd=>?_) (λd=>?_)
  .exact f _ _ ⟨by rw[gk (.inl d)],rfl⟩
  .refine f _ _ ⟨?_,rfl⟩;simp only[d,false_or]
 rintro u g w3 ⟨rfl,rfl⟩;have i:IntKind.i64.wrap (a+b)=a+b:=zl oM oM;simp only[push_cast,i]
 repeat' first
  |exact h _ (by
   repeat' split
   all_goals omega)
  |refine zb (λ_=>?_) (λ_=>?_)
theorem l2Sort_spec:∀(t:M.Tm) {w:World} {K:oK} {F G:Nat->Prop} {dv v:Value} {ds:List M.Dcl},DclsR F w dv ds->M.declOk ds=true->TermR G w v t->(∀w',Ext w w'->K (nI (M.sortM ds t)) w')->vcall WD #[dv,v] w K:=by
 refine M.Tm.ind λt U w K F G dv v ds O f ht W=>?_;refine zf {} Tryz.func64 ?_;obtain⟨ksv,rfl,u⟩:=ht;refine zk λb1 w1 X E Z V=>?_;have m:∀c w',M.sortM ds t=c->Ext w w'->K (nI c) w':=λc w' e he=>e▸W _ he;rw[V.ldAgg (t:=za) zc];refine zQ0 (F:=G) (t:=t) ⟨ksv,rfl,u.ext E⟩ λw2 H=>?_;have o:=E.trans H;have y:=V.ext H;refine oZ ?_;refine zn (λa=>?_) (λa=>?_)
 .exact m _ _ (M.sort_bad (by rw[Bool.not_eq_true];simpa using a)) o
 have A:M.formed t=true:=by simpa using a
 have j:=(M.formed_iff.1 A).1;have q:=O.ext o;simp only[push_cast,y.ld0];refine zb (λd=>?_) (λd=>?_)
 .have J:t.ks.length=0:=by rw[d] at j;simp[M.arity] at j;omega
  have hs:=M.sort_leaf (ds:=ds) A J;simp only[push_cast,y.ld1,y.ld2];refine spec_VecOk_spec λw3 k=>?_;have C:=y.ext k;refine zn (λb=>?_) (λb=>?_)
  .simp only[push_cast,C.ld1];exact m _ _ (by rw[hs];unfold M.sortK;rw[k6 d,k6 b]) (o.trans k)
  .exact m _ _ (by rw[hs];unfold M.sortK;rw[k6 d,b];rfl) (o.trans k)
 refine zb (λl=>?_) (λl=>?_)
 .have J:t.ks.length=0:=by rw[l] at j;simp[M.arity] at j;omega
  have hs:=M.sort_leaf (ds:=ds) A J;have Y:=M.findD_lt ds t.s;simp only[push_cast,y.ld3];refine l2Find_spec q ?_
  try simp only[push_cast]
  refine zb (λb=>?_) (λb=>?_)
  .exact m _ _ (by rw[hs];unfold M.sortK;rw[y3 d,k6 l,k6 b]) o
  .try simp(disch:=exact oS) only[push_cast,q.iaddr]
   try simp(disch:=exact oS) only[push_cast,q.load1]
   exact m _ _ (by rw[hs];unfold M.sortK;rw[y3 d,k6 l,y3 b]) o
 refine zb (λD=>?_) (λD=>?_)
 .have J:t.ks.length=0:=by rw[D] at j;simp[M.arity] at j;omega
  have hs:=M.sort_leaf (ds:=ds) A J;exact m _ _ (by rw[hs];unfold M.sortK;rw[y3 d,y3 l,k6 oM];rfl) o
 have hlen:t.ks.length=1\/t.ks.length=2\/t.ks.length=3:=by
  have h0:M.arity t.op≠0:=λh=>by have:=M.arity_zero h;omega
  have N:M.arity t.op<=3:=by
   unfold M.arity
   repeat' split
   all_goals omega
  omega
 have x:=u.ext o;simp(disch:=exact oS) only[push_cast,y.ld4,x.iaddr];refine x.load zc oM λx0 R=>?_;refine U (M.kid t 0) (M.kid_mem oM) q f R λw3 k=>?_;have C:=y.ext k;have p:=o.trans k;have g:=u.ext p;have L:=M.sort_range f (M.kid t 0);simp(disch:=exact oS) only[push_cast,C.ld4,g.len];refine zb (λl1=>?_) (λl1=>?_)
 .rw[C.ldAgg (t:=za) zc];refine l2One_spec (F:=G) (t:=t) ⟨ksv,rfl,g⟩ L λw4 r=>?_;exact m _ _ (M.sort_one f A oM) (p.trans r)
 simp(disch:=exact oS) only[push_cast,C.ld4,g.iaddr];refine g.load zc oM λx1 S=>?_;refine U (M.kid t 1) (M.kid_mem oM) (O.ext p) f S λw4 r=>?_;have N:=C.ext r;have i:=p.trans r;have n:=u.ext i;have Q:=M.sort_range f (M.kid t 1);simp(disch:=exact oS) only[push_cast,N.ld4,N.ld0,n.len];refine zb (λl2=>?_) (λl2=>?_)
 .refine l2Both_spec L Q ?_;exact m _ _ (M.sort_two f A oM) i
 have B:=M.sort_three (ds:=ds) A oM;refine zb (λz=>?_) (λz=>?_)
 .exact m _ _ (by rw[B,k6 (.inl z)]) i
 simp(disch:=exact oS) only[push_cast,N.ld4,n.iaddr];refine n.load zc oM λx2 T=>?_;refine U (M.kid t 2) (M.kid_mem oM) (O.ext i) f T λw5 I=>?_;refine oZ ?_;refine zb (λz2=>?_) (λz2=>?_)
 .exact m _ _ (by rw[B,k6 (.inr z2)]) (i.trans I)
 .exact m _ _ (by rw[B,y3 (λh=>h.elim z z2)]) (i.trans I)
def Jm (ds:List M.Dcl):Prop:=∀i,i<ds.length->(ds.getD i xc0).1.size<=9223372036854775807
theorem spec_TermSort_spec {dv v:Value} {ds:List M.Dcl} {t:M.Tm} (o:Jm ds) (q:DclsR F w dv ds) (x:TermR G w v t) (p:∀w',Ext w w'->K (nI (M.tsort ds t)) w'):vcall JS #[dv,v] w K:=by
 refine zf {} Tryz.func32 ?_;obtain⟨cs,rfl,e⟩:=x.cells;refine zk λb1 w1 s g u l=>?_;rw[l.ldAgg (t:=za) (by rw[zS e];exact zc)];refine spec_TermMany_spec t (e.ext g).term λw2 i=>?_;refine oZ ?_;have f:=g.trans i;refine spec_DeclOk_spec (q.ext f) o λw3 j=>?_;have d:=f.trans j;have k:=p w3 d;unfold M.tsort at k;refine oZ ?_;refine zn (λa=>?_) (λa=>?_)
 .rwa[y3 (λh=>by rw[h.2] at a;cases a)] at k
 rw[Gb] at a;refine zb (λb=>?_) (λb=>?_)
 .rw[y3 (λh=>by
   have l:=M.fits_iff.1 h.1;unfold M.manyM at b;rw[k6 h.1] at b;omega)] at k
  exact k
 have n:M.fits t=true:=by
  by_cases h:M.fits t=true
  .exact h
  .unfold M.manyM at b;rw[y3 h] at b;omega
 refine zb (λc=>?_) (λc=>?_)
 .unfold M.lvlM at c;rw[k6 n] at c;have:=M.fits_iff.1 n;omega
 have r:=(l.ext i).ext j;rw[r.ldAgg (t:=za) (by rw[zS e];exact zc)];refine l2Sort_spec t (q.ext d) a (e.ext d).term λy m=>?_;have:=p y (d.trans m);unfold M.tsort at this;rwa[k6 ⟨n,a⟩] at this
theorem Xe {b:Bool} (a:K (nI (M.b2i b)) w):vcall WI #[.bool b] w K:=by
 refine zf {} Tryz.func133 ?_;refine zn (λh=>?_) (λh=>?_)<;>subst h<;>exact a
def Zp0 (H:Nat->Prop) (w:World) (ev:Value) (env:List Int) (t:M.Tm):Prop:=Ints H w ev env\/nnB t=true
theorem qs {H:Nat->Prop} {ev:Value} {env:List Int} {t:M.Tm} {w w':World} (h:Zp0 H w ev env t) (he:Ext w w'):Zp0 H w' ev env t:=h.imp (λh=>h.ext he) id
theorem j9 {H:Nat->Prop} {ev:Value} {env:List Int} {t k:M.Tm} (h:Zp0 H w ev env t) (a:k∈t.ks):Zp0 H w ev env k:=h.imp id λh=>(nnB_iff.1 h).2 k a
theorem jf0 {H:Nat->Prop} {ev:Value} {env:List Int} {t:M.Tm} (h:Zp0 H w ev env t) (a:t.op=21):Ints H w ev env:=h.elim id λh=>absurd a (nnB_iff.1 h).1
def jz0 (t:M.Tm):Prop:=∀{w:World} {K:oK} {F G H:Nat->Prop} {dv v ev:Value} {ds:List M.Dcl} {env:List Int},DclsR F w dv ds->M.envOk ds env=true->TermR G w v t->Zp0 H w ev env t->M.sortM ds t≠ -1->(∀w',Ext w w'->K (nI (M.evalM ds env t)) w')->vcall WG #[dv,v,ev] w K
theorem l2Vec_spec {t:M.Tm} (B:jz0 t) {H:Nat->Prop} {dv v ev:Value} {ds:List M.Dcl} {env:List Int} (l:DclsR F w dv ds) (he:M.envOk ds env=true) (x:TermR G w v t) (z:Zp0 H w ev env t) (hs:M.sortM ds t≠ -1) (p:∀w',Ext w w'->K (xY (M.sortM ds t) (M.evalM ds env t)) w'):vcall zw0 #[dv,v,ev] w K:=by
 refine zf {} Tryz.func219 ?_;obtain⟨cs,rfl,c⟩:=x.cells;refine zk λb1 w1 q f s m=>?_;refine zj zX λb2 w2 r g u n=>?_;refine zd λw3 d _=>?_;have k:=(m.ext g).ext d;have b:=(f.trans g).trans d;have i:aggB za cs.length=true:=by rw[zS c];exact zc
 rw[k.ldAgg (t:=za) i];refine⟨rfl,?_⟩;rw[k.ldAgg (t:=za) i];refine⟨rfl,l2Sort_spec t (l.ext b) (M.env_ok he).1 (c.ext b).term λC e=>?_⟩;rw[(k.ext e).ldAgg (t:=za) i];have a:=b.trans e;refine⟨⟨rfl,rfl⟩,B (l.ext a) he (c.ext a).term (qs z a) hs λD h=>?_⟩;simp only[push_cast,y4];refine stVec (((n.ext d).ext e).ext h) λE j _ o=>?_;rw[o.lv rK];exact p _ (Ext.then (a.trans h) j λy A=>by subst A;have:=f.size;omega)
theorem l2Do_spec {t:M.Tm} (W:∀k,k∈t.ks->jz0 k) {H:Nat->Prop} {dv v ev:Value} {ds:List M.Dcl} {env:List Int} (T:DclsR F w dv ds) (he:M.envOk ds env=true) (ht:TermR G w v t) (V:Zp0 H w ev env t) (hs:M.sortM ds t≠ -1)
  (ho:(1<=t.op/\t.op<=17)\/t.op=22) (I:∀w',Ext w w'->K (nI (M.evalM ds env t)) w'):vcall yz0 #[dv,v,ev] w K:=by
 refine zf {} Tryz.func188 ?_;obtain⟨ksv,rfl,z⟩:=ht;have a3:1<=t.ks.length:=by
  rcases(by omega:t.op=22\/(t.op=1\/t.op=2)\/(3<=t.op/\t.op<=14)\/(15<=t.op/\t.op<=17)) with h|h|h|h
  .have:=(M.eval_cut he hs h).1;omega
  .have:=(M.eval_un he hs h).1;omega
  .have:=(M.eval_bin he hs h.1 h.2).1;omega
  .have:=(M.eval_cmp he hs h.1 h.2).1;omega
 refine zk λb1 w1 a0 f a7 L=>?_;have m:=z.ext f;simp(disch:=exact oS) only[push_cast,L.ld4,m.iaddr];refine m.load zc oM λx0 Q=>?_;refine l2Vec_spec (W (M.kid t 0) (M.kid_mem oM)) (T.ext f) he Q (j9 (qs V f) (M.kid_mem oM)) (M.good_kid hs oM) λw2 p=>?_;refine zj zX λb2 w3 a1 x a8 h3=>?_;refine stVec h3 λw4 C _ E=>?_;have aa:=f.size;have ab:=p.size;have b:Ext w w4:=Ext.then ((f.trans p).trans x) C λy l=>by subst l;omega
 have a4:=L.lt;have n:=((L.ext p).ext x).same C oM;simp only[push_cast,n.ld0];refine zb (λr=>?_) (λr=>?_)
 .obtain⟨hl,hv,d⟩:=M.eval_cut he hs r;simp only[push_cast,E.ldAgg (t:=zh) zr,n.ld1,n.ld2];refine spec_VecCut_spec λY a=>?_;refine oZ ?_;refine zj zX λb3 Z u c A s=>?_;refine stVec s λD e _ q=>?_;simp only[push_cast,q.ld1];have:=I D (Ext.then ((b.trans a).trans c) e λy l=>by subst l;have:=(b.trans a).size;omega);rwa[d] at this
 have g:=z.ext b;simp only[push_cast,n.ld4,g.len];refine zb (λl1=>?_) (λl1=>?_)
 .have j:t.op=1\/t.op=2:=by
   rcases(by omega:(t.op=1\/t.op=2)\/(3<=t.op/\t.op<=14)\/(15<=t.op/\t.op<=17)) with h|h|h
   .exact h
   .have:=(M.eval_bin he hs h.1 h.2).1;omega
   .have:=(M.eval_cmp he hs h.1 h.2).1;omega
  obtain⟨hl,hv,d⟩:=M.eval_un he hs j;simp only[push_cast,E.ldAgg (t:=zh) zr,n.ld0];refine spec_VecUn_spec λY a=>?_;refine oZ ?_;refine zj zX λb3 Z u c A s=>?_;refine stVec s λD e _ q=>?_;simp only[push_cast,q.ld1];have:=I D (Ext.then ((b.trans a).trans c) e λy l=>by subst l;have:=(b.trans a).size;omega);rwa[d] at this
 have j:3<=t.op/\t.op<=17:=by
  rcases(by omega:(t.op=1\/t.op=2)\/(3<=t.op/\t.op<=17)) with h|h
  .have:=(M.eval_un he hs h).1;omega
  .exact h
 have a5:t.ks.length=2:=by
  rcases(by omega:(3<=t.op/\t.op<=14)\/(15<=t.op/\t.op<=17)) with h|h
  .exact(M.eval_bin he hs h.1 h.2).1
  .exact(M.eval_cmp he hs h.1 h.2).1
 simp(disch:=exact oS) only[push_cast,n.ld4,g.iaddr];refine g.load zc oM λx1 R=>?_;refine l2Vec_spec (W (M.kid t 1) (M.kid_mem oM)) (T.ext b) he R (j9 (qs V b) (M.kid_mem oM)) (M.good_kid hs oM) λY a=>?_;refine zj zX λb3 Z u c A s=>?_;refine stVec s λD e _ q=>?_;have ac:=b.size;have ad:=a.size;have o:Ext w D:=Ext.then ((b.trans a).trans c) e λy l=>by subst l;omega
 have a6:=E.lt;have U:=n.lt;have S:=((n.ext a).ext c).same e oM;have X:=((E.ext a).ext c).same e oM;simp only[push_cast,S.ld0];refine zb (λJ=>?_) (λJ=>?_)
 .obtain⟨_,_,_,d⟩:=M.eval_cmp he hs oM j.2;simp only[push_cast,X.ldAgg (t:=zh) zr,q.ldAgg (t:=zh) zr,S.ld0];refine spec_VecCmp_spec λw8 i=>?_;refine oZ ?_;refine Xe ?_;have:=I _ (o.trans i);rwa[d] at this
 .obtain⟨_,_,_,d⟩:=M.eval_bin he hs j.1 oM;simp only[push_cast,X.ldAgg (t:=zh) zr,q.ldAgg (t:=zh) zr,S.ld0];refine spec_VecBin_spec λw8 i=>?_;refine oZ ?_;refine zj zX λb4 w9 a2 O a9 h9=>?_;refine stVec h9 λw10 B _ N=>?_;simp only[push_cast,N.ld1];have:=I w10 (Ext.then ((o.trans i).trans O) B λy l=>by subst l;have:=(o.trans i).size;omega);rwa[d] at this
theorem l2Eval_spec:∀(t:M.Tm),jz0 t:=by
 refine M.Tm.ind λt E=>?_;intro w K F G H dv v ev ds env z he ht B hs X;refine zf {} Tryz.func160 ?_;obtain⟨ksv,rfl,p⟩:=ht;refine zk λb1 w1 Z f a4 D=>?_;have l:=p.ext f;have A:∀c w',M.evalM ds env t=c->Ext w w'->K (nI c) w':=λc w' e he=>e▸X _ he;have Y:=M.arity_ops (o:=t.op) (by have:=(M.formed_iff.1 (M.sort_parts hs).1).1;omega);simp only[push_cast,D.ld0];refine zb (λr=>?_) (λr=>?_)
 .simp only[push_cast,D.ld2];exact A _ _ (by rw[M.eval_leaf (.inl r),k6 r]) f
 refine zb (λn=>?_) (λn=>?_)
 .have a3:=M.findD_lt ds t.s;have a2:=M.name_found hs n;have a1:=(M.env_ok he).2.1;have q:=(jf0 B n).ext f;simp only[push_cast,D.ld3];refine l2Find_spec (z.ext f) ?_;simp(disch:=exact oS) only[push_cast,q.iaddr,q.load];exact A _ _ (by rw[M.eval_leaf (.inr (.inl n)),y3 r,k6 n]) f
 refine zb (λO=>?_) (λO=>?_)
 .exact A _ _ (by rw[M.eval_leaf (.inr (.inr O)),y3 r,y3 n]) f
 refine zb (λP=>?_) (λP=>?_)
 .obtain⟨V,R,j⟩:=M.eval_no he hs P;simp(disch:=exact oS) only[push_cast,D.ld4,l.iaddr];refine l.load zc oM λx0 L=>?_;refine E (M.kid t 0) (M.kid_mem oM) (z.ext f) he L (j9 (qs B f) (M.kid_mem oM)) (M.good_kid hs oM) λw2 h=>?_;refine oZ ?_;have a0:=M.inS_zero R;rw[zl oM oM];exact A _ _ j (f.trans h)
 refine zb (λC=>?_) (λC=>?_)
 .obtain⟨V,R,S,j⟩:=M.eval_two he hs (.inl C);rw[k6 C] at j;refine zd λw2 h _=>?_;have I:=D.ext h;have a:=f.trans h;have g:=p.ext a;simp(disch:=exact oS) only[push_cast,I.ld4,g.iaddr,y4];obtain⟨css,m,U,u⟩:=g;rw[m.ldAgg zc (i:=0) oM];simp only[y4];rw[m.ldAgg zc (i:=1) oM];simp only[y4];refine E (M.kid t 0) (M.kid_mem oM) (z.ext a) he (u 0 oM).term (j9 (qs B a) (M.kid_mem oM)) (M.good_kid hs oM) λw3 d=>?_;have T:=I.ext d;have x:=p.ext (a.trans d);have y:=m.ext d;simp(disch:=exact oS) only[push_cast,T.ld4,x.iaddr,y4];rw[y.ldAgg zc (i:=1) oM];refine⟨⟨rfl,rfl⟩,?_⟩
  try simp only[y4,gh]
  refine E (M.kid t 1) (M.kid_mem oM) (z.ext (a.trans d)) he ((u 1 oM).ext d).term (j9 (qs B (a.trans d)) (M.kid_mem oM)) (M.good_kid hs oM) λw4 J=>?_;simp only[push_cast,y4];have e:IntKind.i64.wrap (M.evalM ds env (M.kid t 0)*M.evalM ds env (M.kid t 1))=M.evalM ds env (M.kid t 0)*M.evalM ds env (M.kid t 1):=by
   rcases M.inS_zero R with e|e<;>rcases M.inS_zero S with W|W<;>rw[e,W]<;>rfl
  rw[e];exact A _ _ j ((a.trans d).trans J)
 refine zb (λQ=>?_) (λQ=>?_)
 .obtain⟨V,R,S,j⟩:=M.eval_two he hs (.inr Q);rw[y3 C] at j;refine zd λw2 h _=>?_;have I:=D.ext h;have a:=f.trans h;have g:=p.ext a;simp(disch:=exact oS) only[push_cast,I.ld4,g.iaddr,y4];obtain⟨css,m,U,u⟩:=g;rw[m.ldAgg zc (i:=0) oM];simp only[y4];rw[m.ldAgg zc (i:=1) oM];simp only[y4];refine E (M.kid t 0) (M.kid_mem oM) (z.ext a) he (u 0 oM).term (j9 (qs B a) (M.kid_mem oM)) (M.good_kid hs oM) λw3 d=>?_;have T:=I.ext d;have x:=p.ext (a.trans d);have y:=m.ext d;simp(disch:=exact oS) only[push_cast,T.ld4,x.iaddr,y4];rw[y.ldAgg zc (i:=1) oM];refine⟨⟨rfl,rfl⟩,?_⟩
  try simp only[y4,gh]
  refine E (M.kid t 1) (M.kid_mem oM) (z.ext (a.trans d)) he ((u 1 oM).ext d).term (j9 (qs B (a.trans d)) (M.kid_mem oM)) (M.good_kid hs oM) λw4 J=>?_;refine l1Max_spec ?_;exact A _ _ j ((a.trans d).trans J)
 refine zb (λN=>?_) (λN=>?_)
 .obtain⟨V,R,j⟩:=M.eval_if he hs N;simp(disch:=exact oS) only[push_cast,D.ld4,l.iaddr];refine l.load zc oM λx0 L=>?_;refine E (M.kid t 0) (M.kid_mem oM) (z.ext f) he L (j9 (qs B f) (M.kid_mem oM)) (M.good_kid hs oM) λw2 h=>?_;have I:=D.ext h;have a:=f.trans h;have g:=p.ext a;refine oZ ?_;refine zb (λb=>?_) (λb=>?_)
  .rw[k6 b] at j;simp(disch:=exact oS) only[push_cast,I.ld4,g.iaddr];refine g.load zc oM λx1 q=>?_;refine E (M.kid t 1) (M.kid_mem oM) (z.ext a) he q (j9 (qs B a) (M.kid_mem oM)) (M.good_kid hs oM) λw3 d=>?_;exact A _ _ j (a.trans d)
  .rw[y3 b] at j;simp(disch:=exact oS) only[push_cast,I.ld4,g.iaddr];refine g.load zc oM λx1 q=>?_;refine E (M.kid t 2) (M.kid_mem oM) (z.ext a) he q (j9 (qs B a) (M.kid_mem oM)) (M.good_kid hs oM) λw3 d=>?_;exact A _ _ j (a.trans d)
 .rw[D.ldAgg (t:=za) zc];refine l2Do_spec (G:=G) (t:=t) (λk A=>E k A) (z.ext f) he ⟨ksv,rfl,l⟩ (qs B f) hs oM λw2 h=>?_;exact X _ (f.trans h)
end
section
variable {w:World} {K:oK}
@[push_cast] theorem bd_T3 (o a b:Int):yz za [(0,nI o),(1,nI a),(2,nI b)] w K=K (.agg ⟨[nI o,nI a,nI b,.string ⟨#[]⟩,.slice none 0 0]⟩) w:=zT j3 (us:=[[nI o],[nI a],[nI b]]) rfl rfl
@[push_cast] theorem bd_T1 (o:Int):yz za [(0,nI o)] w K=K (.agg ⟨[nI o,nI 0,nI 0,.string ⟨#[]⟩,.slice none 0 0]⟩) w:=zT j3 (us:=[[nI o]]) rfl rfl
@[push_cast] theorem bd_Tk (o:Int) (a:Option Addr) (l c:Nat):yz za [(0,nI o),(4,.slice a l c)] w K=K (.agg ⟨[nI o,nI 0,nI 0,.string ⟨#[]⟩,.slice a l c]⟩) w:=zT j3 (us:=[[nI o],[.slice a l c]]) rfl rfl
theorem qd {b:Nat} {cs cs':List Value} {t:TypeId} {G:Nat->Prop} {f:M.Tm} (h:Blk w b cs t) (k:cs.length=5) (c:TmR G w cs' f) (i:∀x,G x->x≠b) (j:∀w',Same (· =b) w w'->w'.heap.size=w.heap.size->TermR G w' (.agg ⟨cs'⟩) f->K (.agg ⟨cs'⟩) w'):
  zW za (oP b 0) (.agg ⟨cs'⟩) w λ_ w1=>vlv za (oP b 0) w1 λr w2=>K r w2:=by
 refine stTerm h k c λw' a d g=>?_;rw[g.lv (by rw[zS c];exact zc)];exact j w' a d (c.same a λx l _ e=>i x l e).term
theorem U9 {G:Nat->Prop} (o a b:Int) (s:ByteArray):TmR G w [nI o,nI a,nI b,.string s,.slice none 0 0] (.mk o a b s []):=TmR.of (t:= .mk o a b s []) TmsR.nil
end
section
variable {w:World} {K:oK} {G:Nat->Prop}
theorem kidsL {css:List (List Value)} {ts:List M.Tm} (l:css.length=ts.length) (n:css.length<=100) (h:∀i,i<ts.length->TmR G w (css.getD i []) (ts.getD i default))
  (j:∀w' a,Ext w w'->w'.heap.size=w.heap.size+1->TmsR (λz=>G z\/z=w.heap.size) w' (.slice a css.length css.length) ts->K (.slice a css.length css.length) w'):
  vbuildS zg (css.map λc=>Value.agg ⟨c⟩).length ((css.map λc=>Value.agg ⟨c⟩).zipIdx.map λp=>(p.2,p.1)) w K:=by
 have d:∀u,u∈css->u.length=5:=λu hu=>by
  obtain⟨i,hi,rfl⟩:=gr hu;have:=zS (h i oM);rwa[k5,gd hi] at this
 refine vbuildS_row (us:=css) (k:=5) yA yN zo (by rw[GN];rfl) d (by rw[Q1];omega) λb w' o he hs g=>?_;rw[Q1];refine j w' _ he hs ⟨css,?_,l,λi hi=>((h i hi).ext he).weaken λx f _=> .inl f⟩;have m:Own 0 5 zg w' (.slice (some ⟨b,0,none⟩) css.length css.length) css:=Blk.ownk (by rw[qL];exact g) d rfl oM;exact m.sl.weaken λx f _=> .inr (by have e:x=b:=(K3 f).symm;omega)
theorem Yz0 {v0:Value} {t0:M.Tm} (b:TermR G w v0 t0) (c:∀w' a,Ext w w'->w'.heap.size=w.heap.size+1->TmsR (λz=>G z\/z=w.heap.size) w' (.slice a 1 1) [t0]->K (.slice a 1 1) w'):vbuildS zg 1 [(0,v0)] w K:=by
 obtain⟨c0,rfl,d⟩:=b.cells;refine kidsL (css:=[c0]) (ts:=[t0]) rfl (by simp) (λi hi=>?_) c;have:i=0:=by simpa using hi
 subst this;exact d
theorem kids2 {v0 v1:Value} {t0 t1:M.Tm} (b:TermR G w v0 t0) (c:TermR G w v1 t1) (d:∀w' a,Ext w w'->w'.heap.size=w.heap.size+1->TmsR (λz=>G z\/z=w.heap.size) w' (.slice a 2 2) [t0,t1]->K (.slice a 2 2) w'):vbuildS zg 2 [(0,v0),(1,v1)] w K:=by
 obtain⟨c0,rfl,e⟩:=b.cells;obtain⟨c1,rfl,f⟩:=c.cells;refine kidsL (css:=[c0,c1]) (ts:=[t0,t1]) rfl (by simp) (λi hi=>?_) d
 match i,hi with
 |0,_=>exact e
 |1,_=>exact f
abbrev UT:List Value:=[nI 0,nI 0,nI 0,.string ⟨#[]⟩,.slice none 0 0]
end
theorem dtSize {ds:List M.Dcl} {t:M.Tm}:M.tsort ds t= -1\/(0<=M.tsort ds t/\M.tsort ds t<=4/\M.tsort ds t=M.sortM ds t/\M.fits t=true/\M.declOk ds=true):=by
 unfold M.tsort;split
 .rename_i h;have:=M.sort_range h.2 t;by_cases e:M.sortM ds t= -1
  .exact .inl e
  .exact .inr ⟨oM,oM,rfl,h.1,h.2⟩
 .exact .inl rfl
section
variable {w:World} {F:Nat->Prop}
abbrev kr0 (o:Int) (ks:List M.Tm):M.Tm:= .mk o 0 0 M.nada ks
theorem JM {o:Int} {a:Option Addr} {l c:Nat} {ks:List M.Tm} (h:TmsR F w (.slice a l c) ks):TermR F w (.agg ⟨[nI o,nI 0,nI 0,.string ⟨#[]⟩,.slice a l c]⟩) (kr0 o ks):=⟨_,rfl,h⟩
theorem Xy {o:Int}:TermR F w (.agg ⟨[nI o,nI 0,nI 0,.string ⟨#[]⟩,.slice none 0 0]⟩) (kr0 o []):=JM TmsR.nil
end
section
variable {w:World} {K:oK} {F D G:Nat->Prop}
theorem flatten_setEl {k:Nat}:∀{xs:List (List Value)} (_:∀x,x∈xs->x.length=k) {i:Nat} {y:List Value},y.length=k->i<xs.length->(xs.set i y).flatten=xs.flatten.take (i*k)++y++xs.flatten.drop (i*k+k)
 |[],_,i,y,_,hi=>by simp at hi
 |x::r,h,i,y,c,hi=>by
  have e:=h x gm;cases i with
  |zero=>
   simp only[pE,G5,Nat.zero_mul,Pa,Gi,Gd];rw[List.drop_append,Pb oM,Gi,show k-x.length=0 by omega,P7]
  |succ i=>
   simp only[List.set_cons_succ,G5];have a:(i+1)*k=x.length+i*k:=by rw[ph];omega
   have b:x.length+i*k+k=x.length+(i*k+k):=oM;rw[flatten_setEl (λz d=>h z (gp _ d)) c (by simpa using hi),a,b,List.take_length_add_append,List.drop_length_add_append];simp only[Gf]
set_option maxRecDepth 100000 in
theorem own_stEl {v:Value} {k:Nat} {t e:TypeId} {xs:List (List Value)} {y:List Value} (h:Own 0 k t w v xs) (J:0<k) (n:y.length=k) (B:∀c,c∈y->c.oneCell'=true) (u:aggB e k=true) {i:Nat} (hi:i<xs.length)
  (C:∀w',Own 0 k t w' v (xs.set i y)->Same (λb=>v.ownBlock=some b) w w'->w'.heap.size=w.heap.size->K undef w'):zW e (.pointer (some (eaddr v k i))) (.agg ⟨y⟩) w K:=by
 have E:=flatten_len h.wide;rcases h.row with⟨H,s⟩;rcases s with⟨rfl,L⟩|⟨g,cap,cur,rfl,o,x,j,p,r,f⟩
 .omega
 .have F:i*k+k<=xs.length*k:=by rw[<-Nat.succ_mul];exact Ps _ hi
  have G:xs.length*k<=cap*k:=Ps _ j;have d:=run_storeCells_at (P:=P) g (i*k) (Y0 t) y 0 cur w x oM B;have he:eaddr (.slice (some ⟨g,0,none⟩) xs.length cap) k i=⟨g,i*k,none⟩:=by
   simp only[eaddr,Gd]
  rw[he];have D:cur.toList.length=cap*k:=(by simpa using r);have m:(cur.toList.take (i*k+0)++y++cur.toList.drop (i*k+0+y.length)).toArray.size=cap*k:=by
   simp only[G4,V0,gl,GY];omega
  have a:(cur.toList.take (i*k+0)++y++cur.toList.drop (i*k+0+y.length)).toArray.toList.take (xs.length*k)=(xs.set i y).flatten:=by
   rw[flatten_setEl h.wide n hi,<-f,n];simp only[G0];have I:(cur.toList.take (i*k)).length=i*k:=by rw[gl];omega
   rw[List.take_append,List.take_append,gD (l:=List.take (i*k) cur.toList) oM,gD (l:=y) oM,pb,GH oM,List.drop_take];congr 2;rw[V0,gl];omega
  refine⟨(),_,?_,C (w.setRow g (cur.toList.take (i*k+0)++y++cur.toList.drop (i*k+0+y.length)).toArray) ⟨?_,?_⟩ ⟨rfl,rfl,rfl,by simp,λq _ A=>setRow_other w g q _ (λe=>A (by rw[e];rfl))⟩ (by simp)⟩
  .simp only[Instr.storeAt,Instr.sureAddr,Sem.run_bind,Sem.run_pure,Result.andThen_ok,storeVar,j5 u,Value.cells];simp only[G4,n,P3,not_true_eq_false,if_false];rw[n] at d;exact d
  .rw[pI];refine⟨?_,.inr ⟨g,cap,_,rfl,o,setRow_heap w g _ _ _ _ x,j,p,m,a⟩⟩;rw[<-a,gl];have:=m;simp only[G4] at this;simp only[List.toList_toArray,this];omega
  .intro z u;obtain⟨q,A,rfl⟩:=gr u;rw[pA];split
   .exact n
   .exact h.wide _ (pw _)
end
section
variable {w:World} {K:oK} {F D G:Nat->Prop}
theorem getD_set {α:Type} {xs:List α} {i j:Nat} {x d:α} (hi:i<xs.length):(xs.set i x).getD j d=if i=j then x else xs.getD j d:=by
 simp only[k5,List.getElem?_set];by_cases e:i=j
 .subst e;simp[hi]
 .simp[e]
theorem vmkS_agg {bs n k:Nat} {t:TypeId} {cs:List Value} {z A:IntKind} (C:elZ t k bs=true) (G:0<k) (g:ym (Y0 t) (.agg ⟨cs⟩)) (m:bs*n<=281474976710656) (o:n<=9223372036854775807)
  (B:∀v' w',Own 0 k t w' v' (List.replicate n cs)->Ext w w'->(∀b,v'.ownBlock=some b->w.heap.size<=b)->K v' w'):vmkS t (.int z n) (.int A n) w K:=by
 obtain⟨hu,i,J,hi,f,u,p,v⟩:=y00 C;have:J= .agg ⟨cs⟩:=by
  unfold ym at g;rw[hi] at g;simp only[f,Gm] at g;exact g
 subst this;subst p;have c:cs.length=k:=v;obtain⟨w',H,a,r⟩:=run_make_full (P:=P) w 0 t (Y0 t) i _ k hu hi f u z A n m (by simpa[maxLen] using o) oM;have hw:∀x,x∈List.replicate n cs->x.length=k:=λx I=>by rw[G1 I];exact c
 refine⟨_,w',H,B _ w' ⟨?_,hw⟩ ((Same.of_grown r).mono λ_ _ h=>by cases h) λb D=>by cases D;exact gu _⟩;have e:(madeCells (Value.agg ⟨cs⟩).cells (n*k)).toList=(List.replicate n cs).flatten:=by
  refine gM (by rw[flatten_len hw];simp[madeCells]) λj L l=>?_;have F:j<n*k:=by rw[flatten_len hw,gE] at l;exact l
  have y:j/k<n:=Nat.div_lt_of_lt_mul (by rw[PC];exact F);have d:=pO j G;have q:=flatten_get hw (i:=j/k) (j:=j%k) (by simpa using y) d;have s:j/k*k+j%k=j:=by rw[PC];exact Nat.div_add_mod j k
  rw[s,gd l] at q;have E:(List.replicate n cs).getD (j/k) []=cs:=(by simp[k5,y]);rw[E,gd oM] at q;rw[K3 q];simp[madeCells,Value.cells,c,d]
 rw[gE];rw[e] at a;exact a
theorem tmR_one {cs:List Value} {t:M.Tm} (h:TmR F w cs t):∀c,c∈cs->c.oneCell'=true:=λc e=>by
 obtain⟨f,rfl,d,b,_⟩:=h.inv;obtain⟨a,l,rfl,_⟩:=b.shape;simp only[gi,gz,Gh] at e;rcases e with rfl|rfl|rfl|rfl|rfl<;>rfl
def j60:M.Tm->Bool:=M.Tm.fold λt xs=>decide (t.ks.length<=1048576)&&xs.all id
theorem ZO0 (t:M.Tm):j60 t=(decide (t.ks.length<=1048576)&&(t.ks.map j60).all id):=M.Tm.fold_eq _ t
theorem fitB_iff {t:M.Tm}:j60 t=true↔t.ks.length<=1048576/\∀k,k∈t.ks->j60 k=true:=by
 rw[ZO0,gj,X0,gN];refine PZ λ_=>⟨λh k a=>h _ (gU a),λh y b=>?_⟩;obtain⟨k,a,rfl⟩:=gw.1 b;exact h k a
end
end Go.Proofs.YtfjlkobhagjdaaaGreatDoor
section
namespace Go.M
def vecL (w n:Nat):List UInt8:=35::(List.range w).reverse.map λi=>if n/2^i%2=1 then 49 else 48
def digL (n:Int):List UInt8:=[UInt8.ofNat (48+n.toNat)]
def textF (t:Tm) (xs:List (List UInt8)):List UInt8:=
 if t.op=20 then vecL t.a.toNat t.b.toNat else if t.op=21 then t.s.data.toList else if t.op=24 then[116,114,117,101]
 else 40::(wordL t.op++((if t.op=22 then 32::(digL t.a++32::digL t.b) else[])++(xs.flatMap (λx=>32::x)++[41])))
def textL:Tm->List UInt8:=Tm.fold textF
theorem textL_eq (t:Tm):textL t=textF t (t.ks.map textL):=Tm.fold_eq _ t
def Stop (r:List UInt8):Prop:=∀c,r.head?=some c->c=32\/c=41
def Free (a:List UInt8):Prop:=∀c,c∈a->c≠32/\c≠41
theorem atom_cancel:∀{a b r s:List UInt8},Free a->Free b->Stop r->Stop s->a++r=b++s->a=b/\r=s
 |[],[],r,s,_,_,_,_,h=>⟨rfl,h⟩
 |[],y::b,r,s,_,g,j,_,h=>by
  have d:r=y::(b++s):=h;have k:=g y gm;rcases j y (by grind) with e|e
  .grind
  grind
 |x::a,[],r,s,f,_,_,hs,h=>by
  have d:s=x::(a++r):=h.symm;have k:=f x gm;rcases hs x (by grind) with e|e
  .grind
  grind
 |x::a,y::b,r,s,f,g,j,hs,h=>by
  have d:x::(a++r)=y::(b++s):=h;simp only[gY] at d;obtain⟨rfl,d⟩:=d;obtain⟨rfl,e⟩:=atom_cancel (λc i=>f c (gp _ i)) (λc i=>g c (gp _ i)) j hs d
  grind
theorem stop_cons {c:UInt8} {r:List UInt8} (h:c=32\/c=41):Stop (c::r):=λd a=>by
 grind
theorem word_free:∀o:Fin 28,Free (wordL o):=by unfold Free;decide+kernel
theorem word_inj:∀o p:Fin 28,wordL o=wordL p->wordL o≠[]->o=p:=by decide+kernel
theorem word_ne:∀o:Fin 28,1<=o.1->(o.1<=17\/o.1=22\/o.1=23\/25<=o.1)->wordL o≠[]:=by decide+kernel
theorem vec_inj:∀w:Fin 5,∀a:Fin 16,∀v:Fin 5,∀b:Fin 16,a.1<2^w.1->b.1<2^v.1->vecL w a=vecL v b->w=v/\a=b:=by decide+kernel
theorem vec_free (w n:Nat):Free (vecL w n):=λc a=>by
 grind [vecL]
theorem dig_inj:∀a b:Fin 4,digL a=digL b->a=b:=by decide+kernel
theorem dig_free:∀a:Fin 4,Free (digL a):=by unfold Free;decide+kernel
section
variable {ds:List Dcl} {t u:Tm}
theorem name_ok (d:declOk ds=true) (hs:sortM ds t≠ -1) (i:t.op=21):t.s.data.toList≠[]/\t.s≠tru/\∀c,c∈t.s.data.toList->97<=c.toNat/\c.toNat<=122:=by
 have f:=name_found hs i;have h:(findD ds t.s).toNat<ds.length:=by have:=(findD_lt ds t.s).2;omega
 have g:=findD_get f;have a:=(decl_iff.1 d).2.1 _ h;unfold dclOk at a;rw[g] at a;simp only[gj,X0,nameOk] at a;obtain⟨⟨⟨⟨⟨⟨j,k⟩,b⟩,l⟩,_⟩,_⟩,_⟩:=a;refine⟨λe=>?_,b,λc m=>?_⟩
 .have:t.s.size=0:=by show t.s.data.size=0;simp_all
  omega
 grind [Array.all_eq_true']
theorem right_op (hs:sortM ds t≠ -1):arity t.op=t.ks.length/\plainM t=true/\((1<=t.op/\t.op<=17)\/(20<=t.op/\t.op<=27)):=by
 obtain⟨a,_,_⟩:=sort_parts hs;simp_all[formed_iff,arity_ops]
theorem leaf_arity {o:Int} (h:o=20\/o=21\/o=24):arity o=0:=by unfold arity;omega
theorem node_arity {o:Int} (h:(1<=o/\o<=17)\/(20<=o/\o<=27)) (a: ¬(o=20\/o=21\/o=24)):1<=arity o:=by
 grind [arity]
theorem vec_ok (hs:sortM ds t≠ -1) (c:t.op=20):vok t.a t.b=true:=by
 have h:=(sort_parts hs).2.2
 grind [sortK]
theorem cut_ab (c:declOk ds=true) (hs:sortM ds t≠ -1) (d:t.op=22):0<=t.b/\t.b<=t.a/\t.a<4:=by
 have h:=(sort_parts hs).2.2;have e:(t.ks.map (sortM ds)).getD 0 0<=4:=by
  by_cases hi:0<t.ks.length
  .simp_all[sort_range]
  grind
 grind [sortK]
theorem atom_text (f:declOk ds=true) (hs:sortM ds t≠ -1) (h:t.op=20\/t.op=21\/t.op=24):textL t=textF t []/\Free (textL t)/\textL t≠[]/\∀c,(textL t).head?=some c->c≠40:=by
 have g:t.ks=[]:=by grind [List.eq_nil_of_length_eq_zero,right_op,leaf_arity]
 have e:textL t=textF t []:=by rw[textL_eq,g];rfl
 refine⟨e,?_⟩;rw[e];unfold textF;rcases h with o|o|o
 .rw[k6 o]
  grind [vec_free,vecL]
 .rw[y3 oM,k6 o];obtain⟨d,i,b⟩:=name_ok f hs o;refine⟨λc a=>?_,d,λc a=>?_⟩
  .have:=b c a;exact⟨λe=>by simp_all,λe=>by simp_all⟩
  .have:=b c (List.mem_of_mem_head? a);intro e;simp_all
 grind [Free]
theorem tm_extT {t u:Tm} (c:t.op=u.op) (d:t.a=u.a) (e:t.b=u.b) (f:t.s=u.s) (g:t.ks=u.ks):t=u:=by
 cases t;cases u
 grind [Tm.op,Tm.a,Tm.b,Tm.s,Tm.ks]
theorem plain_ab (h:plainM t=true) (c:t.op≠20/\t.op≠22):t.a=0/\t.b=0:=by
 grind [plainM]
theorem plain_s (h:plainM t=true) (a:t.op≠21):t.s=nada:=by
 grind [plainM]
theorem atom_inj (g:declOk ds=true) (hs:sortM ds t≠ -1) (hu:sortM ds u≠ -1) (l:t.op=20\/t.op=21\/t.op=24) (m:u.op=20\/u.op=21\/u.op=24) (h:textL t=textL u):t=u:=by
 have x:t.ks=[]:=by grind [List.eq_nil_of_length_eq_zero,right_op,leaf_arity]
 have n:u.ks=[]:=by grind [List.eq_nil_of_length_eq_zero,right_op,leaf_arity]
 have j:=(right_op hs).2.1;have d:=(right_op hu).2.1;rw[(atom_text g hs l).1,(atom_text g hu m).1] at h;unfold textF at h;have letter:∀{v:Tm},sortM ds v≠ -1->v.op=21->∀c r,v.s.data.toList=c::r->97<=c.toNat:=by grind [name_ok,List.mem_cons_self]
 have notrue:∀{v:Tm},sortM ds v≠ -1->v.op=21->v.s.data.toList=[116,114,117,101]->False:=λ{v} q i e=>(name_ok g q i).2.1 (by
  have:v.s.data= #[116,114,117,101]:=(by grind);show v.s=tru;have f:v.s=⟨v.s.data⟩:=rfl;rw[f,this];rfl)
 rcases l with o|o|o<;>rcases m with p|p|p
 .rw[k6 o,k6 p] at h;have v1:=vok_lt (vec_ok hs o);have v2:=vok_lt (vec_ok hu p);have w1:=vok_iff.1 (vec_ok hs o);have w2:=vok_iff.1 (vec_ok hu p);have k:((2^t.a.toNat:Nat):Int)=2^t.a.toNat:=(by simp);have f:((2^u.a.toNat:Nat):Int)=2^u.a.toNat:=(by simp);have:=vec_inj ⟨t.a.toNat,oM⟩ ⟨t.b.toNat,oM⟩ ⟨u.a.toNat,oM⟩ ⟨u.b.toNat,oM⟩ (by grind) (by grind) h
  grind [tm_extT,plain_s]
 .rw[k6 o,y3 oM,k6 p] at h;exact absurd (letter hu p 35 _ h.symm) dC
 .grind [vecL]
 .rw[y3 oM,k6 o,k6 p] at h;exact absurd (letter hs o 35 _ h) dC
 .rw[y3 oM,k6 o,y3 oM,k6 p] at h;obtain⟨w,b1⟩:=plain_ab j oM;obtain⟨a2,b2⟩:=plain_ab d oM;refine tm_extT oM oM oM ?_ (by grind);have:=GK.1 h;have k:t.s=⟨t.s.data⟩:=rfl;have f:u.s=⟨u.s.data⟩:=rfl;rw[k,f,this]
 .grind
 .grind [vecL]
 .grind
 grind [plain_ab,tm_extT,plain_s]
theorem kids_inj:∀{ks us:List Tm} {r s:List UInt8},ks.length=us.length->(∀k,k∈ks->∀u,u∈us->∀r s,Stop r->Stop s->textL k++r=textL u++s->k=u/\r=s)->
  (ks.map textL).flatMap (λx=>32::x)++41::r=(us.map textL).flatMap (λx=>32::x)++41::s->ks=us/\r=s
 |[],[],r,s,_,_,h=>by
  grind
 |[],_::_,_,_,b,_,_=>by simp at b
 |_::_,[],_,_,b,_,_=>by simp at b
 |k::ks,u::us,r,s,b,c,h=>by
  simp only[Gy,List.flatMap_cons,GI,Gf,gY,y4] at h;have st:∀(l:List Tm) (r:List UInt8),Stop ((l.map textL).flatMap (λx=>32::x)++41::r):=λl r=>by
   cases l with
   |nil=>exact stop_cons (.inr rfl)
   |cons a l=>exact stop_cons (.inl rfl)
  obtain⟨he,h⟩:=c k gm u gm _ _ (st _ _) (st _ _) h;obtain⟨rfl,e⟩:=kids_inj (by grind) (λk d u hu=>c k (gp _ d) u (gp _ hu)) h
  grind
theorem text_inj' (i:declOk ds=true):∀t:Tm,sortM ds t≠ -1->∀u:Tm,sortM ds u≠ -1->∀r s,Stop r->Stop s->textL t++r=textL u++s->t=u/\r=s:=by
 refine Tm.ind λt J hs u hu r s U I h=>?_;obtain⟨ar,pl,op⟩:=right_op hs;obtain⟨B,P,p⟩:=right_op hu;have comp:∀{v:Tm},¬(v.op=20\/v.op=21\/v.op=24)->textL v=40::(wordL v.op++((if v.op=22 then 32::(digL v.a++32::digL v.b) else[])++((v.ks.map textL).flatMap (λx=>32::x)++[41]))):=λ{v} z=>by
  rw[textL_eq];grind [textF]
 by_cases lt:t.op=20\/t.op=21\/t.op=24
 .obtain⟨_,f1,f2,f3⟩:=atom_text i hs lt;by_cases lu:u.op=20\/u.op=21\/u.op=24
  .grind [atom_text,atom_cancel,atom_inj]
  .exfalso;rw[comp lu] at h
   match H:textL t,f2 with
   |c::q,_=>
    grind
 .by_cases lu:u.op=20\/u.op=21\/u.op=24
  .exfalso;obtain⟨_,g1,g2,g3⟩:=atom_text i hu lu;rw[comp lt] at h
   match H:textL u,g2 with
   |c::q,_=>
    grind
  .rw[comp lt,comp lu] at h;simp only[GI,Gf,gY,y4,Gi] at h;have na:=node_arity op lt;have M:=node_arity p lu;have kst:∀{l:List Tm} {q:List UInt8},1<=l.length->∃A,(l.map textL).flatMap (λx=>32::x)++41::q=32::A:=λ{l q} n=>by
    cases l with
    |nil=>simp at n
    |cons a l=>grind
   have st:∀{v:Tm} {q:List UInt8},1<=v.ks.length->Stop ((if v.op=22 then 32::(digL v.a++32::digL v.b) else[])++((v.ks.map textL).flatMap (λx=>32::x)++41::q)):=λ{v q} n=>by
    split
    .exact stop_cons (.inl rfl)
    .obtain⟨A,e⟩:=kst (q:=q) n
     grind [stop_cons]
   have N:(((⟨t.op.toNat,oM⟩:Fin 28):Nat):Int)=t.op:=(by grind);have O:(((⟨u.op.toNat,oM⟩:Fin 28):Nat):Int)=u.op:=(by grind);have f:=word_free ⟨t.op.toNat,oM⟩;have g:=word_free ⟨u.op.toNat,oM⟩;rw[N] at f;rw[O] at g;obtain⟨hw,h⟩:=atom_cancel f g (st (v:=t) oM) (st (v:=u) oM) h;have o:=word_ne ⟨t.op.toNat,oM⟩ oM oM;have G:=word_inj ⟨t.op.toNat,oM⟩ ⟨u.op.toNat,oM⟩ (by grind) o;have w:t.op=u.op:=by
    omega
   have j:t.a=u.a/\t.b=u.b/\(t.ks.map textL).flatMap (λx=>32::x)++41::r=(u.ks.map textL).flatMap (λx=>32::x)++41::s:=by
    by_cases d:t.op=22
    .rw[k6 d,k6 oM] at h;simp only[GI,Gf,gY,y4] at h;have c1:=cut_ab i hs d;have c2:=cut_ab i hu oM;have da:∀{x:Int},0<=x->x<4->Free (digL x):=λ{x} C E=>by
      have:=dig_free ⟨x.toNat,oM⟩
      grind
     have di:∀{x y:Int},0<=x->x<4->0<=y->y<4->digL x=digL y->x=y:=λ{x y} C E D F he=>by
      have:=dig_inj ⟨x.toNat,oM⟩ ⟨y.toNat,oM⟩ (by
       grind)
      grind
     obtain⟨Q,h⟩:=atom_cancel (da oM oM) (da oM oM) (stop_cons (.inl rfl)) (stop_cons (.inl rfl)) h;simp only[gY,y4] at h;obtain⟨V,K⟩:=kst (l:=t.ks) (q:=r) oM;obtain⟨W,L⟩:=kst (l:=u.ks) (q:=s) oM;obtain⟨R,h⟩:=atom_cancel (da oM oM) (da oM oM) (by rw[K];exact stop_cons (.inl rfl)) (by rw[L];exact stop_cons (.inl rfl)) h
     grind
    grind [plain_ab]
   obtain⟨S,T,h⟩:=j;obtain⟨m,e⟩:=kids_inj (by
    grind) (λk m v z=>J k m ((sort_parts hs).2.1 k m) v ((sort_parts hu).2.1 v z)) h
   grind [tm_extT,plain_s]
theorem text_inj (b:declOk ds=true) (hs:sortM ds t≠ -1) (hu:sortM ds u≠ -1) (h:textL t=textL u):t=u:=
 (text_inj' b t hs u hu [] [] (λc a=>by cases a) (λc a=>by cases a) (by grind)).1
end
end Go.M
end
namespace Go.Proofs.YtfjlkobhagjdaaaGreatDoor
open Go Go.Vc Go.Proofs
section
variable {w:World} {K:oK} {F Fx X Q:Nat->Prop} {n:Nat} {v:Value}
theorem dcl_small {ds:List M.Dcl} (a:M.declOk ds=true) {i:Nat} (hi:i<=ds.length):0<=M.bitT ds i/\M.bitT ds i<=16:=by
 have c:=(M.decl_iff.1 a).1;induction i with
 |zero=>exact⟨Pt _,show(0:Int)<=16 by decide⟩
 |succ i b=>
  have:=b oM;have hw:=M.dcl_wide a (i:=i) oM;rw[M.bitT_succ oM];have key:M.bitT ds i<=4*(i:Int):=by
   clear b this;induction i with
   |zero=>exact Pt _
   |succ j ihj=>
    have hw:=M.dcl_wide a (i:=j) oM;have:=ihj oM (M.dcl_wide a oM);rw[M.bitT_succ oM];omega
  omega
theorem bitsOf_spec {dv:Value} {ds:List M.Dcl} (l:DclsR Fx w dv ds) (d:M.declOk ds=true) (o:∀w',Ext w w'->K (nI (M.bits ds)) w'):vcall U0 #[dv] w K:=by
 refine zf {loops:=[(3,[3,8])]} Tryz.func140 ?_;simp only[push_cast,l.len];have k:=(M.decl_iff.1 d).1;refine vloop_up ds.length (λi u w'=>u=[nI (M.bitT ds i),nI i]/\Ext w w') ⟨rfl,Same.refl _ _⟩ ?_;rintro i _ _ w2 C hi ⟨rfl,c⟩ n;have e:=l.ext c;refine oZ ?_;refine zb (λa=>?_) (λa=>?_)
 .have b:i<ds.length:=oM;simp(disch:=exact oS) only[push_cast,e.iaddr,e.load];refine zj xZ λb1 w3 p f r m=>?_;refine stDecl m λt j _ k=>?_;have g:Ext w2 t:=Ext.then f j λy s=>by subst s;omega
  have q:=dcl_small d hi;have h:=dcl_small d (i:=i+1) b;rw[M.bitT_succ b] at h;simp(disch:=exact oS) only[push_cast,k.ld1,zl];refine n b _ _ ⟨?_,c.trans g⟩;rw[M.bitT_succ b];simp
 .have:i=ds.length:=oM;subst this;rw[M.bitT_all];exact o w2 c
theorem nameB_take {ds:List M.Dcl} {k j:Nat} {wd top:Int} (c:(j:Int)<wd) (hw:wd=(ds.getD k (M.nada,0)).2) (b:top=2+M.bits (ds.take k)):(M.nameB ds k).take (j+1)=(M.nameB ds k).take j++[top+(wd-1-j)]:=by
 have a:j<(M.nameB ds k).length:=by rw[M.nameB_len];omega
 rw[M.take_add a 0];congr 1;unfold M.nameB;rw[k5,GG,pT oM];show[2+M.bits (ds.take k)+(ds.getD k (M.nada,0)).2-1-(j:Int)]=[top+(wd-1-(j:Int))];rw[b,hw];congr 1;omega
theorem inputs_spec {bl:Nat} {r:List Value} {dv:Value} {ds:List M.Dcl} {s:ByteArray} {x0:Value} (T:Blk w bl (x0::dv::r) yo) (N:DclsR Fx w dv ds) (f:M.declOk ds=true) (hs:0<=M.findD ds s)
  (L:∀w' r,Ext w w'->OwnI ze w' r (M.nameB ds (M.findD ds s).toNat)->(∀b,r.ownBlock=some b->w.heap.size<=b)->K r w'):vcall ZL #[oP bl 0,.string s] w K:=by
 refine zf {loops:=[(3,[5,15]),(8,[8,9])]} Tryz.func237 ?_;simp only[push_cast,T.ld1,N.len];have h4:=(M.decl_iff.1 f).1;have a0:=M.findD_lt ds s;refine vloop_up ds.length (λi u w'=>u=[nI (2+M.bitT ds i),nI i]/\Ext w w'/\i<=(M.findD ds s).toNat) ⟨rfl,Same.refl _ _,Gc _⟩ ?_;rintro i _ _ w2 C hi ⟨rfl,k,Z⟩ U;have q:=N.ext k;refine oZ ?_;have d:i<ds.length:=oM
 refine zb (λa=>?_) (λa=>oM);simp(disch:=exact oS) only[push_cast,q.iaddr,q.load];refine zj xZ λb1 w3 W D a3 S=>?_;refine stDecl S λw4 J _ o=>?_;have t:Ext w2 w4:=Ext.then D J λy hy=>by subst hy;omega
 have a2:=dcl_small f hi;have H:=dcl_small f (i:=i+1) d;rw[M.bitT_succ d] at H;have Q:=M.dcl_wide f d;simp(disch:=exact oS) only[push_cast,o.ld0,o.ld1,zl];refine zb (λe=>?_) (λe=>?_)
 .have E:i=(M.findD ds s).toNat:=by
   by_cases c:i=(M.findD ds s).toNat
   .exact c
   .have R:=M.dcl_apart f (i:=(M.findD ds s).toNat) (j:=i) oM oM;exact absurd (e.trans (M.findD_get hs).symm) R
  rw[<-E] at L;have B:M.bitT ds i=M.bits (ds.take i):=rfl;generalize V:(ds.getD i (M.nada,0)).2=wd at*;refine ko (λm u w'=> ∃j r,u=[r,nI ((m:Int)-1)]/\(m:Int)+(j:Nat)=wd/\Ext w w'/\OwnI ze w' r ((M.nameB ds i).take j)/\∀b,r.ownBlock=some b->w.heap.size<=b) wd.toNat
   ⟨0,_,by rw[show((wd.toNat:Nat):Int)=wd by omega],oM,k.trans t,OwnI.nil,λb p=>by cases p⟩ ?_
  rintro m _ _ w5 C5 ⟨j,r,rfl,a1,v,n,l⟩ A;refine oZ ?_;refine zb (λY=>?_) (λO=>?_)
  .simp(disch:=omega) only[push_cast,zl];refine zC yD y7 yj rfl rfl λb6 w6 X x a4 z=>?_;have g:=v.trans x;have hz:=g.size;have hle:((M.nameB ds i).take j).length<=16:=by rw[gl,M.nameB_len];omega
   refine(n.ext x).app1 yE z oM oM λr7 w7 G I F=>?_
   try simp(disch:=omega) only[push_cast,zl]
   refine A (m-1) _ _ oM ⟨j+1,r7,?_,oM,Ext.then g I λb p=>l b p,?_,λb p=>(F b p).elim (l b) λh=>oM⟩
   .rw[show((m-1:Nat):Int)=(m:Int)-1 by omega]
   .rw[nameB_take (wd:=wd) (top:=2+M.bits (ds.take i)) oM V.symm rfl,<-B];rw[show(2+M.bitT ds i+(wd-1-j))=2+M.bitT ds i+((m:Int)-1) by omega];exact G
  .rw[gD (by rw[M.nameB_len];omega)] at n;exact L w5 r v n l
 .refine U d _ _ ⟨?_,k.trans t,?_⟩
  .rw[M.bitT_succ d];simp;omega
  .have:i≠(M.findD ds s).toNat:=λh=>e (by rw[h];exact M.findD_get hs);omega
end
end Go.Proofs.YtfjlkobhagjdaaaGreatDoor
namespace Go.Proofs.YtfjlkobhagjdaaaGreatDoor
open Go Go.Vc Go.Proofs Go.Shelf
section
variable {w:World} {K:oK} {F X Q:Nat->Prop}
def ZS0:ByteArray:=⟨#[48,49,50,51,52,53,54,55,56,57,97,98,99,100,101,102,103,104,105,106,107,108,109,110,111,112,113,114,115,116,117,118,119,120,121,122]⟩
theorem digit_text:∀k:Fin 10,(ZS0.extract k.1 (k.1+1)).data.toList=M.digL (k.1:Int):=by decide+kernel
theorem Itoa_spec {k:Nat} (c:k<10) (b:∀s:ByteArray,s.data.toList=M.digL (k:Int)->K (.string s) w):vcall j6 #[nI k] w K:=by
 refine zf {} Tryz.func234 ?_;refine zf {} Tryz.func264 ?_;refine zf {cuts:=[(12292,[]),(28680,[6])]} Tryz.func304 ?_;refine oZ ?_;refine zb (λ_=>?_) (λh=>absurd trivial h);refine zp (λ_ _=>False) ?_ (λ_ _ _ h=>h.elim);intro J d;refine zb (λ_=>?_) (λh=>oM);refine zb (λ_=>?_) (λh=>oM);refine zf {} Tryz.func320 ?_;simp(disch:=omega) only[push_cast,zl];refine zb (λ_=>?_) (λh=>oM);have a:ZS0.size=36:=by decide+kernel
 show xr yH (.string ZS0) _ _ _ w _;rw[xk0 rK oM oM (by rw[a];omega)];rw[show((k:Int)).toNat=k by omega,show((k:Int)+1).toNat=k+1 by omega];exact b _ (digit_text ⟨k,c⟩)
def byV (c:UInt8):Value:= .int .u8 c.toNat
theorem xQ0 {v:Value} {l:List UInt8} (h:OwnV xL w v (l.map byV)) (g:l≠[]):xn0 xL yH v w K=K (.string ⟨l.toArray⟩) w:=by
 obtain⟨a,c,k,p,n,d⟩:=(OwnV.vals h).shape;have f:(l.map byV).map (λx=>[x])≠[]:=by simpa using g
 obtain⟨b,o,m,_,_,e⟩:=d f;simp only[Q1] at k e;subst m;subst k;refine y9 (run_convert_bytes_back w xL yH KD ⟨b,o,none⟩ c l W8 rK rK λj i=>?_);have:=e j i 0 (byV l[j]) (by
  rw[k5,GG,GG,gd i];rfl)
 rw[yB] at this⊢;rw[pP,G0] at this;exact this
def jo0 (n:Nat) (i:Nat):UInt8:=if n/2^i%2=1 then 49 else 48
theorem bitC_take {wd n j:Nat} (a:j<wd):((List.range wd).reverse.map (jo0 n)).take (j+1)=((List.range wd).reverse.map (jo0 n)).take j++[jo0 n (wd-1-j)]:=by
 have b:j<((List.range wd).reverse.map (jo0 n)).length:=by simpa using a
 rw[M.take_add b 0];congr 1;rw[k5,GG,List.getElem?_reverse (by simpa using a),GR,pT oM];rfl
theorem VecText_spec {wd n:Int} (C:M.vok wd n=true) (hK:∀w' s,Ext w w'->s.data.toList=M.vecL wd.toNat n.toNat->K (.string s) w'):vcall YM #[xY wd n] w K:=by
 refine zf {loops:=[(5,[3,4])]} Tryz.func233 ?_;obtain⟨U,V,W,X⟩:=M.vok_iff.1 C;have hp:(2:Int)^wd.toNat<=16:=by
  have:=pow4 (k:=wd.toNat) oM oM;have e:=JN wd.toNat;omega
 refine zk λb1 w1 a0 z aa g=>?_;have y:∀w':World,Blk w' b1 [nI wd,nI n] zh->∀K:oK,zt zh (oP b1 0) w' K=K (xY wd n) w':=λw' hB K=>Blk.ldAgg hB (by exact zr);rw[y w1 g];refine VecOk_spec λw2 o=>?_;rw[C];simp only[push_cast,Gz];refine zC W8 rK (show ym KD (.int .u8 0) by unfold ym;kernel_rfl) rfl rfl λb3 w3 a5 A ab I=>?_;have D:=g.ext (o.trans A);have e3:=z.trans (o.trans A);have s1:=z.size;have s2:=o.size;have S:OwnV xL w3 (.slice (some ⟨b3,0,none⟩) 1 1) ([(35:UInt8)].map byV):=Blk.own1 (t:=xL) (cs:=[byV 35]) (by rw[je0];exact I) (Gc _) rfl rfl oM;simp(disch:=exact oS) only[push_cast,D.ld0,zl];refine ko (λm u w'=> ∃j r,u=[r,nI ((m:Int)-1)]/\(m:Int)+(j:Nat)=wd/\Ext w w'/\Blk w' b1 [nI wd,nI n] zh/\OwnV xL w' r ((35::((List.range wd.toNat).reverse.map (jo0 n.toNat)).take j).map byV)/\∀b,r.ownBlock=some b->w1.heap.size<=b) wd.toNat
  ⟨0,_,by rw[show((wd.toNat:Nat):Int)=wd by omega],oM,e3,D,S,λb l=>by have e:b3=b:=K3 l;omega⟩ ?_
 rintro m _ _ Y Z ⟨j,r,rfl,a9,p,i,v,q⟩ L;refine oZ ?_;refine zb (λa7=>?_) (λa8=>?_)
 .rw[y Y i];rw[show n=((n.toNat:Nat):Int) by omega];refine raw_spec oM λw6 O=>?_;rw[show(m:Int)-1=((m-1:Nat):Int) by omega];refine bit_spec oM oM ?_;have step:∀(x:UInt8) (G:oK),x=jo0 n.toNat (wd.toNat-1-j)->(∀d a,Ext w a->Blk a b1 [nI wd,nI n] zh->OwnV xL a d ((35::((List.range wd.toNat).reverse.map (jo0 n.toNat)).take (j+1)).map byV)->(∀b,d.ownBlock=some b->w1.heap.size<=b)->G d a)->
    vbuildS xL 1 [(0,.int .u8 x.toNat)] w6 λt21 F=>vbi .append [xL,xL] xL [r,t21] F G:=by
   intro x G hx N;refine zC W8 rK (show ym KD (.int .u8 0) by unfold ym;kernel_rfl) rfl rfl λb7 a a6 Q ad J=>?_;have f:=O.trans Q;have hl:((35::((List.range wd.toNat).reverse.map (jo0 n.toNat)).take j).map byV).length<=20:=by
    simp only[Q1,gB,gl,PA,GR];omega
   refine(v.ext f).app1 kz0 J rfl oM oM λr8 w8 T E R=>?_;have ac:=p.size;have z67:=f.size;refine N r8 w8 (Ext.then (p.trans f) E λb l=>by have:=q b l;omega) ((i.ext f).same E λl=>by have:=q b1 l;have:=g.lt;omega) ?_ λb l=>(R b l).elim (q b) λh=>by have:=i.lt;omega
   rw[bitC_take oM,<-hx,<-GI,gA];exact T
  have B:wd.toNat-1-j=m-1:=oM;have fin:∀d a,Ext w a->Blk a b1 [nI wd,nI n] zh->OwnV xL a d ((35::((List.range wd.toNat).reverse.map (jo0 n.toNat)).take (j+1)).map byV)->(∀b,d.ownBlock=some b->w1.heap.size<=b)->Z [d,nI (((m-1:Nat):Int)-1)] a:=λd a U V W X=>
   L (m-1) _ _ oM ⟨j+1,d,rfl,oM,U,V,W,X⟩
  refine zb (λc=>?_) (λc=>?_)
  .refine step 49 _ (by rw[B];unfold jo0;rw[k6 c]) λd a H a2 a3 a4=>?_;rw[zl oM oM];exact fin d a H a2 a3 a4
  .refine step 48 _ (by rw[B];unfold jo0;rw[y3 c]) λd a H a2 a3 a4=>?_;rw[zl oM oM];exact fin d a H a2 a3 a4
 .rw[gD (by simp;omega)] at v;rw[xQ0 v (by simp)];exact hK Y _ p rfl
theorem joinX:Builder.Extra P YtfjlkobhagjdaaaGreatDoor.joinL_ren where
 sizeBuilder:=rK
 liesBuilder:=rK
 t5:=rK
 a5:=λw=>rK
 z5:=λw=>rK
 v5:=λw=>rK
 infoByte:=rK
 cellsByte:=rK
 sizeByte:=rK
 neB5:=by decide+kernel
def joinB:List (List UInt8)->List UInt8
 |[]=>[]
 |x::xs=>x++xs.flatMap λy=>32::y
theorem qX0 (xs:List (List UInt8)):Lib.join xs [32]=joinB xs:=by
 unfold Lib.join joinB;induction xs with
 |nil=>rfl
 |cons x xs a=>
  cases xs with
  |nil=>simp[List.intercalate,List.intersperse]
  |cons y ys=>
   simp only[List.intercalate,List.intersperse_cons_cons,G5] at a⊢;rw[a];simp
theorem Join_spec {v:Value} {xs:List ByteArray} (h:OwnV yV w v (xs.map .string)) (n:2<=xs.length) (y:xs.length<=1000) (g:(joinB (xs.map (·.data.toList))).length<=1000000)
  (q:∀w' s,Ext w w'->s.data.toList=joinB (xs.map (·.data.toList))->K (.string s) w'):vcall YJ #[v,.string ⟨#[32]⟩] w K:=by
 obtain⟨a,c,m,l,u,d⟩:=(OwnV.vals h).shape;have k:(xs.map Value.string).map (λx=>[x])≠[]:=by intro e;have:=congrArg List.length e;simp only[Q1,pH] at this;omega
 obtain⟨b,o,r,_,t,f⟩:=d k;simp only[Q1] at m f l;subst r;subst m;refine⟨rK,?_⟩;refine(Any.strings_Join_many YtfjlkobhagjdaaaGreatDoor.joinL joinX b o c xs ⟨#[32]⟩ w (λj x g=>?_) t n oM l (by rw[show(⟨#[32]⟩:ByteArray).data.toList=[32] from rfl,qX0];omega)).mono ?_
 .have i:j<xs.length:=(Gq.1 g).1;have:=f j i 0 (.string x) (by
   rw[k5,GG,GG,g];rfl)
  rw[yB,pP,G0] at this;exact this
 .rintro e w' ⟨rfl,p⟩;refine q w' _ (y60 p) ?_;rw[show(⟨#[32]⟩:ByteArray).data.toList=[32] from rfl,qX0]
end
end Go.Proofs.YtfjlkobhagjdaaaGreatDoor
namespace Go.Proofs.YtfjlkobhagjdaaaGreatDoor
open Go Go.Vc Go.Proofs
section
variable {w:World} {K:oK} {F X Q:Nat->Prop}
theorem JO {s:ByteArray} {m:Value} (c:∀w',Ext w w'->K (.string s) w'):vcall yw #[.agg ⟨[.string s,m]⟩] w K:=by
 refine zf {} Tryz.func372 ?_;refine zk λb w1 d he e a=>?_;simp(disch:=exact oS) only[push_cast,a.ld0];exact c w1 he
theorem word_spec {o:Int} {v:Value} (k:KindR o v) (l:(1<=o/\o<=17)\/(22<=o/\o<=27)) (a:o≠24) (j:∀w' s,Ext w w'->s.data.toList=M.wordL o->K (.string s) w'):vinvoke v Zd #[] w K:=by
 obtain⟨s,m,r,rfl,e,g,i⟩:=k.word;have hs:s.data.toList=M.wordL o:=by
  rcases i with h|h|h|h
  .omega
  .omega
  .exact absurd h a
  .exact h
 have fin:vcall yw #[.agg ⟨[.string s,nI m]⟩] w K:=JO λw' he=>j w' s he hs;unfold kTy;by_cases c:24<=o
 .obtain⟨f,rfl,_⟩:=g c
  repeat rw[y3 oM]
  exact zL (ZS _ _ _) fin
 .have:=e oM;subst this;by_cases c1:o<=2
  .rw[k6 c1];exact zL (X8 _ _) fin
  rw[y3 c1];by_cases c2:o<=13
  .rw[k6 c2];exact zL (YD _ _) fin
  rw[y3 c2];by_cases c3:o=14
  .rw[k6 c3];exact zL (YA _ _) fin
  rw[y3 c3];by_cases b:o<=17
  .rw[k6 b];exact zL (Yx _ _) fin
  rw[y3 b,y3 oM,y3 oM];by_cases d:o=22
  .rw[k6 d];exact zL (Yu _ _) fin
  rw[y3 d,k6 oM];exact zL (Xb _ _) fin
theorem wordL_len (o:Int):(M.wordL o).length<=5:=by
 by_cases h:0<=o/\o<28
 .have a:∀k:Fin 28,(M.wordL (k.1:Int)).length<=5:=(by decide+kernel);have:=a ⟨o.toNat,oM⟩;rwa[show((o.toNat:Nat):Int)=o by omega] at this
 .unfold M.wordL
  repeat rw[y3 oM]
  decide
theorem k90 (wd n:Nat):(M.vecL wd n).length=wd+1:=by unfold M.vecL;simp
theorem kids_sum {f:M.Tm->Nat} {ks:List M.Tm} {g:M.Tm->List UInt8} (h:∀k,k∈ks->(g k).length+1<=f k):((ks.map g).flatMap (λx=>32::x)).length<=(ks.map f).sum:=by
 induction ks with
 |nil=>simp
 |cons k ks b=>
  have:=h k gm;have:=b λy a=>h y (gp _ a);simp only[Gy,List.flatMap_cons,V0,gB,List.sum_cons];omega
theorem text_len {ds:List M.Dcl} (i:M.declOk ds=true):∀t,M.sortM ds t≠ -1->(M.textL t).length+1<=20*M.sizeM t:=by
 refine M.Tm.ind λt n hs=>?_;obtain⟨h,v,u⟩:=M.right_op hs;rw[M.sizeM_eq,M.textL_eq];have e:((t.ks.map M.textL).flatMap (λx=>32::x)).length<=(t.ks.map λk=>20*M.sizeM k).sum:=kids_sum λk e=>n k e ((M.sort_parts hs).2.1 k e);have g:(t.ks.map λk=>20*M.sizeM k).sum=20*(t.ks.map M.sizeM).sum:=by
  generalize t.ks=l;induction l with
  |nil=>rfl
  |cons k l ihl=>simp only[Gy,List.sum_cons,ihl];omega
 unfold M.textF;by_cases c:t.op=20
 .rw[k6 c,k90];have:=M.vok_iff.1 (M.vec_ok hs c);omega
 rw[y3 c];by_cases c:t.op=21
 .rw[k6 c];have j:=M.name_found hs c;have m:(M.findD ds t.s).toNat<ds.length:=by have:=(M.findD_lt ds t.s).2;omega
  have d:=(M.decl_iff.1 i).2.1 _ m;unfold M.dclOk at d;rw[M.findD_get j] at d;simp only[gj,X0,M.nameOk] at d;obtain⟨⟨⟨⟨⟨⟨o,p⟩,q⟩,r⟩,_⟩,_⟩,_⟩:=d;have:t.s.data.toList.length=t.s.size:=by rw[po];rfl
  omega
 rw[y3 c];by_cases c:t.op=24
 .rw[k6 c];simp;omega
 rw[y3 c];have:=wordL_len t.op;have f:(if t.op=22 then(32:UInt8)::(M.digL t.a++32::M.digL t.b) else[]).length<=4:=by
  split
  .simp[M.digL]
  .simp
 simp only[gB,V0,pH];omega
theorem Itoa_int {k:Int} (b:0<=k) (c:k<10) (a:∀s:ByteArray,s.data.toList=M.digL k->K (.string s) w):vcall j6 #[nI k] w K:=by
 obtain⟨j,rfl⟩:∃j:Nat,k=j:=⟨k.toNat,oM⟩;exact Itoa_spec oM a
theorem textOf_spec {ds:List M.Dcl} (hd:M.declOk ds=true) {kb:Nat}:∀(t:M.Tm),M.sortM ds t≠ -1->M.sizeM t<=1000->∀{w:World} {K:oK} {F:Nat->Prop} {tv:Value},KindsR w kb->TermR F w tv t->
  (∀w' s,Ext w w'->s.data.toList=M.textL t->K (.string s) w')->vcall Z8 #[.map (some kb),tv] w K:=by
 refine M.Tm.ind λt ih hs bf w K F tv hk ht n=>?_;obtain⟨ac,hp,ho⟩:=M.right_op hs;have hlen:=text_len hd t hs;obtain⟨kv,rfl,ae⟩:=ht;apply UI;refine zk λb1 w1 b4 f bh m=>?_;have Y:=hk.ext f;have H:=ae.ext f;rw[M.textL_eq] at n hlen;unfold M.textF at n hlen;simp(disch:=exact oS) only[push_cast,m.ld0,m.ld1,m.ld2,m.ld3];refine zb (λc=>?_) (λc=>?_)
 .rw[k6 c] at n;have hv:=M.vec_ok hs c;have e:yz zh [(0,nI t.a),(1,nI t.b)] w1=λK=>K (xY t.a t.b) w1:=by
   funext K;exact zT QI (us:=[[nI t.a],[nI t.b]]) rfl rfl
  try rw[e]
  exact VecText_spec hv λw2 s B ak=>n w2 s (f.trans B) ak
 rw[y3 c] at n hlen;refine zb (λc=>?_) (λc=>?_)
 .rw[k6 c] at n;exact n w1 _ f rfl
 rw[y3 c] at n hlen;refine zb (λc=>?_) (λc=>?_)
 .rw[k6 c] at n;exact n w1 _ f rfl
 rw[y3 c] at n hlen;have ai:(1<=t.op/\t.op<=17)\/(22<=t.op/\t.op<=27):=oM
 refine Ke (ok:=false) Y (by rw[ac];omega) λbm af=>?_;simp only[gV,if_false];refine word_spec af ai oM λw2 ws B a6=>?_;refine zC Xt rK Xl rfl rfl λb3 w3 b6 W bi a9=>?_;have O:=B.trans W;have s1:=f.size;have s2:=B.size;have k:=m.ext O;have a2:OwnV yV w3 (.slice (some ⟨b3,0,none⟩) 1 1) ([ws].map .string):=Blk.own1 (t:=yV) (cs:=[Value.string ws]) (by rw[xN0];exact a9) (Gc _) rfl rfl oM;have be:1<=t.ks.length:=by
  have:=M.node_arity ho oM;omega
 have bc:t.ks.length<=3:=by
  have h:M.arity t.op<=3:=by
   unfold M.arity;repeat' split
   all_goals omega
  omega
 refine zp (λu w'=> ∃(wv:Value) (wl:List ByteArray),u=[wv]/\Ext w1 w'/\OwnV yV w' wv (wl.map .string)/\(∀b,wv.ownBlock=some b->w1.heap.size<=b)/\wl.length<=3/\wl.map (·.data.toList)=M.wordL t.op::(if t.op=22 then[M.digL t.a,M.digL t.b] else[])) ?_ ?_
 .intro J hJ;simp(disch:=exact oS) only[push_cast,k.ld0,k.ld1,k.ld2];refine zb (λz=>?_) (λz=>?_)
  .obtain⟨b2,ba,b0⟩:=M.cut_ab hd hs z;refine zd λw4 X _=>?_;have p:=k.ext X;simp(disch:=exact oS) only[push_cast,p.ld1,p.ld2,y4];refine Itoa_int oM oM λsa am=>?_;simp(disch:=exact oS) only[push_cast,p.ld2,y4,gh];refine Itoa_int oM oM λsb an=>?_;refine vbuildS_row1 (xs:=[.string sa,.string sb]) Xt W5 Xl (λx a8=>by
    simp only[gi,gz,Gh] at a8;rcases a8 with rfl|rfl<;>rfl) (by simp) λb5 w5 b8 q bj S=>?_
   have ap:Vals (· =b5) w5 (.slice (some ⟨b5,0,none⟩) 2 2) [.string sa,.string sb]:=S.sl1 rfl (by simp);have Q:=X.trans q;refine(a2.ext Q).app zO0 ap (λu hu=>by
    simp only[gi,gz,Gh] at hu;rcases hu with rfl|rfl<;>rfl) (by simp) (by simp) λr6 w6 G al E=>?_
   have z35:=Q.size;have z3:=W.size;refine hJ _ _ ⟨r6,[ws,sa,sb],rfl,Ext.then (O.trans Q) al λb A=>by have e:b3=b:=K3 A;omega,by simpa using G,λb A=>(E b A).elim (λh=>by have e:b3=b:=K3 h;omega) λh=>oM,by simp,?_⟩;rw[k6 z];simp[a6,am,an]
  .exact hJ _ _ ⟨_,[ws],rfl,O,a2,λb A=>by have e:b3=b:=K3 A;omega,by simp,by rw[y3 z];simp[a6]⟩
 rintro _ _ w5 ⟨wv,wl,rfl,q,aj,ah,bg,a7⟩;have S:=m.ext q;have Z:=H.ext q;simp(disch:=exact oS) only[push_cast,S.ld4,Z.len];refine vloop_up t.ks.length (λi u w'=> ∃(r:Value) (kl:List ByteArray),u=[r,nI i]/\Ext w1 w'/\OwnV yV w' r ((wl++kl).map .string)/\(∀b,r.ownBlock=some b->w1.heap.size<=b)/\kl.map (·.data.toList)=(t.ks.take i).map M.textL) ⟨wv,[],rfl,q,by simpa using aj,ah,rfl⟩ ?_;rintro i _ g w6 C hi ⟨r,kl,rfl,v,G,E,l⟩ hC;have I:=H.ext v;have av:kl.length=i:=by
  have:=congrArg List.length l;simp only[Q1,gl] at this;omega
 refine oZ ?_;refine zb (λa=>?_) (λa=>?_)
 .have d:i<t.ks.length:=oM;simp(disch:=exact oS) only[push_cast,I.iaddr];refine I.load zc d λx hx=>?_;obtain⟨cx,rfl,T⟩:=hx.cells;refine zj zo λb7 w7 b9 D bk aa=>?_;refine stTerm aa rfl (T.ext D) λw8 aq bl ab=>?_;have R:Ext w6 w8:=Ext.then D aq λy hy=>by subst hy;omega
  have v8:=T.ext R;simp only[push_cast,ab.ldAgg (t:=za) (by rw[zS T];exact zc)];have L:t.ks.getD i default∈t.ks:=M.getD_mem d _;have ao:M.sizeM (t.ks.getD i default)<=1000:=by
   have h1:=M.szT_succ d;have h2:=M.szT_mono (ks:=t.ks) (i:=i+1) (j:=t.ks.length) d (gu _);have h3:=M.szT_all t;omega
  refine ih _ L ((M.sort_parts hs).2.1 _ L) ao (Y.ext (v.trans R)) v8.term λw9 sk ad a5=>?_;refine zC Xt rK Xl rfl rfl λaz w10 au V ax U=>?_;have o:=R.trans (ad.trans V);have bd:((wl++kl).map Value.string).length<=6:=by rw[Q1,V0];omega
  refine(G.ext o).app1 zO0 U rfl oM oM λar bn a1 a3 a0=>?_;have z6:=v.size;have ay:=o.size
  try simp(disch:=omega) only[push_cast,zl]
  refine hC d _ _ ⟨ar,kl++[sk],by simp<;>exact⟨rfl,rfl⟩,Ext.then (v.trans o) a3 λb A=>E b A,?_,λb A=>(a0 b A).elim (E b) λh=>oM,?_⟩
  .rw[<-Gf,gA];exact a1
  .rw[M.take_add d default,gA,gA,l];simp[a5]
 .have d:i=t.ks.length:=oM;subst d;rw[gC] at l;have N:joinB ((wl++kl).map (·.data.toList))=M.wordL t.op++((if t.op=22 then(32:UInt8)::(M.digL t.a++32::M.digL t.b) else[])++(t.ks.map M.textL).flatMap λx=>32::x):=by
   rw[gA,a7,l];show joinB (M.wordL t.op::((if t.op=22 then[M.digL t.a,M.digL t.b] else[])++t.ks.map M.textL))=_;rw[show ∀(x:List UInt8) xs,joinB (x::xs)=x++xs.flatMap (λy=>32::y) from λ_ _=>rfl,List.flatMap_append];split<;>simp
  have ag:2<=(wl++kl).length:=by
   have h1:1<=wl.length:=by
    have:=congrArg List.length a7;simp only[Q1,gB] at this;omega
   rw[V0];omega
  simp only[gB,V0,pH] at hlen;have bb:(joinB ((wl++kl).map (·.data.toList))).length<=20000:=by
   rw[N];simp only[V0];omega
  refine Join_spec G ag (by rw[V0];omega) oM λw7 sj D a4=>?_;have aw:sj.size<=20000:=by
   have:sj.data.toList.length=sj.size:=by rw[po];rfl
   rw[a4] at this;omega
  have h1:(⟨#[40]⟩:ByteArray).size=1:=(by decide+kernel);have h3:(⟨#[41]⟩:ByteArray).size=1:=(by decide+kernel);have h2:((⟨#[40]⟩:ByteArray)++sj).size=1+sj.size:=(by rw[ByteArray.size_append,h1]);rw[Jy oM,Jy oM];refine n w7 _ (f.trans (v.trans D)) ?_;rw[ByteArray.data_append,ByteArray.data_append,Px,Px,a4,N];simp
end
end Go.Proofs.YtfjlkobhagjdaaaGreatDoor
section
namespace Go.M
theorem node_right {ds:List Dcl} {t:Tm} (l:declOk ds=true) (hs:sortM ds t≠ -1) {L:Nat->Nat} (n:∀i,i<t.ks.length->L i=lenS (sortM ds (kid t i))):
  (1<=t.op->t.op<=2->t.ks.length=1/\1<=L 0/\L 0<=4)/\(3<=t.op->t.op<=13->t.ks.length=2/\L 0=L 1/\1<=L 0/\L 0<=4)/\(t.op=14->t.ks.length=2/\1<=L 0/\1<=L 1/\L 0+L 1<=4)/\
  (15<=t.op->t.op<=17->t.ks.length=2/\L 0=L 1/\1<=L 0/\L 0<=4)/\(t.op=22->t.ks.length=1/\0<=t.b/\t.b<=t.a/\t.a<L 0/\L 0<=4)/\(t.op=23->t.ks.length=3/\L 0=1/\L 1=L 2/\1<=L 1/\L 1<=4)/\
  (25<=t.op->(t.ks.length=if t.op=25 then 1 else 2)/\∀i,i<t.ks.length->L i=1):=by
 obtain⟨j,m,g⟩:=sort_parts hs;simp only[formed,gj,X0] at j;obtain⟨f,q⟩:=j;have k:=arity_ops (o:=t.op) oM;have s:∀i,i<t.ks.length->(t.ks.map (sortM ds)).getD i 0=sortM ds (kid t i):=λi hi=>getD_map _ hi _ _;have d:∀i,-1<=sortM ds (kid t i)/\sortM ds (kid t i)<=4:=λi=>sort_range l _;rw[g] at hs;unfold sortK at hs;unfold arity at f;have u:=d 0;have v:=d 1;have w:=d 2;refine⟨λa b=>?_,λa b=>?_,λa=>?_,λa b=>?_,λa=>?_,λa=>?_,λa=>?_⟩
 .grind [lenS]
 .have e:t.ks.length=2:=oM
  grind [lenS]
 .have e:t.ks.length=2:=oM
  grind [lenS]
 .have e:t.ks.length=2:=oM
  grind [lenS]
 .grind [lenS]
 .have e:t.ks.length=3:=oM
  grind [lenS]
 .have e:t.ks.length=if t.op=25 then 1 else 2:=by
   grind
  rw[y3 oM,y3 oM,k6 oM] at hs;by_cases c:(t.ks.map (sortM ds)).any (λx=>decide (x≠0))=true
  .grind
  .refine⟨e,λi hi=>?_⟩;have h:=n i hi;have r:sortM ds (kid t i)=0:=Gg λp=>c (G9.2 ⟨sortM ds (kid t i),gw.2 ⟨_,getD_mem hi default,rfl⟩,by grind⟩);rw[r] at h;exact h
end Go.M
end
end
