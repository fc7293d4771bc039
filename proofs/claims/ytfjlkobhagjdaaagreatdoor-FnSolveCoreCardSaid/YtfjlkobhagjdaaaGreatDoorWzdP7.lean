import Derived.Ground.NamesProg
import Derived.Ground.SlsfProg
import Derived.Shelf.SlSortCmp.Whole1
import Derived.Shelf.Strings.OnBuilder
import Derived.Shelf.Strings.SlTrimAscii
import Derived.Shelf.SlGeneric
import Derived.Test.YtfjlkobhagjdaaaGreatDoorWzdP6
/- A part of the proof. -/
set_option linter.all false
set_option maxRecDepth 9999
set_option maxHeartbeats 2000000
noncomputable section
namespace Go.Proofs
open Go.Shelf
def YtfjlkobhagjdaaaGreatDoor.sortL_ren:Go.Shelf.Ren:=⟨λ|6=>291 |15=>316 |14=>315 |28=>339 |29=>340 |20=>331 |21=>332 |22=>333 |23=>334 |24=>335 |25=>336 |26=>337 |27=>338 |46=>346 |47=>347 |48=>348 |49=>349 |50=>350 |57=>353 |n=>n,λ|22=>45 |24=>3 |25=>145 |3=>3 |39=>288 |0=>0 |53=>380 |55=>253 |4=>4 |46=>390 |45=>389 |50=>48 |5=>5 |9=>9 |66=>398 |70=>150 |76=>403 |77=>29 |n=>n,λ|n=>n⟩
theorem YtfjlkobhagjdaaaGreatDoor.sortL:Go.Proofs.SlLaysF.n6 Tryz.prog YtfjlkobhagjdaaaGreatDoor.sortL_ren:={
 mixed:=rK
 f6:=⟨Tryz.f291.name,dC,Tryz.func291.trans (congrArg some rK)⟩
 f14:=⟨Tryz.f315.name,dC,Tryz.func315.trans (congrArg some rK)⟩
 f15:=Tryz.func316.trans (congrArg some rK)
 f20:=⟨Tryz.f331.name,dC,Tryz.func331.trans (congrArg some rK)⟩
 f21:=⟨Tryz.f332.name,dC,Tryz.func332.trans (congrArg some rK)⟩
 f22:=⟨Tryz.f333.name,dC,Tryz.func333.trans (congrArg some rK)⟩
 f23:=⟨Tryz.f334.name,dC,Tryz.func334.trans (congrArg some rK)⟩
 f24:=⟨Tryz.f335.name,dC,Tryz.func335.trans (congrArg some rK)⟩
 f25:=⟨Tryz.f336.name,dC,Tryz.func336.trans (congrArg some rK)⟩
 f26:=⟨Tryz.f337.name,dC,Tryz.func337.trans (congrArg some rK)⟩
 f27:=⟨Tryz.f338.name,dC,Tryz.func338.trans (congrArg some rK)⟩
 f28:=Tryz.func339.trans (congrArg some rK)
 f29:=Tryz.func340.trans (congrArg some rK)
 f46:=⟨Tryz.f346.name,dC,Tryz.func346.trans (congrArg some rK)⟩
 f47:=Tryz.func347.trans (congrArg some rK)
 f48:=Tryz.func348.trans (congrArg some rK)
 f49:=⟨Tryz.f349.name,dC,Tryz.func349.trans (congrArg some rK)⟩
 f50:=⟨Tryz.f350.name,dC,Tryz.func350.trans (congrArg some rK)⟩
 f57:=⟨Tryz.f353.name,dC,Tryz.func353.trans (congrArg some rK)⟩
 t0:=Tryz.underlying0
 a0:=Tryz.isAgg0
 z0:=Tryz.sizeOf0
 v0:=Tryz.zeroValue0
 t3:=Tryz.underlying3
 a3:=Tryz.isAgg3
 z3:=Tryz.sizeOf3
 v3:=Tryz.zeroValue3
 t4:=Tryz.underlying4
 a4:=Tryz.isAgg4
 z4:=Tryz.sizeOf4
 v4:=Tryz.zeroValue4
 t5:=Tryz.underlying5
 a5:=Tryz.isAgg5
 z5:=Tryz.sizeOf5
 v5:=Tryz.zeroValue5
 t9:=Tryz.underlying9
 a9:=Tryz.isAgg9
 z9:=Tryz.sizeOf9
 v9:=Tryz.zeroValue9
 t22:=Tryz.underlying45
 a22:=Tryz.isAgg45
 z22:=Tryz.sizeOf45
 v22:=Tryz.zeroValue45
 a24:=Tryz.isAgg3
 z24:=Tryz.sizeOf3
 t25:=Tryz.underlying145
 a25:=Tryz.isAgg145
 z25:=Tryz.sizeOf145
 v25:=Tryz.zeroValue145
 t39:=Tryz.underlying288
 a39:=Tryz.isAgg288
 z39:=Tryz.sizeOf288
 v39:=Tryz.zeroValue288
 t45:=Tryz.underlying389
 a45:=Tryz.isAgg389
 z45:=Tryz.sizeOf389
 v45:=Tryz.zeroValue389
 t46:=Tryz.underlying390
 a46:=Tryz.isAgg390
 z46:=Tryz.sizeOf390
 v46:=Tryz.zeroValue390
 t50:=Tryz.underlying48
 a50:=Tryz.isAgg48
 z50:=Tryz.sizeOf48
 v50:=Tryz.zeroValue48
 t53:=Tryz.underlying380
 a53:=Tryz.isAgg380
 z53:=Tryz.sizeOf380
 v53:=Tryz.zeroValue380
 t55:=Tryz.underlying253
 a55:=Tryz.isAgg253
 z55:=Tryz.sizeOf253
 v55:=Tryz.zeroValue253
 t66:=Tryz.underlying398
 a66:=Tryz.isAgg398
 z66:=Tryz.sizeOf398
 v66:=Tryz.zeroValue398
 t70:=Tryz.underlying150
 a70:=Tryz.isAgg150
 z70:=Tryz.sizeOf150
 v70:=Tryz.zeroValue150
 t76:=Tryz.underlying403
 a76:=Tryz.isAgg403
 z76:=Tryz.sizeOf403
 v76:=Tryz.zeroValue403
 t77:=Tryz.underlying29
 a77:=Tryz.isAgg29
 z77:=Tryz.sizeOf29
 v77:=Tryz.zeroValue29}
def YtfjlkobhagjdaaaGreatDoor.trimL_ren:Go.Shelf.Ren:=⟨λ|160=>95 |232=>118 |231=>117 |227=>119 |234=>121 |233=>120 |236=>123 |235=>122 |228=>141 |271=>144 |151=>143 |197=>142 |120=>181 |152=>180 |260=>179 |137=>212 |119=>213 |224=>214 |225=>215 |217=>251 |266=>293 |n=>n,λ|9=>9 |4=>4 |3=>3 |5=>5 |117=>183 |116=>182 |0=>0 |124=>186 |21=>21 |105=>219 |46=>288 |119=>287 |139=>291 |138=>290 |n=>n,λ|3=>4 |4=>5 |n=>n⟩
theorem YtfjlkobhagjdaaaGreatDoor.trimL:Go.Proofs.Lays.n160 Tryz.prog YtfjlkobhagjdaaaGreatDoor.trimL_ren:={
 mixed:=rK
 f119:=Tryz.func213.trans (congrArg some rK)
 f120:=Tryz.func181.trans (congrArg some rK)
 f137:=Tryz.func212.trans (congrArg some rK)
 f151:=Tryz.func143.trans (congrArg some rK)
 f152:=Tryz.func180.trans (congrArg some rK)
 f160:=Tryz.func95.trans (congrArg some rK)
 f197:=Tryz.func142.trans (congrArg some rK)
 f217:=Tryz.func251.trans (congrArg some rK)
 f224:=Tryz.func214.trans (congrArg some rK)
 f225:=Tryz.func215.trans (congrArg some rK)
 f227:=Tryz.func119.trans (congrArg some rK)
 f228:=Tryz.func141.trans (congrArg some rK)
 f231:=Tryz.func117.trans (congrArg some rK)
 f232:=Tryz.func118.trans (congrArg some rK)
 f233:=Tryz.func120.trans (congrArg some rK)
 f234:=Tryz.func121.trans (congrArg some rK)
 f235:=Tryz.func122.trans (congrArg some rK)
 f236:=Tryz.func123.trans (congrArg some rK)
 f260:=Tryz.func179.trans (congrArg some rK)
 f266:=Tryz.func293.trans (congrArg some rK)
 f271:=Tryz.func144.trans (congrArg some rK)
 t0:=Tryz.underlying0
 a0:=Tryz.isAgg0
 z0:=Tryz.sizeOf0
 v0:=Tryz.zeroValue0
 t3:=Tryz.underlying3
 a3:=Tryz.isAgg3
 z3:=Tryz.sizeOf3
 v3:=Tryz.zeroValue3
 t4:=Tryz.underlying4
 a4:=Tryz.isAgg4
 z4:=Tryz.sizeOf4
 v4:=Tryz.zeroValue4
 t5:=Tryz.underlying5
 a5:=Tryz.isAgg5
 z5:=Tryz.sizeOf5
 v5:=Tryz.zeroValue5
 t9:=Tryz.underlying9
 a9:=Tryz.isAgg9
 z9:=Tryz.sizeOf9
 v9:=Tryz.zeroValue9
 t21:=Tryz.underlying21
 a21:=Tryz.isAgg21
 z21:=Tryz.sizeOf21
 v21:=Tryz.zeroValue21
 t46:=Tryz.underlying288
 a46:=Tryz.isAgg288
 z46:=Tryz.sizeOf288
 v46:=Tryz.zeroValue288
 t105:=Tryz.underlying219
 a105:=Tryz.isAgg219
 z105:=Tryz.sizeOf219
 v105:=Tryz.zeroValue219
 t116:=Tryz.underlying182
 a116:=Tryz.isAgg182
 z116:=Tryz.sizeOf182
 t117:=Tryz.underlying183
 a117:=Tryz.isAgg183
 z117:=Tryz.sizeOf183
 v117:=Tryz.zeroValue183
 t119:=Tryz.underlying287
 a119:=Tryz.isAgg287
 z119:=Tryz.sizeOf287
 t124:=Tryz.underlying186
 a124:=Tryz.isAgg186
 z124:=Tryz.sizeOf186
 v124:=Tryz.zeroValue186
 t138:=Tryz.underlying290
 a138:=Tryz.isAgg290
 z138:=Tryz.sizeOf290
 v138:=Tryz.zeroValue290
 t139:=Tryz.underlying291
 a139:=Tryz.isAgg291
 z139:=Tryz.sizeOf291
 v139:=Tryz.zeroValue291
 g3:=rK
 g4:=rK}
def YtfjlkobhagjdaaaGreatDoor.joinL_ren:Go.Shelf.Ren:=⟨λ|156=>235 |165=>265 |166=>266 |169=>267 |240=>305 |241=>306 |276=>324 |277=>325 |n=>n,λ|31=>126 |9=>9 |3=>3 |4=>4 |0=>0 |20=>20 |72=>335 |76=>336 |70=>333 |37=>42 |75=>143 |127=>362 |164=>377 |5=>5 |80=>312 |n=>n,λ|n=>n⟩
theorem YtfjlkobhagjdaaaGreatDoor.joinL:Go.Proofs.Lays.n156 Tryz.prog YtfjlkobhagjdaaaGreatDoor.joinL_ren:={
 mixed:=rK
 f156:=Tryz.func235.trans (congrArg some rK)
 f165:=Tryz.func265.trans (congrArg some rK)
 f166:=Tryz.func266.trans (congrArg some rK)
 f169:=Tryz.func267.trans (congrArg some rK)
 f240:=Tryz.func305.trans (congrArg some rK)
 f241:=Tryz.func306.trans (congrArg some rK)
 f276:=Tryz.func324.trans (congrArg some rK)
 f277:=Tryz.func325.trans (congrArg some rK)
 t0:=Tryz.underlying0
 a0:=Tryz.isAgg0
 z0:=Tryz.sizeOf0
 v0:=Tryz.zeroValue0
 t3:=Tryz.underlying3
 a3:=Tryz.isAgg3
 z3:=Tryz.sizeOf3
 v3:=Tryz.zeroValue3
 t4:=Tryz.underlying4
 a4:=Tryz.isAgg4
 z4:=Tryz.sizeOf4
 v4:=Tryz.zeroValue4
 t9:=Tryz.underlying9
 a9:=Tryz.isAgg9
 z9:=Tryz.sizeOf9
 v9:=Tryz.zeroValue9
 t20:=Tryz.underlying20
 a20:=Tryz.isAgg20
 z20:=Tryz.sizeOf20
 v20:=Tryz.zeroValue20
 t31:=Tryz.underlying126
 a31:=Tryz.isAgg126
 z31:=Tryz.sizeOf126
 v31:=Tryz.zeroValue126
 t37:=Tryz.underlying42
 a37:=Tryz.isAgg42
 z37:=Tryz.sizeOf42
 v37:=Tryz.zeroValue42
 t70:=Tryz.underlying333
 a70:=Tryz.isAgg333
 z70:=Tryz.sizeOf333
 v70:=Tryz.zeroValue333
 t72:=Tryz.underlying335
 a72:=Tryz.isAgg335
 z72:=Tryz.sizeOf335
 v72:=Tryz.zeroValue335
 t75:=Tryz.underlying143
 a75:=Tryz.isAgg143
 z75:=Tryz.sizeOf143
 v75:=Tryz.zeroValue143
 t76:=Tryz.underlying336
 a76:=Tryz.isAgg336
 z76:=Tryz.sizeOf336
 v76:=Tryz.zeroValue336
 t127:=Tryz.underlying362
 a127:=Tryz.isAgg362
 z127:=Tryz.sizeOf362
 v127:=Tryz.zeroValue362
 t164:=Tryz.underlying377
 a164:=Tryz.isAgg377
 z164:=Tryz.sizeOf377
 v164:=Tryz.zeroValue377}
end Go.Proofs
namespace Go.Proofs.YtfjlkobhagjdaaaGreatDoor
open Go Go.Vc Go.Proofs
section
variable {w:World} {K:oK} {F G:oA}
theorem dw_nil {α:Type} {p:α->Bool}:∀{l:List α},l.dropWhile p=[]↔ ∀x,x∈l->p x=true
 |[]=>by simp
 |a::l=>by
  rw[PU];split
  .rename_i h;rw[dw_nil];constructor
   .intro b x c;rcases gm.1 c with rfl|c
    .exact h
    .exact b x c
   .intro b x c;exact b x (gw _ c)
  .rename_i h;constructor
   .intro b;cases b
   .intro b;exact absurd (b a gq) h
theorem dw_head {α:Type} {p:α->Bool}:∀{l:List α},l.dropWhile p≠[]->∃x,x∈l.dropWhile p/\p x=false
 |[],h=>absurd rfl h
 |a::l,h=>by
  rw[PU] at h⊢;split
  .rename_i b;rw[K3 b] at h;exact dw_head h
  .rename_i b;exact⟨a,gq,by simpa using b⟩
theorem dw_sub {α:Type} {p:α->Bool}:∀{l:List α} {x:α},x∈l.dropWhile p->x∈l
 |[],_,h=>h
 |a::l,x,h=>by
  rw[PU] at h;split at h
  .exact gw _ (dw_sub h)
  .exact h
theorem kI0 {l cs:List UInt8}:Lib.trimS l cs=[]↔ ∀x,x∈l->cs.contains x=true:=by
 unfold Lib.trimS Lib.trimLeftS Lib.trimRightS;rw[dw_nil];constructor
 .intro h;by_cases a:∀x,x∈l->cs.contains x=true
  .exact a
  .exfalso;have b:List.dropWhile (λx=>cs.contains x) l.reverse≠[]:=λe=>a λx c=>dw_nil.1 e x (PE.2 c);obtain⟨y,g,f⟩:=dw_head b;have d:=h y (PE.2 g);rw[f] at d;cases d
 .intro h x c;exact h x (PE.1 (dw_sub (PE.1 c)))
def abc:ByteArray:=⟨#[97,98,99,100,101,102,103,104,105,106,107,108,109,110,111,112,113,114,115,116,117,118,119,120,121,122]⟩
theorem abc_in (x:UInt8):abc.data.toList.contains x=(decide (97<=x.toNat)&&decide (x.toNat<=122)):=by
 have a:∀n:Fin 256,abc.data.toList.contains (UInt8.ofNat n.1)=(decide (97<=(UInt8.ofNat n.1).toNat)&&decide ((UInt8.ofNat n.1).toNat<=122)):=by decide+kernel
 have:=a ⟨x.toNat,x.toNat_lt⟩;simpa using this
theorem yE0 {w w':World} (h:Go.RowKit.Below w.heap.size w w'):Ext w w':=⟨h.os,h.tape,h.output,h.size,λb a _=>h.block b a⟩
def yj0 (s:ByteArray):Bool:=s.data.all λc=>decide (97<=c.toNat)&&decide (c.toNat<=122)
theorem k90 {s:ByteArray} (hs:s.size<=9223372036854775807) (f:∀w' r,Ext w w'->(r=⟨#[]⟩↔yj0 s=true)->K (.string r) w'):vcall Vh #[.string s,.string abc] w K:=by
 refine⟨rK,?_⟩;refine(Any.strings_Trim_laid YtfjlkobhagjdaaaGreatDoor.trimL rK s abc w hs dC (ascii_of_all dC)).mono ?_;rintro e w' ⟨rfl,g⟩;refine f w' _ (yE0 g) ?_;have c:((⟨(Lib.trimS s.data.toList abc.data.toList).toArray⟩:ByteArray)=⟨#[]⟩)↔Lib.trimS s.data.toList abc.data.toList=[]:=by
  constructor
  .intro h;have d:=congrArg (λb:ByteArray=>b.data.toList) h;simpa using d
  .intro h;rw[h]
 rw[c,kI0];unfold yj0;rw[pO];constructor
 .intro h x a;rw[<-abc_in];exact h x (Pb.2 a)
 .intro h x a;rw[abc_in];exact h x (Pb.1 a)
theorem stDecl {b:Nat} {x y:Value} {t:TypeId} {s:ByteArray} {n:Int} (h:Blk w b [x,y] t) (c:∀w',Same (· =b) w w'->w'.heap.size=w.heap.size->Blk w' b [.string s,nI n] t->K undef w'):zI yQ (oP b 0) (.agg ⟨[.string s,nI n]⟩) w K:=
 h.stAgg rfl rK (by intro v a;simp only[gm,gC,Gi] at a;rcases a with rfl|rfl<;>rfl) c
theorem ZL (s:ByteArray):M.nameOk s=(decide (1<=s.size)&&decide (s.size<=4)&&decide (s≠M.tru)&&yj0 s):=rfl
theorem DeclOk_spec {v:Value} {ds:List M.Dcl} (N:DclsR F w v ds) (D:∀w',Ext w w'->K (.bool (M.declOk ds)) w'):vcall Uu #[v] w K:=by
 refine ze {loops:=[(5,[3,11])],cuts:=[(32777,[])]} Tryz.func67 ?_;simp only[push_cast,N.len];refine zb (λa=>?_) (λa=>?_)
 .have:=D w (Same.refl _ _);rwa[show M.declOk ds=false from by rw[G0];intro h;have:=(M.decl_iff.1 h).1;omega] at this
 refine vloop_up ds.length (λi u w'=>u=[nI (M.bitT ds i),nI i]/\Ext w w'/\(∀j,j<i->M.dclOk ds j=true)/\ -4*(i:Int)<=M.bitT ds i/\M.bitT ds i<=4*i) ⟨rfl,Same.refl _ _,oM,by simp[M.bitT],by simp[M.bitT]⟩ ?_;rintro i _ _ w1 C hi ⟨rfl,o,q,a0,a1⟩ hC;have E:=N.ext o;refine oZ ?_;refine zb (λb=>?_) (λb=>?_)
 .have z:i<ds.length:=oM;have d:M.dclOk ds i=false->∀w',Ext w w'->K (.bool false) w':=λe w' he=>by
   have:=D w' he;rwa[show M.declOk ds=false from by rw[G0];intro h;have:=(M.decl_iff.1 h).2.1 i z;rw[e] at this;cases this] at this
  unfold M.dclOk at d;rw[ZL] at d;simp(disch:=exact oS) only[push_cast,E.iaddr,E.load];obtain⟨s,n,B⟩:∃s n,ds.getD i Qh=(s,n):=⟨_,_,rfl⟩;simp only[B] at d⊢;refine zi yV λb1 w2 U O a4 X=>?_;refine stDecl X λW R _ S=>?_;have a6:=o.size;have k:Ext w W:=Ext.then (o.trans O) R λy hy=>by subst hy;omega
  refine zo (λu w'=>u=[]/\Ext W w'/\M.nameOk s=true) (λC' L=>?_) ?_
  .simp(disch:=exact oS) only[push_cast,S.ld0,Wv kZ];refine zb (λc=>?_) (λc=>?_)
   .exact d (by rw[gk (show¬1<=s.size by omega)];simp) _ k
   refine zb (λc2=>?_) (λc2=>?_)
   .exact d (by rw[gk (show¬s.size<=4 by omega)];simp) _ k
   refine zb (λc3=>?_) (λc3=>?_)
   .exact d (by rw[show decide (s≠M.tru)=false from gk (λh=>h c3)];simp) _ k
   refine k90 oM λw4 r l V=>?_;refine oZ ?_;refine zb (λI=>?_) (λI=>?_)
   .have:yj0 s=false:=by
     rw[G0];exact λh=>I (V.2 h)
    exact d (by rw[this];simp) _ (k.trans l)
   .have J:r=⟨#[]⟩:=by
     by_cases h:r=⟨#[]⟩
     .exact h
     .exact absurd h I
    refine L _ _ ⟨rfl,l,?_⟩;rw[ZL,gl (show 1<=s.size by omega),gl (show s.size<=4 by omega),show decide (s≠M.tru)=true from gl c3,V.1 J];rfl
  .rintro u g w4 ⟨rfl,l,A⟩;have T:=S.ext l;have f:=k.trans l;have G:=N.ext f;rw[ZL] at A;rw[A] at d;rw[G.cut (by intro e;subst e;simp at z) rK oM];refine oZ ?_;have a3:(ds.take i).length=i:=by rw[gi];omega
   refine Je (p:=λj=>decide (((ds.take i).getD j Qh).1=s)) (G.taken oM) (λj hj=>?_) λw5 m=>?_
   .intro w' K he D;refine oZ ?_;refine ze {} Tryz.func97 ?_;refine zl λb3 w6 a2 H a5 Z=>?_;have h7:=(T.ext he).ext H;simp(disch:=exact oS) only[push_cast,Z.ld0,h7.ld0];exact D _ H
   .rw[<-Xv];have Y:=T.ext m;have efd:idxI (ds.take i).length (λj=>decide (((ds.take i).getD j Qh).1=s))=M.findD (ds.take i) s:=rfl;rw[efd];refine zb (λc=>?_) (λc=>?_)
    .exact d (by rw[gk (show¬M.findD (ds.take i) s<0 by omega)];simp) _ (f.trans m)
    simp(disch:=exact oS) only[push_cast,Y.ld1];refine zb (λc1=>?_) (λc1=>?_)
    .exact d (by rw[gk (show¬1<=n by omega)];simp) _ (f.trans m)
    refine zb (λc2=>?_) (λc2=>?_)
    .exact d (by rw[gk (show¬n<=4 by omega)];simp) _ (f.trans m)
    have t:=M.bitT_succ z;rw[show ds.getD i (M.nada,0)=(s,n) from B] at t;rw[zj (x:=M.bitT ds i+n) oM oM,inc64' oM,show M.bitT ds i+n=M.bitT ds (i+1) from t.symm];refine hC oM _ _ ⟨rfl,f.trans m,λj hj=>?_,oM,oM⟩;by_cases e:j=i
    .subst e;unfold M.dclOk;rw[show ds.getD j (M.nada,0)=(s,n) from B,ZL,A];simp only[pC,gp,gg];exact⟨⟨oM,oM⟩,oM⟩
    .exact q j oM
 .have Q:i=ds.length:=oM;subst Q;have:=D w1 o;rw[M.bitT_all];have e:M.declOk ds=decide (M.bits ds<=8):=by
   rw[z0j,M.decl_iff,gg];exact⟨λh=>h.2.2,λh=>⟨oM,q,h⟩⟩
  rwa[e] at this
theorem EnvOk_spec {v ev:Value} {ds:List M.Dcl} {env:oI} (p:DclsR F w v ds) (x:Ints G w ev env) (r:∀w',Ext w w'->K (.bool (M.envOk ds env)) w'):vcall yi0 #[v,ev] w K:=by
 refine ze {loops:=[(4,[19])],cuts:=[(8195,[])]} Tryz.func50 ?_;have A:=p.small;refine zo (λu w'=>u=[]/\Ext w w'/\M.declOk ds=true/\env.length=ds.length) (λC q=>?_) ?_
 .refine DeclOk_spec p λw1 c=>?_;have s:=p.ext c;have l:=x.ext c;have f:=r w1 c;unfold M.envOk at f;refine oZ ?_;refine zm (λa=>?_) (λa=>?_)
  .rw[show M.declOk ds=false by simpa using a] at f;exact f
  .rw[Gc] at a;simp only[push_cast,l.len,s.len];refine zb (λb=>?_) (λb=>?_)
   .rw[a,gk (show¬env.length=ds.length by omega)] at f;exact f
   .exact q _ _ ⟨rfl,c,a,oM⟩
 .rintro u g w1 ⟨rfl,c,t,z⟩;have l:=x.ext c;simp only[push_cast,l.len];refine vloop_up env.length (λi u w'=>u=[nI i]/\Ext w w'/\∀j,j<i->M.vok (ds.getD j Qh).2 (env.getD j 0)=true) ⟨rfl,c,oM⟩ ?_;rintro i _ _ w2 C hi ⟨rfl,d,k⟩ q;have m:=p.ext d;have o:=x.ext d;refine oZ ?_;refine zb (λa=>?_) (λa=>?_)
  .simp(disch:=exact oS) only[push_cast,o.iaddr,o.load,m.iaddr]
   try simp(disch:=exact oS) only[push_cast,m.load1]
   refine VecOk_spec λB n=>?_;refine oZ ?_;refine zm (λb=>?_) (λb=>?_)
   .have f:=r B (d.trans n);rwa[show M.envOk ds env=false from by
     rw[G0];intro h;have:=(M.env_ok h).2.2 i oM;rw[this] at b;cases b] at f
   .rw[inc64' oM];refine q oM _ _ ⟨rfl,d.trans n,λj y=>?_⟩;by_cases e:j=i
    .subst e;simpa using b
    .exact k j oM
  .have f:=r w2 d;rwa[show M.envOk ds env=true from by
    simp only[M.envOk,gp,gV,gK,gg];exact⟨⟨t,z⟩,λj y=>k j oM⟩] at f
theorem envMap_spec {v ev:Value} {ds:List M.Dcl} {env:oI} (o:DclsR F w v ds) (H:Ints G w ev env) (B:M.envOk ds env=true) (Q:∀w' b,Ext w w'->EnvM w' b ds env->K (.map (some b)) w'):vcall Uo #[v,ev] w K:=by
 refine ze {loops:=[(3,[11])]} Tryz.func53 ?_;have X:=o.small;obtain⟨q,hl,_⟩:=M.env_ok B;refine Ws KH λb w1 hb hm k V=>?_;have p:=o.ext k;simp only[push_cast,p.len];refine vloop_up ds.length (λi u w'=>u=[nI i]/\Ext w w'/\MapF .string w' b ((List.range i).map λj=>(Value.string (ds.getD j Qh).1,nI (env.getD j 0)))) ⟨rfl,k,hm⟩ ?_;rintro i _ _ w2 C hi ⟨rfl,c,f⟩ O;have h:=o.ext c;have Y:=c.size;have U:=f.lt;refine oZ ?_;refine zb (λa=>?_) (λa=>?_)
 .simp(disch:=exact oS) only[push_cast,h.iaddr,h.load];refine zi yV λb1 w3 R r W J=>?_;refine stDecl J λZ E _ L=>?_;have l:Ext w2 Z:=Ext.then r E λy I=>by subst I;omega
  refine zd λw5 d _=>?_;have N:=L.ext d;have g:=(c.trans l).trans d;have m:=H.ext g;have z:=(f.ext l).ext d;simp(disch:=exact oS) only[push_cast,N.ld0,m.iaddr,m.load,Q1];refine zt0 KH z (Y7 _) (λx H=>?_) λw6 A D _=>?_
  .obtain⟨j,S,e⟩:=gz.1 H
   injection e with n e2
   injection n with n
   exact M.dcl_apart q (i:=i) (j:=j) oM (gK.1 S) n
  .try simp only[push_cast]
   rw[inc64' oM];refine O oM _ _ ⟨rfl,Ext.then g D λy I=>by subst I;omega,?_⟩;rw[PN,gD];exact A
 .have t:i=ds.length:=oM;subst t;refine Q w2 b c ⟨_,f,λs hs=>?_⟩;have T:=M.findD_lt ds s;refine gz.2 ⟨(M.findD ds s).toNat,gK.2 oM,?_⟩;rw[show(ds.getD (M.findD ds s).toNat Qh).1=s from M.findD_get hs]
theorem TermSort_spec {dv v:Value} {ds:List M.Dcl} {t:M.Tm} (r:DclsR F w dv ds) (z:TermR G w v t) (q:∀w',Ext w w'->K (nI (M.tsort ds t)) w'):vcall Kz #[dv,v] w K:=by
 refine ze {} Tryz.func37 ?_;obtain⟨cs,rfl,c⟩:=z.cells;refine zl λb1 w1 u g y n=>?_;rw[n.ldAgg (t:=za) (by rw[zR c];exact zc)];refine TermMany_spec (c.ext g).term λw2 i=>?_;refine oZ ?_;have e:=g.trans i;refine DeclOk_spec (r.ext e) λA j=>?_;have f:=e.trans j;have m:=q A f;unfold M.tsort at m;refine oZ ?_;refine zm (λa=>?_) (λa=>?_)
 .rwa[X0 (λh=>by rw[h.2] at a;cases a)] at m
 .rw[Gc] at a;refine zb (λb=>?_) (λb=>?_)
  .rw[X0 (λh=>by
    have n:=M.fits_iff.1 h.1;unfold M.manyM at b;rw[K3 h.1] at b;omega)] at m
   exact m
  .have x:M.fits t=true:=by
    by_cases h:M.fits t=true
    .exact h
    .unfold M.manyM at b;rw[X0 h] at b;omega
   refine zd λC k _=>?_;have p:=((n.ext i).ext j).ext k;rw[p.ldAgg (t:=za) (by rw[zR c];exact zc)];refine⟨rfl,QU λD mb l hm=>?_⟩;have s:=p.ext l;rw[s.ldAgg (t:=za) (by rw[zR c];exact zc)];have d:=(f.trans k).trans l;refine⟨⟨rfl,rfl⟩,sortOf_spec t hm (r.ext d) a (c.ext d).term λB o=>?_⟩;have:=q B (d.trans o);unfold M.tsort at this;rwa[K3 ⟨x,a⟩] at this
theorem zj0 {dv v ev:Value} {ds:List M.Dcl} {t:M.Tm} {env:oI} {H:oA} (r:DclsR F w dv ds) (J:TermR G w v t) (C:Ints H w ev env) (B:∀w',Ext w w'->K (.tuple #[nI (M.teval ds t env),.bool (M.tok ds t env)]) w'):vcall KD #[dv,v,ev] w K:=by
 refine ze {} Tryz.func20 ?_;obtain⟨cs,rfl,c⟩:=J.cells;refine zl λb1 w1 E i I y=>?_;rw[y.ldAgg (t:=za) (by rw[zR c];exact zc)];refine TermSort_spec (r.ext i) (c.ext i).term λw2 n=>?_;have d:=i.trans n;have k:M.tok ds t env=false->∀w',Ext w w'->K (.tuple #[nI 0,.bool false]) w':=λe w' he=>by
  have:=B w' he;unfold M.teval at this;rw[e] at this;exact this
 unfold M.tok at k;refine oZ ?_;refine zb (λa=>?_) (λa=>?_)
 .exact k (by rw[show decide (M.tsort ds t≠ -1)=false from gk (λh=>h a)];rfl) _ d
 .refine EnvOk_spec (r.ext d) (C.ext d) λO o=>?_;have m:=d.trans o;refine oZ ?_;refine zm (λb=>?_) (λb=>?_)
  .exact k (by rw[show M.envOk ds env=false by simpa using b,pI]) _ m
  .rw[Gc] at b;have x:M.tok ds t env=true:=by
    unfold M.tok;rw[show decide (M.tsort ds t≠ -1)=true from gl a,b];rfl
   have l:M.sortM ds t≠ -1:=by
    unfold M.tsort at a;split at a
    .exact a
    .exact absurd rfl a
   have L:M.tsort ds t=M.sortM ds t:=by
    unfold M.tsort at a⊢;split at a
    .rename_i h;rw[K3 h]
    .exact absurd rfl a
   refine zd λQ p _=>?_;have z:=((y.ext n).ext o).ext p;rw[z.ldAgg (t:=za) (by rw[zR c];exact zc)];refine⟨rfl,QU λR mb q hm=>?_⟩;have A:=z.ext q;rw[A.ldAgg (t:=za) (by rw[zR c];exact zc)];have f:=(m.trans p).trans q;refine⟨⟨rfl,rfl⟩,envMap_spec (r.ext f) (C.ext f) b λS eb j u=>?_⟩;have D:=A.ext j;rw[D.ldAgg (t:=za) (by rw[zR c];exact zc)];have g:=f.trans j;refine⟨⟨rfl,rfl⟩,zw0 t (hm.ext j) (r.ext g) b u (c.ext g).term l λN s=>?_⟩;simp only[push_cast,Q1];have:=B N (g.trans s);unfold M.teval at this;rw[x] at this;exact this
end
section
variable {w:World} {K:oK} {F G:oA}
theorem l2Name_spec {s:ByteArray} (hs:s.size<=9223372036854775807) (d:K (.bool (M.nameOk s)) w):vcall U5 #[.string s] w K:=by
 refine ze {loops:=[(2,[3])]} Tryz.func73 ?_;rw[ZL] at d;refine vloop_up s.size (λi u w'=>u=[nI i]/\w'=w/\∀j,j<i->(decide (97<=(s.data.getD j 0).toNat)&&decide ((s.data.getD j 0).toNat<=122))=true) ⟨rfl,rfl,oM⟩ ?_;rintro i _ _ w1 C hi ⟨rfl,rfl,g⟩ o;simp(disch:=exact oS) only[push_cast,Wv kZ];have l:i<s.size->(decide (97<=(s.data.getD i 0).toNat)&&decide ((s.data.getD i 0).toNat<=122))=false->yj0 s=false:=λf h=>by
  rw[G0];intro k;unfold yj0 at k;rw[pO] at k;have m:i<s.data.size:=f;have:=k (s.data.getD i 0) (by rw[Gd,GG m];exact Array.getElem_mem m);rw[h] at this;cases this
 refine zb (λa=>?_) (λa=>?_)
 .have f:i<s.size:=oM;rw[vindex_str kZ oM oM,gu];refine oZ ?_;refine zb (λb=>?_) (λb=>?_)
  .rw[l f (by rw[gk (show¬97<=(s.data.getD i 0).toNat by omega)];rfl),pI] at d;exact d
  rw[vindex_str kZ oM oM,gu];refine oZ ?_;refine zb (λc=>?_) (λc=>?_)
  .rw[l f (by rw[gk (show¬(s.data.getD i 0).toNat<=122 by omega)];simp),pI] at d;exact d
  rw[inc64' oM];refine o f _ _ ⟨rfl,rfl,λj n=>?_⟩;by_cases e:j=i
  .subst e;simp only[gp,gg];omega
  .exact g j oM
 .have p:i=s.size:=oM;have k:yj0 s=true:=by
   unfold yj0;rw[pO];intro x q;obtain⟨j,n,rfl⟩:=Array.getElem_of_mem q;have:=g j (by have:s.data.size=s.size:=rfl;omega);rwa[Gd,GG n] at this
  rw[k,PK] at d
  try simp(disch:=exact oS) only[push_cast,Wv kZ]
  refine zb (λb=>?_) (λb=>?_)
  .refine zb (λc=>?_) (λc=>?_)
   .rw[gl (show 1<=s.size by omega),gl (show s.size<=4 by omega)] at d;exact d
   .rw[gk (show¬s.size<=4 by omega)] at d;simpa using d
  .rw[gk (show¬1<=s.size by omega)] at d;simpa using d
theorem l2Find_spec {v:Value} {ds:List M.Dcl} {s:ByteArray} (f:DclsR F w v ds) (d:K (nI (M.findD ds s)) w):vcall U6 #[v,.string s] w K:=by
 refine ze {loops:=[(2,[5])]} Tryz.func74 ?_;have k:=f.small;refine vloop_up ds.length (λi u w'=>u=[nI i]/\w'=w/\∀j,j<i->(ds.getD j Qh).1≠s) ⟨rfl,rfl,oM⟩ ?_;rintro i _ _ w1 C hi ⟨rfl,rfl,c⟩ g;simp only[push_cast,f.len];refine zb (λa=>?_) (λa=>?_)
 .try simp(disch:=exact oS) only[push_cast,f.iaddr]
  try simp(disch:=exact oS) only[push_cast,f.load0]
  refine zb (λb=>?_) (λb=>?_)
  .rw[M.findD_of oM b c] at d;exact d
  .rw[inc64' oM];refine g oM _ _ ⟨rfl,rfl,λj h=>?_⟩;by_cases e:j=i
   .subst e;exact b
   .exact c j oM
 .rw[M.findD_none (λj h=>c j oM)] at d;exact d
theorem spec_DeclOk_spec {v:Value} {ds:List M.Dcl} (E:DclsR F w v ds) (D:∀i,i<ds.length->(ds.getD i Qh).1.size<=9223372036854775807) (A:∀w',Ext w w'->K (.bool (M.declOk ds)) w'):vcall Ug #[v] w K:=by
 refine ze {loops:=[(5,[3,4])]} Tryz.func42 ?_;simp only[push_cast,E.len];refine zb (λa=>?_) (λa=>?_)
 .have:=A w (Same.refl _ _);rwa[show M.declOk ds=false from by rw[G0];intro h;have:=(M.decl_iff.1 h).1;omega] at this
 refine vloop_up ds.length (λi u w'=>u=[nI (M.bitT ds i),nI i]/\Ext w w'/\(∀j,j<i->M.dclOk ds j=true)/\ -4*(i:Int)<=M.bitT ds i/\M.bitT ds i<=4*i) ⟨rfl,Same.refl _ _,oM,by simp[M.bitT],by simp[M.bitT]⟩ ?_;rintro i _ _ w1 C hi ⟨rfl,p,m,H,I⟩ G;have r:=E.ext p;simp only[push_cast,r.len];refine zb (λb=>?_) (λb=>?_)
 .have g:i<ds.length:=oM;have f:M.dclOk ds i=false->∀w',Ext w w'->K (.bool false) w':=λe w' he=>by
   have:=A w' he;rwa[show M.declOk ds=false from by rw[G0];intro h;have:=(M.decl_iff.1 h).2.1 i g;rw[e] at this;cases this] at this
  unfold M.dclOk at f;refine zd λw2 t _=>?_;have d:=r.ext t;have k:=p.trans t;simp(disch:=exact oS) only[push_cast,d.iaddr,Q1];simp(disch:=exact oS) only[push_cast,d.load0,d.load1,Q1];have y:=D i g;have o:=M.bitT_succ g;obtain⟨s,n,l⟩:∃s n,ds.getD i Qh=(s,n):=⟨_,_,rfl⟩;rw[show ds.getD i (M.nada,0)=(s,n) from l] at o;simp only[l] at f y⊢;refine l2Name_spec y ?_;simp only[push_cast,Q1];refine zm (λc=>?_) (λc=>?_)
  .exact f (by rw[show M.nameOk s=false by simpa using c];simp) _ k
  rw[Gc] at c;rw[c] at f;have ecut:∀(w:World) (K:oK),yH xd v none (some (nI (i:Int))) none w K=K (cutV v i) w:=λw K=>d.cut (by intro e;subst e;simp at g) rK oM;have z:∀(K:oK),zt xb (oE ((eaddr v 2 i).add 0)) w2 K=K (.string s) w2:=λK=>(by rw[d.load0 kV0 g,l]);have q:∀(K:oK),zt zV (oE ((eaddr v 2 i).add 1)) w2 K=K (nI n) w2:=λK=>by rw[d.load1 WF g,l]
  try simp(disch:=exact oS) only[push_cast,d.iaddr,Q1]
  try simp(disch:=exact oS) only[push_cast,d.iaddr,z,q,ecut,Q1]
  refine zb (λc1=>?_) (λc1=>?_)
  .exact f (by rw[gk (show¬1<=n by omega)];simp) _ k
  refine zb (λc2=>?_) (λc2=>?_)
  .exact f (by rw[gk (show¬n<=4 by omega)];simp) _ k
  refine l2Find_spec (d.taken oM) ?_;simp only[push_cast,Q1];refine zb (λc3=>?_) (λc3=>?_)
  .exact f (by rw[gk (show¬M.findD (ds.take i) s<0 by omega)];simp) _ k
  try simp(disch:=exact oS) only[push_cast,d.iaddr]
  try simp(disch:=exact oS) only[push_cast,q]
  rw[zj (x:=M.bitT ds i+n) oM oM,inc64' oM,show M.bitT ds i+n=M.bitT ds (i+1) from o.symm];refine G oM _ _ ⟨rfl,k,λj J=>?_,oM,oM⟩;by_cases e:j=i
  .subst e;unfold M.dclOk;rw[show ds.getD j (M.nada,0)=(s,n) from l,c];simp only[pC,gp,gg];exact⟨⟨oM,oM⟩,oM⟩
  .exact m j oM
 .have B:i=ds.length:=oM;subst B;have:=A w1 p;rw[M.bitT_all];have e:M.declOk ds=decide (M.bits ds<=8):=by
   rw[z0j,M.decl_iff,gg];exact⟨λh=>h.2.2,λh=>⟨oM,m,h⟩⟩
  rwa[e] at this
theorem spec_TermMany_spec:∀(t:M.Tm) {w:World} {K:oK} {F:oA} {v:Value},TermR F w v t->(∀w',Ext w w'->K (.tuple #[nI (M.manyM t),nI (M.lvlM t)]) w')->vcall Ko #[v] w K:=by
 refine M.Tm.ind λt ih w K F v ht R=>?_;refine ze {loops:=[(4,[4,5,6])],cuts:=[(20486,[])]} Tryz.func63 ?_;obtain⟨ksv,rfl,y⟩:=ht;refine zl λb1 w1 S B a1 O=>?_;have a2:=y.small;have hS:=M.szT_all t;have hD:=M.dpT_all t;have k:M.fits t=true↔M.sizeM t<=20/\M.deepM t<=7:=M.fits_iff;refine vloop_up t.ks.length (λi u w'=> ∃n d:Nat,u=[nI n,nI d,nI i]/\Ext w1 w'/\n<=41/\d<=8/\(1+M.szT t.ks i<=20/\M.dpT t.ks i<=7->n=1+M.szT t.ks i/\d=M.dpT t.ks i)/\(¬(1+M.szT t.ks i<=20/\M.dpT t.ks i<=7)->20<n\/7<d))
  ⟨1,0,rfl,Same.refl _ _,oM,oM,λh=>⟨rfl,rfl⟩,λh=>by
   have I:M.szT t.ks 0=0:=rfl;have e2:M.dpT t.ks 0=0:=rfl;omega⟩ ?_
 rintro i _ _ w2 C hi ⟨n,d,rfl,o,c1,c2,c3,H⟩ Q;have J:=O.ext o;have L:=B.trans o;have l:=y.ext L;have V:=M.szT_mono (ks:=t.ks) (i:=i) (j:=t.ks.length) oM (gy _);have W:=M.dpT_mono (ks:=t.ks) (i:=i) (j:=t.ks.length) oM (gy _);have I:IntKind.i64.wrap ((d:Int)+1)=((d+1:Nat):Int):=inc64' oM;have m:(20<n\/i=t.ks.length)->∀q,(q=K)->vif (.bool (decide ((20:Int)<n))) (q (.tuple #[nI 21,nI 8]) w2) (vif (.bool (decide ((7:Int)<((d+1:Nat):Int)))) (q (.tuple #[nI 21,nI 8]) w2) (q (.tuple #[nI (n:Int),nI ((d+1:Nat):Int)]) w2)):=by
  rintro a0 q rfl;have p:=R w2 L;unfold M.manyM M.lvlM at p;have c:(20<n\/7<d+1)->¬(M.fits t=true):=λh T=>by
   have N:=k.1 T;have:=c3 oM;omega
  refine zb (λa=>?_) (λa=>?_)
  .rw[X0 (c oM),X0 (c oM)] at p;exact p
  refine zb (λb=>?_) (λb=>?_)
  .rw[X0 (c oM),X0 (c oM)] at p;exact p
  .have E:i=t.ks.length:=oM;subst E;have r:M.sizeM t<=20/\M.deepM t<=7:=by
    by_cases h:1+M.szT t.ks t.ks.length<=20/\M.dpT t.ks t.ks.length<=7
    .have:=c3 h;omega
    .have:=H h;omega
   have h3:=c3 oM;rw[K3 (k.2 r),K3 (k.2 r)] at p;rw[show n=M.sizeM t by omega,show d+1=M.deepM t by omega];exact p
 refine zo (λu w'=>u=[]/\w'=w2/\i<t.ks.length/\n<=20) (λC' z=>?_) ?_
 .simp only[push_cast,J.ld4,l.len,I];refine zb (λa=>?_) (λa=>?_)
  .refine zb (λb=>?_) (λb=>?_)
   .exact z _ _ ⟨rfl,rfl,oM,oM⟩
   .exact m (.inl oM) K rfl
  .exact m (.inr oM) K rfl
 .rintro u g w3 ⟨rfl,rfl,U,hn⟩;have X:=M.szT_succ (ks:=t.ks) (i:=i) oM;have Y:=M.dpT_succ (ks:=t.ks) (i:=i) oM;have Z:=M.szT_mono (ks:=t.ks) (i:=i+1) (j:=t.ks.length) oM (gy _);simp(disch:=exact oS) only[push_cast,J.ld4,l.iaddr];refine l.load zc oM λx N=>?_;refine ih _ (M.getD_mem oM _) N λw4 D=>?_;have f:=M.fits_iff (t:=t.ks.getD i default);have G:M.manyM (t.ks.getD i default)<=21:=by
   unfold M.manyM;split
   .have:=f.1 (by assumption);omega
   .omega
  have A:M.lvlM (t.ks.getD i default)<=8:=by
   unfold M.lvlM;split
   .have:=f.1 (by assumption);omega
   .omega
  have e:M.sizeM (t.ks.getD i default)<=20/\M.deepM (t.ks.getD i default)<=7->M.manyM (t.ks.getD i default)=M.sizeM (t.ks.getD i default)/\M.lvlM (t.ks.getD i default)=M.deepM (t.ks.getD i default):=λh=>by
   unfold M.manyM M.lvlM;rw[K3 (f.2 h),K3 (f.2 h)];exact⟨rfl,rfl⟩
  have c: ¬(M.sizeM (t.ks.getD i default)<=20/\M.deepM (t.ks.getD i default)<=7)->M.manyM (t.ks.getD i default)=21/\M.lvlM (t.ks.getD i default)=8:=λh=>by
   unfold M.manyM M.lvlM;rw[X0 (λx=>h (f.1 x)),X0 (λx=>h (f.1 x))];exact⟨rfl,rfl⟩
  generalize M.manyM (t.ks.getD i default)=nk at G e c⊢;generalize M.lvlM (t.ks.getD i default)=dk at A e c⊢;refine oZ ?_;refine l1Max_spec ?_
  try simp only[push_cast]
  rw[inc64' oM,zj (x:=(n:Int)+nk) oM oM,show(n:Int)+(nk:Int)=((n+nk:Nat):Int) by omega,show max (d:Int) (dk:Int)=((max d dk:Nat):Int) by omega];refine Q oM _ _ ⟨n+nk,max d dk,rfl,o.trans D,oM,oM,λh=>?_,λh=>?_⟩
  .have:=c3 oM;have:=e oM;omega
  .by_cases r:M.sizeM (t.ks.getD i default)<=20/\M.deepM (t.ks.getD i default)<=7
   .have h5:=e r;by_cases s:1+M.szT t.ks i<=20/\M.dpT t.ks i<=7
    .have:=c3 s;omega
    .have:=H s;omega
   .have:=c r;omega
end
section
variable {w:World} {K:oK} {F G:oA}
theorem l2Arity_spec {o:Int} (h:K (nI (M.arity o)) w):vcall Vx #[nI o] w K:=by
 refine ze {cuts:=[(12293,[4])]} Tryz.func116 ?_;have f:∀c,M.arity o=c->K (nI c) w:=λc e=>e▸h;refine zo (λu w'=>u=[.bool (decide (o=20\/o=21\/o=24))]/\w'=w) (λC d=>?_) ?_
 .refine oZ ?_;refine zb (λa=>?_) (λa=>?_)
  .exact d _ _ ⟨by rw[gl a,gl (.inl a)],rfl⟩
  refine zb (λb=>?_) (λb=>?_)
  .exact d _ _ ⟨by rw[gl b,gl (.inr (.inl b))],rfl⟩
  .refine d _ _ ⟨?_,rfl⟩;by_cases c:o=24
   .rw[gl c,gl (.inr (.inr c))]
   .rw[gk c,gk oM]
 .rintro u g w1 ⟨rfl,rfl⟩;simp only[push_cast]
  repeat' first
   |exact f _ (by
    unfold M.arity;repeat' split
    all_goals omega)
   |refine zb (λ_=>?_) (λ_=>?_)
theorem ym0 {v:Value} {t:M.Tm} (A:TermR F w v t) (p:∀w',Ext w w'->K (.bool (M.formed t)) w'):vcall Vv #[v] w K:=by
 refine ze {cuts:=[(8195,[]),(16389,[])]} Tryz.func90 ?_;obtain⟨ksv,rfl,o⟩:=A;refine zl λb1 w1 y j z l=>?_;have q:=p _ j;have f:M.plainM t=false->K (.bool false) w1:=λh=>by
  unfold M.formed at q;rwa[h,pI] at q
 unfold M.plainM at f;refine zo (λu w'=>u=[]/\w'=w1/\(decide (t.op=21)||decide (t.s=M.nada))=true) (λC m=>?_) ?_
 .simp only[push_cast,l.ld0,l.ld3];refine zb (λa=>?_) (λa=>?_)
  .refine zb (λb=>?_) (λb=>?_)
   .exact f (by rw[gk a,show decide (t.s=M.nada)=false from gk b];simp)
   .exact m _ _ ⟨rfl,rfl,by rw[show decide (t.s=M.nada)=true from gl (GU.1 b)];simp⟩
  .exact m _ _ ⟨rfl,rfl,by rw[gl (GU.1 a)];simp⟩
 rintro u g w2 ⟨rfl,rfl,r⟩;rw[r,PK] at f;refine zo (λu w'=>u=[]/\w'=w2/\(decide (t.op=20)||decide (t.op=22)||(decide (t.a=0)&&decide (t.b=0)))=true) (λC m=>?_) ?_
 .simp only[push_cast,l.ld0,l.ld1,l.ld2];refine zb (λa=>?_) (λa=>?_)
  .refine zb (λb=>?_) (λb=>?_)
   .refine zb (λc=>?_) (λc=>?_)
    .exact f (by rw[gk a,gk b,gk c];simp)
    refine zb (λd=>?_) (λd=>?_)
    .exact f (by rw[gk a,gk b,gk d];simp)
    .exact m _ _ ⟨rfl,rfl,by rw[gl (GU.1 c),gl (GU.1 d)];simp⟩
   .exact m _ _ ⟨rfl,rfl,by rw[gl (GU.1 b)];simp⟩
  .exact m _ _ ⟨rfl,rfl,by rw[gl (GU.1 a)];simp⟩
 rintro u g B ⟨rfl,rfl,hm⟩;refine zd λD k _=>?_;have n:=l.ext k;have i:=o.ext (j.trans k);simp only[push_cast,n.ld0,n.ld4,i.len,Q1];refine l2Arity_spec ?_;simp only[push_cast,n.ld4,i.len,Q1,gn];have:=p _ (j.trans k);have e:M.formed t=decide ((t.ks.length:Int)=M.arity t.op):=by
  unfold M.formed M.plainM;rw[hm,r];simp only[PK];by_cases h:M.arity t.op=t.ks.length
  .rw[gl h,gl h.symm]
  .rw[gk h,gk (λx=>h x.symm)]
 rwa[e] at this
theorem l2One_spec {v:Value} {t:M.Tm} {a:Int} (q:TermR F w v t) (s: -1<=a/\a<=4) (m:∀w',Ext w w'->K (nI (M.oneM t a)) w'):vcall y30 #[v,nI a] w K:=by
 refine ze {cuts:=[(8194,[5]),(16388,[13]),(28679,[40])]} Tryz.func92 ?_;obtain⟨ksv,rfl,o⟩:=q;refine zl λb1 w1 n l p j=>?_;have k:∀c,M.oneM t a=c->K (nI c) w1:=λc e=>e▸m _ l;unfold M.oneM at k;refine zo (λu w'=>u=[.bool (decide (t.op=25/\a=0))]/\w'=w1) (λC i=>?_) ?_
 .simp only[push_cast,j.ld0];refine zb (λb=>?_) (λb=>?_)
  .refine i _ _ ⟨?_,rfl⟩;simp only[b,Q1]
  .exact i _ _ ⟨by rw[gk (λh=>b h.1)],rfl⟩
 rintro u g w2 ⟨rfl,rfl⟩;refine oZ ?_;refine zb (λb=>?_) (λb=>?_)
 .exact k _ (by rw[K3 b.1,K3 b.2])
 refine zo (λu w'=>u=[.bool (decide (t.op=25\/a<1))]/\w'=w2) (λC i=>?_) ?_
 .simp only[push_cast,j.ld0];refine zb (λc=>?_) (λc=>?_)
  .exact i _ _ ⟨by rw[gl (.inl c)],rfl⟩
  .refine i _ _ ⟨?_,rfl⟩;simp only[c,false_or]
 rintro u g r ⟨rfl,rfl⟩;refine oZ ?_;refine zb (λc=>?_) (λc=>?_)
 .exact k _ (by
   repeat' split
   all_goals omega)
 simp only[push_cast,j.ld0];refine zb (λd=>?_) (λd=>?_)
 .refine zo (λu w'=>u=[.bool (decide (0<=t.b/\t.b<=t.a/\t.a<a))]/\w'=r) (λC i=>?_) ?_
  .simp only[push_cast,j.ld1,j.ld2];refine zb (λe=>?_) (λe=>?_)
   .refine zb (λf=>?_) (λf=>?_)
    .refine i _ _ ⟨?_,rfl⟩;simp only[e,f,Q1]
    .exact i _ _ ⟨by rw[gk (λh=>f h.2.1)],rfl⟩
   .exact i _ _ ⟨by rw[gk (λh=>e h.1)],rfl⟩
  rintro u g y ⟨rfl,rfl⟩;refine oZ ?_;refine zb (λe=>?_) (λe=>?_)
  .simp only[push_cast,j.ld1,j.ld2];rw[zj (x:=t.a-t.b) oM oM,zj oM oM];exact k _ (by rw[X0 oM,X0 oM,K3 d,K3 e])
  .exact k _ (by rw[X0 oM,X0 oM,K3 d,X0 e])
 .exact k _ (by rw[X0 oM,X0 oM,X0 d])
theorem l2Both_spec {o a b:Int} (l: -1<=a/\a<=4) (k: -1<=b/\b<=4) (j:K (nI (M.bothM o a b)) w):vcall U8 #[nI o,nI a,nI b] w K:=by
 refine ze {cuts:=[(12291,[8]),(24582,[21])]} Tryz.func93 ?_;have h:∀c,M.bothM o a b=c->K (nI c) w:=λc e=>e▸j;unfold M.bothM at h;refine zo (λu w'=>u=[.bool (decide (o=26\/o=27))]/\w'=w) (λC f=>?_) ?_
 .refine oZ ?_;refine zb (λc=>?_) (λc=>?_)
  .exact f _ _ ⟨by rw[gl (.inl c)],rfl⟩
  .refine f _ _ ⟨?_,rfl⟩;simp only[c,false_or]
 rintro u g w2 ⟨rfl,rfl⟩;refine oZ ?_;refine zb (λc=>?_) (λc=>?_)
 .repeat' first
   |exact h _ (by
    repeat' split
    all_goals omega)
   |refine zb (λ_=>?_) (λ_=>?_)
 refine zo (λu w'=>u=[.bool (decide (a<1\/b<1))]/\w'=w2) (λC f=>?_) ?_
 .try simp only[push_cast]
  refine zb (λd=>?_) (λd=>?_)
  .exact f _ _ ⟨by rw[gl (.inl d)],rfl⟩
  .refine f _ _ ⟨?_,rfl⟩;simp only[d,false_or]
 rintro u g m ⟨rfl,rfl⟩;have i:IntKind.i64.wrap (a+b)=a+b:=zj oM oM;simp only[push_cast,i]
 repeat' first
  |exact h _ (by
   repeat' split
   all_goals omega)
  |refine zb (λ_=>?_) (λ_=>?_)
theorem l2Sort_spec:∀(t:M.Tm) {w:World} {K:oK} {F G:oA} {dv v:Value} {ds:List M.Dcl},DclsR F w dv ds->M.declOk ds=true->TermR G w v t->(∀w',Ext w w'->K (nI (M.sortM ds t)) w')->vcall U3 #[dv,v] w K:=by
 refine M.Tm.ind λt U w K F G dv v ds O f ht W=>?_;refine ze {} Tryz.func64 ?_;obtain⟨ksv,rfl,u⟩:=ht;refine zl λb1 w1 X E Z V=>?_;have m:∀c w',M.sortM ds t=c->Ext w w'->K (nI c) w':=λc w' e he=>e▸W _ he;rw[V.ldAgg (t:=za) zc];refine ym0 (F:=G) (t:=t) ⟨ksv,rfl,u.ext E⟩ λw2 H=>?_;have o:=E.trans H;have y:=V.ext H;refine oZ ?_;refine zm (λa=>?_) (λa=>?_)
 .exact m _ _ (M.sort_bad (by rw[Bool.not_eq_true];simpa using a)) o
 have A:M.formed t=true:=by simpa using a
 have j:=(M.formed_iff.1 A).1;have q:=O.ext o;simp only[push_cast,y.ld0];refine zb (λd=>?_) (λd=>?_)
 .have J:t.ks.length=0:=by rw[d] at j;simp[M.arity] at j;omega
  have hs:=M.sort_leaf (ds:=ds) A J;simp only[push_cast,y.ld1,y.ld2];refine spec_VecOk_spec λw3 k=>?_;have C:=y.ext k;refine zm (λb=>?_) (λb=>?_)
  .simp only[push_cast,C.ld1];exact m _ _ (by rw[hs];unfold M.sortK;rw[K3 d,K3 b]) (o.trans k)
  .exact m _ _ (by rw[hs];unfold M.sortK;rw[K3 d,b];rfl) (o.trans k)
 refine zb (λl=>?_) (λl=>?_)
 .have J:t.ks.length=0:=by rw[l] at j;simp[M.arity] at j;omega
  have hs:=M.sort_leaf (ds:=ds) A J;have Y:=M.findD_lt ds t.s;simp only[push_cast,y.ld3];refine l2Find_spec q ?_
  try simp only[push_cast]
  refine zb (λb=>?_) (λb=>?_)
  .exact m _ _ (by rw[hs];unfold M.sortK;rw[X0 d,K3 l,K3 b]) o
  .try simp(disch:=exact oS) only[push_cast,q.iaddr]
   try simp(disch:=exact oS) only[push_cast,q.load1]
   exact m _ _ (by rw[hs];unfold M.sortK;rw[X0 d,K3 l,X0 b]) o
 refine zb (λD=>?_) (λD=>?_)
 .have J:t.ks.length=0:=by rw[D] at j;simp[M.arity] at j;omega
  have hs:=M.sort_leaf (ds:=ds) A J;exact m _ _ (by rw[hs];unfold M.sortK;rw[X0 d,X0 l,K3 oM];rfl) o
 have hlen:t.ks.length=1\/t.ks.length=2\/t.ks.length=3:=by
  have h0:M.arity t.op≠0:=λh=>by have:=M.arity_zero h;omega
  have N:M.arity t.op<=3:=by
   unfold M.arity
   repeat' split
   all_goals omega
  omega
 have x:=u.ext o;simp(disch:=exact oS) only[push_cast,y.ld4,x.iaddr];refine x.load zc oM λx0 R=>?_;refine U (M.kid t 0) (M.kid_mem oM) q f R λw3 k=>?_;have C:=y.ext k;have p:=o.trans k;have g:=u.ext p;have L:=M.sort_range f (M.kid t 0);simp(disch:=exact oS) only[push_cast,C.ld4,g.len];refine zb (λl1=>?_) (λl1=>?_)
 .rw[C.ldAgg (t:=za) zc];refine l2One_spec (F:=G) (t:=t) ⟨ksv,rfl,g⟩ L λw4 r=>?_;exact m _ _ (M.sort_one f A oM) (p.trans r)
 simp(disch:=exact oS) only[push_cast,C.ld4,g.iaddr];refine g.load zc oM λx1 S=>?_;refine U (M.kid t 1) (M.kid_mem oM) (O.ext p) f S λw4 r=>?_;have N:=C.ext r;have i:=p.trans r;have n:=u.ext i;have Q:=M.sort_range f (M.kid t 1);simp(disch:=exact oS) only[push_cast,N.ld4,N.ld0,n.len];refine zb (λl2=>?_) (λl2=>?_)
 .refine l2Both_spec L Q ?_;exact m _ _ (M.sort_two f A oM) i
 have B:=M.sort_three (ds:=ds) A oM;refine zb (λz=>?_) (λz=>?_)
 .exact m _ _ (by rw[B,K3 (.inl z)]) i
 simp(disch:=exact oS) only[push_cast,N.ld4,n.iaddr];refine n.load zc oM λx2 T=>?_;refine U (M.kid t 2) (M.kid_mem oM) (O.ext i) f T λw5 I=>?_;refine oZ ?_;refine zb (λz2=>?_) (λz2=>?_)
 .exact m _ _ (by rw[B,K3 (.inr z2)]) (i.trans I)
 .exact m _ _ (by rw[B,X0 (λh=>h.elim z z2)]) (i.trans I)
def zl0 (ds:List M.Dcl):Prop:=∀i,i<ds.length->(ds.getD i Qh).1.size<=9223372036854775807
theorem spec_TermSort_spec {dv v:Value} {ds:List M.Dcl} {t:M.Tm} (o:zl0 ds) (q:DclsR F w dv ds) (x:TermR G w v t) (p:∀w',Ext w w'->K (nI (M.tsort ds t)) w'):vcall Kl #[dv,v] w K:=by
 refine ze {} Tryz.func32 ?_;obtain⟨cs,rfl,e⟩:=x.cells;refine zl λb1 w1 s g u l=>?_;rw[l.ldAgg (t:=za) (by rw[zR e];exact zc)];refine spec_TermMany_spec t (e.ext g).term λw2 i=>?_;refine oZ ?_;have f:=g.trans i;refine spec_DeclOk_spec (q.ext f) o λy j=>?_;have d:=f.trans j;have k:=p y d;unfold M.tsort at k;refine oZ ?_;refine zm (λa=>?_) (λa=>?_)
 .rwa[X0 (λh=>by rw[h.2] at a;cases a)] at k
 rw[Gc] at a;refine zb (λb=>?_) (λb=>?_)
 .rw[X0 (λh=>by
   have l:=M.fits_iff.1 h.1;unfold M.manyM at b;rw[K3 h.1] at b;omega)] at k
  exact k
 have n:M.fits t=true:=by
  by_cases h:M.fits t=true
  .exact h
  .unfold M.manyM at b;rw[X0 h] at b;omega
 refine zb (λc=>?_) (λc=>?_)
 .unfold M.lvlM at c;rw[K3 n] at c;have:=M.fits_iff.1 n;omega
 have r:=(l.ext i).ext j;rw[r.ldAgg (t:=za) (by rw[zR e];exact zc)];refine l2Sort_spec t (q.ext d) a (e.ext d).term λz m=>?_;have:=p z (d.trans m);unfold M.tsort at this;rwa[K3 ⟨n,a⟩] at this
theorem Xu {b:Bool} (a:K (nI (M.b2i b)) w):vcall U9 #[.bool b] w K:=by
 refine ze {} Tryz.func133 ?_;refine zm (λh=>?_) (λh=>?_)<;>subst h<;>exact a
def ZS0 (H:oA) (w:World) (ev:Value) (env:oI) (t:M.Tm):Prop:=Ints H w ev env\/nnB t=true
theorem qs {H:oA} {ev:Value} {env:oI} {t:M.Tm} {w w':World} (h:ZS0 H w ev env t) (he:Ext w w'):ZS0 H w' ev env t:=h.imp (λh=>h.ext he) id
theorem jd {H:oA} {ev:Value} {env:oI} {t k:M.Tm} (h:ZS0 H w ev env t) (a:k∈t.ks):ZS0 H w ev env k:=h.imp id λh=>(nnB_iff.1 h).2 k a
theorem jP0 {H:oA} {ev:Value} {env:oI} {t:M.Tm} (h:ZS0 H w ev env t) (a:t.op=21):Ints H w ev env:=h.elim id λh=>absurd a (nnB_iff.1 h).1
def kc0 (t:M.Tm):Prop:=∀{w:World} {K:oK} {F G H:oA} {dv v ev:Value} {ds:List M.Dcl} {env:oI},DclsR F w dv ds->M.envOk ds env=true->TermR G w v t->ZS0 H w ev env t->M.sortM ds t≠ -1->(∀w',Ext w w'->K (nI (M.evalM ds env t)) w')->vcall U7 #[dv,v,ev] w K
theorem l2Vec_spec {t:M.Tm} (B:kc0 t) {H:oA} {dv v ev:Value} {ds:List M.Dcl} {env:oI} (l:DclsR F w dv ds) (he:M.envOk ds env=true) (x:TermR G w v t) (z:ZS0 H w ev env t) (hs:M.sortM ds t≠ -1) (p:∀w',Ext w w'->K (xX (M.sortM ds t) (M.evalM ds env t)) w'):vcall y20 #[dv,v,ev] w K:=by
 refine ze {} Tryz.func219 ?_;obtain⟨cs,rfl,c⟩:=x.cells;refine zl λb1 w1 q f s m=>?_;refine zi zX λb2 w2 r g u n=>?_;refine zd λC d _=>?_;have k:=(m.ext g).ext d;have b:=(f.trans g).trans d;have i:aggB za cs.length=true:=by rw[zR c];exact zc
 rw[k.ldAgg (t:=za) i];refine⟨rfl,?_⟩;rw[k.ldAgg (t:=za) i];refine⟨rfl,l2Sort_spec t (l.ext b) (M.env_ok he).1 (c.ext b).term λD e=>?_⟩;rw[(k.ext e).ldAgg (t:=za) i];have a:=b.trans e;refine⟨⟨rfl,rfl⟩,B (l.ext a) he (c.ext a).term (qs z a) hs λE h=>?_⟩;simp only[push_cast,Q1];refine stVec (((n.ext d).ext e).ext h) λI j _ o=>?_;rw[o.lv rK];exact p _ (Ext.then (a.trans h) j λy A=>by subst A;have:=f.size;omega)
theorem l2Do_spec {t:M.Tm} (W:∀k,k∈t.ks->kc0 k) {H:oA} {dv v ev:Value} {ds:List M.Dcl} {env:oI} (T:DclsR F w dv ds) (he:M.envOk ds env=true) (ht:TermR G w v t) (V:ZS0 H w ev env t) (hs:M.sortM ds t≠ -1)
  (ho:(1<=t.op/\t.op<=17)\/t.op=22) (I:∀w',Ext w w'->K (nI (M.evalM ds env t)) w'):vcall x80 #[dv,v,ev] w K:=by
 refine ze {} Tryz.func188 ?_;obtain⟨ksv,rfl,z⟩:=ht;have a3:1<=t.ks.length:=by
  rcases(by omega:t.op=22\/(t.op=1\/t.op=2)\/(3<=t.op/\t.op<=14)\/(15<=t.op/\t.op<=17)) with h|h|h|h
  .have:=(M.eval_cut he hs h).1;omega
  .have:=(M.eval_un he hs h).1;omega
  .have:=(M.eval_bin he hs h.1 h.2).1;omega
  .have:=(M.eval_cmp he hs h.1 h.2).1;omega
 refine zl λb1 w1 a0 f a7 L=>?_;have m:=z.ext f;simp(disch:=exact oS) only[push_cast,L.ld4,m.iaddr];refine m.load zc oM λx0 Q=>?_;refine l2Vec_spec (W (M.kid t 0) (M.kid_mem oM)) (T.ext f) he Q (jd (qs V f) (M.kid_mem oM)) (M.good_kid hs oM) λw2 p=>?_;refine zi zX λb2 w3 a1 x a8 h3=>?_;refine stVec h3 λw4 C _ E=>?_;have aa:=f.size;have ab:=p.size;have b:Ext w w4:=Ext.then ((f.trans p).trans x) C λy l=>by subst l;omega
 have a4:=L.lt;have n:=((L.ext p).ext x).same C oM;simp only[push_cast,n.ld0];refine zb (λr=>?_) (λr=>?_)
 .obtain⟨hl,hv,d⟩:=M.eval_cut he hs r;simp only[push_cast,E.ldAgg (t:=zh) zr,n.ld1,n.ld2];refine spec_VecCut_spec λY a=>?_;refine oZ ?_;refine zi zX λb3 Z u c A s=>?_;refine stVec s λD e _ q=>?_;simp only[push_cast,q.ld1];have:=I D (Ext.then ((b.trans a).trans c) e λy l=>by subst l;have:=(b.trans a).size;omega);rwa[d] at this
 have g:=z.ext b;simp only[push_cast,n.ld4,g.len];refine zb (λl1=>?_) (λl1=>?_)
 .have j:t.op=1\/t.op=2:=by
   rcases(by omega:(t.op=1\/t.op=2)\/(3<=t.op/\t.op<=14)\/(15<=t.op/\t.op<=17)) with h|h|h
   .exact h
   .have:=(M.eval_bin he hs h.1 h.2).1;omega
   .have:=(M.eval_cmp he hs h.1 h.2).1;omega
  obtain⟨hl,hv,d⟩:=M.eval_un he hs j;simp only[push_cast,E.ldAgg (t:=zh) zr,n.ld0];refine spec_VecUn_spec λY a=>?_;refine oZ ?_;refine zi zX λb3 Z u c A s=>?_;refine stVec s λD e _ q=>?_;simp only[push_cast,q.ld1];have:=I D (Ext.then ((b.trans a).trans c) e λy l=>by subst l;have:=(b.trans a).size;omega);rwa[d] at this
 have j:3<=t.op/\t.op<=17:=by
  rcases(by omega:(t.op=1\/t.op=2)\/(3<=t.op/\t.op<=17)) with h|h
  .have:=(M.eval_un he hs h).1;omega
  .exact h
 have a5:t.ks.length=2:=by
  rcases(by omega:(3<=t.op/\t.op<=14)\/(15<=t.op/\t.op<=17)) with h|h
  .exact(M.eval_bin he hs h.1 h.2).1
  .exact(M.eval_cmp he hs h.1 h.2).1
 simp(disch:=exact oS) only[push_cast,n.ld4,g.iaddr];refine g.load zc oM λx1 R=>?_;refine l2Vec_spec (W (M.kid t 1) (M.kid_mem oM)) (T.ext b) he R (jd (qs V b) (M.kid_mem oM)) (M.good_kid hs oM) λY a=>?_;refine zi zX λb3 Z u c A s=>?_;refine stVec s λD e _ q=>?_;have ac:=b.size;have ad:=a.size;have o:Ext w D:=Ext.then ((b.trans a).trans c) e λy l=>by subst l;omega
 have a6:=E.lt;have U:=n.lt;have S:=((n.ext a).ext c).same e oM;have X:=((E.ext a).ext c).same e oM;simp only[push_cast,S.ld0];refine zb (λJ=>?_) (λJ=>?_)
 .obtain⟨_,_,_,d⟩:=M.eval_cmp he hs oM j.2;simp only[push_cast,X.ldAgg (t:=zh) zr,q.ldAgg (t:=zh) zr,S.ld0];refine spec_VecCmp_spec λw8 i=>?_;refine oZ ?_;refine Xu ?_;have:=I _ (o.trans i);rwa[d] at this
 .obtain⟨_,_,_,d⟩:=M.eval_bin he hs j.1 oM;simp only[push_cast,X.ldAgg (t:=zh) zr,q.ldAgg (t:=zh) zr,S.ld0];refine spec_VecBin_spec λw8 i=>?_;refine oZ ?_;refine zi zX λb4 w9 a2 O a9 h9=>?_;refine stVec h9 λw10 B _ N=>?_;simp only[push_cast,N.ld1];have:=I w10 (Ext.then ((o.trans i).trans O) B λy l=>by subst l;have:=(o.trans i).size;omega);rwa[d] at this
theorem l2Eval_spec:∀(t:M.Tm),kc0 t:=by
 refine M.Tm.ind λt E=>?_;intro w K F G H dv v ev ds env z he ht B hs Y;refine ze {} Tryz.func160 ?_;obtain⟨ksv,rfl,p⟩:=ht;refine zl λb1 w1 a0 f a5 D=>?_;have l:=p.ext f;have A:∀c w',M.evalM ds env t=c->Ext w w'->K (nI c) w':=λc w' e he=>e▸Y _ he;have Z:=M.arity_ops (o:=t.op) (by have:=(M.formed_iff.1 (M.sort_parts hs).1).1;omega);simp only[push_cast,D.ld0];refine zb (λr=>?_) (λr=>?_)
 .simp only[push_cast,D.ld2];exact A _ _ (by rw[M.eval_leaf (.inl r),K3 r]) f
 refine zb (λn=>?_) (λn=>?_)
 .have a4:=M.findD_lt ds t.s;have a3:=M.name_found hs n;have a2:=(M.env_ok he).2.1;have q:=(jP0 B n).ext f;simp only[push_cast,D.ld3];refine l2Find_spec (z.ext f) ?_;simp(disch:=exact oS) only[push_cast,q.iaddr,q.load];exact A _ _ (by rw[M.eval_leaf (.inr (.inl n)),X0 r,K3 n]) f
 refine zb (λO=>?_) (λO=>?_)
 .exact A _ _ (by rw[M.eval_leaf (.inr (.inr O)),X0 r,X0 n]) f
 refine zb (λP=>?_) (λP=>?_)
 .obtain⟨V,R,j⟩:=M.eval_no he hs P;simp(disch:=exact oS) only[push_cast,D.ld4,l.iaddr];refine l.load zc oM λx0 L=>?_;refine E (M.kid t 0) (M.kid_mem oM) (z.ext f) he L (jd (qs B f) (M.kid_mem oM)) (M.good_kid hs oM) λw2 h=>?_;refine oZ ?_;have a1:=M.inS_zero R;rw[zj oM oM];exact A _ _ j (f.trans h)
 refine zb (λC=>?_) (λC=>?_)
 .obtain⟨V,R,S,j⟩:=M.eval_two he hs (.inl C);rw[K3 C] at j;refine zd λw2 h _=>?_;have I:=D.ext h;have a:=f.trans h;have g:=p.ext a;simp(disch:=exact oS) only[push_cast,I.ld4,g.iaddr,Q1];obtain⟨css,m,U,u⟩:=g;rw[m.ldAgg zc (i:=0) oM];simp only[Q1];rw[m.ldAgg zc (i:=1) oM];simp only[Q1];refine E (M.kid t 0) (M.kid_mem oM) (z.ext a) he (u 0 oM).term (jd (qs B a) (M.kid_mem oM)) (M.good_kid hs oM) λW d=>?_;have T:=I.ext d;have x:=p.ext (a.trans d);have y:=m.ext d;simp(disch:=exact oS) only[push_cast,T.ld4,x.iaddr,Q1];rw[y.ldAgg zc (i:=1) oM];refine⟨⟨rfl,rfl⟩,?_⟩
  try simp only[Q1,gn]
  refine E (M.kid t 1) (M.kid_mem oM) (z.ext (a.trans d)) he ((u 1 oM).ext d).term (jd (qs B (a.trans d)) (M.kid_mem oM)) (M.good_kid hs oM) λw4 J=>?_;simp only[push_cast,Q1];have e:IntKind.i64.wrap (M.evalM ds env (M.kid t 0)*M.evalM ds env (M.kid t 1))=M.evalM ds env (M.kid t 0)*M.evalM ds env (M.kid t 1):=by
   rcases M.inS_zero R with e|e<;>rcases M.inS_zero S with X|X<;>rw[e,X]<;>rfl
  rw[e];exact A _ _ j ((a.trans d).trans J)
 refine zb (λQ=>?_) (λQ=>?_)
 .obtain⟨V,R,S,j⟩:=M.eval_two he hs (.inr Q);rw[X0 C] at j;refine zd λw2 h _=>?_;have I:=D.ext h;have a:=f.trans h;have g:=p.ext a;simp(disch:=exact oS) only[push_cast,I.ld4,g.iaddr,Q1];obtain⟨css,m,U,u⟩:=g;rw[m.ldAgg zc (i:=0) oM];simp only[Q1];rw[m.ldAgg zc (i:=1) oM];simp only[Q1];refine E (M.kid t 0) (M.kid_mem oM) (z.ext a) he (u 0 oM).term (jd (qs B a) (M.kid_mem oM)) (M.good_kid hs oM) λW d=>?_;have T:=I.ext d;have x:=p.ext (a.trans d);have y:=m.ext d;simp(disch:=exact oS) only[push_cast,T.ld4,x.iaddr,Q1];rw[y.ldAgg zc (i:=1) oM];refine⟨⟨rfl,rfl⟩,?_⟩
  try simp only[Q1,gn]
  refine E (M.kid t 1) (M.kid_mem oM) (z.ext (a.trans d)) he ((u 1 oM).ext d).term (jd (qs B (a.trans d)) (M.kid_mem oM)) (M.good_kid hs oM) λw4 J=>?_;refine l1Max_spec ?_;exact A _ _ j ((a.trans d).trans J)
 refine zb (λN=>?_) (λN=>?_)
 .obtain⟨V,R,j⟩:=M.eval_if he hs N;simp(disch:=exact oS) only[push_cast,D.ld4,l.iaddr];refine l.load zc oM λx0 L=>?_;refine E (M.kid t 0) (M.kid_mem oM) (z.ext f) he L (jd (qs B f) (M.kid_mem oM)) (M.good_kid hs oM) λw2 h=>?_;have I:=D.ext h;have a:=f.trans h;have g:=p.ext a;refine oZ ?_;refine zb (λb=>?_) (λb=>?_)
  .rw[K3 b] at j;simp(disch:=exact oS) only[push_cast,I.ld4,g.iaddr];refine g.load zc oM λx1 q=>?_;refine E (M.kid t 1) (M.kid_mem oM) (z.ext a) he q (jd (qs B a) (M.kid_mem oM)) (M.good_kid hs oM) λW d=>?_;exact A _ _ j (a.trans d)
  .rw[X0 b] at j;simp(disch:=exact oS) only[push_cast,I.ld4,g.iaddr];refine g.load zc oM λx1 q=>?_;refine E (M.kid t 2) (M.kid_mem oM) (z.ext a) he q (jd (qs B a) (M.kid_mem oM)) (M.good_kid hs oM) λW d=>?_;exact A _ _ j (a.trans d)
 .rw[D.ldAgg (t:=za) zc];refine l2Do_spec (G:=G) (t:=t) (λk A=>E k A) (z.ext f) he ⟨ksv,rfl,l⟩ (qs B f) hs oM λw2 h=>?_;exact Y _ (f.trans h)
end
section
variable {w:World} {K:oK} {F F':oA}
def Bytes (F:oA) (w:World) (v:Value) (xs:List Nat):Prop:=Vals F w v (xs.map λx=>Value.int .u8 (x:Nat))/\∀x,x∈xs->x<256
theorem Bytes.same {S:oA} {w':World} {v:Value} {xs:List Nat} (h:Bytes F w v xs) (hw:Same S w w') (hs:∀b,F b->b<w.heap.size->¬S b):Bytes F w' v xs:=⟨h.1.same hw hs,h.2⟩
theorem Bytes.ext {w':World} {v:Value} {xs:List Nat} (h:Bytes F w v xs) (hw:Ext w w'):Bytes F w' v xs:=⟨h.1.ext hw,h.2⟩
theorem Bytes.load {v:Value} {xs:List Nat} (h:Bytes F w v xs) {e:TypeId} (he:oneB e=true) {i:Nat} (hi:i<xs.length):zt e (oE (eaddr v 1 i)) w K=K (.int .u8 (xs.getD i 0:Nat)) w:=by
 rw[Vals.load h.1 he (by simpa using hi)];simp[q0,hi]
theorem Bytes.len {w':World} {v:Value} {xs:List Nat} (h:Bytes F w v xs) {t:TypeId} (a:isSl t=true) (ty:TypeId):vbi .len [t] ty [v] w' K=K (nI xs.length) w':=by
 have:=Vals.len (K:=K) (w':=w') h.1 a ty;rwa[V0] at this
theorem Bytes.iaddr {w':World} {v:Value} {xs:List Nat} (h:Bytes F w v xs) {t:TypeId} (c:elB t 1=true) {kd:IntKind} {i:Int} (a:0<=i) (b:i<xs.length):
  y2 t v (.int kd i) w' K=K (oE (eaddr v 1 i.toNat)) w':=Vals.iaddr h.1 c a (by simpa using b)
structure RdR (F:oA) (w:World) (b:Nat) (v:Value) (xs:List Nat) (p:Nat):Prop where
 blk:Blk w b [v,nI p] yZ
 bytes:Bytes F w v xs
 apart: ¬F b
 few:xs.length<=2000
theorem RdR.same {S:oA} {w':World} {b p:Nat} {v:Value} {xs:List Nat} (h:RdR F w b v xs p) (hw:Same S w w') (a: ¬S b) (hs:∀b,F b->b<w.heap.size->¬S b):RdR F w' b v xs p:=
 ⟨h.blk.same hw a,h.bytes.same hw hs,h.apart,h.few⟩
theorem RdR.ext {w':World} {b p:Nat} {v:Value} {xs:List Nat} (h:RdR F w b v xs p) (hw:Ext w w'):RdR F w' b v xs p:=h.same hw id λ_ _ _ h=>h
theorem l12Open_spec {v:Value} {xs:List Nat} (n:Bytes F w v xs) (hF:∀b,F b->b<w.heap.size)
  (C:∀w' b v' ys,Ext w w'->RdR F w' b v' ys 0->w.heap.size<=b->K (oP b 0) w'):vcall Vy #[v] w K:=by
 refine ze {} Tryz.func40 ?_;simp only[push_cast,n.len];have fin:∀(v':Value) (ys:List Nat),Bytes F w v' ys->ys.length<=2000->yl yZ [(0,v')] w λt9 f=>zo0 yZ t9 f λt10 g=>K t10 g:=λv' ys j E=>by
  refine Yi yF0 (us:=[[v']]) (by simp[j.1.cells1]) rfl ?_;refine ye λb w1 L m H B=>?_;exact C w1 b v' ys m ⟨B,j.ext m,λh=>by have:=hF b h;omega,E⟩ oM
 refine zb (λa=>?_) (λa=>fin v xs n oM);have k:yH xc v none (some (nI (2000:Nat))) none w λt7 r=>yl yZ [(0,t7)] r λt9 f=>zo0 yZ t9 f λt10 g=>K t10 g:=by
  obtain⟨a0,c0,rfl,D,q,d⟩:=n.1.shape;rw[Sl.cut n.1 (λa l c e=>?_) Zt0 (by simp;omega)]
  .refine fin _ (xs.take 2000) ⟨⟨⟨a0,c0,?_,?_,q,λG=>?_⟩,λy j=>?_⟩,λy j=>n.2 y (gU j)⟩ (by simp;omega)
   .simp only[cutV,V0,gi];rw[Gy oM]
   .simp at D⊢;omega
   .obtain⟨b,o,p,t,z,A⟩:=d (λe=>by simp at e;subst e;simp at a);refine⟨b,o,p,t,z,λi hi=>?_⟩;simp only[V0,gi] at hi;have:=A i (by simp;omega);have e:(((xs.take 2000).map λx=>Value.int .u8 (x:Nat)).map λx=>[x]).getD i []=((xs.map λx=>Value.int .u8 (x:Nat)).map λx=>[x]).getD i []:=by
     simp only[q0,Gq,P4];rw[K3 oM]
    rw[e];exact this
   .obtain⟨u,_,rfl⟩:=gz.1 j;rfl
  .injection e with s I J
   obtain⟨b,o,p,_⟩:=d (λe=>by simp at e;subst e;simp at a);exact⟨b,o,by rw[p] at s;exact(gh s).symm⟩
 exact k
theorem pick_spec {b p:Nat} {v:Value} {xs:List Nat} {n:Int} (h:RdR F w b v xs p) (hn:n<=1099511627776) (hp:p<1099511627776)
  (B:∀w' (k:Nat),Same (· =b) w w'->w'.heap.size=w.heap.size->RdR F w' b v xs (p+1)->(1<=n->(k:Int)<n)->(n<1->k=0)->K (nI k) w'):vcall j0 #[oP b 0,nI n] w K:=by
 refine ze {cuts:=[(12292,[])]} Tryz.func43 ?_;have R:=h.few;simp only[push_cast,h.blk.ld1];have y:IntKind.i64.wrap ((p:Int)+1)=((p+1:Nat):Int):=by rw[zj oM oM];omega
 rw[y];refine h.blk.st rfl rfl yG rfl λw1 g l L=>?_;have t:Blk w1 b [v,nI (p+1:Nat)] yZ:=L;have u:RdR F w1 b v xs (p+1):=⟨t,h.bytes.same g λx q _ e=>h.apart (e▸q),h.apart,h.few⟩;have q:=u.bytes;refine zo (λ_ w'=>w'=w1/\1<=n/\xs.length≠0) ?_ ?_
 .intro J hJ;refine zb (λa=>?_) (λa=>?_)
  .exact B w1 0 g l u (λh=>oM) λ_=>rfl
  .simp only[push_cast,t.ld0,q.len];refine zb (λa2=>?_) (λa2=>?_)
   .exact B w1 0 g l u (λh=>oM) λ_=>rfl
   .exact hJ _ _ ⟨rfl,oM,oM⟩
 rintro _ _ _ ⟨rfl,h1,a0⟩;simp(disch:=(simp only[push_cast])) only[t.ld0,t.ld1,xl0,Yb,V3,ym,Ge,Z8,q.len];rw[show((p+1:Nat):Int)-1=(p:Int) from by omega,zj oM oM];simp only[xq0];have f:∀i,i<xs.length->xs.getD i 0<256:=λi hi=>q.2 _ (by rw[q0,gj hi];exact GY hi);have o:∀x:Nat,((x:Int).tmod n)=((x%n.toNat:Nat):Int)/\((x%n.toNat:Nat):Int)<n:=λx=>by
  obtain⟨m,rfl⟩:∃m:Nat,n=m:=⟨n.toNat,oM⟩;rw[gu];exact⟨rfl,by have:=pH x (show 0<m by omega);omega⟩
 refine zb (λa=>?_) (λa=>?_)
 .simp(disch:=exact oS) only[t.ld0,q.iaddr,gu,q.load,qC xu0 Wn];have hb:=f p oM;rw[zj oM oM,j6 oM];obtain⟨m1,m2⟩:=o (xs.getD p 0);rw[m1];exact B _ _ g l u (λ_=>m2) λh=>oM
 .refine zd λw2 j r=>?_;have S:=t.ext j;have s:=q.ext j;have z:(xs.length:Int)≠0:=oM;have T:((p:Int).tmod xs.length)=((p%xs.length:Nat):Int):=by rw[pJ oM];rfl
  have l1:p%xs.length<xs.length:=pH _ oM;have U:IntKind.i64.wrap ((p:Int)*7)=((p*7:Nat):Int):=by rw[zj oM oM];omega
  have V:IntKind.i64.wrap (((p*7:Nat):Int)+3)=((p*7+3:Nat):Int):=by rw[zj oM oM];omega
  have W:(((p*7+3:Nat):Int).tmod xs.length)=(((p*7+3)%xs.length:Nat):Int):=by rw[pJ oM];rfl
  have l2:(p*7+3)%xs.length<xs.length:=pH _ oM;have b1:=f _ l1;have b2:=f _ l2;generalize M:xs.getD (p%xs.length) 0=c at b1;generalize A:xs.getD ((p*7+3)%xs.length) 0=d at b2;have Y:IntKind.i64.wrap ((c:Nat):Int)=((c:Nat):Int):=zj oM oM;have Z:IntKind.i64.wrap ((d:Nat):Int)=((d:Nat):Int):=zj oM oM;have e7:IntKind.i64.wrap (((c:Nat):Int)*131)=((c*131:Nat):Int):=by rw[zj oM oM];omega
  have e8:IntKind.i64.wrap (((d:Nat):Int)*1117)=((d*1117:Nat):Int):=by rw[zj oM oM];omega
  have e9:IntKind.i64.wrap (((c*131:Nat):Int)+((d*1117:Nat):Int))=((c*131+d*1117:Nat):Int):=by rw[zj oM oM];omega
  have C:IntKind.i64.wrap ((p:Int)*29)=((p*29:Nat):Int):=by rw[zj oM oM];omega
  have D:IntKind.i64.wrap (((c*131+d*1117:Nat):Int)+((p*29:Nat):Int))=((c*131+d*1117+p*29:Nat):Int):=by rw[zj oM oM];omega
  obtain⟨Q,N⟩:∃Q,Q=p/xs.length:=⟨_,rfl⟩;have hq:Q<=p:=by rw[N];exact GJ _ _
  have E:IntKind.i64.wrap ((p:Int).tdiv xs.length)=((Q:Nat):Int):=by
   have:(p:Int).tdiv xs.length=(Q:Int):=by rw[N];rfl
   rw[this];exact zj oM oM
  have G:IntKind.i64.wrap (((Q:Nat):Int)*53)=((Q*53:Nat):Int):=by rw[zj oM oM];omega
  have H:IntKind.i64.wrap (((c*131+d*1117+p*29:Nat):Int)+((Q*53:Nat):Int))=((c*131+d*1117+p*29+Q*53:Nat):Int):=by rw[zj oM oM];omega
  simp(disch:=exact oS) only[S.ld0,xl0,Yb,ym,Ge,Q1,s.len,j6 z,jE z,xp0,XE,T,U,V,W,E,s.iaddr,gu,s.load,M,A,qC xu0 Wn,Y,Z,e7,e8,e9,C,D,G,H];have O:c*131+d*1117+p*29+Q*53<9223372036854775808:=oM;generalize c*131+d*1117+p*29+Q*53=X at O⊢;have I:IntKind.i64.wrap ((X:Int).tdiv 64)=((X/64:Nat):Int):=by
   have:(X:Int).tdiv 64=((X/64:Nat):Int):=rfl;rw[this];exact zj oM oM
  rw[jE oM,I,xW0 O oM,j6 oM];obtain⟨m1,m2⟩:=o (X^^^X/64);rw[m1];exact B _ _ (g.trans (Same.of_ext j)) (by rw[r];exact l) (u.ext j) (λ_=>m2) λh=>oM
theorem num_spec {b p:Nat} {v vs:Value} {xs:List Nat} {ns:oI} (h:RdR F w b v xs p) (g:Ints F' w vs ns) (d:ns≠[]) (o:ns.length<=1000) (n:p<1099511627776) (c:∀x,F' x->x≠b)
  (j:∀w' m,Same (· =b) w w'->w'.heap.size=w.heap.size->RdR F w' b v xs (p+1)->m∈ns->K (nI m) w'):vcall xK #[oP b 0,vs] w K:=by
 refine ze {} Tryz.func46 ?_;have f:=GF.2 d;simp only[push_cast,g.len];refine pick_spec h oM n λw1 k hs r l i _=>?_;have s:=i oM;have a:=g.same hs λx q _ e=>c x q e;simp(disch:=exact oS) only[push_cast,a.iaddr,a.load];exact j w1 _ hs r l (M.getD_mem oM _)
end
section
variable {w:World} {K:oK} {F D:oA}
@[push_cast] theorem bd_Decl (s:ByteArray) (n:Int):yl yQ [(0,.string s),(1,nI n)] w K=K (.agg ⟨[.string s,nI n]⟩) w:=zS xg0 (us:=[[.string s],[nI n]]) rfl rfl
abbrev OwnD (w:World) (v:Value) (ds:List M.Dcl):Prop:=Own 0 2 xd w v (ds.map λd=>[.string d.1,nI d.2])
def Dok (ds:List M.Dcl):Prop:=ds.length<=5/\∀i,i<ds.length->1<=(ds.getD i Qh).2/\(ds.getD i Qh).2<=4/\(ds.getD i Qh).1.size<=5
theorem OwnD.dcls {v:Value} {ds:List M.Dcl} (h:OwnD w v ds):DclsR (λb=>v.ownBlock=some b) w v ds:=Own.sl h
def X10:List ByteArray:=[⟨#[120]⟩,⟨#[121]⟩,⟨#[122]⟩,⟨#[119]⟩]
set_option maxRecDepth 20000 in
theorem gd_ok {ds:List M.Dcl} (h:Dok ds) (l:ds.length<=4) (m:ds.map (·.1)=X10.take ds.length) (f:M.bits ds<=8):M.declOk ds=true:=by
 have nm:∀i,i<ds.length->(ds.getD i (M.nada,0)).1=X10.getD i M.nada:=λi hi=>by
  rw[<-M.getD_map (·.1) hi M.nada (M.nada,0),m,M.take_getD hi]
 refine M.decl_iff.2 ⟨l,λi hi=>?_,f⟩;have hw:=h.2 i hi;have c:∀j,j<i->(ds.getD j (M.nada,0)).1≠(ds.getD i (M.nada,0)).1:=λj d=>by
  rw[nm j oM,nm i hi];have:∀a b:Fin 4,b.1<a.1->X10.getD b.1 M.nada≠X10.getD a.1 M.nada:=dC;exact this ⟨i,oM⟩ ⟨j,oM⟩ d
 have g:M.findD (ds.take i) (ds.getD i (M.nada,0)).1= -1:=M.findD_none λj d=>by
  rw[gi] at d;rw[M.take_getD oM];exact c j oM
 have k:M.nameOk (ds.getD i (M.nada,0)).1=true:=by
  rw[nm i hi];have:∀a:Fin 4,M.nameOk (X10.getD a.1 M.nada)=true:=(by decide+kernel);exact this ⟨i,oM⟩
 unfold M.dclOk;rw[k,g];have e:1<=(ds.getD i (M.nada,0)).2/\(ds.getD i (M.nada,0)).2<=4:=⟨hw.1,hw.2.1⟩;rw[gl e.1,gl e.2];rfl
set_option maxRecDepth 20000 in
theorem l2Decls_spec3 {b p:Nat} {v:Value} {xs:List Nat} (h:RdR F w b v xs p) (hF:∀x,F x->x<w.heap.size) (hp:p+100<1099511627776)
  (hK:∀w' D dv ds,Same (· =b) w w'->RdR F w' b v xs D->D<=p+100->DclsR (λx=>w.heap.size<=x) w' dv ds->Dok ds->M.declOk ds=true->0<ds.length->K dv w'):vcall Vw #[oP b 0] w K:=by
 refine ze {loops:=[(5,[4,5,6])],cuts:=[(24583,[])]} Tryz.func70 ?_;have lb:=h.blk.lt;refine vbuildS_row1 (xs:=X10.map .string) kU rK kT (λx o=>by obtain⟨s,_,rfl⟩:=gz.1 o;rfl) dC λb1 w1 ab A ak Z=>?_;have a2:Vals (· =b1) w1 (.slice (some ⟨b1,0,none⟩) (X10.map Value.string).length (X10.map Value.string).length) (X10.map Value.string):=Z.sl1 rfl dC;refine vbuildS_row (xs:=[]) (us:=[]) (k:=2) jf jQ yV rfl (by simp) dC λb2 w2 ac H al h2=>?_;have ho:OwnD w2 (.slice (some ⟨b2,0,none⟩) 0 0) []:=Blk.ownk (css:=[]) h2 (by simp) rfl dC;have W:=(h.ext A).ext H;refine vloop_up 4 (λi u w'=> ∃sv ds D,∃bits:Int,u=[sv,nI bits,nI i]/\Same (· =b) w w'/\RdR F w' b v xs D/\D<=p+2*i/\OwnD w' sv ds/\(∀x,sv.ownBlock=some x->w1.heap.size<=x)/\ds.length=i/\Dok ds/\0<=bits/\bits<=4*i/\Vals (· =b1) w' (.slice (some ⟨b1,0,none⟩) (X10.map Value.string).length (X10.map Value.string).length) (X10.map Value.string)/\ds.map (·.1)=X10.take i/\bits=M.bits ds/\bits<=8)
  ⟨_,[],p,0,rfl,Same.of_ext (A.trans H),W,oM,ho,λx o=>by have e:x=b2:=(gh o).symm;omega,rfl,⟨by simp,λi hi=>by simp at hi⟩,oM,oM,a2.ext H,rfl,rfl,oM⟩ ?_
 rintro i _ _ w3 C hi ⟨sv,ds,D,bits,rfl,m,X,ai,R,l,B,G,aa,ae,a6,E,L,af⟩ hC;have ao:=m.size;have an:=A.size;have t:∀z U,Same (· =b) w3 z->RdR F z b v xs U->U<=p+2*i+2->0<i->K sv z:=λz U hs hR aj ag=>by
  refine hK z U sv ds (m.trans hs) hR oM ?_ G (gd_ok G oM (by rw[B];exact E) oM) oM;exact((R.same hs λx o e=>by have:=l x o;omega).sl).weaken λx o _=>by have:=l x o;omega
 refine zo (λu z=>u=[]/\Same (· =b) w3 z/\RdR F z b v xs (D+1)/\i<4) (λC' V=>?_) ?_
 .refine pick_spec X oM oM λz k y ap r hk _=>?_;have:=hk oM;refine oZ ?_;rw[zj (x:=1+(k:Int)) oM oM];refine zb (λa=>?_) (λa=>?_)
  .refine zb (λc=>?_) (λc=>?_)
   .exact V _ _ ⟨rfl,y,r,oM⟩
   .exact t _ _ y r oM oM
  .exact t _ _ y r oM oM
 .rintro u g z ⟨rfl,y,r,N⟩;refine pick_spec r oM oM λw5 k a5 a8 J hk _=>?_;have ah:=hk oM;have d:=y.trans a5;refine oZ ?_;rw[zj (x:=1+(k:Int)) oM oM,zj (x:=8-bits) oM oM];refine l1Min_spec ?_;obtain⟨n,hn⟩:∃n:Int,n=min (1+(k:Int)) (8-bits):=⟨_,rfl⟩;rw[<-hn];refine oZ ?_;refine zb (λa=>?_) (λa=>?_)
  .exact t _ _ d J oM oM
  .have I:=a6.same d λx o _ e=>by have:=h.blk.lt;have:=A.size;omega
   have hlen:(X10.map Value.string).length=4:=rfl;have e1:(X10.map Value.string).getD i undef= .string (X10.getD i ⟨#[]⟩):=M.getD_map _ (show i<X10.length from N) _ _;rw[I.iaddr rK oM (by rw[hlen];omega),gu,I.load rK (by rw[hlen];omega),e1];have T:(X10.getD i ⟨#[]⟩).size<=1:=by
    rcases(by omega:i=0\/i=1\/i=2\/i=3) with rfl|rfl|rfl|rfl<;>decide
   generalize Q:X10.getD i ⟨#[]⟩=nm at T⊢;refine oZ ?_;refine qD jf jQ yV rfl rfl dC λb3 w6 ad f am h6=>?_;have a3:=(R.same d λx o e=>by have:=l x o;omega).ext f;refine Own.app1k a3 Y5 dC h6 rfl (by intro v hv;simp only[gm,gC,Gi] at hv;rcases hv with rfl|rfl<;>rfl) (by rw[V0,B];omega) (by rw[V0,B];omega) λa9 w7 a4 q a0=>?_;have a8:=d.size;have aq:=f.size;have S:Same (· =b) w w7:=by
    refine⟨q.os.trans (f.os.trans (d.os.trans m.os)),q.tape.trans (f.tape.trans (d.tape.trans m.tape)),q.output.trans (f.output.trans (d.output.trans m.output)),gO (((m.trans d).trans (Same.of_ext f)).size) q.size,λx o a1=>?_⟩;rw[q.block x (by have:=((m.trans d).trans (Same.of_ext f)).size;omega) (λe=>by have:=l x e;omega)];exact((m.trans d).trans (Same.of_ext f)).block x o a1
   have Y:RdR F w7 b v xs (D+1+1):=(J.ext f).same q (λe=>by have:=l b e;omega) λx o _ e=>by have:=l x e;have:=hF x o;omega
   have a7:=(I.ext f).same q (λx o _ e=>by have:=l x e;omega);rw[inc64' oM,zj (x:=bits+n) oM oM];refine hC oM _ _ ⟨a9,ds++[(nm,n)],D+1+1,bits+n,rfl,S,Y,oM,by rw[OwnD,gD];exact a4,λx o=>?_,by rw[gd];simp[B],⟨by rw[gd];simp;omega,λj hj=>?_⟩,oM,oM,a7,?_,?_,oM⟩
   .rcases a0 x o with h|h
    .exact l x h
    .omega
   .rw[gd] at hj;by_cases O:j<ds.length
    .rw[q0,gN O,<-q0];exact G.2 j O
    .have:j=ds.length:=by simp at hj;omega
     subst this;rw[q0,gP oM];simp only[GK,Po,Gr];exact⟨oM,oM,gO T dC⟩
   .rw[gD,E,M.take_add (show i<X10.length from N) ⟨#[]⟩,Q];rfl
   .rw[L];unfold M.bits;rw[gD,PO];simp
@[push_cast] theorem bd_T3 (o a b:Int):yl za [(0,nI o),(1,nI a),(2,nI b)] w K=K (.agg ⟨[nI o,nI a,nI b,.string ⟨#[]⟩,oN]⟩) w:=zS qk (us:=[[nI o],[nI a],[nI b]]) rfl rfl
@[push_cast] theorem bd_T1 (o:Int):yl za [(0,nI o)] w K=K (.agg ⟨[nI o,nI 0,nI 0,.string ⟨#[]⟩,oN]⟩) w:=zS qk (us:=[[nI o]]) rfl rfl
@[push_cast] theorem bd_Tn (o:Int) (s:ByteArray):yl za [(0,nI o),(3,.string s)] w K=K (.agg ⟨[nI o,nI 0,nI 0,.string s,oN]⟩) w:=zS qk (us:=[[nI o],[.string s]]) rfl rfl
@[push_cast] theorem bd_Tk (o:Int) (a:Option Addr) (l c:Nat):yl za [(0,nI o),(4,.slice a l c)] w K=K (.agg ⟨[nI o,nI 0,nI 0,.string ⟨#[]⟩,.slice a l c]⟩) w:=zS qk (us:=[[nI o],[.slice a l c]]) rfl rfl
@[push_cast] theorem bd_Tc (o x y:Int) (a:Option Addr) (l c:Nat):yl za [(0,nI o),(1,nI x),(2,nI y),(4,.slice a l c)] w K=K (.agg ⟨[nI o,nI x,nI y,.string ⟨#[]⟩,.slice a l c]⟩) w:=zS qk (us:=[[nI o],[nI x],[nI y],[.slice a l c]]) rfl rfl
theorem xG {b:Nat} {cs cs':List Value} {t:TypeId} {G:oA} {t':M.Tm} (h:Blk w b cs t) (j:cs.length=5) (c:TmR G w cs' t') (g:∀x,G x->x≠b) (i:∀w',Same (· =b) w w'->w'.heap.size=w.heap.size->TermR G w' (.agg ⟨cs'⟩) t'->K (.agg ⟨cs'⟩) w'):
  zI za (oP b 0) (.agg ⟨cs'⟩) w λ_ w1=>vlv za (oP b 0) w1 λr w2=>K r w2:=by
 refine stTerm h j c λw' a d f=>?_;rw[f.lv (by rw[zR c];exact zc)];exact i w' a d (c.same a λx k _ e=>g x k e).term
theorem Q5 {G:oA} (o a b:Int) (s:ByteArray):TmR G w [nI o,nI a,nI b,.string s,oN] (.mk o a b s []):=TmR.of (t:= .mk o a b s []) TmsR.nil
abbrev xj0 (K:oK) (F:oA) (w:World) (b p c:Nat) (v:Value) (xs:List Nat):Prop:=∀w' p' tv t,Same (· =b) w w'->RdR F w' b v xs p'->p'<=p+c->TermR (λx=>w.heap.size<=x) w' tv t->t.ks.length<=3->K tv w'
theorem same_new {b b2:Nat} {w w1 w2:World} (h:Same (· =b) w w1) (a:Same (· =b2) w1 w2) (f:w.heap.size<=b2):Same (· =b) w w2:=
 ⟨a.os.trans h.os,a.tape.trans h.tape,a.output.trans h.output,gO h.size a.size,λx d c=>by
  rw[a.block x (gM d h.size) (λe=>by subst e;omega)];exact h.block x d c⟩
theorem RdR.new {b b2 p:Nat} {v:Value} {xs:List Nat} {w1:World} (h:RdR F w b v xs p) (hs:Same (· =b2) w w1) (a:b≠b2) (hF:∀x,F x->x≠b2):RdR F w1 b v xs p:=h.same hs a λx c _ e=>hF x c e
theorem l2Leafy_spec {b p:Nat} {v dv:Value} {xs:List Nat} {ds:List M.Dcl} {sort:Int} (h:RdR F w b v xs p) (hF:∀x,F x->x<w.heap.size) (hd:DclsR D w dv ds) (hD:∀x,D x->x≠b) (a0:Dok ds) (a8:0<=sort) (E:sort<=4) (hp:p+100<1099511627776)
  (hK:xj0 K F w b p 100 v xs):vcall YY #[oP b 0,dv,nI sort] w K:=by
 refine ze {loops:=[(6,[9])],cuts:=[(28680,[])]} Tryz.func76 ?_;have lb:=h.blk.lt;refine zi zp λb1 w1 a5 n a9 h1=>?_;have H:=h.ext n;have J:=hd.ext n;have o:∀w2 p2 cs t,Same (· =b) w w2->RdR F w2 b v xs p2->p2<=p+100->Blk w2 b1 [nI 0,nI 0,nI 0,.string ⟨#[]⟩,oN] za->TmR (λ_=>False) w2 cs t->t.ks.length<=3->
   zI za (oP b1 0) (.agg ⟨cs⟩) w2 λ_ w1=>vlv za (oP b1 0) w1 λr w2=>K r w2:=by
  intro w2 p2 cs t hs W a1 U hc Z;refine xG U rfl hc (λx y=>y.elim) λA l ab ht=>?_;exact hK A p2 _ t (same_new hs l oM) (W.new l oM λx y e=>by have:=hF x y;omega) a1 (ht.weaken λx y _=>y.elim) Z
 refine oZ ?_;refine zb (λa=>?_) (λa=>?_)
 .exact o _ _ _ _ (Same.of_ext n) H oM h1 (Q5 24 0 0 _) (gS _)
 simp only[push_cast,J.len];have hlen:=a0.1;refine pick_spec H oM oM λw2 at_ B aa X hk _=>?_;have h2:=h1.same B oM;have z:∀A p3,Same (· =b) w A->RdR F A b v xs p3->p3<=p+50->Blk A b1 [nI 0,nI 0,nI 0,.string ⟨#[]⟩,oN] za->
   vcall ZM #[nI sort] A λt52 O=>vcall j0 #[oP b 0,t52] O λt53 Q=>yl za [(0,(nI 20)),(1,nI sort),(2,t53)] Q λt54 R=>zI za (oP b1 0) t54 R λ_ S=>vlv za (oP b1 0) S λN T=>K N T:=by
  intro A p3 hs W a2 U;refine l1Two_spec oM ?_;have a7:2^sort.toNat<=2^4:=gZ oM oM;refine pick_spec W oM oM λw4 k E a3 f _ _=>?_;refine oZ ?_;exact o _ _ _ _ (hs.trans E) f oM (U.same E (by have:=n.size;omega)) (Q5 20 sort k _) (gS _)
 refine vloop_up ds.length (λi u w'=> ∃L,u=[nI i]/\Same (· =b) w w'/\RdR F w' b v xs L/\L<=p+1+i/\Blk w' b1 [nI 0,nI 0,nI 0,.string ⟨#[]⟩,oN] za/\DclsR D w' dv ds)
  ⟨p+1,rfl,(Same.of_ext n).trans B,X,oM,h2,J.same B λx y _ e=>hD x y e⟩ ?_
 rintro i _ _ A C hi ⟨L,rfl,l,I,a2,G,Y⟩ hC;refine zo (λu w'=>u=[]/\i<ds.length/\Same (· =b) w w'/\RdR F w' b v xs (L+1)/\Blk w' b1 [nI 0,nI 0,nI 0,.string ⟨#[]⟩,oN] za/\DclsR D w' dv ds) (λC' V=>?_) ?_
 .refine oZ ?_;refine zb (λc=>?_) (λc=>?_)
  .refine pick_spec I oM oM λw4 k d a3 f _ _=>?_;have m:=G.same d oM;refine oZ ?_;refine zb (λe=>?_) (λe=>?_)
   .exact V _ _ ⟨rfl,oM,l.trans d,f,m,Y.same d λx y _ e=>hD x y e⟩
   .exact z _ _ (l.trans d) f oM m
  .exact z _ _ l I oM G
 .rintro u g w4 ⟨rfl,a6,d,f,m,s⟩;have a4:at_<ds.length:=by have:=hk oM;omega
  have e1:IntKind.i64.wrap ((at_:Int)+(i:Int))=((at_+i:Nat):Int):=by rw[zj oM oM];omega
  have eR:∀(w:World) (K:oK),qn .rem zV false (nI ((at_+i:Nat):Int)) (nI (ds.length:Int)) w K=K (nI (((at_+i)%ds.length:Nat):Int)) w:=λw K=>by rw[j6 oM];rfl
  have hm:(at_+i)%ds.length<ds.length:=pH _ oM;obtain⟨q,hq⟩:∃q,q=at_+i:=⟨_,rfl⟩;rw[<-hq] at e1 eR hm;obtain⟨j,hj⟩:∃j,j=q%ds.length:=⟨_,rfl⟩;rw[<-hj] at eR hm;simp(disch:=exact oS) only[push_cast,e1,eR,s.iaddr]
  try simp(disch:=exact oS) only[push_cast,s.load0,s.load1]
  refine zb (λc=>?_) (λc=>?_)
  .exact o _ _ _ _ d f oM m (Q5 21 0 0 _) (gS _)
  .rw[inc64' oM];exact hC oM _ _ ⟨L+1,rfl,d,f,oM,m,s⟩
end
section
variable {w:World} {K:oK} {F D G:oA}
theorem kidsL {css:List (List Value)} {ts:List M.Tm} (l:css.length=ts.length) (n:css.length<=100) (h:∀i,i<ts.length->TmR G w (css.getD i []) (ts.getD i default))
  (j:∀w' a,Ext w w'->w'.heap.size=w.heap.size+1->TmsR (λz=>G z\/z=w.heap.size) w' (.slice a css.length css.length) ts->K (.slice a css.length css.length) w'):
  vbuildS zk (css.map λc=>Value.agg ⟨c⟩).length ((css.map λc=>Value.agg ⟨c⟩).zipIdx.map λp=>(p.2,p.1)) w K:=by
 have d:∀u,u∈css->u.length=5:=λu hu=>by
  obtain⟨i,hi,rfl⟩:=gx hu;have:=zR (h i oM);rwa[q0,gj hi] at this
 refine vbuildS_row (us:=css) (k:=5) yW xq zp (by rw[G4];rfl) d (by rw[V0];omega) λb w' o he hs g=>?_;rw[V0];refine j w' _ he hs ⟨css,?_,l,λi hi=>((h i hi).ext he).weaken λx f _=> .inl f⟩;have m:Own 0 5 zk w' (.slice (some ⟨b,0,none⟩) css.length css.length) css:=Blk.ownk (by rw[qm];exact g) d rfl oM;exact m.sl.weaken λx f _=> .inr (by have e:x=b:=(gh f).symm;omega)
theorem Uz {v0:Value} {t0:M.Tm} (b:TermR G w v0 t0) (c:∀w' a,Ext w w'->w'.heap.size=w.heap.size+1->TmsR (λz=>G z\/z=w.heap.size) w' (.slice a 1 1) [t0]->K (.slice a 1 1) w'):vbuildS zk 1 [(0,v0)] w K:=by
 obtain⟨c0,rfl,d⟩:=b.cells;refine kidsL (css:=[c0]) (ts:=[t0]) rfl (by simp) (λi hi=>?_) c;have:i=0:=by simpa using hi
 subst this;exact d
theorem kids2 {v0 v1:Value} {t0 t1:M.Tm} (b:TermR G w v0 t0) (c:TermR G w v1 t1) (d:∀w' a,Ext w w'->w'.heap.size=w.heap.size+1->TmsR (λz=>G z\/z=w.heap.size) w' (.slice a 2 2) [t0,t1]->K (.slice a 2 2) w'):vbuildS zk 2 [(0,v0),(1,v1)] w K:=by
 obtain⟨c0,rfl,e⟩:=b.cells;obtain⟨c1,rfl,f⟩:=c.cells;refine kidsL (css:=[c0,c1]) (ts:=[t0,t1]) rfl (by simp) (λi hi=>?_) d
 match i,hi with
 |0,_=>exact e
 |1,_=>exact f
theorem kids3 {v0 v1 v2:Value} {t0 t1 t2:M.Tm} (b:TermR G w v0 t0) (c:TermR G w v1 t1) (d:TermR G w v2 t2) (e:∀w' a,Ext w w'->w'.heap.size=w.heap.size+1->TmsR (λz=>G z\/z=w.heap.size) w' (.slice a 3 3) [t0,t1,t2]->K (.slice a 3 3) w'):vbuildS zk 3 [(0,v0),(1,v1),(2,v2)] w K:=by
 obtain⟨c0,rfl,f⟩:=b.cells;obtain⟨c1,rfl,g⟩:=c.cells;obtain⟨c2,rfl,h⟩:=d.cells;refine kidsL (css:=[c0,c1,c2]) (ts:=[t0,t1,t2]) rfl (by simp) (λi hi=>?_) e
 match i,hi with
 |0,_=>exact f
 |1,_=>exact g
 |2,_=>exact h
abbrev JW:List Value:=[nI 0,nI 0,nI 0,.string ⟨#[]⟩,.slice none 0 0]
structure Dw (F D:oA) (w0:World) (b b1:Nat) (v dv:Value) (xs:List Nat) (ds:List M.Dcl) (w:World) (p:Nat):Prop where
 same:Same (· =b) w0 w
 rd:RdR F w b v xs p
 var:Blk w b1 JW za
 dcl:DclsR D w dv ds
 old:b<w0.heap.size
 new:b1=w0.heap.size
 size:b1<w.heap.size
 hF:∀x,F x->x<w0.heap.size
 hD:∀x,D x->x≠b
 hD1:∀x,D x->x<w0.heap.size
section
variable {w0:World} {b b1 p:Nat} {v dv:Value} {xs:List Nat} {ds:List M.Dcl}
theorem Dw.step {w1:World} {p1:Nat} (h:Dw F D w0 b b1 v dv xs ds w p) (hs:Same (· =b) w w1) (a:RdR F w1 b v xs p1):Dw F D w0 b b1 v dv xs ds w1 p1:=
 ⟨h.same.trans hs,a,h.var.same hs (by have:=h.old;have:=h.new;omega),h.dcl.same hs λx c _ e=>h.hD x c e,h.old,h.new,gM h.size hs.size,h.hF,h.hD,h.hD1⟩
theorem Dw.ext {w1:World} (h:Dw F D w0 b b1 v dv xs ds w p) (he:Ext w w1):Dw F D w0 b b1 v dv xs ds w1 p:=h.step (Same.of_ext he) (h.rd.ext he)
theorem Dw.begin (h:RdR F w b v xs p) (hF:∀x,F x->x<w.heap.size) (f:DclsR D w dv ds) (hD:∀x,D x->x≠b) (hD1:∀x,D x->x<w.heap.size) {K:oK} (e:∀w1,Dw F D w b w.heap.size v dv xs ds w1 p->K (oP w.heap.size 0) w1):xU za w K:=by
 refine zi zp λb1 w1 c a g d=>?_;subst c;exact e w1 ⟨Same.of_ext a,h.ext a,d,f.ext a,h.blk.lt,rfl,oM,hF,hD,hD1⟩
abbrev Nw (b1:Nat) (x:Nat):Prop:=b1<x
theorem Dw.fin {c:Nat} {cs:List Value} {t:M.Tm} (h:Dw F D w0 b b1 v dv xs ds w p) {p0:Nat} (j:p<=p0+c) (k:TmR (Nw b1) w cs t) (f:t.ks.length<=3) (i:xj0 K F w0 b p0 c v xs):
  zI za (oP b1 0) (.agg ⟨cs⟩) w λ_ w1=>vlv za (oP b1 0) w1 λr w2=>K r w2:=by
 have:=h.old;have:=h.new;refine xG h.var rfl k (λx d e=>by subst e;exact Nat.lt_irrefl _ d) λn a m g=>?_;exact i n p _ t (same_new h.same a oM) (h.rd.new a oM λx d e=>by have:=h.hF x d;omega) j (g.weaken λx d _=>by have l:b1<x:=d;omega) f
theorem Dw.pick {n:Int} (h:Dw F D w0 b b1 v dv xs ds w p) (f:n<=1099511627776) (g:p<1099511627776) (d:∀w1 (k:Nat),Dw F D w0 b b1 v dv xs ds w1 (p+1)->Same (· =b) w w1->(1<=n->(k:Int)<n)->(n<1->k=0)->K (nI k) w1):vcall j0 #[oP b 0,nI n] w K:=
 pick_spec h.rd f g λw1 k hs i e a c=>d w1 k (h.step hs e) hs a c
theorem Dw.sub {g:Nat} {args:Array Value} {c:Nat} (h:Dw F D w0 b b1 v dv xs ds w p) (i:∀d,xj0 d F w b p c v xs->vcall g args w d) (e:∀w1 p1 tv t,Dw F D w0 b b1 v dv xs ds w1 p1->Same (· =b) w w1->p1<=p+c->TermR (Nw b1) w1 tv t->t.ks.length<=3->K tv w1):vcall g args w K:=
 i K λw1 p1 tv t hs f j k a=>e w1 p1 tv t (h.step hs f) hs j (k.weaken λx l _=>by have:=h.size;show b1<x;omega) a
theorem Dw.keep {tv:Value} {t:M.Tm} {w1:World} (h:Dw F D w0 b b1 v dv xs ds w p) (a:TermR (Nw b1) w tv t) (hs:Same (· =b) w w1):TermR (Nw b1) w1 tv t:=
 a.same hs λx c _ e=>by subst e;have:=h.old;have:=h.new;have d:b1<x:=c;omega
theorem Dw.tms {kv:Value} {ks:List M.Tm} (h:Dw F D w0 b b1 v dv xs ds w p) {w1:World} (c:TmsR (λz=>Nw b1 z\/z=w.heap.size) w1 kv ks):TmsR (Nw b1) w1 kv ks:=
 c.weaken λx a _=>by
  rcases a with a|a
  .exact a
  .have:=h.size;show b1<x;omega
end
def JH (d:Nat):Nat:=100*4^d
theorem cost_succ (d:Nat):JH (d+1)=4*JH d:=by unfold JH;rw[Nat.pow_succ];omega
theorem cost_ge (d:Nat):100<=JH d:=by
 have:1<=4^d:=z0c oM;unfold JH;omega
def Qp (d:Nat):Prop:=∀{w:World} {K:oK} {F D:oA} {b p:Nat} {v dv:Value} {xs:List Nat} {ds:List M.Dcl} {sort deep:Int},RdR F w b v xs p->(∀x,F x->x<w.heap.size)->DclsR D w dv ds->(∀x,D x->x≠b)->(∀x,D x->x<w.heap.size)->Dok ds->0<=sort->sort<=4-> -100<=deep->deep<=d->
 p+JH d<1099511627776->xj0 K F w b p (JH d) v xs->vcall Zf #[oP b 0,dv,nI sort,nI deep] w K
theorem num_draw {w0:World} {b b1 p:Nat} {v dv:Value} {xs:List Nat} {ds:List M.Dcl} {ns:oI} (h:Dw F D w0 b b1 v dv xs ds w p) (a:ns≠[]) (c:ns.length<=1000) (l:p<1099511627776) (j:∀w1 m,Dw F D w0 b b1 v dv xs ds w1 (p+1)->Same (· =b) w w1->m∈ns->K (nI m) w1):
  vbuildS zf ns.length ((ns.map λx=>nI x).zipIdx.map λp=>(p.2,p.1)) w λs w1=>vcall xK #[oP b 0,s] w1 K:=by
 have:=vbuildS_row1 (w:=w) (K:=λs w1=>vcall xK #[oP b 0,s] w1 K) (t:=zf) (xs:=ns.map λx=>nI x) x6 yG xn (λx d=>by obtain⟨y,_,rfl⟩:=gz.1 d;rfl) (by simp;omega) λb2 w' o f q i=>by
  have n:Ints (· =b2) w' (.slice (some ⟨b2,0,none⟩) (ns.map λx=>nI x).length (ns.map λx=>nI x).length) ns:=i.sl1 rfl (by simp;omega);have g:=h.ext f;have:=h.rd.blk.lt;refine num_spec g.rd n a c l (λx d e=>by subst d;omega) λw2 m hs r k hm=>?_;exact j w2 m (g.step hs k) ((Same.of_ext f).trans hs) hm
 rwa[V0] at this
theorem l2Asks_spec {d:Nat} (hT:Qp d) {b p:Nat} {v dv:Value} {xs:List Nat} {ds:List M.Dcl} {deep:Int} (h:RdR F w b v xs p) (hF:∀x,F x->x<w.heap.size) (hd:DclsR D w dv ds) (hD:∀x,D x->x≠b) (hD1:∀x,D x->x<w.heap.size) (G:Dok ds) (aa:1<=deep) (ab:deep<=d+1) (ac:d<=9)
  (hp:p+2*JH d+10<1099511627776) (U:xj0 K F w b p (2*JH d+10) v xs):vcall Ub #[oP b 0,dv,nI deep] w K:=by
 refine ze {cuts:=[(40971,[7])]} Tryz.func101 ?_;refine Dw.begin h hF hd hD hD1 λw1 h1=>?_;have hg:=h1.new;have e1:IntKind.i64.wrap (deep-1)=deep-1:=zj oM oM;have f:∀{w2:World} {p2:Nat} {s:Int} {V:oK},Dw F D w b w.heap.size v dv xs ds w2 p2->0<=s->s<=4->p2+JH d<1099511627776->(∀B R tv t,Dw F D w b w.heap.size v dv xs ds B R->Same (· =b) w2 B->R<=p2+JH d->TermR (Nw w.heap.size) B tv t->t.ks.length<=3->V tv B)->
   vcall Zf #[oP b 0,dv,nI s,nI (deep-1)] w2 V:=λr y i a4 X=>
  r.sub (λV hk=>hT r.rd (λx hx=>gM (hF x hx) r.same.size) r.dcl hD (λx hx=>gM (hD1 x hx) r.same.size) G y i oM oM a4 hk) X
 refine h1.pick oM oM λw2 k r ag hk _=>?_;simp only[push_cast,e1];refine zb (λa=>?_) (λa=>?_)
 .refine f r oM oM oM λB R I t0 o H O l _=>?_;refine Uz l λJ sa Y aj j=>?_;have n:=o.ext Y;refine oZ ?_;exact n.fin (p0:=p) oM (TmR.of (t:= .mk 25 0 0 _ [t0]) (o.tms j)) (Gw rfl) U
 refine zb (λa1=>?_) (λa1=>?_)
 .refine f r oM oM oM λB R I t0 o H O l _=>?_;refine f o oM oM oM λJ S T t1 n i Q q _=>?_;refine kids2 (o.keep l i) q λw5 sa E a7 j=>?_;have z:=n.ext E;refine oZ ?_;exact z.fin (p0:=p) oM (TmR.of (t:= .mk 26 0 0 _ [t0,t1]) (n.tms j)) (Gw rfl) U
 refine zb (λa2=>?_) (λa2=>?_)
 .refine f r oM oM oM λB R I t0 o H O l _=>?_;refine f o oM oM oM λJ S T t1 n i Q q _=>?_;refine kids2 (o.keep l i) q λw5 sa E a7 j=>?_;have z:=n.ext E;refine oZ ?_;exact z.fin (p0:=p) oM (TmR.of (t:= .mk 27 0 0 _ [t0,t1]) (n.tms j)) (Gw rfl) U
 refine r.pick oM oM λB k3 o H a0 _=>?_;have a8:=a0 oM;refine oZ ?_;rw[zj (x:=1+(k3:Int)) oM oM];refine zo (λu J=> ∃s S,u=[nI s]/\0<=s/\s<=4/\S<=p+4/\Dw F D w b w.heap.size v dv xs ds J S) (λC W=>?_) ?_
 .have hlen:=G.1;have L:=o.dcl;simp only[push_cast,L.len];refine zb (λc=>?_) (λc=>?_)
  .refine o.pick oM oM λJ k4 n i ad _=>?_;have N:=n.dcl;refine oZ ?_;refine zb (λe=>?_) (λe=>?_)
   .try simp only[push_cast,N.len]
    refine n.pick oM oM λw5 k5 z a5 a3 _=>?_;have a9:=a3 oM;have A:=z.dcl;simp(disch:=exact oS) only[push_cast,A.iaddr]
    try simp(disch:=exact oS) only[push_cast,A.load1]
    have ai:1<=(ds.getD k5 (M.nada,0)).2/\(ds.getD k5 (M.nada,0)).2<=4/\_:=G.2 k5 oM;exact W _ _ ⟨_,_,rfl,oM,oM,oM,z⟩
   .exact W _ _ ⟨_,_,rfl,oM,oM,oM,n⟩
  .exact W _ _ ⟨_,_,rfl,oM,oM,oM,o⟩
 .rintro u g J ⟨s,S,rfl,y,i,Q,n⟩;refine num_draw (ns:=[15,16,17,15]) n (by simp) dC oM λw5 m z a5 hm=>?_;simp only[push_cast,e1];refine f z y i oM λw6 p6 I t0 h6 ah ae l _=>?_;refine f h6 y i oM λw7 p7 T t1 h7 a6 af q _=>?_;refine kids2 (h6.keep l a6) q λw8 sa Z ak j=>?_;have h8:=h7.ext Z;refine oZ ?_;exact h8.fin (p0:=p) oM (TmR.of (t:= .mk m 0 0 _ [t0,t1]) (h7.tms j)) (Gw rfl) U
end
section
variable {w:World} {K:oK} {F F' D G:oA}
theorem l2Term_step {d:Nat} (an:d<=9) (hT:∀e,e<d->Qp e):Qp d:=by
 intro w K F D b p v dv xs ds sort deep h hF hd hD hD1 Y l m ap ao hp S;refine ze {cuts:=[(8195,[]),(53263,[]),(53261,[89])]} Tryz.func75 ?_;refine Dw.begin h hF hd hD hD1 λw1 h1=>?_;have a9:=cost_ge d;have G:∀{w2:World} {p2:Nat},Dw F D w b w.heap.size v dv xs ds w2 p2->p2<=p+1->JH d=100\/0<d->p2+100<=p+JH d\/d=0->(d=0->p2=p)->
   vcall YY #[oP b 0,dv,nI sort] w2 λt27 ak=>zI za (oP w.heap.size 0) t27 ak λ_ al=>vlv za (oP w.heap.size 0) al λr8 am=>K r8 am:=by
  intro w2 p2 n Z _ T hz;refine n.sub (c:=100) (λK' O=>l2Leafy_spec n.rd (λx M=>gM (hF x M) n.same.size) n.dcl hD Y l m (by rcases T with T|T<;>omega) O) λR p3 tv t y ag ar ht X=>?_;obtain⟨cs,rfl,U⟩:=ht.cells;refine y.fin (p0:=p) (c:=JH d) ?_ U X S;rcases T with T|T
  .omega
  .have:=hz T;omega
 refine zo (λu w'=> ∃p',u=[]/\Dw F D w b w.heap.size v dv xs ds w' p'/\p'<=p+1/\1<=deep) (λC hC=>?_) ?_
 .refine oZ ?_;refine zb (λa=>?_) (λa=>?_)
  .refine G h1 oM (by
    by_cases h0:d=0
    .subst h0;left;rfl
    .right;omega) ?_ (λ_=>rfl)
   by_cases h0:d=0
   .exact .inr h0
   .left;omega
  .have V:1<=d:=oM;have aa:JH d=4*JH (d-1):=by
    obtain⟨e,rfl⟩:∃e,d=e+1:=⟨d-1,oM⟩;exact cost_succ e
   have a4:=cost_ge (d-1);refine zb (λc=>?_) (λc=>?_)
   .refine h1.pick oM oM λw2 k n av O _=>?_;refine oZ ?_;refine zb (λe=>?_) (λe=>?_)
    .exact G n oM (.inr oM) (.inl oM) oM
    .exact hC _ _ ⟨p+1,rfl,n,oM,oM⟩
   .exact hC _ _ ⟨p,rfl,h1,oM,oM⟩
 rintro u g w2 ⟨p2,rfl,n,Z,ac⟩;have V:1<=d:=oM
 obtain⟨J,ab⟩:∃J,d=J+1:=⟨d-1,oM⟩;have aa:JH d=4*JH J:=by rw[ab,cost_succ]
 have a4:=cost_ge J;have e1:IntKind.i64.wrap (deep-1)=deep-1:=zj oM oM;have f:∀{w2:World} {p2:Nat} {s:Int} {K':oK},Dw F D w b w.heap.size v dv xs ds w2 p2->0<=s->s<=4->p2+JH J<1099511627776->(∀R p3 tv t,Dw F D w b w.heap.size v dv xs ds R p3->Same (· =b) w2 R->p3<=p2+JH J->TermR (Nw w.heap.size) R tv t->t.ks.length<=3->K' tv R)->
   vcall Zf #[oP b 0,dv,nI s,nI (deep-1)] w2 K':=λn l m Z a8=>
  n.sub (λK' O=>hT J oM n.rd (λx M=>gM (hF x M) n.same.size) n.dcl hD (λx M=>gM (hD1 x M) n.same.size) Y l m oM oM Z O) a8
 refine n.pick oM oM λR k y ag O _=>?_;have aq:=O oM;simp only[push_cast,e1];refine zb (λa=>?_) (λa=>?_)
 .refine f y oM oM oM λw4 p4 N t0 h4 Q ae j _=>?_;refine f h4 l m oM λw5 p5 a7 t1 z H au I _=>?_;refine f z l m oM λw6 p6 aw t2 q r L ah _=>?_;refine kids3 (z.keep (h4.keep j H) r) (z.keep I r) ah λw7 sa B a6 i=>?_;have A:=q.ext B;refine oZ ?_;exact A.fin (p0:=p) oM (TmR.of (t:= .mk 23 0 0 _ [t0,t1,t2]) (q.tms i)) (Gw rfl) S
 refine zb (λa0=>?_) (λa0=>?_)
 .refine y.sub (c:=2*JH J+10) (λK' O=>l2Asks_spec (hT J oM) y.rd (λx M=>gM (hF x M) y.same.size) y.dcl hD (λx M=>gM (hD1 x M) y.same.size) Y ac oM oM oM O) λw4 p4 tv t h4 Q ae ht X=>?_;obtain⟨cs,rfl,U⟩:=ht.cells;exact h4.fin (p0:=p) oM U X S
 refine zb (λa1=>?_) (λa1=>?_)
 .rw[zj (x:=5-sort) oM oM];refine y.pick oM oM λw4 k4 h4 Q ad a5=>?_;have ai:sort+(k4:Int)<=4:=by
   by_cases hn:1<=5-sort
   .have:=ad hn;omega
   .have:=a5 oM;omega
  refine oZ ?_;rw[zj (x:=sort+(k4:Int)) oM oM,zj (x:=sort+(k4:Int)-sort) oM oM,zj (x:=sort+(k4:Int)-sort+1) oM oM];refine h4.pick oM oM λw5 k5 z H o _=>?_;have E:=o oM;refine oZ ?_;refine f z oM ai oM λw6 p6 N t0 q r L j _=>?_;refine Uz j λw7 sa B a6 i=>?_;have A:=q.ext B;refine oZ ?_;exact A.fin (p0:=p) oM (TmR.of (t:= .mk 22 _ _ _ [t0]) (q.tms i)) (Gw rfl) S
 refine zo (λu w'=>u=[]/\w'=R) (λC hC=>?_) ?_
 .refine zo (λu w'=>u=[.bool (decide (k=2/\1<sort))]/\w'=R) (λC' a3=>?_) ?_
  .try simp only[push_cast]
   refine zb (λc=>?_) (λc=>?_)
   .refine a3 _ _ ⟨?_,rfl⟩;have c':k=2:=oM;simp only[c',Q1]
   .exact a3 _ _ ⟨by rw[gk oM],rfl⟩
  rintro u g w4 ⟨rfl,rfl⟩;refine oZ ?_;refine zb (λc=>?_) (λc=>?_)
  .rw[zj (x:=sort-1) oM oM];refine y.pick oM oM λw5 k5 z H o _=>?_;have E:=o oM
   try simp only[push_cast]
   rw[zj (x:=1+(k5:Int)) oM oM];refine f z oM oM oM λw6 p6 N t0 q r L j _=>?_
   try simp only[push_cast]
   rw[zj (x:=sort-(1+(k5:Int))) oM oM];refine f q oM oM oM λw7 p7 a7 t1 A a2 af I _=>?_;refine kids2 (q.keep j a2) I λw8 sa W aj i=>?_;have h8:=A.ext W;refine oZ ?_;exact h8.fin (p0:=p) oM (TmR.of (t:= .mk 14 0 0 _ [t0,t1]) (A.tms i)) (Gw rfl) S
  .exact hC _ _ ⟨rfl,rfl⟩
 rintro u g w4 ⟨rfl,rfl⟩
 try simp only[push_cast]
 refine zb (λc=>?_) (λc=>?_)
 .refine y.pick oM oM λw5 k5 z H o _=>?_;have E:=o oM
  try simp only[push_cast]
  rw[zj (x:=1+(k5:Int)) oM oM];refine f z l m oM λw6 p6 N t0 q r L j _=>?_;refine Uz j λw7 sa B a6 i=>?_;have A:=q.ext B;refine oZ ?_;exact A.fin (p0:=p) oM (TmR.of (t:= .mk _ 0 0 _ [t0]) (q.tms i)) (Gw rfl) S
 .refine y.pick oM oM λw5 k5 z H o _=>?_;have E:=o oM
  try simp only[push_cast]
  rw[zj (x:=3+(k5:Int)) oM oM];refine f z l m oM λw6 p6 N t0 q r L j _=>?_;refine f q l m oM λw7 p7 a7 t1 A a2 af I _=>?_;refine kids2 (q.keep j a2) I λw8 sa W aj i=>?_;have h8:=A.ext W;refine oZ ?_;exact h8.fin (p0:=p) oM (TmR.of (t:= .mk _ 0 0 _ [t0,t1]) (A.tms i)) (Gw rfl) S
theorem l2Term_spec:∀d,d<=9->Qp d:=by
 intro d;induction d using Nat.strongRecOn with
 |_ d b=>intro a;exact l2Term_step a λe he=>b e he oM
theorem dok_sized {ds:List M.Dcl} (h:Dok ds):zl0 ds:=λi hi=>by have:=(h.2 i hi).2.2;omega
theorem l2Some_spec {b p:Nat} {v dv:Value} {xs:List Nat} {ds:List M.Dcl} {sort:Int} (h:RdR F w b v xs p) (hF:∀x,F x->x<w.heap.size) (Z:DclsR D w dv ds) (hD:∀x,D x->x≠b) (hD1:∀x,D x->x<w.heap.size) (k:Dok ds) (r:0<=sort) (s:sort<=4)
  (hp:p+200000<1099511627776) (N:xj0 K F w b p 200000 v xs):vcall U4 #[oP b 0,dv,nI sort] w K:=by
 refine ze {loops:=[(2,[7])]} Tryz.func71 ?_;refine Dw.begin h hF Z hD hD1 λw1 V=>?_;have A:JH 4=25600:=rfl;refine vloop_up 4 (λi u w'=> ∃S,u=[nI (4-(i:Int))]/\Dw F D w b w.heap.size v dv xs ds w' S/\S<=p+25600*i) ⟨p,rfl,V,oM⟩ ?_;rintro i _ _ w2 C hi ⟨p2,rfl,e,a0⟩ X;have hold:=e.old;have Q:=e.new;refine oZ ?_;refine zb (λa=>?_) (λa=>?_)
 .refine e.sub (c:=JH 4) (λU B=>l2Term_spec 4 oM e.rd (λx l=>gM (hF x l) e.same.size) e.dcl hD (λx l=>gM (hD1 x l) e.same.size) k r s oM oM oM B) λJ T tv t z G E H j=>?_;obtain⟨cs,rfl,d⟩:=H.cells;have o:=d.weaken (F':=λx=>Nw w.heap.size x/\x<J.heap.size) λx l hl=>⟨l,hl⟩;refine zi zp λb2 w4 Y q R W=>?_;refine stTerm W rfl (o.ext q) λw5 I _ L=>?_;have f:Ext J w5:=Ext.then q I λy hy=>by subst hy;omega
  have O:aggB za cs.length=true:=by rw[zR d];exact zc
  rw[L.ldAgg (t:=za) O];have m:=z.ext f;refine spec_TermSort_spec (dok_sized k) m.dcl (d.ext f).term λw6 g=>?_;have n:=m.ext g;refine oZ ?_;refine zb (λc=>?_) (λc=>?_)
  .rw[(L.ext g).ldAgg (t:=za) O];exact n.fin (p0:=p) oM ((d.ext f).ext g) j N
  .rw[zj oM oM,show 4-(i:Int)-1=4-((i+1:Nat):Int) by omega];exact X oM _ _ ⟨T,rfl,n,oM⟩
 .refine e.sub (c:=100) (λU B=>l2Leafy_spec e.rd (λx l=>gM (hF x l) e.same.size) e.dcl hD k r s oM B) λJ T tv t z G E H j=>?_;obtain⟨cs,rfl,d⟩:=H.cells;exact z.fin (p0:=p) oM d j N
end
section
variable {w:World} {K:oK} {F F' D G:oA}
theorem strof_spec {b p:Nat} {v vs:Value} {xs:List Nat} {ss:List ByteArray} (h:RdR F w b v xs p) (g:Vals F' w vs (ss.map .string)) (d:ss≠[]) (n:ss.length<=1000) (m:p<1099511627776) (c:∀x,F' x->x≠b)
  (j:∀w' s,Same (· =b) w w'->w'.heap.size=w.heap.size->RdR F w' b v xs (p+1)->s∈ss->K (.string s) w'):vcall jU #[oP b 0,vs] w K:=by
 refine ze {} Tryz.func100 ?_;have f:=GF.2 d;have t:(ss.map Value.string).length=ss.length:=V0 _;simp only[push_cast,g.len];refine pick_spec h oM m λw1 k hs q l i _=>?_;have r:=i oM;have a:=g.same hs λx o _ e=>c x o e;rw[a.iaddr rK oM oM,gu,a.load rK oM,M.getD_map _ oM _ M.nada];exact j w1 _ hs q l (M.getD_mem oM _)
theorem of_lit {b p:Nat} {v:Value} {xs:List Nat} {ss:List ByteArray} (h:RdR F w b v xs p) (hF:∀x,F x->x<w.heap.size) (a:ss≠[]) (c:ss.length<=1000) (k:p<1099511627776) (i:∀w1 s,Same (· =b) w w1->RdR F w1 b v xs (p+1)->s∈ss->K (.string s) w1):
  vbuildS yC ss.length ((ss.map Value.string).zipIdx.map λp=>(p.2,p.1)) w λs w1=>vcall jU #[oP b 0,s] w1 K:=by
 have:=vbuildS_row1 (w:=w) (K:=λs w1=>vcall jU #[oP b 0,s] w1 K) (t:=yC) (xs:=ss.map Value.string) kU rK kT (λx d=>by obtain⟨y,_,rfl⟩:=gz.1 d;rfl) (by rw[V0];omega) λb2 w' n f o g=>by
  have l:Vals (· =b2) w' (.slice (some ⟨b2,0,none⟩) (ss.map Value.string).length (ss.map Value.string).length) (ss.map Value.string):=g.sl1 rfl (by rw[V0];omega);have:=h.blk.lt;refine strof_spec (h.ext f) l a c k (λx d e=>by subst d;omega) λw2 m hs q j hm=>?_;exact i w2 m ((Same.of_ext f).trans hs) j hm
 rwa[V0] at this
theorem num_lit {b p:Nat} {v:Value} {xs:List Nat} {ns:oI} (h:RdR F w b v xs p) (a:ns≠[]) (c:ns.length<=1000) (k:p<1099511627776) (i:∀w1 m,Same (· =b) w w1->RdR F w1 b v xs (p+1)->m∈ns->K (nI m) w1):
  vbuildS zf ns.length ((ns.map λx=>nI x).zipIdx.map λp=>(p.2,p.1)) w λs w1=>vcall xK #[oP b 0,s] w1 K:=by
 have:=vbuildS_row1 (w:=w) (K:=λs w1=>vcall xK #[oP b 0,s] w1 K) (t:=zf) (xs:=ns.map λx=>nI x) x6 yG xn (λx d=>by obtain⟨y,_,rfl⟩:=gz.1 d;rfl) (by simp;omega) λb2 w' n f o g=>by
  have l:Ints (· =b2) w' (.slice (some ⟨b2,0,none⟩) (ns.map λx=>nI x).length (ns.map λx=>nI x).length) ns:=g.sl1 rfl (by simp;omega);have:=h.blk.lt;refine num_spec (h.ext f) l a c k (λx d e=>by subst d;omega) λw2 m hs q j hm=>?_;exact i w2 m ((Same.of_ext f).trans hs) j hm
 rwa[V0] at this
def Dsm (ds:List M.Dcl):Prop:=ds.length<=7/\∀i,i<ds.length->(ds.getD i Qh).1.size<=5
theorem jF0 {ds:List M.Dcl} {k j:Nat} {d:M.Dcl} (a:k<ds.length):(ds.set k d).getD j Qh=if k=j then d else ds.getD j Qh:=by
 rw[q0,Pu];split
 .rename_i e;rfl
 .rw[<-q0]
theorem j50 {ds:List M.Dcl} {k:Nat} {d:M.Dcl} (c:List Value) (a:c=[Value.string d.1,nI d.2]):(ds.map λd=>[Value.string d.1,nI d.2]).set k c=(ds.set k d).map λd=>[Value.string d.1,nI d.2]:=by
 rw[PW,a]
theorem yy0 {b:Nat} (h:Blk w b [] yQ):OwnD w (.slice (some ⟨b,0,none⟩) 0 0) []:=Blk.ownk (css:=[]) (by rw[Qf];exact h) (by simp) rfl dC
abbrev V9 (ds:List M.Dcl):List (List Value):=ds.map λd=>[Value.string d.1,nI d.2]
theorem one_cellsD {ds:List M.Dcl}:∀y,y∈V9 ds->∀c,c∈y->c.oneCell'=true:=λy b c a=>by
 obtain⟨d,_,rfl⟩:=gz.1 b;simp only[gm,gC,Gi] at a;rcases a with rfl|rfl<;>rfl
def Dsn (n:Nat) (ds:List M.Dcl):Prop:=ds.length<=n/\∀i,i<ds.length->(ds.getD i Qh).1.size<=5
theorem dsn_sized {n:Nat} {ds:List M.Dcl} (h:Dsn n ds):zl0 ds:=λi hi=>by have:=h.2 i hi;omega
theorem dsn_up {n:Nat} {ds:List M.Dcl} (h:Dsn n ds):Dsn (n+2) ds:=⟨by have:=h.1;omega,h.2⟩
theorem jR0 {ds:List M.Dcl} (h:Dok ds):Dsn 5 ds:=⟨h.1,λi hi=>by have:=(h.2 i hi).2.2;omega⟩
theorem l2Spoil_spec2 {n b p:Nat} {v dv:Value} {xs:List Nat} {ds:List M.Dcl} (h:RdR F w b v xs p) (hF:∀x,F x->x<w.heap.size) (hd:DclsR D w dv ds) (hD:∀x,D x->x≠b) (hD1:∀x,D x->x<w.heap.size) (u:Dsn n ds) (aj:n<=100) (hp:p+10<1099511627776)
  (hK:∀w' p' W V,Same (· =b) w w'->RdR F w' b v xs p'->p'<=p+10->DclsR (λx=>w.heap.size<=x) w' W V->Dsn (n+2) V->K W w'):vcall YX #[oP b 0,dv] w K:=by
 refine ze {} Tryz.func72 ?_;have lb:=h.blk.lt;have hlen:=u.1;refine vbuildS_row (xs:=[]) (us:=[]) (k:=2) jf jQ yV rfl (by simp) dC λb1 w1 ar E aw h1=>?_;have am:=yy0 h1;refine vappend (F:=D) (ys:=V9 ds) Y5 dC am (show Sl D w1 2 dv (V9 ds) from hd.ext E) one_cellsD (gS _) (by simp;omega) (by simp;omega) λov w2 J aa ak=>?_;replace J:OwnD w2 ov ds:=J;have ax:=E.size;have ay:=aa.size;have H:Same (· =b1) w1 w2:=aa.mono λx _ g=>(gh g).symm;have B:∀x,ov.ownBlock=some x->w.heap.size<=x:=λx g=>by
  rcases ak x g with g|g
  .have e:x=b1:=(gh g).symm;omega
  .omega
 have a5:Same (· =b) w w2:=same_new (Same.of_ext E) H oM;have X:RdR F w2 b v xs p:=(h.ext E).new H oM λx g e=>by have:=hF x g;omega
 have ah:DclsR D w2 dv ds:=(hd.ext E).same H λx g _ e=>by have:=hD1 x g;omega
 have G:∀U p3 I,Same (· =b) w U->RdR F U b v xs p3->p3<=p+10->OwnD U ov I->Dsn (n+2) I->K ov U:=λU p3 I hs hR an ho ai=>hK U p3 ov I hs hR an (ho.dcls.weaken λx g _=>B x g) ai;simp only[push_cast,ah.len];refine zb (λa=>?_) (λa=>?_)
 .exact G _ _ _ a5 X oM J (dsn_up u)
 refine pick_spec X oM oM λU k a6 az ae hk _=>?_;have au:=hk oM;refine pick_spec ae oM oM λw4 c a7 b0 C hc _=>?_;have L:OwnD w4 ov ds:=(J.same a6 λx g e=>by have:=B x g;omega).same a7 λx g e=>by have:=B x g;omega
 have f:=(a5.trans a6).trans a7;have ab:=f.size;have ad:∀x,F x->x<w4.heap.size:=λx g=>gM (hF x g) ab;have t:∀{A:World} {p5:Nat} {d:M.Dcl} {x:Value} {j:Nat} {e:TypeId},OwnD A ov ds->Same (· =b) w A->RdR F A b v xs p5->p5<=p+10->x.cells= #[x]->x.oneCell'=true->xZ e 1=true->j<2->([Value.string (ds.getD k Qh).1,nI (ds.getD k Qh).2].set j x)=[Value.string d.1,nI d.2]->d.1.size<=5->
   zI e (oE ((eaddr ov 2 k).add j)) x A λ_ Q=>K ov Q:=by
  intro A p5 d x j e ho hs hR ao ap aq hz hj a9 T;refine Own.stCell ho ap aq hz (by rw[V0];omega) hj λQ N o _=>?_;have hg:(V9 ds).getD k []=[Value.string (ds.getD k Qh).1,nI (ds.getD k Qh).2]:=JS oM;rw[show(ds.map λd=>[Value.string d.1,nI d.2]).getD k []=_ from hg,a9,j50 (d:=d) _ rfl] at N;have a8:Same (· =b) w Q:=⟨o.os.trans hs.os,o.tape.trans hs.tape,o.output.trans hs.output,gO hs.size o.size,λy O S=>by
   rw[o.block y (gM O hs.size) (λe=>by have:=B y e;omega)];exact hs.block y O S⟩
  refine G Q p5 _ a8 (hR.same o (λe=>by have:=B b e;omega) λy O _ e=>by have:=B y e;have:=hF y O;omega) ao N ⟨by rw[GQ];omega,λi hi=>?_⟩;rw[GQ] at hi;rw[jF0 oM];split
  .exact T
  .have:=u.2 i hi;omega
 have av:=u.2 k oM;refine oZ ?_;refine zb (λa0=>?_) (λa0=>?_)
 .refine num_lit (ns:=[0,5,-1,4]) C (by simp) dC oM λA m r R hm=>?_;have q:OwnD A ov ds:=L.same r λx g e=>by have:=B x g;omega
  have hi:=q.dcls;simp(disch:=exact oS) only[push_cast,hi.iaddr];exact t (d:=((ds.getD k Qh).1,m)) (j:=1) q (f.trans r) R oM rfl rfl yG oM rfl (by show(ds.getD k Qh).1.size<=5;omega)
 refine zb (λa1=>?_) (λa1=>?_)
 .refine of_lit (ss:=[⟨#[]⟩,⟨#[116,114,117,101]⟩,⟨#[97,98,99,100,101]⟩,⟨#[65]⟩,⟨#[110,111,116]⟩,⟨#[120]⟩]) C ad (by simp) dC oM λA s r R hm=>?_;have q:OwnD A ov ds:=L.same r λx g e=>by have:=B x g;omega
  have hi:=q.dcls;have T:s.size<=5:=by
   simp only[gm,gC,Gi] at hm;rcases hm with rfl|rfl|rfl|rfl|rfl|rfl<;>decide
  simp(disch:=exact oS) only[push_cast,hi.iaddr];exact t (d:=(s,(ds.getD k Qh).2)) (j:=0) q (f.trans r) R oM rfl rfl Wr oM rfl T
 refine zb (λa2=>?_) (λa2=>?_)
 .refine vbuildS_row (xs:=[.agg ⟨[.string ⟨#[113]⟩,nI 4]⟩,.agg ⟨[.string ⟨#[112]⟩,nI 1]⟩]) (us:=V9 [(⟨#[113]⟩,4),(⟨#[112]⟩,1)]) (k:=2) jf jQ yV rfl (by simp) dC λb5 A ag l r h5=>?_;have Z:OwnD A (.slice (some ⟨b5,0,none⟩) 2 2) [(⟨#[113]⟩,4),(⟨#[112]⟩,1)]:=Blk.ownk (css:=V9 [(⟨#[113]⟩,4),(⟨#[112]⟩,1)]) (by rw[Qf];exact h5) (by simp) rfl dC;refine vappend (ys:=V9 [(⟨#[113]⟩,4),(⟨#[112]⟩,1)]) Y5 dC (L.ext l) Z.sl one_cellsD (gS _) (by simp;omega) (by simp;omega) λac Q N z al=>?_;have b2:=l.size;have o:Same (· =b) w Q:=⟨z.os.trans ((f.trans (Same.of_ext l)).os),z.tape.trans ((f.trans (Same.of_ext l)).tape),z.output.trans ((f.trans (Same.of_ext l)).output),gO (f.trans (Same.of_ext l)).size z.size,λy O S=>by
   rw[z.block y (gM O (f.trans (Same.of_ext l)).size) (λe=>by have:=B y e;omega)];exact(f.trans (Same.of_ext l)).block y O S⟩
  have af:RdR F Q b v xs _:=(C.ext l).same z (λe=>by have:=B b e;omega) λy O _ e=>by have:=B y e;have:=hF y O;omega
  have a4:OwnD Q ac (ds++[(⟨#[113]⟩,4),(⟨#[112]⟩,1)]):=by
   rw[OwnD,gD];exact N
  refine hK Q _ ac _ o af oM (a4.dcls.weaken λx g _=>?_) ⟨by rw[gd];simp;omega,λi hi=>?_⟩
  .rcases al x g with h|h
   .exact B x h
   .omega
  .rw[gd] at hi;by_cases Y:i<ds.length
   .rw[q0,gN Y,<-q0];have:=u.2 i Y;omega
   .rw[q0,gP oM];have:i-ds.length=0\/i-ds.length=1:=by simp at hi;omega
    rcases this with e|e<;>rw[e]<;>decide
 refine zb (λa3=>?_) (λa3=>?_)
 .refine vbuildS_row (xs:=[]) (us:=[]) (k:=2) jf jQ yV rfl (by simp) dC λb5 A ag l r h5=>?_;have q:=yy0 h5;exact hK A _ _ [] (f.trans (Same.of_ext l)) (C.ext l) oM (q.dcls.weaken λx g _=>by have e:x=b5:=(gh g).symm;omega) ⟨by simp,λi hi=>by simp at hi⟩
 .exact G _ _ _ f C oM L (dsn_up u)
theorem l2Spoil_spec {b p:Nat} {v dv:Value} {xs:List Nat} {ds:List M.Dcl} (h:RdR F w b v xs p) (hF:∀x,F x->x<w.heap.size) (g:DclsR D w dv ds) (hD:∀x,D x->x≠b) (hD1:∀x,D x->x<w.heap.size) (d:Dok ds) (i:p+10<1099511627776)
  (f:∀w' e c a,Same (· =b) w w'->RdR F w' b v xs e->e<=p+10->DclsR (λx=>w.heap.size<=x) w' c a->Dsm a->K c w'):vcall YX #[oP b 0,dv] w K:=
 l2Spoil_spec2 h hF g hD hD1 (jR0 d) oM i f
end
end Go.Proofs.YtfjlkobhagjdaaaGreatDoor
end
