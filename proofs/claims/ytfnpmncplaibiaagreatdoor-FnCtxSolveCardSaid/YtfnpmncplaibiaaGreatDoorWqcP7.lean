import Derived.Ground.NamesProg
import Derived.Ground.SlsfProg
import Derived.Shelf.SlSortCmp.Whole1
import Derived.Shelf.Strings.OnBuilder
import Derived.Shelf.Strings.SlTrimAscii
import Derived.Shelf.SlGeneric
import Derived.Test.YtfnpmncplaibiaaGreatDoorWqcP6
/- A part of the proof. -/
set_option linter.all false
set_option maxRecDepth 9999
set_option maxHeartbeats 2000000
noncomputable section
namespace Go.Proofs
open Go.Shelf
def YtfnpmncplaibiaaGreatDoor.sortL_ren:Go.Shelf.Ren:=⟨λ|6=>347 |15=>362 |14=>361 |28=>374 |29=>329 |20=>366 |21=>367 |22=>368 |23=>369 |24=>370 |25=>371 |26=>372 |27=>373 |46=>376 |47=>377 |48=>378 |49=>379 |50=>380 |57=>381 |n=>n,λ|22=>43 |24=>3 |25=>138 |3=>3 |39=>363 |0=>0 |53=>391 |55=>289 |4=>4 |46=>431 |45=>430 |50=>169 |5=>5 |9=>9 |66=>436 |70=>263 |76=>441 |77=>176 |n=>n,λ|n=>n⟩
theorem YtfnpmncplaibiaaGreatDoor.sortL:Go.Proofs.SlLaysF.n6 Tryz.prog YtfnpmncplaibiaaGreatDoor.sortL_ren:={
 mixed:=rK
 f6:=⟨Tryz.f347.name,dC,Tryz.func347.trans (congrArg some rK)⟩
 f14:=⟨Tryz.f361.name,dC,Tryz.func361.trans (congrArg some rK)⟩
 f15:=Tryz.func362.trans (congrArg some rK)
 f20:=⟨Tryz.f366.name,dC,Tryz.func366.trans (congrArg some rK)⟩
 f21:=⟨Tryz.f367.name,dC,Tryz.func367.trans (congrArg some rK)⟩
 f22:=⟨Tryz.f368.name,dC,Tryz.func368.trans (congrArg some rK)⟩
 f23:=⟨Tryz.f369.name,dC,Tryz.func369.trans (congrArg some rK)⟩
 f24:=⟨Tryz.f370.name,dC,Tryz.func370.trans (congrArg some rK)⟩
 f25:=⟨Tryz.f371.name,dC,Tryz.func371.trans (congrArg some rK)⟩
 f26:=⟨Tryz.f372.name,dC,Tryz.func372.trans (congrArg some rK)⟩
 f27:=⟨Tryz.f373.name,dC,Tryz.func373.trans (congrArg some rK)⟩
 f28:=Tryz.func374.trans (congrArg some rK)
 f29:=Tryz.func329.trans (congrArg some rK)
 f46:=⟨Tryz.f376.name,dC,Tryz.func376.trans (congrArg some rK)⟩
 f47:=Tryz.func377.trans (congrArg some rK)
 f48:=Tryz.func378.trans (congrArg some rK)
 f49:=⟨Tryz.f379.name,dC,Tryz.func379.trans (congrArg some rK)⟩
 f50:=⟨Tryz.f380.name,dC,Tryz.func380.trans (congrArg some rK)⟩
 f57:=⟨Tryz.f381.name,dC,Tryz.func381.trans (congrArg some rK)⟩
 t0:=Tryz.underlying0
 a0:=Tryz.isAgg0
 z0:=Tryz.sizeOf0
 v0:=Tryz.zeroValue0
 t3:=Tryz.underlying3
 a3:=Tryz.isAgg3
 z3:=Tryz.sizeOf3
 v3:=Tryz.zeroValue3
 t4:=Tryz.underlying4
 a4:=Tryz.isAgg4
 z4:=Tryz.sizeOf4
 v4:=Tryz.zeroValue4
 t5:=Tryz.underlying5
 a5:=Tryz.isAgg5
 z5:=Tryz.sizeOf5
 v5:=Tryz.zeroValue5
 t9:=Tryz.underlying9
 a9:=Tryz.isAgg9
 z9:=Tryz.sizeOf9
 v9:=Tryz.zeroValue9
 t22:=Tryz.underlying43
 a22:=Tryz.isAgg43
 z22:=Tryz.sizeOf43
 v22:=Tryz.zeroValue43
 a24:=Tryz.isAgg3
 z24:=Tryz.sizeOf3
 t25:=Tryz.underlying138
 a25:=Tryz.isAgg138
 z25:=Tryz.sizeOf138
 v25:=Tryz.zeroValue138
 t39:=Tryz.underlying363
 a39:=Tryz.isAgg363
 z39:=Tryz.sizeOf363
 v39:=Tryz.zeroValue363
 t45:=Tryz.underlying430
 a45:=Tryz.isAgg430
 z45:=Tryz.sizeOf430
 v45:=Tryz.zeroValue430
 t46:=Tryz.underlying431
 a46:=Tryz.isAgg431
 z46:=Tryz.sizeOf431
 v46:=Tryz.zeroValue431
 t50:=Tryz.underlying169
 a50:=Tryz.isAgg169
 z50:=Tryz.sizeOf169
 v50:=Tryz.zeroValue169
 t53:=Tryz.underlying391
 a53:=Tryz.isAgg391
 z53:=Tryz.sizeOf391
 v53:=Tryz.zeroValue391
 t55:=Tryz.underlying289
 a55:=Tryz.isAgg289
 z55:=Tryz.sizeOf289
 v55:=Tryz.zeroValue289
 t66:=Tryz.underlying436
 a66:=Tryz.isAgg436
 z66:=Tryz.sizeOf436
 v66:=Tryz.zeroValue436
 t70:=Tryz.underlying263
 a70:=Tryz.isAgg263
 z70:=Tryz.sizeOf263
 v70:=Tryz.zeroValue263
 t76:=Tryz.underlying441
 a76:=Tryz.isAgg441
 z76:=Tryz.sizeOf441
 v76:=Tryz.zeroValue441
 t77:=Tryz.underlying176
 a77:=Tryz.isAgg176
 z77:=Tryz.sizeOf176
 v77:=Tryz.zeroValue176}
def YtfnpmncplaibiaaGreatDoor.trimL_ren:Go.Shelf.Ren:=⟨λ|160=>121 |232=>177 |231=>176 |227=>178 |234=>180 |233=>179 |236=>182 |235=>181 |228=>235 |271=>238 |151=>237 |197=>236 |120=>281 |152=>280 |260=>279 |137=>302 |119=>303 |224=>304 |225=>305 |217=>327 |266=>349 |n=>n,λ|9=>9 |4=>4 |3=>3 |5=>5 |117=>257 |116=>256 |0=>0 |124=>260 |21=>21 |105=>321 |46=>363 |119=>376 |139=>379 |138=>378 |n=>n,λ|3=>5 |4=>6 |n=>n⟩
theorem YtfnpmncplaibiaaGreatDoor.trimL:Go.Proofs.Lays.n160 Tryz.prog YtfnpmncplaibiaaGreatDoor.trimL_ren:={
 mixed:=rK
 f119:=Tryz.func303.trans (congrArg some rK)
 f120:=Tryz.func281.trans (congrArg some rK)
 f137:=Tryz.func302.trans (congrArg some rK)
 f151:=Tryz.func237.trans (congrArg some rK)
 f152:=Tryz.func280.trans (congrArg some rK)
 f160:=Tryz.func121.trans (congrArg some rK)
 f197:=Tryz.func236.trans (congrArg some rK)
 f217:=Tryz.func327.trans (congrArg some rK)
 f224:=Tryz.func304.trans (congrArg some rK)
 f225:=Tryz.func305.trans (congrArg some rK)
 f227:=Tryz.func178.trans (congrArg some rK)
 f228:=Tryz.func235.trans (congrArg some rK)
 f231:=Tryz.func176.trans (congrArg some rK)
 f232:=Tryz.func177.trans (congrArg some rK)
 f233:=Tryz.func179.trans (congrArg some rK)
 f234:=Tryz.func180.trans (congrArg some rK)
 f235:=Tryz.func181.trans (congrArg some rK)
 f236:=Tryz.func182.trans (congrArg some rK)
 f260:=Tryz.func279.trans (congrArg some rK)
 f266:=Tryz.func349.trans (congrArg some rK)
 f271:=Tryz.func238.trans (congrArg some rK)
 t0:=Tryz.underlying0
 a0:=Tryz.isAgg0
 z0:=Tryz.sizeOf0
 v0:=Tryz.zeroValue0
 t3:=Tryz.underlying3
 a3:=Tryz.isAgg3
 z3:=Tryz.sizeOf3
 v3:=Tryz.zeroValue3
 t4:=Tryz.underlying4
 a4:=Tryz.isAgg4
 z4:=Tryz.sizeOf4
 v4:=Tryz.zeroValue4
 t5:=Tryz.underlying5
 a5:=Tryz.isAgg5
 z5:=Tryz.sizeOf5
 v5:=Tryz.zeroValue5
 t9:=Tryz.underlying9
 a9:=Tryz.isAgg9
 z9:=Tryz.sizeOf9
 v9:=Tryz.zeroValue9
 t21:=Tryz.underlying21
 a21:=Tryz.isAgg21
 z21:=Tryz.sizeOf21
 v21:=Tryz.zeroValue21
 t46:=Tryz.underlying363
 a46:=Tryz.isAgg363
 z46:=Tryz.sizeOf363
 v46:=Tryz.zeroValue363
 t105:=Tryz.underlying321
 a105:=Tryz.isAgg321
 z105:=Tryz.sizeOf321
 v105:=Tryz.zeroValue321
 t116:=Tryz.underlying256
 a116:=Tryz.isAgg256
 z116:=Tryz.sizeOf256
 t117:=Tryz.underlying257
 a117:=Tryz.isAgg257
 z117:=Tryz.sizeOf257
 v117:=Tryz.zeroValue257
 t119:=Tryz.underlying376
 a119:=Tryz.isAgg376
 z119:=Tryz.sizeOf376
 t124:=Tryz.underlying260
 a124:=Tryz.isAgg260
 z124:=Tryz.sizeOf260
 v124:=Tryz.zeroValue260
 t138:=Tryz.underlying378
 a138:=Tryz.isAgg378
 z138:=Tryz.sizeOf378
 v138:=Tryz.zeroValue378
 t139:=Tryz.underlying379
 a139:=Tryz.isAgg379
 z139:=Tryz.sizeOf379
 v139:=Tryz.zeroValue379
 g3:=rK
 g4:=rK}
def YtfnpmncplaibiaaGreatDoor.joinL_ren:Go.Shelf.Ren:=⟨λ|156=>195 |165=>241 |166=>242 |169=>243 |240=>283 |241=>284 |276=>310 |277=>311 |n=>n,λ|31=>226 |9=>9 |3=>3 |4=>4 |0=>0 |20=>20 |72=>327 |76=>329 |70=>325 |37=>40 |75=>86 |127=>362 |164=>388 |5=>5 |80=>286 |n=>n,λ|n=>n⟩
theorem YtfnpmncplaibiaaGreatDoor.joinL:Go.Proofs.Lays.n156 Tryz.prog YtfnpmncplaibiaaGreatDoor.joinL_ren:={
 mixed:=rK
 f156:=Tryz.func195.trans (congrArg some rK)
 f165:=Tryz.func241.trans (congrArg some rK)
 f166:=Tryz.func242.trans (congrArg some rK)
 f169:=Tryz.func243.trans (congrArg some rK)
 f240:=Tryz.func283.trans (congrArg some rK)
 f241:=Tryz.func284.trans (congrArg some rK)
 f276:=Tryz.func310.trans (congrArg some rK)
 f277:=Tryz.func311.trans (congrArg some rK)
 t0:=Tryz.underlying0
 a0:=Tryz.isAgg0
 z0:=Tryz.sizeOf0
 v0:=Tryz.zeroValue0
 t3:=Tryz.underlying3
 a3:=Tryz.isAgg3
 z3:=Tryz.sizeOf3
 v3:=Tryz.zeroValue3
 t4:=Tryz.underlying4
 a4:=Tryz.isAgg4
 z4:=Tryz.sizeOf4
 v4:=Tryz.zeroValue4
 t9:=Tryz.underlying9
 a9:=Tryz.isAgg9
 z9:=Tryz.sizeOf9
 v9:=Tryz.zeroValue9
 t20:=Tryz.underlying20
 a20:=Tryz.isAgg20
 z20:=Tryz.sizeOf20
 v20:=Tryz.zeroValue20
 t31:=Tryz.underlying226
 a31:=Tryz.isAgg226
 z31:=Tryz.sizeOf226
 v31:=Tryz.zeroValue226
 t37:=Tryz.underlying40
 a37:=Tryz.isAgg40
 z37:=Tryz.sizeOf40
 v37:=Tryz.zeroValue40
 t70:=Tryz.underlying325
 a70:=Tryz.isAgg325
 z70:=Tryz.sizeOf325
 v70:=Tryz.zeroValue325
 t72:=Tryz.underlying327
 a72:=Tryz.isAgg327
 z72:=Tryz.sizeOf327
 v72:=Tryz.zeroValue327
 t75:=Tryz.underlying86
 a75:=Tryz.isAgg86
 z75:=Tryz.sizeOf86
 v75:=Tryz.zeroValue86
 t76:=Tryz.underlying329
 a76:=Tryz.isAgg329
 z76:=Tryz.sizeOf329
 v76:=Tryz.zeroValue329
 t127:=Tryz.underlying362
 a127:=Tryz.isAgg362
 z127:=Tryz.sizeOf362
 v127:=Tryz.zeroValue362
 t164:=Tryz.underlying388
 a164:=Tryz.isAgg388
 z164:=Tryz.sizeOf388
 v164:=Tryz.zeroValue388}
end Go.Proofs
namespace Go.Proofs.YtfnpmncplaibiaaGreatDoor
open Go Go.Vc Go.Proofs
section
variable {w:World} {K:oK} {F G:oA}
theorem dw_nil {α:Type} {p:α->Bool}:∀{l:List α},l.dropWhile p=[]↔ ∀x,x∈l->p x=true
 |[]=>by simp
 |a::l=>by
  rw[PB];split
  .rename_i h;rw[dw_nil];constructor
   .intro b x c;rcases gj.1 c with rfl|c
    .exact h
    .exact b x c
   .intro b x c;exact b x (gq _ c)
  .rename_i h;constructor
   .intro b;cases b
   .intro b;exact absurd (b a gl) h
theorem dw_head {α:Type} {p:α->Bool}:∀{l:List α},l.dropWhile p≠[]->∃x,x∈l.dropWhile p/\p x=false
 |[],h=>absurd rfl h
 |a::l,h=>by
  rw[PB] at h⊢;split
  .rename_i b;rw[Q1 b] at h;exact dw_head h
  .rename_i b;exact⟨a,gl,by simpa using b⟩
theorem dw_sub {α:Type} {p:α->Bool}:∀{l:List α} {x:α},x∈l.dropWhile p->x∈l
 |[],_,h=>h
 |a::l,x,h=>by
  rw[PB] at h;split at h
  .exact gq _ (dw_sub h)
  .exact h
theorem Z30 {l cs:List UInt8}:Lib.trimS l cs=[]↔ ∀x,x∈l->cs.contains x=true:=by
 unfold Lib.trimS Lib.trimLeftS Lib.trimRightS;rw[dw_nil];constructor
 .intro h;by_cases a:∀x,x∈l->cs.contains x=true
  .exact a
  .exfalso;have b:List.dropWhile (λx=>cs.contains x) l.reverse≠[]:=λe=>a λx c=>dw_nil.1 e x (Po.2 c);obtain⟨y,g,f⟩:=dw_head b;have d:=h y (Po.2 g);rw[f] at d;cases d
 .intro h x c;exact h x (Po.1 (dw_sub (Po.1 c)))
def abc:ByteArray:=⟨#[97,98,99,100,101,102,103,104,105,106,107,108,109,110,111,112,113,114,115,116,117,118,119,120,121,122]⟩
theorem abc_in (x:UInt8):abc.data.toList.contains x=(decide (97<=x.toNat)&&decide (x.toNat<=122)):=by
 have a:∀n:Fin 256,abc.data.toList.contains (UInt8.ofNat n.1)=(decide (97<=(UInt8.ofNat n.1).toNat)&&decide ((UInt8.ofNat n.1).toNat<=122)):=by decide+kernel
 have:=a ⟨x.toNat,x.toNat_lt⟩;simpa using this
theorem yE0 {w w':World} (h:Go.RowKit.Below w.heap.size w w'):Ext w w':=⟨h.os,h.tape,h.output,h.size,λb a _=>h.block b a⟩
def ym0 (s:ByteArray):Bool:=s.data.all λc=>decide (97<=c.toNat)&&decide (c.toNat<=122)
theorem kq0 {s:ByteArray} (hs:s.size<=9223372036854775807) (f:∀w' r,Ext w w'->(r=⟨#[]⟩↔ym0 s=true)->K (.string r) w'):vcall Vi #[.string s,.string abc] w K:=by
 refine⟨rK,?_⟩;refine(Any.strings_Trim_laid YtfnpmncplaibiaaGreatDoor.trimL rK s abc w hs dC (ascii_of_all dC)).mono ?_;rintro e w' ⟨rfl,g⟩;refine f w' _ (yE0 g) ?_;have c:((⟨(Lib.trimS s.data.toList abc.data.toList).toArray⟩:ByteArray)=⟨#[]⟩)↔Lib.trimS s.data.toList abc.data.toList=[]:=by
  constructor
  .intro h;have d:=congrArg (λb:ByteArray=>b.data.toList) h;simpa using d
  .intro h;rw[h]
 rw[c,Z30];unfold ym0;rw[pE];constructor
 .intro h x a;rw[<-abc_in];exact h x (pS.2 a)
 .intro h x a;rw[abc_in];exact h x (pS.1 a)
theorem stDecl {b:Nat} {x y:Value} {t:TypeId} {s:ByteArray} {n:Int} (h:Blk w b [x,y] t) (c:∀w',Same (· =b) w w'->w'.heap.size=w.heap.size->Blk w' b [.string s,nI n] t->K undef w'):zP yR (oP b 0) (.agg ⟨[.string s,nI n]⟩) w K:=
 h.stAgg rfl rK (by intro v a;simp only[gj,gA,Gk] at a;rcases a with rfl|rfl<;>rfl) c
theorem ZP (s:ByteArray):M.nameOk s=(decide (1<=s.size)&&decide (s.size<=4)&&decide (s≠M.tru)&&ym0 s):=rfl
theorem DeclOk_spec {v:Value} {ds:List M.Dcl} (N:DclsR F w v ds) (D:∀w',Ext w w'->K (.bool (M.declOk ds)) w'):vcall UC #[v] w K:=by
 refine ze {loops:=[(5,[3,11])],cuts:=[(32777,[])]} Tryz.func84 ?_;simp only[push_cast,N.len];refine zb (λa=>?_) (λa=>?_)
 .have:=D w (Same.refl _ _);rwa[show M.declOk ds=false from by rw[pd];intro h;have:=(M.decl_iff.1 h).1;omega] at this
 refine vloop_up ds.length (λi u w'=>u=[nI (M.bitT ds i),nI i]/\Ext w w'/\(∀j,j<i->M.dclOk ds j=true)/\ -4*(i:Int)<=M.bitT ds i/\M.bitT ds i<=4*i) ⟨rfl,Same.refl _ _,oM,by simp[M.bitT],by simp[M.bitT]⟩ ?_;rintro i _ _ w1 C hi ⟨rfl,o,q,a0,a1⟩ hC;have E:=N.ext o;refine oZ ?_;refine zb (λb=>?_) (λb=>?_)
 .have z:i<ds.length:=oM;have d:M.dclOk ds i=false->∀w',Ext w w'->K (.bool false) w':=λe w' he=>by
   have:=D w' he;rwa[show M.declOk ds=false from by rw[pd];intro h;have:=(M.decl_iff.1 h).2.1 i z;rw[e] at this;cases this] at this
  unfold M.dclOk at d;rw[ZP] at d;simp(disch:=exact oS) only[push_cast,E.iaddr,E.load];obtain⟨s,n,B⟩:∃s n,ds.getD i xh0=(s,n):=⟨_,_,rfl⟩;simp only[B] at d⊢;refine zh qz λb1 w2 U O a4 X=>?_;refine stDecl X λW R _ S=>?_;have a6:=o.size;have k:Ext w W:=Ext.then (o.trans O) R λy hy=>by subst hy;omega
  refine zp (λu w'=>u=[]/\Ext W w'/\M.nameOk s=true) (λC' L=>?_) ?_
  .simp(disch:=exact oS) only[push_cast,S.ld0,WB Z3];refine zb (λc=>?_) (λc=>?_)
   .exact d (by rw[gp (show¬1<=s.size by omega)];simp) _ k
   refine zb (λc2=>?_) (λc2=>?_)
   .exact d (by rw[gp (show¬s.size<=4 by omega)];simp) _ k
   refine zb (λc3=>?_) (λc3=>?_)
   .exact d (by rw[show decide (s≠M.tru)=false from gp (λh=>h c3)];simp) _ k
   refine kq0 oM λw4 r l V=>?_;refine oZ ?_;refine zb (λI=>?_) (λI=>?_)
   .have:ym0 s=false:=by
     rw[pd];exact λh=>I (V.2 h)
    exact d (by rw[this];simp) _ (k.trans l)
   .have J:r=⟨#[]⟩:=by
     by_cases h:r=⟨#[]⟩
     .exact h
     .exact absurd h I
    refine L _ _ ⟨rfl,l,?_⟩;rw[ZP,gy (show 1<=s.size by omega),gy (show s.size<=4 by omega),show decide (s≠M.tru)=true from gy c3,V.1 J];rfl
  .rintro u g w4 ⟨rfl,l,A⟩;have T:=S.ext l;have f:=k.trans l;have G:=N.ext f;rw[ZP] at A;rw[A] at d;rw[G.cut (by intro e;subst e;simp at z) rK oM];refine oZ ?_;have a3:(ds.take i).length=i:=by rw[gg];omega
   refine J6 (p:=λj=>decide (((ds.take i).getD j xh0).1=s)) (G.taken oM) (λj hj=>?_) λw5 m=>?_
   .intro w' K he D;refine oZ ?_;refine ze {} Tryz.func123 ?_;refine zk λb3 w6 a2 H a5 Z=>?_;have h7:=(T.ext he).ext H;simp(disch:=exact oS) only[push_cast,Z.ld0,h7.ld0];exact D _ H
   .rw[<-Xy];have Y:=T.ext m;have efd:idxI (ds.take i).length (λj=>decide (((ds.take i).getD j xh0).1=s))=M.findD (ds.take i) s:=rfl;rw[efd];refine zb (λc=>?_) (λc=>?_)
    .exact d (by rw[gp (show¬M.findD (ds.take i) s<0 by omega)];simp) _ (f.trans m)
    simp(disch:=exact oS) only[push_cast,Y.ld1];refine zb (λc1=>?_) (λc1=>?_)
    .exact d (by rw[gp (show¬1<=n by omega)];simp) _ (f.trans m)
    refine zb (λc2=>?_) (λc2=>?_)
    .exact d (by rw[gp (show¬n<=4 by omega)];simp) _ (f.trans m)
    have t:=M.bitT_succ z;rw[show ds.getD i (M.nada,0)=(s,n) from B] at t;rw[zj (x:=M.bitT ds i+n) oM oM,inc64' oM,show M.bitT ds i+n=M.bitT ds (i+1) from t.symm];refine hC oM _ _ ⟨rfl,f.trans m,λj hj=>?_,oM,oM⟩;by_cases e:j=i
    .subst e;unfold M.dclOk;rw[show ds.getD j (M.nada,0)=(s,n) from B,ZP,A];simp only[pN,gh,V1];exact⟨⟨oM,oM⟩,oM⟩
    .exact q j oM
 .have Q:i=ds.length:=oM;subst Q;have:=D w1 o;rw[M.bitT_all];have e:M.declOk ds=decide (M.bits ds<=8):=by
   rw[Pv,M.decl_iff,V1];exact⟨λh=>h.2.2,λh=>⟨oM,q,h⟩⟩
  rwa[e] at this
theorem TermSort_spec {dv v:Value} {ds:List M.Dcl} {t:M.Tm} (r:DclsR F w dv ds) (z:TermR G w v t) (q:∀w',Ext w w'->K (nI (M.tsort ds t)) w'):vcall Kt #[dv,v] w K:=by
 refine ze {} Tryz.func87 ?_;obtain⟨cs,rfl,c⟩:=z.cells;refine zk λb1 w1 u g y n=>?_;rw[n.ldAgg (t:=za) (by rw[zU c];exact zc)];refine TermMany_spec (c.ext g).term λw2 i=>?_;refine oZ ?_;have e:=g.trans i;refine DeclOk_spec (r.ext e) λA j=>?_;have f:=e.trans j;have m:=q A f;unfold M.tsort at m;refine oZ ?_;refine zm (λa=>?_) (λa=>?_)
 .rwa[q0 (λh=>by rw[h.2] at a;cases a)] at m
 .rw[Ge] at a;refine zb (λb=>?_) (λb=>?_)
  .rw[q0 (λh=>by
    have n:=M.fits_iff.1 h.1;unfold M.manyM at b;rw[Q1 h.1] at b;omega)] at m
   exact m
  .have x:M.fits t=true:=by
    by_cases h:M.fits t=true
    .exact h
    .unfold M.manyM at b;rw[q0 h] at b;omega
   refine zd λC k _=>?_;have p:=((n.ext i).ext j).ext k;rw[p.ldAgg (t:=za) (by rw[zU c];exact zc)];refine⟨rfl,Wr λD mb l hm=>?_⟩;have s:=p.ext l;rw[s.ldAgg (t:=za) (by rw[zU c];exact zc)];have d:=(f.trans k).trans l;refine⟨⟨rfl,rfl⟩,sortOf_spec t hm (r.ext d) a (c.ext d).term λB o=>?_⟩;have:=q B (d.trans o);unfold M.tsort at this;rwa[Q1 ⟨x,a⟩] at this
end
section
variable {w:World} {K:oK} {F G:oA}
theorem l2Name_spec {s:ByteArray} (hs:s.size<=9223372036854775807) (d:K (.bool (M.nameOk s)) w):vcall Ub #[.string s] w K:=by
 refine ze {loops:=[(2,[3])]} Tryz.func104 ?_;rw[ZP] at d;refine vloop_up s.size (λi u w'=>u=[nI i]/\w'=w/\∀j,j<i->(decide (97<=(s.data.getD j 0).toNat)&&decide ((s.data.getD j 0).toNat<=122))=true) ⟨rfl,rfl,oM⟩ ?_;rintro i _ _ w1 C hi ⟨rfl,rfl,g⟩ o;simp(disch:=exact oS) only[push_cast,WB Z3];have l:i<s.size->(decide (97<=(s.data.getD i 0).toNat)&&decide ((s.data.getD i 0).toNat<=122))=false->ym0 s=false:=λf h=>by
  rw[pd];intro k;unfold ym0 at k;rw[pE] at k;have m:i<s.data.size:=f;have:=k (s.data.getD i 0) (by rw[gU,Gz m];exact Array.getElem_mem m);rw[h] at this;cases this
 refine zb (λa=>?_) (λa=>?_)
 .have f:i<s.size:=oM;rw[vindex_str Z3 oM oM,gn];refine oZ ?_;refine zb (λb=>?_) (λb=>?_)
  .rw[l f (by rw[gp (show¬97<=(s.data.getD i 0).toNat by omega)];rfl),pU] at d;exact d
  rw[vindex_str Z3 oM oM,gn];refine oZ ?_;refine zb (λc=>?_) (λc=>?_)
  .rw[l f (by rw[gp (show¬(s.data.getD i 0).toNat<=122 by omega)];simp),pU] at d;exact d
  rw[inc64' oM];refine o f _ _ ⟨rfl,rfl,λj n=>?_⟩;by_cases e:j=i
  .subst e;simp only[gh,V1];omega
  .exact g j oM
 .have p:i=s.size:=oM;have k:ym0 s=true:=by
   unfold ym0;rw[pE];intro x q;obtain⟨j,n,rfl⟩:=Array.getElem_of_mem q;have:=g j (by have:s.data.size=s.size:=rfl;omega);rwa[gU,Gz n] at this
  rw[k,PV] at d
  try simp(disch:=exact oS) only[push_cast,WB Z3]
  refine zb (λb=>?_) (λb=>?_)
  .refine zb (λc=>?_) (λc=>?_)
   .rw[gy (show 1<=s.size by omega),gy (show s.size<=4 by omega)] at d;exact d
   .rw[gp (show¬s.size<=4 by omega)] at d;simpa using d
  .rw[gp (show¬1<=s.size by omega)] at d;simpa using d
theorem l2Find_spec {v:Value} {ds:List M.Dcl} {s:ByteArray} (f:DclsR F w v ds) (d:K (nI (M.findD ds s)) w):vcall Uc #[v,.string s] w K:=by
 refine ze {loops:=[(2,[5])]} Tryz.func105 ?_;have k:=f.small;refine vloop_up ds.length (λi u w'=>u=[nI i]/\w'=w/\∀j,j<i->(ds.getD j xh0).1≠s) ⟨rfl,rfl,oM⟩ ?_;rintro i _ _ w1 C hi ⟨rfl,rfl,c⟩ g;simp only[push_cast,f.len];refine zb (λa=>?_) (λa=>?_)
 .try simp(disch:=exact oS) only[push_cast,f.iaddr]
  try simp(disch:=exact oS) only[push_cast,f.load0]
  refine zb (λb=>?_) (λb=>?_)
  .rw[M.findD_of oM b c] at d;exact d
  .rw[inc64' oM];refine g oM _ _ ⟨rfl,rfl,λj h=>?_⟩;by_cases e:j=i
   .subst e;exact b
   .exact c j oM
 .rw[M.findD_none (λj h=>c j oM)] at d;exact d
theorem spec_DeclOk_spec {v:Value} {ds:List M.Dcl} (E:DclsR F w v ds) (D:∀i,i<ds.length->(ds.getD i xh0).1.size<=9223372036854775807) (A:∀w',Ext w w'->K (.bool (M.declOk ds)) w'):vcall Uo #[v] w K:=by
 refine ze {loops:=[(5,[3,4])]} Tryz.func68 ?_;simp only[push_cast,E.len];refine zb (λa=>?_) (λa=>?_)
 .have:=A w (Same.refl _ _);rwa[show M.declOk ds=false from by rw[pd];intro h;have:=(M.decl_iff.1 h).1;omega] at this
 refine vloop_up ds.length (λi u w'=>u=[nI (M.bitT ds i),nI i]/\Ext w w'/\(∀j,j<i->M.dclOk ds j=true)/\ -4*(i:Int)<=M.bitT ds i/\M.bitT ds i<=4*i) ⟨rfl,Same.refl _ _,oM,by simp[M.bitT],by simp[M.bitT]⟩ ?_;rintro i _ _ w1 C hi ⟨rfl,p,m,H,I⟩ G;have r:=E.ext p;simp only[push_cast,r.len];refine zb (λb=>?_) (λb=>?_)
 .have g:i<ds.length:=oM;have f:M.dclOk ds i=false->∀w',Ext w w'->K (.bool false) w':=λe w' he=>by
   have:=A w' he;rwa[show M.declOk ds=false from by rw[pd];intro h;have:=(M.decl_iff.1 h).2.1 i g;rw[e] at this;cases this] at this
  unfold M.dclOk at f;refine zd λw2 t _=>?_;have d:=r.ext t;have k:=p.trans t;simp(disch:=exact oS) only[push_cast,d.iaddr,k6];simp(disch:=exact oS) only[push_cast,d.load0,d.load1,k6];have y:=D i g;have o:=M.bitT_succ g;obtain⟨s,n,l⟩:∃s n,ds.getD i xh0=(s,n):=⟨_,_,rfl⟩;rw[show ds.getD i (M.nada,0)=(s,n) from l] at o;simp only[l] at f y⊢;refine l2Name_spec y ?_;simp only[push_cast,k6];refine zm (λc=>?_) (λc=>?_)
  .exact f (by rw[show M.nameOk s=false by simpa using c];simp) _ k
  rw[Ge] at c;rw[c] at f;have ecut:∀(w:World) (K:oK),xd yD v none (some (nI (i:Int))) none w K=K (cutV v i) w:=λw K=>d.cut (by intro e;subst e;simp at g) rK oM;have z:∀(K:oK),zt xi (oE ((eaddr v 2 i).add 0)) w2 K=K (.string s) w2:=λK=>(by rw[d.load0 Zc0 g,l]);have q:∀(K:oK),zt y6 (oE ((eaddr v 2 i).add 1)) w2 K=K (nI n) w2:=λK=>by rw[d.load1 WN g,l]
  try simp(disch:=exact oS) only[push_cast,d.iaddr,k6]
  try simp(disch:=exact oS) only[push_cast,d.iaddr,z,q,ecut,k6]
  refine zb (λc1=>?_) (λc1=>?_)
  .exact f (by rw[gp (show¬1<=n by omega)];simp) _ k
  refine zb (λc2=>?_) (λc2=>?_)
  .exact f (by rw[gp (show¬n<=4 by omega)];simp) _ k
  refine l2Find_spec (d.taken oM) ?_;simp only[push_cast,k6];refine zb (λc3=>?_) (λc3=>?_)
  .exact f (by rw[gp (show¬M.findD (ds.take i) s<0 by omega)];simp) _ k
  try simp(disch:=exact oS) only[push_cast,d.iaddr]
  try simp(disch:=exact oS) only[push_cast,q]
  rw[zj (x:=M.bitT ds i+n) oM oM,inc64' oM,show M.bitT ds i+n=M.bitT ds (i+1) from o.symm];refine G oM _ _ ⟨rfl,k,λj J=>?_,oM,oM⟩;by_cases e:j=i
  .subst e;unfold M.dclOk;rw[show ds.getD j (M.nada,0)=(s,n) from l,c];simp only[pN,gh,V1];exact⟨⟨oM,oM⟩,oM⟩
  .exact m j oM
 .have B:i=ds.length:=oM;subst B;have:=A w1 p;rw[M.bitT_all];have e:M.declOk ds=decide (M.bits ds<=8):=by
   rw[Pv,M.decl_iff,V1];exact⟨λh=>h.2.2,λh=>⟨oM,m,h⟩⟩
  rwa[e] at this
theorem spec_TermMany_spec:∀(t:M.Tm) {w:World} {K:oK} {F:oA} {v:Value},TermR F w v t->(∀w',Ext w w'->K (.tuple #[nI (M.manyM t),nI (M.lvlM t)]) w')->vcall Kf #[v] w K:=by
 refine M.Tm.ind λt ih w K F v ht R=>?_;refine ze {loops:=[(4,[4,5,6])],cuts:=[(20486,[])]} Tryz.func106 ?_;obtain⟨ksv,rfl,y⟩:=ht;refine zk λb1 w1 S B a1 O=>?_;have a2:=y.small;have hS:=M.szT_all t;have hD:=M.dpT_all t;have k:M.fits t=true↔M.sizeM t<=20/\M.deepM t<=7:=M.fits_iff;refine vloop_up t.ks.length (λi u w'=> ∃n d:Nat,u=[nI n,nI d,nI i]/\Ext w1 w'/\n<=41/\d<=8/\(1+M.szT t.ks i<=20/\M.dpT t.ks i<=7->n=1+M.szT t.ks i/\d=M.dpT t.ks i)/\(¬(1+M.szT t.ks i<=20/\M.dpT t.ks i<=7)->20<n\/7<d))
  ⟨1,0,rfl,Same.refl _ _,oM,oM,λh=>⟨rfl,rfl⟩,λh=>by
   have I:M.szT t.ks 0=0:=rfl;have e2:M.dpT t.ks 0=0:=rfl;omega⟩ ?_
 rintro i _ _ w2 C hi ⟨n,d,rfl,o,c1,c2,c3,H⟩ Q;have J:=O.ext o;have L:=B.trans o;have l:=y.ext L;have V:=M.szT_mono (ks:=t.ks) (i:=i) (j:=t.ks.length) oM (gw _);have W:=M.dpT_mono (ks:=t.ks) (i:=i) (j:=t.ks.length) oM (gw _);have I:IntKind.i64.wrap ((d:Int)+1)=((d+1:Nat):Int):=inc64' oM;have m:(20<n\/i=t.ks.length)->∀q,(q=K)->vif (.bool (decide ((20:Int)<n))) (q (.tuple #[nI 21,nI 8]) w2) (vif (.bool (decide ((7:Int)<((d+1:Nat):Int)))) (q (.tuple #[nI 21,nI 8]) w2) (q (.tuple #[nI (n:Int),nI ((d+1:Nat):Int)]) w2)):=by
  rintro a0 q rfl;have p:=R w2 L;unfold M.manyM M.lvlM at p;have c:(20<n\/7<d+1)->¬(M.fits t=true):=λh T=>by
   have N:=k.1 T;have:=c3 oM;omega
  refine zb (λa=>?_) (λa=>?_)
  .rw[q0 (c oM),q0 (c oM)] at p;exact p
  refine zb (λb=>?_) (λb=>?_)
  .rw[q0 (c oM),q0 (c oM)] at p;exact p
  .have E:i=t.ks.length:=oM;subst E;have r:M.sizeM t<=20/\M.deepM t<=7:=by
    by_cases h:1+M.szT t.ks t.ks.length<=20/\M.dpT t.ks t.ks.length<=7
    .have:=c3 h;omega
    .have:=H h;omega
   have h3:=c3 oM;rw[Q1 (k.2 r),Q1 (k.2 r)] at p;rw[show n=M.sizeM t by omega,show d+1=M.deepM t by omega];exact p
 refine zp (λu w'=>u=[]/\w'=w2/\i<t.ks.length/\n<=20) (λC' z=>?_) ?_
 .simp only[push_cast,J.ld4,l.len,I];refine zb (λa=>?_) (λa=>?_)
  .refine zb (λb=>?_) (λb=>?_)
   .exact z _ _ ⟨rfl,rfl,oM,oM⟩
   .exact m (.inl oM) K rfl
  .exact m (.inr oM) K rfl
 .rintro u g w3 ⟨rfl,rfl,U,hn⟩;have X:=M.szT_succ (ks:=t.ks) (i:=i) oM;have Y:=M.dpT_succ (ks:=t.ks) (i:=i) oM;have Z:=M.szT_mono (ks:=t.ks) (i:=i+1) (j:=t.ks.length) oM (gw _);simp(disch:=exact oS) only[push_cast,J.ld4,l.iaddr];refine l.load zc oM λx N=>?_;refine ih _ (M.getD_mem oM _) N λw4 D=>?_;have f:=M.fits_iff (t:=t.ks.getD i default);have G:M.manyM (t.ks.getD i default)<=21:=by
   unfold M.manyM;split
   .have:=f.1 (by assumption);omega
   .omega
  have A:M.lvlM (t.ks.getD i default)<=8:=by
   unfold M.lvlM;split
   .have:=f.1 (by assumption);omega
   .omega
  have e:M.sizeM (t.ks.getD i default)<=20/\M.deepM (t.ks.getD i default)<=7->M.manyM (t.ks.getD i default)=M.sizeM (t.ks.getD i default)/\M.lvlM (t.ks.getD i default)=M.deepM (t.ks.getD i default):=λh=>by
   unfold M.manyM M.lvlM;rw[Q1 (f.2 h),Q1 (f.2 h)];exact⟨rfl,rfl⟩
  have c: ¬(M.sizeM (t.ks.getD i default)<=20/\M.deepM (t.ks.getD i default)<=7)->M.manyM (t.ks.getD i default)=21/\M.lvlM (t.ks.getD i default)=8:=λh=>by
   unfold M.manyM M.lvlM;rw[q0 (λx=>h (f.1 x)),q0 (λx=>h (f.1 x))];exact⟨rfl,rfl⟩
  generalize M.manyM (t.ks.getD i default)=nk at G e c⊢;generalize M.lvlM (t.ks.getD i default)=dk at A e c⊢;refine oZ ?_;refine l1Max_spec ?_
  try simp only[push_cast]
  rw[inc64' oM,zj (x:=(n:Int)+nk) oM oM,show(n:Int)+(nk:Int)=((n+nk:Nat):Int) by omega,show max (d:Int) (dk:Int)=((max d dk:Nat):Int) by omega];refine Q oM _ _ ⟨n+nk,max d dk,rfl,o.trans D,oM,oM,λh=>?_,λh=>?_⟩
  .have:=c3 oM;have:=e oM;omega
  .by_cases r:M.sizeM (t.ks.getD i default)<=20/\M.deepM (t.ks.getD i default)<=7
   .have h5:=e r;by_cases s:1+M.szT t.ks i<=20/\M.dpT t.ks i<=7
    .have:=c3 s;omega
    .have:=H s;omega
   .have:=c r;omega
end
section
variable {w:World} {K:oK} {F G:oA}
theorem l2Arity_spec {o:Int} (f:K (nI (M.arity o)) w):vcall Vw #[nI o] w K:=by
 refine ze {cuts:=[(12293,[4])]} Tryz.func212 ?_;have d:∀c,M.arity o=c->K (nI c) w:=by grind
 refine zp (λu w'=>u=[.bool (decide (o=20\/o=21\/o=24))]/\w'=w) (λC e=>?_) ?_
 .refine oZ ?_;refine zb (λa=>?_) (λa=>?_)
  .grind
  refine zb (λb=>?_) (λb=>?_)
  .grind
  grind
 .rintro u g w1 ⟨rfl,rfl⟩;simp only[push_cast]
  repeat' first
   |exact d _ (by
    unfold M.arity;repeat' split
    all_goals omega)
   |refine zb (λ_=>?_) (λ_=>?_)
theorem l2Plain_spec {v:Value} {t:M.Tm} (x:TermR F w v t) (n:∀w',Ext w w'->K (.bool (M.formed t)) w'):vcall Vv #[v] w K:=by
 refine ze {cuts:=[(8195,[]),(16389,[])]} Tryz.func147 ?_;obtain⟨ksv,rfl,m⟩:=x;refine zk λb1 w1 p f r j=>?_;have y:=n _ f;have k:M.plainM t=false->K (.bool false) w1:=λh=>by
  simp_all[M.formed]
 unfold M.plainM at k;refine zp (λu w'=>u=[]/\w'=w1/\(decide (t.op=21)||decide (t.s=M.nada))=true) (λC o=>?_) ?_
 .simp only[push_cast,j.ld0,j.ld3];refine zb (λa=>?_) (λa=>?_)
  .refine zb (λb=>?_) (λb=>?_)
   .grind [M.nada]
   grind [M.nada]
  grind
 rintro u g w2 ⟨rfl,rfl,q⟩;rw[q,PV] at k;refine zp (λu w'=>u=[]/\w'=w2/\(decide (t.op=20)||decide (t.op=22)||(decide (t.a=0)&&decide (t.b=0)))=true) (λC o=>?_) ?_
 .simp only[push_cast,j.ld0,j.ld1,j.ld2];refine zb (λa=>?_) (λa=>?_)
  .refine zb (λb=>?_) (λb=>?_)
   .refine zb (λc=>?_) (λc=>?_)
    .grind
    grind [zb]
   grind
  grind
 rintro u g z ⟨rfl,rfl,hm⟩;refine zd λA i _=>?_;have l:=j.ext i;have d:=m.ext (f.trans i);simp only[push_cast,l.ld0,l.ld4,d.len,k6];refine l2Arity_spec ?_;simp only[push_cast,l.ld4,d.len,k6,gi];have:=n _ (f.trans i);have e:M.formed t=decide ((t.ks.length:Int)=M.arity t.op):=by
  unfold M.formed M.plainM
  grind
 grind
theorem l2One_spec {v:Value} {t:M.Tm} {a:Int} (n:TermR F w v t) (q: -1<=a/\a<=4) (p:∀w',Ext w w'->K (nI (M.oneM t a)) w'):vcall y60 #[v,nI a] w K:=by
 refine ze {cuts:=[(8194,[5]),(16388,[13]),(28679,[40])]} Tryz.func148 ?_;obtain⟨ksv,rfl,l⟩:=n;refine zk λb1 w1 i j m f=>?_;have k:∀c,M.oneM t a=c->K (nI c) w1:=by grind
 unfold M.oneM at k;refine zp (λu w'=>u=[.bool (decide (t.op=25/\a=0))]/\w'=w1) (λC h=>?_) ?_
 .simp only[push_cast,f.ld0]
  grind [zb]
 rintro u g w2 ⟨rfl,rfl⟩;refine oZ ?_;refine zb (λb=>?_) (λb=>?_)
 .grind
 refine zp (λu w'=>u=[.bool (decide (t.op=25\/a<1))]/\w'=w2) (λC h=>?_) ?_
 .simp only[push_cast,f.ld0]
  grind [zb]
 rintro u g o ⟨rfl,rfl⟩;refine oZ ?_;refine zb (λc=>?_) (λc=>?_)
 .grind
 simp only[push_cast,f.ld0];refine zb (λd=>?_) (λd=>?_)
 .refine zp (λu w'=>u=[.bool (decide (0<=t.b/\t.b<=t.a/\t.a<a))]/\w'=o) (λC h=>?_) ?_
  .simp only[push_cast,f.ld1,f.ld2]
   grind [zb]
  rintro u g r ⟨rfl,rfl⟩;refine oZ ?_;refine zb (λe=>?_) (λe=>?_)
  .simp only[push_cast,f.ld1,f.ld2]
   grind [zj]
  grind
 grind
theorem l2Both_spec {o a b:Int} (j: -1<=a/\a<=4) (h: -1<=b/\b<=4) (i:K (nI (M.bothM o a b)) w):vcall Ue #[nI o,nI a,nI b] w K:=by
 refine ze {cuts:=[(12291,[8]),(24582,[21])]} Tryz.func149 ?_;have d:∀c,M.bothM o a b=c->K (nI c) w:=by grind
 unfold M.bothM at d;refine zp (λu w'=>u=[.bool (decide (o=26\/o=27))]/\w'=w) (λC f=>?_) ?_
 .simp only[push_cast]
  grind [zb]
 rintro u g w2 ⟨rfl,rfl⟩;refine oZ ?_;refine zb (λc=>?_) (λc=>?_)
 .grind [zb]
 refine zp (λu w'=>u=[.bool (decide (a<1\/b<1))]/\w'=w2) (λC f=>?_) ?_
 .grind [zb]
 rintro u g k ⟨rfl,rfl⟩;have e:IntKind.i64.wrap (a+b)=a+b:=zj oM oM;simp only[push_cast,e]
 repeat' first
  |exact d _ (by
   repeat' split
   all_goals omega)
  |refine zb (λ_=>?_) (λ_=>?_)
theorem l2Sort_spec:∀(t:M.Tm) {w:World} {K:oK} {F G:oA} {dv v:Value} {ds:List M.Dcl},DclsR F w dv ds->M.declOk ds=true->TermR G w v t->(∀w',Ext w w'->K (nI (M.sortM ds t)) w')->vcall Ua #[dv,v] w K:=by
 refine M.Tm.ind λt Q w K F G dv v ds I f X hK=>?_;refine ze {} Tryz.func107 ?_;obtain⟨ksv,rfl,l⟩:=X;refine zk λb1 w1 T q V R=>?_;have y:∀c w',M.sortM ds t=c->Ext w w'->K (nI c) w':=by grind
 rw[R.ldAgg (t:=za) zc];refine l2Plain_spec (F:=G) (t:=t) ⟨ksv,rfl,l.ext q⟩ λw2 r=>?_;have p:=q.trans r;have n:=R.ext r;refine oZ ?_;refine zm (λa=>?_) (λa=>?_)
 .grind [M.sort_bad]
 have x:M.formed t=true:=by simpa using a
 have S:=(M.formed_iff.1 x).1;have j:=I.ext p;simp only[push_cast,n.ld0];refine zb (λC=>?_) (λC=>?_)
 .have B:t.ks.length=0:=(by grind [M.arity]);have hs:=M.sort_leaf (ds:=ds) x B;simp only[push_cast,n.ld1,n.ld2];refine spec_VecOk_spec λw3 e=>?_;have o:=n.ext e;refine zm (λb=>?_) (λb=>?_)
  .simp only[push_cast,o.ld1];exact y _ _ (by simp_all[M.sortK]) (p.trans e)
  .exact y _ _ (by simp_all[M.sortK]) (p.trans e)
 refine zb (λD=>?_) (λD=>?_)
 .have B:t.ks.length=0:=(by grind [M.arity]);have hs:=M.sort_leaf (ds:=ds) x B;have U:=M.findD_lt ds t.s;simp only[push_cast,n.ld3];refine l2Find_spec j ?_
  try simp only[push_cast]
  refine zb (λb=>?_) (λb=>?_)
  .grind [M.sortK]
  .try simp(disch:=exact oS) only[push_cast,j.iaddr]
   try simp(disch:=exact oS) only[push_cast,j.load1]
   grind [M.sortK]
 refine zb (λE=>?_) (λE=>?_)
 .have B:t.ks.length=0:=(by grind [M.arity]);simp_all[M.sort_leaf,M.sortK]
 have hlen:t.ks.length=1\/t.ks.length=2\/t.ks.length=3:=by
  grind [M.arity]
 have m:=l.ext p;simp(disch:=exact oS) only[push_cast,n.ld4,m.iaddr];refine m.load zc oM λx0 L=>?_;refine Q (M.kid t 0) (M.kid_mem oM) j f L λw3 e=>?_;have o:=n.ext e;have h:=p.trans e;have d:=l.ext h;have A:=M.sort_range f (M.kid t 0);simp(disch:=exact oS) only[push_cast,o.ld4,d.len];refine zb (λY=>?_) (λY=>?_)
 .rw[o.ldAgg (t:=za) zc];refine l2One_spec (F:=G) (t:=t) ⟨ksv,rfl,d⟩ A λw4 k=>?_;exact y _ _ (M.sort_one f x oM) (h.trans k)
 simp(disch:=exact oS) only[push_cast,o.ld4,d.iaddr];refine d.load zc oM λx1 N=>?_;refine Q (M.kid t 1) (M.kid_mem oM) (I.ext h) f N λw4 k=>?_;have H:=o.ext k;have i:=h.trans k;have g:=l.ext i;have J:=M.sort_range f (M.kid t 1);simp(disch:=exact oS) only[push_cast,H.ld4,H.ld0,g.len];refine zb (λZ=>?_) (λZ=>?_)
 .refine l2Both_spec A J ?_
  grind [M.sort_two]
 have W:=M.sort_three (ds:=ds) x oM;refine zb (λz=>?_) (λz=>?_)
 .grind
 simp(disch:=exact oS) only[push_cast,H.ld4,g.iaddr];refine g.load zc oM λx2 O=>?_;refine Q (M.kid t 2) (M.kid_mem oM) (I.ext i) f O λw5 u=>?_;refine oZ ?_;refine zb (λz2=>?_) (λz2=>?_)
 .exact y _ _ oM (i.trans u)
 .exact y _ _ oM (i.trans u)
def YY (ds:List M.Dcl):Prop:=∀i,i<ds.length->(ds.getD i xh0).1.size<=9223372036854775807
theorem spec_TermSort_spec {dv v:Value} {ds:List M.Dcl} {t:M.Tm} (n:YY ds) (p:DclsR F w dv ds) (x:TermR G w v t) (o:∀w',Ext w w'->K (nI (M.tsort ds t)) w'):vcall Kd #[dv,v] w K:=by
 refine ze {} Tryz.func69 ?_;obtain⟨cs,rfl,e⟩:=x.cells;refine zk λb1 w1 s g u k=>?_;rw[k.ldAgg (t:=za) (by rw[zU e];exact zc)];refine spec_TermMany_spec t (e.ext g).term λw2 i=>?_;refine oZ ?_;have f:=g.trans i;refine spec_DeclOk_spec (p.ext f) n λy j=>?_;have d:=f.trans j;have m:=o y d;unfold M.tsort at m;refine oZ ?_;refine zm (λa=>?_) (λa=>?_)
 .grind
 rw[Ge] at a;refine zb (λb=>?_) (λb=>?_)
 .rw[q0 (λh=>by
   have k:=M.fits_iff.1 h.1;unfold M.manyM at b
   grind)] at m
  exact m
 have q:M.fits t=true:=by
  grind [M.manyM]
 refine zb (λc=>?_) (λc=>?_)
 .unfold M.lvlM at c;rw[Q1 q] at c;have:=M.fits_iff.1 q;omega
 have r:=(k.ext i).ext j;rw[r.ldAgg (t:=za) (by rw[zU e];exact zc)];refine l2Sort_spec t (p.ext d) a (e.ext d).term λz l=>?_;have:=o z (d.trans l);simp_all[M.tsort]
theorem Xx {b:Bool} (a:K (nI (M.b2i b)) w):vcall Uf #[.bool b] w K:=by
 refine ze {} Tryz.func118 ?_;refine zm (λh=>?_) (λh=>?_)<;>subst h<;>exact a
def Ya0 (H:oA) (w:World) (ev:Value) (env:oI) (t:M.Tm):Prop:=Ints H w ev env\/nnB t=true
theorem qw {H:oA} {ev:Value} {env:oI} {t:M.Tm} {w w':World} (h:Ya0 H w ev env t) (he:Ext w w'):Ya0 H w' ev env t:=h.imp (λh=>h.ext he) id
theorem jf {H:oA} {ev:Value} {env:oI} {t k:M.Tm} (h:Ya0 H w ev env t) (a:k∈t.ks):Ya0 H w ev env k:=h.imp id λh=>(nnB_iff.1 h).2 k a
theorem k50 {H:oA} {ev:Value} {env:oI} {t:M.Tm} (h:Ya0 H w ev env t) (a:t.op=21):Ints H w ev env:=h.elim id λh=>absurd a (nnB_iff.1 h).1
def kt0 (t:M.Tm):Prop:=∀{w:World} {K:oK} {F G H:oA} {dv v ev:Value} {ds:List M.Dcl} {env:oI},DclsR F w dv ds->M.envOk ds env=true->TermR G w v t->Ya0 H w ev env t->M.sortM ds t≠ -1->(∀w',Ext w w'->K (nI (M.evalM ds env t)) w')->vcall Ud #[dv,v,ev] w K
theorem l2Vec_spec {t:M.Tm} (A:kt0 t) {H:oA} {dv v ev:Value} {ds:List M.Dcl} {env:oI} (l:DclsR F w dv ds) (he:M.envOk ds env=true) (x:TermR G w v t) (z:Ya0 H w ev env t) (hs:M.sortM ds t≠ -1) (p:∀w',Ext w w'->K (qd (M.sortM ds t) (M.evalM ds env t)) w'):vcall y50 #[dv,v,ev] w K:=by
 refine ze {} Tryz.func269 ?_;obtain⟨cs,rfl,c⟩:=x.cells;refine zk λb1 w1 q h s m=>?_;refine zh y0 λb2 w2 r f u n=>?_;refine zd λC d _=>?_;have k:=(m.ext f).ext d;have b:=(h.trans f).trans d;have i:aggB za cs.length=true:=by rw[zU c];exact zc
 rw[k.ldAgg (t:=za) i];refine⟨rfl,?_⟩;rw[k.ldAgg (t:=za) i];refine⟨rfl,l2Sort_spec t (l.ext b) (M.env_ok he).1 (c.ext b).term λD e=>?_⟩;rw[(k.ext e).ldAgg (t:=za) i];have a:=b.trans e;refine⟨⟨rfl,rfl⟩,A (l.ext a) he (c.ext a).term (qw z a) hs λE g=>?_⟩;simp only[push_cast,k6];refine stVec (((n.ext d).ext e).ext g) λI j _ o=>?_;rw[o.lv rK];exact p _ (Ext.then (a.trans g) j λy B=>oM)
theorem l2Do_spec {t:M.Tm} (W:∀k,k∈t.ks->kt0 k) {H:oA} {dv v ev:Value} {ds:List M.Dcl} {env:oI} (T:DclsR F w dv ds) (he:M.envOk ds env=true) (ht:TermR G w v t) (V:Ya0 H w ev env t) (hs:M.sortM ds t≠ -1)
  (ho:(1<=t.op/\t.op<=17)\/t.op=22) (I:∀w',Ext w w'->K (nI (M.evalM ds env t)) w'):vcall x80 #[dv,v,ev] w K:=by
 refine ze {} Tryz.func223 ?_;obtain⟨ksv,rfl,z⟩:=ht;have a3:1<=t.ks.length:=by
  rcases(by omega:t.op=22\/(t.op=1\/t.op=2)\/(3<=t.op/\t.op<=14)\/(15<=t.op/\t.op<=17)) with h|h|h|h
  .have:=(M.eval_cut he hs h).1;omega
  .have:=(M.eval_un he hs h).1;omega
  .have:=(M.eval_bin he hs h.1 h.2).1;omega
  .have:=(M.eval_cmp he hs h.1 h.2).1;omega
 refine zk λb1 w1 a0 e a7 L=>?_;have j:=z.ext e;simp(disch:=exact oS) only[push_cast,L.ld4,j.iaddr];refine j.load zc oM λx0 Q=>?_;refine l2Vec_spec (W (M.kid t 0) (M.kid_mem oM)) (T.ext e) he Q (jf (qw V e) (M.kid_mem oM)) (M.good_kid hs oM) λw2 n=>?_;refine zh y0 λb2 w3 a1 x a8 h3=>?_;refine stVec h3 λw4 C _ E=>?_;have aa:=e.size;have ab:=n.size;have b:Ext w w4:=Ext.then ((e.trans n).trans x) C λy p=>oM
 have a4:=L.lt;have l:=((L.ext n).ext x).same C oM;simp only[push_cast,l.ld0];refine zb (λr=>?_) (λr=>?_)
 .obtain⟨hl,hv,o⟩:=M.eval_cut he hs r;simp only[push_cast,E.ldAgg (t:=zg) zr,l.ld1,l.ld2];refine spec_VecCut_spec λY a=>?_;refine oZ ?_;refine zh y0 λb3 Z u c A s=>?_;refine stVec s λD d _ q=>?_;simp only[push_cast,q.ld1];have:=I D (Ext.then ((b.trans a).trans c) d λy p=>by subst p;have:=(b.trans a).size;omega)
  grind
 have f:=z.ext b;simp only[push_cast,l.ld4,f.len];refine zb (λl1=>?_) (λl1=>?_)
 .have i:t.op=1\/t.op=2:=by
   grind [M.eval_bin,M.eval_cmp]
  obtain⟨hl,hv,o⟩:=M.eval_un he hs i;simp only[push_cast,E.ldAgg (t:=zg) zr,l.ld0];refine spec_VecUn_spec λY a=>?_;refine oZ ?_;refine zh y0 λb3 Z u c A s=>?_;refine stVec s λD d _ q=>?_;simp only[push_cast,q.ld1];have:=I D (Ext.then ((b.trans a).trans c) d λy p=>by subst p;have:=(b.trans a).size;omega)
  grind
 have i:3<=t.op/\t.op<=17:=by
  grind [M.eval_un]
 have a5:t.ks.length=2:=by
  grind [M.eval_bin,M.eval_cmp]
 simp(disch:=exact oS) only[push_cast,l.ld4,f.iaddr];refine f.load zc oM λx1 R=>?_;refine l2Vec_spec (W (M.kid t 1) (M.kid_mem oM)) (T.ext b) he R (jf (qw V b) (M.kid_mem oM)) (M.good_kid hs oM) λY a=>?_;refine zh y0 λb3 Z u c A s=>?_;refine stVec s λD d _ q=>?_;have ac:=b.size;have ad:=a.size;have m:Ext w D:=Ext.then ((b.trans a).trans c) d λy p=>oM
 have a6:=E.lt;have U:=l.lt;have S:=((l.ext a).ext c).same d oM;have X:=((E.ext a).ext c).same d oM;simp only[push_cast,S.ld0];refine zb (λJ=>?_) (λJ=>?_)
 .obtain⟨_,_,_,o⟩:=M.eval_cmp he hs oM i.2;simp only[push_cast,X.ldAgg (t:=zg) zr,q.ldAgg (t:=zg) zr,S.ld0];refine spec_VecCmp_spec λw8 g=>?_;refine oZ ?_;refine Xx ?_;have:=I _ (m.trans g)
  grind
 .obtain⟨_,_,_,o⟩:=M.eval_bin he hs i.1 oM;simp only[push_cast,X.ldAgg (t:=zg) zr,q.ldAgg (t:=zg) zr,S.ld0];refine spec_VecBin_spec λw8 g=>?_;refine oZ ?_;refine zh y0 λb4 w9 a2 O a9 h9=>?_;refine stVec h9 λw10 B _ N=>?_;simp only[push_cast,N.ld1];have:=I w10 (Ext.then ((m.trans g).trans O) B λy p=>by subst p;have:=(m.trans g).size;omega)
  grind
theorem l2Eval_spec:∀(t:M.Tm),kt0 t:=by
 refine M.Tm.ind λt B=>?_;intro w K F G H dv v ev ds env x he ht y hs Z;refine ze {} Tryz.func169 ?_;obtain⟨ksv,rfl,n⟩:=ht;refine zk λb1 w1 a0 g a5 A=>?_;have l:=n.ext g;have I:∀c w',M.evalM ds env t=c->Ext w w'->K (nI c) w':=by grind
 have Y:=M.arity_ops (o:=t.op) (by have:=(M.formed_iff.1 (M.sort_parts hs).1).1;omega);simp only[push_cast,A.ld0];refine zb (λR=>?_) (λR=>?_)
 .simp only[push_cast,A.ld2]
  grind [M.eval_leaf]
 refine zb (λD=>?_) (λD=>?_)
 .have a4:=M.findD_lt ds t.s;have a3:=M.name_found hs D;have a2:=(M.env_ok he).2.1;have p:=(k50 y D).ext g;simp only[push_cast,A.ld3];refine l2Find_spec (x.ext g) ?_;simp(disch:=exact oS) only[push_cast,p.iaddr,p.load]
  grind [M.eval_leaf]
 refine zb (λS=>?_) (λS=>?_)
 .grind [M.eval_leaf]
 refine zb (λN=>?_) (λN=>?_)
 .obtain⟨V,P,j⟩:=M.eval_no he hs N;simp(disch:=exact oS) only[push_cast,A.ld4,l.iaddr];refine l.load zc oM λx0 J=>?_;refine B (M.kid t 0) (M.kid_mem oM) (x.ext g) he J (jf (qw y g) (M.kid_mem oM)) (M.good_kid hs oM) λw2 h=>?_;refine oZ ?_;have a1:=M.inS_zero P;rw[zj oM oM];exact I _ _ j (g.trans h)
 refine zb (λz=>?_) (λz=>?_)
 .obtain⟨V,P,Q,j⟩:=M.eval_two he hs (.inl z);rw[Q1 z] at j;refine zd λw2 h _=>?_;have C:=A.ext h;have a:=g.trans h;have f:=n.ext a;simp(disch:=exact oS) only[push_cast,C.ld4,f.iaddr,k6];obtain⟨css,m,U,q⟩:=f;rw[m.ldAgg zc (i:=0) oM];simp only[k6];rw[m.ldAgg zc (i:=1) oM];simp only[k6];refine B (M.kid t 0) (M.kid_mem oM) (x.ext a) he (q 0 oM).term (jf (qw y a) (M.kid_mem oM)) (M.good_kid hs oM) λW d=>?_;have T:=C.ext d;have r:=n.ext (a.trans d);have u:=m.ext d;simp(disch:=exact oS) only[push_cast,T.ld4,r.iaddr,k6];rw[u.ldAgg zc (i:=1) oM];refine⟨⟨rfl,rfl⟩,?_⟩
  try simp only[k6,gi]
  refine B (M.kid t 1) (M.kid_mem oM) (x.ext (a.trans d)) he ((q 1 oM).ext d).term (jf (qw y (a.trans d)) (M.kid_mem oM)) (M.good_kid hs oM) λw4 E=>?_;simp only[push_cast,k6];have e:IntKind.i64.wrap (M.evalM ds env (M.kid t 0)*M.evalM ds env (M.kid t 1))=M.evalM ds env (M.kid t 0)*M.evalM ds env (M.kid t 1):=by
   rcases M.inS_zero P with e|e<;>rcases M.inS_zero Q with X|X<;>rw[e,X]<;>rfl
  rw[e];exact I _ _ j ((a.trans d).trans E)
 refine zb (λO=>?_) (λO=>?_)
 .obtain⟨V,P,Q,j⟩:=M.eval_two he hs (.inr O);rw[q0 z] at j;refine zd λw2 h _=>?_;have C:=A.ext h;have a:=g.trans h;have f:=n.ext a;simp(disch:=exact oS) only[push_cast,C.ld4,f.iaddr,k6];obtain⟨css,m,U,q⟩:=f;rw[m.ldAgg zc (i:=0) oM];simp only[k6];rw[m.ldAgg zc (i:=1) oM];simp only[k6];refine B (M.kid t 0) (M.kid_mem oM) (x.ext a) he (q 0 oM).term (jf (qw y a) (M.kid_mem oM)) (M.good_kid hs oM) λW d=>?_;have T:=C.ext d;have r:=n.ext (a.trans d);have u:=m.ext d;simp(disch:=exact oS) only[push_cast,T.ld4,r.iaddr,k6];rw[u.ldAgg zc (i:=1) oM];refine⟨⟨rfl,rfl⟩,?_⟩
  try simp only[k6,gi]
  refine B (M.kid t 1) (M.kid_mem oM) (x.ext (a.trans d)) he ((q 1 oM).ext d).term (jf (qw y (a.trans d)) (M.kid_mem oM)) (M.good_kid hs oM) λw4 E=>?_;refine l1Max_spec ?_;exact I _ _ j ((a.trans d).trans E)
 refine zb (λL=>?_) (λL=>?_)
 .obtain⟨V,P,j⟩:=M.eval_if he hs L;simp(disch:=exact oS) only[push_cast,A.ld4,l.iaddr];refine l.load zc oM λx0 J=>?_;refine B (M.kid t 0) (M.kid_mem oM) (x.ext g) he J (jf (qw y g) (M.kid_mem oM)) (M.good_kid hs oM) λw2 h=>?_;have C:=A.ext h;have a:=g.trans h;have f:=n.ext a;refine oZ ?_;refine zb (λb=>?_) (λb=>?_)
  .rw[Q1 b] at j;simp(disch:=exact oS) only[push_cast,C.ld4,f.iaddr];refine f.load zc oM λx1 p=>?_;refine B (M.kid t 1) (M.kid_mem oM) (x.ext a) he p (jf (qw y a) (M.kid_mem oM)) (M.good_kid hs oM) λW d=>?_;exact I _ _ j (a.trans d)
  .rw[q0 b] at j;simp(disch:=exact oS) only[push_cast,C.ld4,f.iaddr];refine f.load zc oM λx1 p=>?_;refine B (M.kid t 2) (M.kid_mem oM) (x.ext a) he p (jf (qw y a) (M.kid_mem oM)) (M.good_kid hs oM) λW d=>?_;exact I _ _ j (a.trans d)
 .rw[A.ldAgg (t:=za) zc];refine l2Do_spec (G:=G) (t:=t) (λk I=>B k I) (x.ext g) he ⟨ksv,rfl,l⟩ (qw y g) hs oM λw2 h=>?_;exact Z _ (g.trans h)
end
section
variable {w:World} {K:oK} {F F':oA}
def Bytes (F:oA) (w:World) (v:Value) (xs:List Nat):Prop:=Vals F w v (xs.map λx=>Value.int .u8 (x:Nat))/\∀x,x∈xs->x<256
theorem Bytes.same {S:oA} {w':World} {v:Value} {xs:List Nat} (h:Bytes F w v xs) (hw:Same S w w') (hs:∀b,F b->b<w.heap.size->¬S b):Bytes F w' v xs:=⟨h.1.same hw hs,h.2⟩
theorem Bytes.ext {w':World} {v:Value} {xs:List Nat} (h:Bytes F w v xs) (hw:Ext w w'):Bytes F w' v xs:=⟨h.1.ext hw,h.2⟩
theorem Bytes.load {v:Value} {xs:List Nat} (h:Bytes F w v xs) {e:TypeId} (he:oneB e=true) {i:Nat} (hi:i<xs.length):zt e (oE (eaddr v 1 i)) w K=K (.int .u8 (xs.getD i 0:Nat)) w:=by
 rw[Vals.load h.1 he (by simpa using hi)];simp[X0,hi]
theorem Bytes.len {w':World} {v:Value} {xs:List Nat} (h:Bytes F w v xs) {t:TypeId} (a:isSl t=true) (ty:TypeId):vbi .len [t] ty [v] w' K=K (nI xs.length) w':=by
 have:=Vals.len (K:=K) (w':=w') h.1 a ty;rwa[K3] at this
theorem Bytes.iaddr {w':World} {v:Value} {xs:List Nat} (h:Bytes F w v xs) {t:TypeId} (c:elB t 1=true) {kd:IntKind} {i:Int} (a:0<=i) (b:i<xs.length):
  zX t v (.int kd i) w' K=K (oE (eaddr v 1 i.toNat)) w':=Vals.iaddr h.1 c a (by simpa using b)
structure RdR (F:oA) (w:World) (b:Nat) (v:Value) (xs:List Nat) (p:Nat):Prop where
 blk:Blk w b [v,nI p] xb
 bytes:Bytes F w v xs
 apart: ¬F b
 few:xs.length<=2000
theorem RdR.same {S:oA} {w':World} {b p:Nat} {v:Value} {xs:List Nat} (h:RdR F w b v xs p) (hw:Same S w w') (a: ¬S b) (hs:∀b,F b->b<w.heap.size->¬S b):RdR F w' b v xs p:=
 ⟨h.blk.same hw a,h.bytes.same hw hs,h.apart,h.few⟩
theorem RdR.ext {w':World} {b p:Nat} {v:Value} {xs:List Nat} (h:RdR F w b v xs p) (hw:Ext w w'):RdR F w' b v xs p:=h.same hw id λ_ _ _ h=>h
theorem l12Open_spec {v:Value} {xs:List Nat} (n:Bytes F w v xs) (hF:∀b,F b->b<w.heap.size)
  (C:∀w' b v' ys,Ext w w'->RdR F w' b v' ys 0->w.heap.size<=b->K (oP b 0) w'):vcall Vx #[v] w K:=by
 refine ze {} Tryz.func55 ?_;simp only[push_cast,n.len];have fin:∀(v':Value) (ys:List Nat),Bytes F w v' ys->ys.length<=2000->ye xb [(0,v')] w λt9 f=>zC0 xb t9 f λt10 g=>K t10 g:=λv' ys j E=>by
  refine Ym yF0 (us:=[[v']]) (by simp[j.1.cells1]) rfl ?_;refine ym λb w1 L m H B=>?_;exact C w1 b v' ys m ⟨B,j.ext m,λh=>by have:=hF b h;omega,E⟩ oM
 refine zb (λa=>?_) (λa=>fin v xs n oM);have k:xd xj v none (some (nI (2000:Nat))) none w λt7 r=>ye xb [(0,t7)] r λt9 f=>zC0 xb t9 f λt10 g=>K t10 g:=by
  obtain⟨a0,c0,rfl,D,q,d⟩:=n.1.shape;rw[Sl.cut n.1 (λa l c e=>?_) ZI0 (by simp;omega)]
  .refine fin _ (xs.take 2000) ⟨⟨⟨a0,c0,?_,?_,q,λG=>?_⟩,λy j=>?_⟩,λy j=>n.2 y (gO j)⟩ (by simp;omega)
   .simp only[cutV,K3,gg];rw[GC oM]
   .simp at D⊢;omega
   .obtain⟨b,o,p,t,z,A⟩:=d (λe=>by simp at e;subst e;simp at a);refine⟨b,o,p,t,z,λi hi=>?_⟩;simp only[K3,gg] at hi;have:=A i (by simp;omega);have e:(((xs.take 2000).map λx=>Value.int .u8 (x:Nat)).map λx=>[x]).getD i []=((xs.map λx=>Value.int .u8 (x:Nat)).map λx=>[x]).getD i []:=by
     simp only[X0,GK,PJ];rw[Q1 oM]
    rw[e];exact this
   .obtain⟨u,_,rfl⟩:=gu.1 j;rfl
  .injection e with s I J
   obtain⟨b,o,p,_⟩:=d (λe=>by simp at e;subst e;simp at a);exact⟨b,o,by rw[p] at s;exact(gd s).symm⟩
 exact k
theorem pick_spec {b p:Nat} {v:Value} {xs:List Nat} {n:Int} (h:RdR F w b v xs p) (hn:n<=1099511627776) (hp:p<1099511627776)
  (B:∀w' (k:Nat),Same (· =b) w w'->w'.heap.size=w.heap.size->RdR F w' b v xs (p+1)->(1<=n->(k:Int)<n)->(n<1->k=0)->K (nI k) w'):vcall j5 #[oP b 0,nI n] w K:=by
 refine ze {cuts:=[(12292,[])]} Tryz.func58 ?_;have R:=h.few;simp only[push_cast,h.blk.ld1];have y:IntKind.i64.wrap ((p:Int)+1)=((p+1:Nat):Int):=by rw[zj oM oM];omega
 rw[y];refine h.blk.st rfl rfl xy rfl λw1 g l L=>?_;have t:Blk w1 b [v,nI (p+1:Nat)] xb:=L;have u:RdR F w1 b v xs (p+1):=⟨t,h.bytes.same g λx q _ e=>h.apart (e▸q),h.apart,h.few⟩;have q:=u.bytes;refine zp (λ_ w'=>w'=w1/\1<=n/\xs.length≠0) ?_ ?_
 .intro J hJ;refine zb (λa=>?_) (λa=>?_)
  .exact B w1 0 g l u (λh=>oM) λ_=>rfl
  .simp only[push_cast,t.ld0,q.len];refine zb (λa2=>?_) (λa2=>?_)
   .exact B w1 0 g l u (λh=>oM) λ_=>rfl
   .exact hJ _ _ ⟨rfl,oM,oM⟩
 rintro _ _ _ ⟨rfl,h1,a0⟩;simp(disch:=(simp only[push_cast])) only[t.ld0,t.ld1,xo0,Yf,V4,yq,gV,Zd,q.len];rw[show((p+1:Nat):Int)-1=(p:Int) from by omega,zj oM oM];simp only[WD];have f:∀i,i<xs.length->xs.getD i 0<256:=λi hi=>q.2 _ (by rw[X0,gk hi];exact GY hi);have o:∀x:Nat,((x:Int).tmod n)=((x%n.toNat:Nat):Int)/\((x%n.toNat:Nat):Int)<n:=λx=>by
  obtain⟨m,rfl⟩:∃m:Nat,n=m:=⟨n.toNat,oM⟩;rw[gn];exact⟨rfl,by have:=pr x (show 0<m by omega);omega⟩
 refine zb (λa=>?_) (λa=>?_)
 .simp(disch:=exact oS) only[t.ld0,q.iaddr,gn,q.load,qG xx0 Wt];have hb:=f p oM;rw[zj oM oM,j9 oM];obtain⟨m1,m2⟩:=o (xs.getD p 0);rw[m1];exact B _ _ g l u (λ_=>m2) λh=>oM
 .refine zd λw2 j r=>?_;have S:=t.ext j;have s:=q.ext j;have z:(xs.length:Int)≠0:=oM;have T:((p:Int).tmod xs.length)=((p%xs.length:Nat):Int):=by rw[pz oM];rfl
  have l1:p%xs.length<xs.length:=pr _ oM;have U:IntKind.i64.wrap ((p:Int)*7)=((p*7:Nat):Int):=by rw[zj oM oM];omega
  have V:IntKind.i64.wrap (((p*7:Nat):Int)+3)=((p*7+3:Nat):Int):=by rw[zj oM oM];omega
  have W:(((p*7+3:Nat):Int).tmod xs.length)=(((p*7+3)%xs.length:Nat):Int):=by rw[pz oM];rfl
  have l2:(p*7+3)%xs.length<xs.length:=pr _ oM;have b1:=f _ l1;have b2:=f _ l2;generalize M:xs.getD (p%xs.length) 0=c at b1;generalize A:xs.getD ((p*7+3)%xs.length) 0=d at b2;have Y:IntKind.i64.wrap ((c:Nat):Int)=((c:Nat):Int):=zj oM oM;have Z:IntKind.i64.wrap ((d:Nat):Int)=((d:Nat):Int):=zj oM oM;have e7:IntKind.i64.wrap (((c:Nat):Int)*131)=((c*131:Nat):Int):=by rw[zj oM oM];omega
  have e8:IntKind.i64.wrap (((d:Nat):Int)*1117)=((d*1117:Nat):Int):=by rw[zj oM oM];omega
  have e9:IntKind.i64.wrap (((c*131:Nat):Int)+((d*1117:Nat):Int))=((c*131+d*1117:Nat):Int):=by rw[zj oM oM];omega
  have C:IntKind.i64.wrap ((p:Int)*29)=((p*29:Nat):Int):=by rw[zj oM oM];omega
  have D:IntKind.i64.wrap (((c*131+d*1117:Nat):Int)+((p*29:Nat):Int))=((c*131+d*1117+p*29:Nat):Int):=by rw[zj oM oM];omega
  obtain⟨Q,N⟩:∃Q,Q=p/xs.length:=⟨_,rfl⟩;have hq:Q<=p:=by rw[N];exact GD _ _
  have E:IntKind.i64.wrap ((p:Int).tdiv xs.length)=((Q:Nat):Int):=by
   have:(p:Int).tdiv xs.length=(Q:Int):=by rw[N];rfl
   rw[this];exact zj oM oM
  have G:IntKind.i64.wrap (((Q:Nat):Int)*53)=((Q*53:Nat):Int):=by rw[zj oM oM];omega
  have H:IntKind.i64.wrap (((c*131+d*1117+p*29:Nat):Int)+((Q*53:Nat):Int))=((c*131+d*1117+p*29+Q*53:Nat):Int):=by rw[zj oM oM];omega
  simp(disch:=exact oS) only[S.ld0,xo0,Yf,yq,gV,k6,s.len,j9 z,jH z,xu0,XH,T,U,V,W,E,s.iaddr,gn,s.load,M,A,qG xx0 Wt,Y,Z,e7,e8,e9,C,D,G,H];have O:c*131+d*1117+p*29+Q*53<9223372036854775808:=oM;generalize c*131+d*1117+p*29+Q*53=X at O⊢;have I:IntKind.i64.wrap ((X:Int).tdiv 64)=((X/64:Nat):Int):=by
   have:(X:Int).tdiv 64=((X/64:Nat):Int):=rfl;rw[this];exact zj oM oM
  rw[jH oM,I,q70 O oM,j9 oM];obtain⟨m1,m2⟩:=o (X^^^X/64);rw[m1];exact B _ _ (g.trans (Same.of_ext j)) (by rw[r];exact l) (u.ext j) (λ_=>m2) λh=>oM
theorem num_spec {b p:Nat} {v vs:Value} {xs:List Nat} {ns:oI} (h:RdR F w b v xs p) (g:Ints F' w vs ns) (d:ns≠[]) (o:ns.length<=1000) (n:p<1099511627776) (c:∀x,F' x->x≠b)
  (j:∀w' m,Same (· =b) w w'->w'.heap.size=w.heap.size->RdR F w' b v xs (p+1)->m∈ns->K (nI m) w'):vcall jq #[oP b 0,vs] w K:=by
 refine ze {} Tryz.func57 ?_;have f:=Gh.2 d;simp only[push_cast,g.len];refine pick_spec h oM n λw1 k hs r l i _=>?_;have s:=i oM;have a:=g.same hs λx q _ e=>c x q e;simp(disch:=exact oS) only[push_cast,a.iaddr,a.load];exact j w1 _ hs r l (M.getD_mem oM _)
end
section
variable {w:World} {K:oK} {F D:oA}
@[push_cast] theorem bd_Decl (s:ByteArray) (n:Int):ye yR [(0,.string s),(1,nI n)] w K=K (.agg ⟨[.string s,nI n]⟩) w:=zE xm0 (us:=[[.string s],[nI n]]) rfl rfl
abbrev OwnD (w:World) (v:Value) (ds:List M.Dcl):Prop:=Own 0 2 yD w v (ds.map λd=>[.string d.1,nI d.2])
def Dok (ds:List M.Dcl):Prop:=ds.length<=5/\∀i,i<ds.length->1<=(ds.getD i xh0).2/\(ds.getD i xh0).2<=4/\(ds.getD i xh0).1.size<=5
theorem OwnD.dcls {v:Value} {ds:List M.Dcl} (h:OwnD w v ds):DclsR (λb=>v.ownBlock=some b) w v ds:=Own.sl h
@[push_cast] theorem bd_T3 (o a b:Int):ye za [(0,nI o),(1,nI a),(2,nI b)] w K=K (.agg ⟨[nI o,nI a,nI b,.string ⟨#[]⟩,oN]⟩) w:=zE qm (us:=[[nI o],[nI a],[nI b]]) rfl rfl
@[push_cast] theorem XB0 (o:Int):ye za [(0,nI o)] w K=K (.agg ⟨[nI o,nI 0,nI 0,.string ⟨#[]⟩,oN]⟩) w:=zE qm (us:=[[nI o]]) rfl rfl
@[push_cast] theorem kl0 (o:Int) (s:ByteArray):ye za [(0,nI o),(3,.string s)] w K=K (.agg ⟨[nI o,nI 0,nI 0,.string s,oN]⟩) w:=zE qm (us:=[[nI o],[.string s]]) rfl rfl
@[push_cast] theorem YL0 (o:Int) (a:Option Addr) (l c:Nat):ye za [(0,nI o),(4,.slice a l c)] w K=K (.agg ⟨[nI o,nI 0,nI 0,.string ⟨#[]⟩,.slice a l c]⟩) w:=zE qm (us:=[[nI o],[.slice a l c]]) rfl rfl
@[push_cast] theorem bd_Tc (o x y:Int) (a:Option Addr) (l c:Nat):ye za [(0,nI o),(1,nI x),(2,nI y),(4,.slice a l c)] w K=K (.agg ⟨[nI o,nI x,nI y,.string ⟨#[]⟩,.slice a l c]⟩) w:=zE qm (us:=[[nI o],[nI x],[nI y],[.slice a l c]]) rfl rfl
theorem qa {b:Nat} {cs cs':List Value} {t:TypeId} {G:oA} {f:M.Tm} (h:Blk w b cs t) (k:cs.length=5) (c:TmR G w cs' f) (i:∀x,G x->x≠b) (j:∀w',Same (· =b) w w'->w'.heap.size=w.heap.size->TermR G w' (.agg ⟨cs'⟩) f->K (.agg ⟨cs'⟩) w'):
  zP za (oP b 0) (.agg ⟨cs'⟩) w λ_ w1=>vlv za (oP b 0) w1 λr w2=>K r w2:=by
 refine stTerm h k c λw' a d g=>?_;rw[g.lv (by rw[zU c];exact zc)];exact j w' a d (c.same a λx l _ e=>i x l e).term
theorem Y9 {G:oA} (o a b:Int) (s:ByteArray):TmR G w [nI o,nI a,nI b,.string s,oN] (.mk o a b s []):=TmR.of (t:= .mk o a b s []) TmsR.nil
abbrev qG0 (K:oK) (F:oA) (w:World) (b p c:Nat) (v:Value) (xs:List Nat):Prop:=∀w' p' tv t,Same (· =b) w w'->RdR F w' b v xs p'->p'<=p+c->TermR (λx=>w.heap.size<=x) w' tv t->t.ks.length<=3->K tv w'
theorem same_new {b b2:Nat} {w w1 w2:World} (h:Same (· =b) w w1) (a:Same (· =b2) w1 w2) (f:w.heap.size<=b2):Same (· =b) w w2:=
 ⟨a.os.trans h.os,a.tape.trans h.tape,a.output.trans h.output,gL h.size a.size,λx d c=>by
  rw[a.block x (Gb d h.size) (λe=>by subst e;omega)];exact h.block x d c⟩
theorem RdR.new {b b2 p:Nat} {v:Value} {xs:List Nat} {w1:World} (h:RdR F w b v xs p) (hs:Same (· =b2) w w1) (a:b≠b2) (hF:∀x,F x->x≠b2):RdR F w1 b v xs p:=h.same hs a λx c _ e=>hF x c e
theorem l2Leafy_spec {b p:Nat} {v dv:Value} {xs:List Nat} {ds:List M.Dcl} {sort:Int} (h:RdR F w b v xs p) (hF:∀x,F x->x<w.heap.size) (hd:DclsR D w dv ds) (hD:∀x,D x->x≠b) (a0:Dok ds) (a8:0<=sort) (E:sort<=4) (hp:p+100<1099511627776)
  (hK:qG0 K F w b p 100 v xs):vcall X1 #[oP b 0,dv,nI sort] w K:=by
 refine ze {loops:=[(6,[9])],cuts:=[(28680,[])]} Tryz.func136 ?_;have lb:=h.blk.lt;refine zh zn λb1 w1 a5 n a9 h1=>?_;have H:=h.ext n;have J:=hd.ext n;have o:∀w2 p2 cs t,Same (· =b) w w2->RdR F w2 b v xs p2->p2<=p+100->Blk w2 b1 [nI 0,nI 0,nI 0,.string ⟨#[]⟩,oN] za->TmR (λ_=>False) w2 cs t->t.ks.length<=3->
   zP za (oP b1 0) (.agg ⟨cs⟩) w2 λ_ w1=>vlv za (oP b1 0) w1 λr w2=>K r w2:=by
  intro w2 p2 cs t hs W a1 U hc Z;refine qa U rfl hc (λx y=>y.elim) λA l ab ht=>?_;exact hK A p2 _ t (same_new hs l oM) (W.new l oM λx y e=>by have:=hF x y;omega) a1 (ht.weaken λx y _=>y.elim) Z
 refine oZ ?_;refine zb (λa=>?_) (λa=>?_)
 .exact o _ _ _ _ (Same.of_ext n) H oM h1 (Y9 24 0 0 _) (gY _)
 simp only[push_cast,J.len];have hlen:=a0.1;refine pick_spec H oM oM λw2 at_ B aa X hk _=>?_;have h2:=h1.same B oM;have z:∀A p3,Same (· =b) w A->RdR F A b v xs p3->p3<=p+50->Blk A b1 [nI 0,nI 0,nI 0,.string ⟨#[]⟩,oN] za->
   vcall ZQ #[nI sort] A λt52 O=>vcall j5 #[oP b 0,t52] O λt53 Q=>ye za [(0,(nI 20)),(1,nI sort),(2,t53)] Q λt54 R=>zP za (oP b1 0) t54 R λ_ S=>vlv za (oP b1 0) S λN T=>K N T:=by
  intro A p3 hs W a2 U;refine l1Two_spec oM ?_;have a7:2^sort.toNat<=2^4:=gN oM oM;refine pick_spec W oM oM λw4 k E a3 f _ _=>?_;refine oZ ?_;exact o _ _ _ _ (hs.trans E) f oM (U.same E (by have:=n.size;omega)) (Y9 20 sort k _) (gY _)
 refine vloop_up ds.length (λi u w'=> ∃L,u=[nI i]/\Same (· =b) w w'/\RdR F w' b v xs L/\L<=p+1+i/\Blk w' b1 [nI 0,nI 0,nI 0,.string ⟨#[]⟩,oN] za/\DclsR D w' dv ds)
  ⟨p+1,rfl,(Same.of_ext n).trans B,X,oM,h2,J.same B λx y _ e=>hD x y e⟩ ?_
 rintro i _ _ A C hi ⟨L,rfl,l,I,a2,G,Y⟩ hC;refine zp (λu w'=>u=[]/\i<ds.length/\Same (· =b) w w'/\RdR F w' b v xs (L+1)/\Blk w' b1 [nI 0,nI 0,nI 0,.string ⟨#[]⟩,oN] za/\DclsR D w' dv ds) (λC' V=>?_) ?_
 .refine oZ ?_;refine zb (λc=>?_) (λc=>?_)
  .refine pick_spec I oM oM λw4 k d a3 f _ _=>?_;have m:=G.same d oM;refine oZ ?_;refine zb (λe=>?_) (λe=>?_)
   .exact V _ _ ⟨rfl,oM,l.trans d,f,m,Y.same d λx y _ e=>hD x y e⟩
   .exact z _ _ (l.trans d) f oM m
  .exact z _ _ l I oM G
 .rintro u g w4 ⟨rfl,a6,d,f,m,s⟩;have a4:at_<ds.length:=by have:=hk oM;omega
  have e1:IntKind.i64.wrap ((at_:Int)+(i:Int))=((at_+i:Nat):Int):=by rw[zj oM oM];omega
  have eR:∀(w:World) (K:oK),qA .rem y6 false (nI ((at_+i:Nat):Int)) (nI (ds.length:Int)) w K=K (nI (((at_+i)%ds.length:Nat):Int)) w:=λw K=>by rw[j9 oM];rfl
  have hm:(at_+i)%ds.length<ds.length:=pr _ oM;obtain⟨q,hq⟩:∃q,q=at_+i:=⟨_,rfl⟩;rw[<-hq] at e1 eR hm;obtain⟨j,hj⟩:∃j,j=q%ds.length:=⟨_,rfl⟩;rw[<-hj] at eR hm;simp(disch:=exact oS) only[push_cast,e1,eR,s.iaddr]
  try simp(disch:=exact oS) only[push_cast,s.load0,s.load1]
  refine zb (λc=>?_) (λc=>?_)
  .exact o _ _ _ _ d f oM m (Y9 21 0 0 _) (gY _)
  .rw[inc64' oM];exact hC oM _ _ ⟨L+1,rfl,d,f,oM,m,s⟩
end
section
variable {w:World} {K:oK} {F D G:oA}
theorem kidsL {css:List (List Value)} {ts:List M.Tm} (l:css.length=ts.length) (n:css.length<=100) (h:∀i,i<ts.length->TmR G w (css.getD i []) (ts.getD i default))
  (j:∀w' a,Ext w w'->w'.heap.size=w.heap.size+1->TmsR (λz=>G z\/z=w.heap.size) w' (.slice a css.length css.length) ts->K (.slice a css.length css.length) w'):
  vbuildS zl (css.map λc=>Value.agg ⟨c⟩).length ((css.map λc=>Value.agg ⟨c⟩).zipIdx.map λp=>(p.2,p.1)) w K:=by
 have d:∀u,u∈css->u.length=5:=λu hu=>by
  obtain⟨i,hi,rfl⟩:=gr hu;have:=zU (h i oM);rwa[X0,gk hi] at this
 refine vbuildS_row (us:=css) (k:=5) yr yJ zn (by rw[GW];rfl) d (by rw[K3];omega) λb w' o he hs g=>?_;rw[K3];refine j w' _ he hs ⟨css,?_,l,λi hi=>((h i hi).ext he).weaken λx f _=> .inl f⟩;have m:Own 0 5 zl w' (.slice (some ⟨b,0,none⟩) css.length css.length) css:=Blk.ownk (by rw[Zs];exact g) d rfl oM;exact m.sl.weaken λx f _=> .inr (by have e:x=b:=(gd f).symm;omega)
theorem jI0 {v0:Value} {t0:M.Tm} (b:TermR G w v0 t0) (c:∀w' a,Ext w w'->w'.heap.size=w.heap.size+1->TmsR (λz=>G z\/z=w.heap.size) w' (.slice a 1 1) [t0]->K (.slice a 1 1) w'):vbuildS zl 1 [(0,v0)] w K:=by
 obtain⟨c0,rfl,d⟩:=b.cells;refine kidsL (css:=[c0]) (ts:=[t0]) rfl (by simp) (λi hi=>?_) c;have:i=0:=by simpa using hi
 subst this;exact d
theorem kids2 {v0 v1:Value} {t0 t1:M.Tm} (b:TermR G w v0 t0) (c:TermR G w v1 t1) (d:∀w' a,Ext w w'->w'.heap.size=w.heap.size+1->TmsR (λz=>G z\/z=w.heap.size) w' (.slice a 2 2) [t0,t1]->K (.slice a 2 2) w'):vbuildS zl 2 [(0,v0),(1,v1)] w K:=by
 obtain⟨c0,rfl,e⟩:=b.cells;obtain⟨c1,rfl,f⟩:=c.cells;refine kidsL (css:=[c0,c1]) (ts:=[t0,t1]) rfl (by simp) (λi hi=>?_) d
 match i,hi with
 |0,_=>exact e
 |1,_=>exact f
theorem kids3 {v0 v1 v2:Value} {t0 t1 t2:M.Tm} (b:TermR G w v0 t0) (c:TermR G w v1 t1) (d:TermR G w v2 t2) (e:∀w' a,Ext w w'->w'.heap.size=w.heap.size+1->TmsR (λz=>G z\/z=w.heap.size) w' (.slice a 3 3) [t0,t1,t2]->K (.slice a 3 3) w'):vbuildS zl 3 [(0,v0),(1,v1),(2,v2)] w K:=by
 obtain⟨c0,rfl,f⟩:=b.cells;obtain⟨c1,rfl,g⟩:=c.cells;obtain⟨c2,rfl,h⟩:=d.cells;refine kidsL (css:=[c0,c1,c2]) (ts:=[t0,t1,t2]) rfl (by simp) (λi hi=>?_) e
 match i,hi with
 |0,_=>exact f
 |1,_=>exact g
 |2,_=>exact h
abbrev JN:List Value:=[nI 0,nI 0,nI 0,.string ⟨#[]⟩,.slice none 0 0]
structure Dw (F D:oA) (w0:World) (b b1:Nat) (v dv:Value) (xs:List Nat) (ds:List M.Dcl) (w:World) (p:Nat):Prop where
 same:Same (· =b) w0 w
 rd:RdR F w b v xs p
 var:Blk w b1 JN za
 dcl:DclsR D w dv ds
 old:b<w0.heap.size
 new:b1=w0.heap.size
 size:b1<w.heap.size
 hF:∀x,F x->x<w0.heap.size
 hD:∀x,D x->x≠b
 hD1:∀x,D x->x<w0.heap.size
section
variable {w0:World} {b b1 p:Nat} {v dv:Value} {xs:List Nat} {ds:List M.Dcl}
theorem Dw.step {w1:World} {p1:Nat} (h:Dw F D w0 b b1 v dv xs ds w p) (hs:Same (· =b) w w1) (a:RdR F w1 b v xs p1):Dw F D w0 b b1 v dv xs ds w1 p1:=
 ⟨h.same.trans hs,a,h.var.same hs (by have:=h.old;have:=h.new;omega),h.dcl.same hs λx c _ e=>h.hD x c e,h.old,h.new,Gb h.size hs.size,h.hF,h.hD,h.hD1⟩
theorem Dw.ext {w1:World} (h:Dw F D w0 b b1 v dv xs ds w p) (he:Ext w w1):Dw F D w0 b b1 v dv xs ds w1 p:=h.step (Same.of_ext he) (h.rd.ext he)
theorem Dw.begin (h:RdR F w b v xs p) (hF:∀x,F x->x<w.heap.size) (f:DclsR D w dv ds) (hD:∀x,D x->x≠b) (hD1:∀x,D x->x<w.heap.size) {K:oK} (e:∀w1,Dw F D w b w.heap.size v dv xs ds w1 p->K (oP w.heap.size 0) w1):qp za w K:=by
 refine zh zn λb1 w1 c a g d=>?_;subst c;exact e w1 ⟨Same.of_ext a,h.ext a,d,f.ext a,h.blk.lt,rfl,oM,hF,hD,hD1⟩
abbrev Nw (b1:Nat) (x:Nat):Prop:=b1<x
theorem Dw.fin {c:Nat} {cs:List Value} {t:M.Tm} (h:Dw F D w0 b b1 v dv xs ds w p) {p0:Nat} (j:p<=p0+c) (k:TmR (Nw b1) w cs t) (f:t.ks.length<=3) (i:qG0 K F w0 b p0 c v xs):
  zP za (oP b1 0) (.agg ⟨cs⟩) w λ_ w1=>vlv za (oP b1 0) w1 λr w2=>K r w2:=by
 have:=h.old;have:=h.new;refine qa h.var rfl k (λx d e=>by subst e;exact Nat.lt_irrefl _ d) λn a m g=>?_;exact i n p _ t (same_new h.same a oM) (h.rd.new a oM λx d e=>by have:=h.hF x d;omega) j (g.weaken λx d _=>by have l:b1<x:=d;omega) f
theorem Dw.pick {n:Int} (h:Dw F D w0 b b1 v dv xs ds w p) (f:n<=1099511627776) (g:p<1099511627776) (d:∀w1 (k:Nat),Dw F D w0 b b1 v dv xs ds w1 (p+1)->Same (· =b) w w1->(1<=n->(k:Int)<n)->(n<1->k=0)->K (nI k) w1):vcall j5 #[oP b 0,nI n] w K:=
 pick_spec h.rd f g λw1 k hs i e a c=>d w1 k (h.step hs e) hs a c
theorem Dw.sub {g:Nat} {args:Array Value} {c:Nat} (h:Dw F D w0 b b1 v dv xs ds w p) (i:∀d,qG0 d F w b p c v xs->vcall g args w d) (e:∀w1 p1 tv t,Dw F D w0 b b1 v dv xs ds w1 p1->Same (· =b) w w1->p1<=p+c->TermR (Nw b1) w1 tv t->t.ks.length<=3->K tv w1):vcall g args w K:=
 i K λw1 p1 tv t hs f j k a=>e w1 p1 tv t (h.step hs f) hs j (k.weaken λx l _=>by have:=h.size;show b1<x;omega) a
theorem Dw.keep {tv:Value} {t:M.Tm} {w1:World} (h:Dw F D w0 b b1 v dv xs ds w p) (a:TermR (Nw b1) w tv t) (hs:Same (· =b) w w1):TermR (Nw b1) w1 tv t:=
 a.same hs λx c _ e=>by subst e;have:=h.old;have:=h.new;have d:b1<x:=c;omega
theorem Dw.tms {kv:Value} {ks:List M.Tm} (h:Dw F D w0 b b1 v dv xs ds w p) {w1:World} (c:TmsR (λz=>Nw b1 z\/z=w.heap.size) w1 kv ks):TmsR (Nw b1) w1 kv ks:=
 c.weaken λx a _=>by
  rcases a with a|a
  .exact a
  .have:=h.size;show b1<x;omega
end
def V8 (d:Nat):Nat:=100*4^d
theorem cost_succ (d:Nat):V8 (d+1)=4*V8 d:=by unfold V8;rw[Nat.pow_succ];omega
theorem cost_ge (d:Nat):100<=V8 d:=by
 have:1<=4^d:=Nat.pow_pos oM;unfold V8;omega
def Qk (d:Nat):Prop:=∀{w:World} {K:oK} {F D:oA} {b p:Nat} {v dv:Value} {xs:List Nat} {ds:List M.Dcl} {sort deep:Int},RdR F w b v xs p->(∀x,F x->x<w.heap.size)->DclsR D w dv ds->(∀x,D x->x≠b)->(∀x,D x->x<w.heap.size)->Dok ds->0<=sort->sort<=4-> -100<=deep->deep<=d->
 p+V8 d<1099511627776->qG0 K F w b p (V8 d) v xs->vcall Zi #[oP b 0,dv,nI sort,nI deep] w K
theorem num_draw {w0:World} {b b1 p:Nat} {v dv:Value} {xs:List Nat} {ds:List M.Dcl} {ns:oI} (h:Dw F D w0 b b1 v dv xs ds w p) (a:ns≠[]) (c:ns.length<=1000) (l:p<1099511627776) (j:∀w1 m,Dw F D w0 b b1 v dv xs ds w1 (p+1)->Same (· =b) w w1->m∈ns->K (nI m) w1):
  vbuildS zi ns.length ((ns.map λx=>nI x).zipIdx.map λp=>(p.2,p.1)) w λs w1=>vcall jq #[oP b 0,s] w1 K:=by
 have:=vbuildS_row1 (w:=w) (K:=λs w1=>vcall jq #[oP b 0,s] w1 K) (t:=zi) (xs:=ns.map λx=>nI x) xz xy xM (λx d=>by obtain⟨y,_,rfl⟩:=gu.1 d;rfl) (by simp;omega) λb2 w' o f q i=>by
  have n:Ints (· =b2) w' (.slice (some ⟨b2,0,none⟩) (ns.map λx=>nI x).length (ns.map λx=>nI x).length) ns:=i.sl1 rfl (by simp;omega);have g:=h.ext f;have:=h.rd.blk.lt;refine num_spec g.rd n a c l (λx d e=>by subst d;omega) λw2 m hs r k hm=>?_;exact j w2 m (g.step hs k) ((Same.of_ext f).trans hs) hm
 rwa[K3] at this
theorem l2Asks_spec {d:Nat} (hT:Qk d) {b p:Nat} {v dv:Value} {xs:List Nat} {ds:List M.Dcl} {deep:Int} (h:RdR F w b v xs p) (hF:∀x,F x->x<w.heap.size) (hd:DclsR D w dv ds) (hD:∀x,D x->x≠b) (hD1:∀x,D x->x<w.heap.size) (G:Dok ds) (aa:1<=deep) (ab:deep<=d+1) (ac:d<=9)
  (hp:p+2*V8 d+10<1099511627776) (U:qG0 K F w b p (2*V8 d+10) v xs):vcall Ug #[oP b 0,dv,nI deep] w K:=by
 refine ze {cuts:=[(40971,[7])]} Tryz.func205 ?_;refine Dw.begin h hF hd hD hD1 λw1 h1=>?_;have hg:=h1.new;have e1:IntKind.i64.wrap (deep-1)=deep-1:=zj oM oM;have f:∀{w2:World} {p2:Nat} {s:Int} {V:oK},Dw F D w b w.heap.size v dv xs ds w2 p2->0<=s->s<=4->p2+V8 d<1099511627776->(∀B R tv t,Dw F D w b w.heap.size v dv xs ds B R->Same (· =b) w2 B->R<=p2+V8 d->TermR (Nw w.heap.size) B tv t->t.ks.length<=3->V tv B)->
   vcall Zi #[oP b 0,dv,nI s,nI (deep-1)] w2 V:=λr y i a4 X=>
  r.sub (λV hk=>hT r.rd (λx hx=>Gb (hF x hx) r.same.size) r.dcl hD (λx hx=>Gb (hD1 x hx) r.same.size) G y i oM oM a4 hk) X
 refine h1.pick oM oM λw2 k r ag hk _=>?_;simp only[push_cast,e1];refine zb (λa=>?_) (λa=>?_)
 .refine f r oM oM oM λB R I t0 o H O l _=>?_;refine jI0 l λJ sa Y aj j=>?_;have n:=o.ext Y;refine oZ ?_;exact n.fin (p0:=p) oM (TmR.of (t:= .mk 25 0 0 _ [t0]) (o.tms j)) (Gq rfl) U
 refine zb (λa1=>?_) (λa1=>?_)
 .refine f r oM oM oM λB R I t0 o H O l _=>?_;refine f o oM oM oM λJ S T t1 n i Q q _=>?_;refine kids2 (o.keep l i) q λw5 sa E a7 j=>?_;have z:=n.ext E;refine oZ ?_;exact z.fin (p0:=p) oM (TmR.of (t:= .mk 26 0 0 _ [t0,t1]) (n.tms j)) (Gq rfl) U
 refine zb (λa2=>?_) (λa2=>?_)
 .refine f r oM oM oM λB R I t0 o H O l _=>?_;refine f o oM oM oM λJ S T t1 n i Q q _=>?_;refine kids2 (o.keep l i) q λw5 sa E a7 j=>?_;have z:=n.ext E;refine oZ ?_;exact z.fin (p0:=p) oM (TmR.of (t:= .mk 27 0 0 _ [t0,t1]) (n.tms j)) (Gq rfl) U
 refine r.pick oM oM λB k3 o H a0 _=>?_;have a8:=a0 oM;refine oZ ?_;rw[zj (x:=1+(k3:Int)) oM oM];refine zp (λu J=> ∃s S,u=[nI s]/\0<=s/\s<=4/\S<=p+4/\Dw F D w b w.heap.size v dv xs ds J S) (λC W=>?_) ?_
 .have hlen:=G.1;have L:=o.dcl;simp only[push_cast,L.len];refine zb (λc=>?_) (λc=>?_)
  .refine o.pick oM oM λJ k4 n i ad _=>?_;have N:=n.dcl;refine oZ ?_;refine zb (λe=>?_) (λe=>?_)
   .try simp only[push_cast,N.len]
    refine n.pick oM oM λw5 k5 z a5 a3 _=>?_;have a9:=a3 oM;have A:=z.dcl;simp(disch:=exact oS) only[push_cast,A.iaddr]
    try simp(disch:=exact oS) only[push_cast,A.load1]
    have ai:1<=(ds.getD k5 (M.nada,0)).2/\(ds.getD k5 (M.nada,0)).2<=4/\_:=G.2 k5 oM;exact W _ _ ⟨_,_,rfl,oM,oM,oM,z⟩
   .exact W _ _ ⟨_,_,rfl,oM,oM,oM,n⟩
  .exact W _ _ ⟨_,_,rfl,oM,oM,oM,o⟩
 .rintro u g J ⟨s,S,rfl,y,i,Q,n⟩;refine num_draw (ns:=[15,16,17,15]) n (by simp) dC oM λw5 m z a5 hm=>?_;simp only[push_cast,e1];refine f z y i oM λw6 p6 I t0 h6 ah ae l _=>?_;refine f h6 y i oM λw7 p7 T t1 h7 a6 af q _=>?_;refine kids2 (h6.keep l a6) q λw8 sa Z ak j=>?_;have h8:=h7.ext Z;refine oZ ?_;exact h8.fin (p0:=p) oM (TmR.of (t:= .mk m 0 0 _ [t0,t1]) (h7.tms j)) (Gq rfl) U
end
section
variable {w:World} {K:oK} {F D G:oA}
theorem l2Term_step {d:Nat} (an:d<=9) (hT:∀e,e<d->Qk e):Qk d:=by
 intro w K F D b p v dv xs ds sort deep h hF hd hD hD1 Y l m ap ao hp S;refine ze {cuts:=[(8195,[]),(53263,[]),(53261,[89])]} Tryz.func135 ?_;refine Dw.begin h hF hd hD hD1 λw1 h1=>?_;have a9:=cost_ge d;have G:∀{w2:World} {p2:Nat},Dw F D w b w.heap.size v dv xs ds w2 p2->p2<=p+1->V8 d=100\/0<d->p2+100<=p+V8 d\/d=0->(d=0->p2=p)->
   vcall X1 #[oP b 0,dv,nI sort] w2 λt27 ak=>zP za (oP w.heap.size 0) t27 ak λ_ al=>vlv za (oP w.heap.size 0) al λr8 am=>K r8 am:=by
  intro w2 p2 n Z _ T hz;refine n.sub (c:=100) (λK' O=>l2Leafy_spec n.rd (λx M=>Gb (hF x M) n.same.size) n.dcl hD Y l m (by rcases T with T|T<;>omega) O) λR p3 tv t y ag ar ht X=>?_;obtain⟨cs,rfl,U⟩:=ht.cells;refine y.fin (p0:=p) (c:=V8 d) ?_ U X S;rcases T with T|T
  .omega
  .have:=hz T;omega
 refine zp (λu w'=> ∃p',u=[]/\Dw F D w b w.heap.size v dv xs ds w' p'/\p'<=p+1/\1<=deep) (λC hC=>?_) ?_
 .refine oZ ?_;refine zb (λa=>?_) (λa=>?_)
  .refine G h1 oM (by
    by_cases h0:d=0
    .subst h0;left;rfl
    .right;omega) ?_ (λ_=>rfl)
   by_cases h0:d=0
   .exact .inr h0
   .left;omega
  .have V:1<=d:=oM;have aa:V8 d=4*V8 (d-1):=by
    obtain⟨e,rfl⟩:∃e,d=e+1:=⟨d-1,oM⟩;exact cost_succ e
   have a4:=cost_ge (d-1);refine zb (λc=>?_) (λc=>?_)
   .refine h1.pick oM oM λw2 k n av O _=>?_;refine oZ ?_;refine zb (λe=>?_) (λe=>?_)
    .exact G n oM (.inr oM) (.inl oM) oM
    .exact hC _ _ ⟨p+1,rfl,n,oM,oM⟩
   .exact hC _ _ ⟨p,rfl,h1,oM,oM⟩
 rintro u g w2 ⟨p2,rfl,n,Z,ac⟩;have V:1<=d:=oM
 obtain⟨J,ab⟩:∃J,d=J+1:=⟨d-1,oM⟩;have aa:V8 d=4*V8 J:=by rw[ab,cost_succ]
 have a4:=cost_ge J;have e1:IntKind.i64.wrap (deep-1)=deep-1:=zj oM oM;have f:∀{w2:World} {p2:Nat} {s:Int} {K':oK},Dw F D w b w.heap.size v dv xs ds w2 p2->0<=s->s<=4->p2+V8 J<1099511627776->(∀R p3 tv t,Dw F D w b w.heap.size v dv xs ds R p3->Same (· =b) w2 R->p3<=p2+V8 J->TermR (Nw w.heap.size) R tv t->t.ks.length<=3->K' tv R)->
   vcall Zi #[oP b 0,dv,nI s,nI (deep-1)] w2 K':=λn l m Z a8=>
  n.sub (λK' O=>hT J oM n.rd (λx M=>Gb (hF x M) n.same.size) n.dcl hD (λx M=>Gb (hD1 x M) n.same.size) Y l m oM oM Z O) a8
 refine n.pick oM oM λR k y ag O _=>?_;have aq:=O oM;simp only[push_cast,e1];refine zb (λa=>?_) (λa=>?_)
 .refine f y oM oM oM λw4 p4 N t0 h4 Q ae j _=>?_;refine f h4 l m oM λw5 p5 a7 t1 z H au I _=>?_;refine f z l m oM λw6 p6 aw t2 q r L ah _=>?_;refine kids3 (z.keep (h4.keep j H) r) (z.keep I r) ah λw7 sa B a6 i=>?_;have A:=q.ext B;refine oZ ?_;exact A.fin (p0:=p) oM (TmR.of (t:= .mk 23 0 0 _ [t0,t1,t2]) (q.tms i)) (Gq rfl) S
 refine zb (λa0=>?_) (λa0=>?_)
 .refine y.sub (c:=2*V8 J+10) (λK' O=>l2Asks_spec (hT J oM) y.rd (λx M=>Gb (hF x M) y.same.size) y.dcl hD (λx M=>Gb (hD1 x M) y.same.size) Y ac oM oM oM O) λw4 p4 tv t h4 Q ae ht X=>?_;obtain⟨cs,rfl,U⟩:=ht.cells;exact h4.fin (p0:=p) oM U X S
 refine zb (λa1=>?_) (λa1=>?_)
 .rw[zj (x:=5-sort) oM oM];refine y.pick oM oM λw4 k4 h4 Q ad a5=>?_;have ai:sort+(k4:Int)<=4:=by
   by_cases hn:1<=5-sort
   .have:=ad hn;omega
   .have:=a5 oM;omega
  refine oZ ?_;rw[zj (x:=sort+(k4:Int)) oM oM,zj (x:=sort+(k4:Int)-sort) oM oM,zj (x:=sort+(k4:Int)-sort+1) oM oM];refine h4.pick oM oM λw5 k5 z H o _=>?_;have E:=o oM;refine oZ ?_;refine f z oM ai oM λw6 p6 N t0 q r L j _=>?_;refine jI0 j λw7 sa B a6 i=>?_;have A:=q.ext B;refine oZ ?_;exact A.fin (p0:=p) oM (TmR.of (t:= .mk 22 _ _ _ [t0]) (q.tms i)) (Gq rfl) S
 refine zp (λu w'=>u=[]/\w'=R) (λC hC=>?_) ?_
 .refine zp (λu w'=>u=[.bool (decide (k=2/\1<sort))]/\w'=R) (λC' a3=>?_) ?_
  .try simp only[push_cast]
   refine zb (λc=>?_) (λc=>?_)
   .refine a3 _ _ ⟨?_,rfl⟩;have c':k=2:=oM;simp only[c',k6]
   .exact a3 _ _ ⟨by rw[gp oM],rfl⟩
  rintro u g w4 ⟨rfl,rfl⟩;refine oZ ?_;refine zb (λc=>?_) (λc=>?_)
  .rw[zj (x:=sort-1) oM oM];refine y.pick oM oM λw5 k5 z H o _=>?_;have E:=o oM
   try simp only[push_cast]
   rw[zj (x:=1+(k5:Int)) oM oM];refine f z oM oM oM λw6 p6 N t0 q r L j _=>?_
   try simp only[push_cast]
   rw[zj (x:=sort-(1+(k5:Int))) oM oM];refine f q oM oM oM λw7 p7 a7 t1 A a2 af I _=>?_;refine kids2 (q.keep j a2) I λw8 sa W aj i=>?_;have h8:=A.ext W;refine oZ ?_;exact h8.fin (p0:=p) oM (TmR.of (t:= .mk 14 0 0 _ [t0,t1]) (A.tms i)) (Gq rfl) S
  .exact hC _ _ ⟨rfl,rfl⟩
 rintro u g w4 ⟨rfl,rfl⟩
 try simp only[push_cast]
 refine zb (λc=>?_) (λc=>?_)
 .refine y.pick oM oM λw5 k5 z H o _=>?_;have E:=o oM
  try simp only[push_cast]
  rw[zj (x:=1+(k5:Int)) oM oM];refine f z l m oM λw6 p6 N t0 q r L j _=>?_;refine jI0 j λw7 sa B a6 i=>?_;have A:=q.ext B;refine oZ ?_;exact A.fin (p0:=p) oM (TmR.of (t:= .mk _ 0 0 _ [t0]) (q.tms i)) (Gq rfl) S
 .refine y.pick oM oM λw5 k5 z H o _=>?_;have E:=o oM
  try simp only[push_cast]
  rw[zj (x:=3+(k5:Int)) oM oM];refine f z l m oM λw6 p6 N t0 q r L j _=>?_;refine f q l m oM λw7 p7 a7 t1 A a2 af I _=>?_;refine kids2 (q.keep j a2) I λw8 sa W aj i=>?_;have h8:=A.ext W;refine oZ ?_;exact h8.fin (p0:=p) oM (TmR.of (t:= .mk _ 0 0 _ [t0,t1]) (A.tms i)) (Gq rfl) S
theorem l2Term_spec:∀d,d<=9->Qk d:=by
 intro d;induction d using Nat.strongRecOn with
 |_ d b=>intro a;exact l2Term_step a λe he=>b e he oM
theorem dok_sized {ds:List M.Dcl} (h:Dok ds):YY ds:=λi hi=>by have:=(h.2 i hi).2.2;omega
end
section
variable {w:World} {K:oK} {F F':oA}
theorem strof_spec {b p:Nat} {v vs:Value} {xs:List Nat} {ss:List ByteArray} (h:RdR F w b v xs p) (g:Vals F' w vs (ss.map .string)) (d:ss≠[]) (n:ss.length<=1000) (m:p<1099511627776) (c:∀x,F' x->x≠b)
  (j:∀w' s,Same (· =b) w w'->w'.heap.size=w.heap.size->RdR F w' b v xs (p+1)->s∈ss->K (.string s) w'):vcall Ka #[oP b 0,vs] w K:=by
 refine ze {} Tryz.func137 ?_;have f:=Gh.2 d;have t:(ss.map Value.string).length=ss.length:=K3 _;simp only[push_cast,g.len];refine pick_spec h oM m λw1 k hs q l i _=>?_;have r:=i oM;have a:=g.same hs λx o _ e=>c x o e;rw[a.iaddr rK oM oM,gn,a.load rK oM,M.getD_map _ oM _ M.nada];exact j w1 _ hs q l (M.getD_mem oM _)
end
theorem dtSize {ds:List M.Dcl} {t:M.Tm}:M.tsort ds t= -1\/(0<=M.tsort ds t/\M.tsort ds t<=4/\M.tsort ds t=M.sortM ds t/\M.fits t=true/\M.declOk ds=true):=by
 unfold M.tsort;split
 .rename_i h;have:=M.sort_range h.2 t;by_cases e:M.sortM ds t= -1
  .exact .inl e
  .exact .inr ⟨oM,oM,rfl,h.1,h.2⟩
 .exact .inl rfl
section
variable {w:World} {F:oA}
abbrev Ze0 (o:Int) (ks:List M.Tm):M.Tm:= .mk o 0 0 M.nada ks
theorem K5 {o:Int} {a:Option Addr} {l c:Nat} {ks:List M.Tm} (h:TmsR F w (.slice a l c) ks):TermR F w (.agg ⟨[nI o,nI 0,nI 0,.string ⟨#[]⟩,.slice a l c]⟩) (Ze0 o ks):=⟨_,rfl,h⟩
theorem XO {o:Int}:TermR F w (.agg ⟨[nI o,nI 0,nI 0,.string ⟨#[]⟩,oN]⟩) (Ze0 o []):=K5 TmsR.nil
end
section
variable {w:World} {K:oK} {F D G:oA}
theorem flatten_setEl {k:Nat}:∀{xs:List (List Value)} (_:∀x,x∈xs->x.length=k) {i:Nat} {y:List Value},y.length=k->i<xs.length->(xs.set i y).flatten=xs.flatten.take (i*k)++y++xs.flatten.drop (i*k+k)
 |[],_,i,y,_,hi=>by simp at hi
 |x::r,h,i,y,c,hi=>by
  have e:=h x gl;cases i with
  |zero=>
   simp only[po,GU,P4,z0a,Gj,gV];rw[List.drop_append,Pf oM,Gj,show k-x.length=0 by omega,List.drop_zero]
  |succ i=>
   simp only[PF,GU];have a:(i+1)*k=x.length+i*k:=by rw[pa];omega
   have b:x.length+i*k+k=x.length+(i*k+k):=oM;rw[flatten_setEl (λz d=>h z (gq _ d)) c (by simpa using hi),a,b,List.take_length_add_append,List.drop_length_add_append];simp only[Gi]
set_option maxRecDepth 100000 in
theorem own_stEl {v:Value} {k:Nat} {t e:TypeId} {xs:List (List Value)} {y:List Value} (h:Own 0 k t w v xs) (J:0<k) (n:y.length=k) (B:∀c,c∈y->c.oneCell'=true) (u:aggB e k=true) {i:Nat} (hi:i<xs.length)
  (C:∀w',Own 0 k t w' v (xs.set i y)->Same (λb=>v.ownBlock=some b) w w'->w'.heap.size=w.heap.size->K undef w'):zP e (oE (eaddr v k i)) (.agg ⟨y⟩) w K:=by
 have E:=flatten_len h.wide;rcases h.row with⟨H,s⟩;rcases s with⟨rfl,L⟩|⟨g,cap,cur,rfl,o,x,j,p,r,f⟩
 .omega
 .have F:i*k+k<=xs.length*k:=by rw[<-Nat.succ_mul];exact pT _ hi
  have G:xs.length*k<=cap*k:=pT _ j;have d:=run_storeCells_at (P:=P) g (i*k) (Yt t) y 0 cur w x oM B;have he:eaddr (.slice (some ⟨g,0,none⟩) xs.length cap) k i=⟨g,i*k,none⟩:=by
   simp only[eaddr,gV]
  rw[he];have D:cur.toList.length=cap*k:=(by simpa using r);have m:(cur.toList.take (i*k+0)++y++cur.toList.drop (i*k+0+y.length)).toArray.size=cap*k:=by
   simp only[pb,V0,gg,G7];omega
  have a:(cur.toList.take (i*k+0)++y++cur.toList.drop (i*k+0+y.length)).toArray.toList.take (xs.length*k)=(xs.set i y).flatten:=by
   rw[flatten_setEl h.wide n hi,<-f,n];simp only[G0];have I:(cur.toList.take (i*k)).length=i*k:=by rw[gg];omega
   rw[List.take_append,List.take_append,gC (l:=List.take (i*k) cur.toList) oM,gC (l:=y) oM,pt,GC oM,List.drop_take];congr 2;rw[V0,gg];omega
  refine⟨(),_,?_,C (w.setRow g (cur.toList.take (i*k+0)++y++cur.toList.drop (i*k+0+y.length)).toArray) ⟨?_,?_⟩ ⟨rfl,rfl,rfl,by simp,λq _ A=>setRow_other w g q _ (λe=>A (by rw[e];rfl))⟩ (by simp)⟩
  .simp only[Instr.storeAt,Instr.sureAddr,Sem.run_bind,Sem.run_pure,Result.andThen_ok,storeVar,ja u,Value.cells];simp only[pb,n,P7,not_true_eq_false,if_false];rw[n] at d;exact d
  .rw[gX];refine⟨?_,.inr ⟨g,cap,_,rfl,o,setRow_heap w g _ _ _ _ x,j,p,m,a⟩⟩;rw[<-a,gg];have:=m;simp only[pb] at this;simp only[List.toList_toArray,this];omega
  .intro z u;obtain⟨q,A,rfl⟩:=gr u;rw[pI];split
   .exact n
   .exact h.wide _ (GY _)
end
section
variable {w:World} {F:oA}
theorem tmR_one {cs:List Value} {t:M.Tm} (h:TmR F w cs t):∀c,c∈cs->c.oneCell'=true:=λc e=>by
 obtain⟨f,rfl,d,b,_⟩:=h.inv;obtain⟨a,l,rfl,_⟩:=b.shape;simp only[gj,gA,Gk] at e;rcases e with rfl|rfl|rfl|rfl|rfl<;>rfl
def jS0:M.Tm->Bool:=M.Tm.fold λt xs=>decide (t.ks.length<=1048576)&&xs.all id
theorem YA0 (t:M.Tm):jS0 t=(decide (t.ks.length<=1048576)&&(t.ks.map jS0).all id):=M.Tm.fold_eq _ t
theorem fitB_iff {t:M.Tm}:jS0 t=true↔t.ks.length<=1048576/\∀k,k∈t.ks->jS0 k=true:=by
 rw[YA0,gh,V1,gP];refine and_congr_right λ_=>⟨λh k a=>h _ (Gd a),λh y b=>?_⟩;obtain⟨k,a,rfl⟩:=gu.1 b;exact h k a
end
end Go.Proofs.YtfnpmncplaibiaaGreatDoor
section
namespace Go.M
def vecL (w n:Nat):List UInt8:=35::(List.range w).reverse.map λi=>if n/2^i%2=1 then 49 else 48
def digL (n:Int):List UInt8:=[UInt8.ofNat (48+n.toNat)]
def textF (t:Tm) (xs:List (List UInt8)):List UInt8:=
 if t.op=20 then vecL t.a.toNat t.b.toNat else if t.op=21 then t.s.data.toList else if t.op=24 then[116,114,117,101]
 else 40::(wordL t.op++((if t.op=22 then 32::(digL t.a++32::digL t.b) else[])++(xs.flatMap (λx=>32::x)++[41])))
def textL:Tm->List UInt8:=Tm.fold textF
theorem textL_eq (t:Tm):textL t=textF t (t.ks.map textL):=Tm.fold_eq _ t
def Stop (r:List UInt8):Prop:=∀c,r.head?=some c->c=32\/c=41
def Free (a:List UInt8):Prop:=∀c,c∈a->c≠32/\c≠41
theorem atom_cancel:∀{a b r s:List UInt8},Free a->Free b->Stop r->Stop s->a++r=b++s->a=b/\r=s
 |[],[],r,s,_,_,_,_,h=>⟨rfl,h⟩
 |[],y::b,r,s,_,g,j,_,h=>by
  have d:r=y::(b++s):=h;have k:=g y gl;rcases j y (by grind) with e|e
  .grind
  grind
 |x::a,[],r,s,f,_,_,hs,h=>by
  have d:s=x::(a++r):=h.symm;have k:=f x gl;rcases hs x (by grind) with e|e
  .grind
  grind
 |x::a,y::b,r,s,f,g,j,hs,h=>by
  have d:x::(a++r)=y::(b++s):=h;simp only[Gn] at d;obtain⟨rfl,d⟩:=d;obtain⟨rfl,e⟩:=atom_cancel (λc i=>f c (gq _ i)) (λc i=>g c (gq _ i)) j hs d
  grind
theorem stop_cons {c:UInt8} {r:List UInt8} (h:c=32\/c=41):Stop (c::r):=λd a=>by
 grind
theorem word_free:∀o:Fin 28,Free (wordL o):=by unfold Free;decide+kernel
theorem word_inj:∀o p:Fin 28,wordL o=wordL p->wordL o≠[]->o=p:=by decide+kernel
theorem word_ne:∀o:Fin 28,1<=o.1->(o.1<=17\/o.1=22\/o.1=23\/25<=o.1)->wordL o≠[]:=by decide+kernel
theorem vec_inj:∀w:Fin 5,∀a:Fin 16,∀v:Fin 5,∀b:Fin 16,a.1<2^w.1->b.1<2^v.1->vecL w a=vecL v b->w=v/\a=b:=by decide+kernel
theorem vec_free (w n:Nat):Free (vecL w n):=λc a=>by
 grind [vecL]
theorem dig_inj:∀a b:Fin 4,digL a=digL b->a=b:=by decide+kernel
theorem dig_free:∀a:Fin 4,Free (digL a):=by unfold Free;decide+kernel
section
variable {ds:List Dcl} {t u:Tm}
theorem name_ok (d:declOk ds=true) (hs:sortM ds t≠ -1) (i:t.op=21):t.s.data.toList≠[]/\t.s≠tru/\∀c,c∈t.s.data.toList->97<=c.toNat/\c.toNat<=122:=by
 have f:=name_found hs i;have h:(findD ds t.s).toNat<ds.length:=by have:=(findD_lt ds t.s).2;omega
 have g:=findD_get f;have a:=(decl_iff.1 d).2.1 _ h;unfold dclOk at a;rw[g] at a;simp only[gh,V1,nameOk] at a;obtain⟨⟨⟨⟨⟨⟨j,k⟩,b⟩,l⟩,_⟩,_⟩,_⟩:=a;refine⟨λe=>?_,b,λc m=>?_⟩
 .have:t.s.size=0:=by show t.s.data.size=0;simp_all
  omega
 grind [Array.all_eq_true']
theorem right_op (hs:sortM ds t≠ -1):arity t.op=t.ks.length/\plainM t=true/\((1<=t.op/\t.op<=17)\/(20<=t.op/\t.op<=27)):=by
 obtain⟨a,_,_⟩:=sort_parts hs;simp_all[formed_iff,arity_ops]
theorem leaf_arity {o:Int} (h:o=20\/o=21\/o=24):arity o=0:=by unfold arity;omega
theorem node_arity {o:Int} (h:(1<=o/\o<=17)\/(20<=o/\o<=27)) (a: ¬(o=20\/o=21\/o=24)):1<=arity o:=by
 grind [arity]
theorem vec_ok (hs:sortM ds t≠ -1) (c:t.op=20):vok t.a t.b=true:=by
 have h:=(sort_parts hs).2.2
 grind [sortK]
theorem cut_ab (c:declOk ds=true) (hs:sortM ds t≠ -1) (d:t.op=22):0<=t.b/\t.b<=t.a/\t.a<4:=by
 have h:=(sort_parts hs).2.2;have e:(t.ks.map (sortM ds)).getD 0 0<=4:=by
  by_cases hi:0<t.ks.length
  .simp_all[sort_range]
  grind
 grind [sortK]
theorem atom_text (f:declOk ds=true) (hs:sortM ds t≠ -1) (h:t.op=20\/t.op=21\/t.op=24):textL t=textF t []/\Free (textL t)/\textL t≠[]/\∀c,(textL t).head?=some c->c≠40:=by
 have g:t.ks=[]:=by grind [List.eq_nil_of_length_eq_zero,right_op,leaf_arity]
 have e:textL t=textF t []:=by rw[textL_eq,g];rfl
 refine⟨e,?_⟩;rw[e];unfold textF;rcases h with o|o|o
 .rw[Q1 o]
  grind [vec_free,vecL]
 .rw[q0 oM,Q1 o];obtain⟨d,i,b⟩:=name_ok f hs o;refine⟨λc a=>?_,d,λc a=>?_⟩
  .have:=b c a;exact⟨λe=>by simp_all,λe=>by simp_all⟩
  .have:=b c (List.mem_of_mem_head? a);intro e;simp_all
 grind [Free]
theorem tm_extT {t u:Tm} (c:t.op=u.op) (d:t.a=u.a) (e:t.b=u.b) (f:t.s=u.s) (g:t.ks=u.ks):t=u:=by
 cases t;cases u
 grind [Tm.op,Tm.a,Tm.b,Tm.s,Tm.ks]
theorem plain_ab (h:plainM t=true) (c:t.op≠20/\t.op≠22):t.a=0/\t.b=0:=by
 grind [plainM]
theorem plain_s (h:plainM t=true) (a:t.op≠21):t.s=nada:=by
 grind [plainM]
theorem atom_inj (g:declOk ds=true) (hs:sortM ds t≠ -1) (hu:sortM ds u≠ -1) (l:t.op=20\/t.op=21\/t.op=24) (m:u.op=20\/u.op=21\/u.op=24) (h:textL t=textL u):t=u:=by
 have x:t.ks=[]:=by grind [List.eq_nil_of_length_eq_zero,right_op,leaf_arity]
 have n:u.ks=[]:=by grind [List.eq_nil_of_length_eq_zero,right_op,leaf_arity]
 have j:=(right_op hs).2.1;have d:=(right_op hu).2.1;rw[(atom_text g hs l).1,(atom_text g hu m).1] at h;unfold textF at h;have letter:∀{v:Tm},sortM ds v≠ -1->v.op=21->∀c r,v.s.data.toList=c::r->97<=c.toNat:=by grind [name_ok,List.mem_cons_self]
 have notrue:∀{v:Tm},sortM ds v≠ -1->v.op=21->v.s.data.toList=[116,114,117,101]->False:=λ{v} q i e=>(name_ok g q i).2.1 (by
  have:v.s.data= #[116,114,117,101]:=(by grind);show v.s=tru;have f:v.s=⟨v.s.data⟩:=rfl;rw[f,this];rfl)
 rcases l with o|o|o<;>rcases m with p|p|p
 .rw[Q1 o,Q1 p] at h;have v1:=vok_lt (vec_ok hs o);have v2:=vok_lt (vec_ok hu p);have w1:=vok_iff.1 (vec_ok hs o);have w2:=vok_iff.1 (vec_ok hu p);have k:((2^t.a.toNat:Nat):Int)=2^t.a.toNat:=(by simp);have f:((2^u.a.toNat:Nat):Int)=2^u.a.toNat:=(by simp);have:=vec_inj ⟨t.a.toNat,oM⟩ ⟨t.b.toNat,oM⟩ ⟨u.a.toNat,oM⟩ ⟨u.b.toNat,oM⟩ (by grind) (by grind) h
  grind [tm_extT,plain_s]
 .rw[Q1 o,q0 oM,Q1 p] at h;exact absurd (letter hu p 35 _ h.symm) dC
 .grind [vecL]
 .rw[q0 oM,Q1 o,Q1 p] at h;exact absurd (letter hs o 35 _ h) dC
 .rw[q0 oM,Q1 o,q0 oM,Q1 p] at h;obtain⟨w,b1⟩:=plain_ab j oM;obtain⟨a2,b2⟩:=plain_ab d oM;refine tm_extT oM oM oM ?_ (by grind);have:=GQ.1 h;have k:t.s=⟨t.s.data⟩:=rfl;have f:u.s=⟨u.s.data⟩:=rfl;rw[k,f,this]
 .grind
 .grind [vecL]
 .grind
 grind [plain_ab,tm_extT,plain_s]
theorem kids_inj:∀{ks us:List Tm} {r s:List UInt8},ks.length=us.length->(∀k,k∈ks->∀u,u∈us->∀r s,Stop r->Stop s->textL k++r=textL u++s->k=u/\r=s)->
  (ks.map textL).flatMap (λx=>32::x)++41::r=(us.map textL).flatMap (λx=>32::x)++41::s->ks=us/\r=s
 |[],[],r,s,_,_,h=>by
  grind
 |[],_::_,_,_,b,_,_=>by simp at b
 |_::_,[],_,_,b,_,_=>by simp at b
 |k::ks,u::us,r,s,b,c,h=>by
  simp only[GG,List.flatMap_cons,GM,Gi,Gn,k6] at h;have st:∀(l:List Tm) (r:List UInt8),Stop ((l.map textL).flatMap (λx=>32::x)++41::r):=λl r=>by
   cases l with
   |nil=>exact stop_cons (.inr rfl)
   |cons a l=>exact stop_cons (.inl rfl)
  obtain⟨he,h⟩:=c k gl u gl _ _ (st _ _) (st _ _) h;obtain⟨rfl,e⟩:=kids_inj (by grind) (λk d u hu=>c k (gq _ d) u (gq _ hu)) h
  grind
theorem text_inj' (i:declOk ds=true):∀t:Tm,sortM ds t≠ -1->∀u:Tm,sortM ds u≠ -1->∀r s,Stop r->Stop s->textL t++r=textL u++s->t=u/\r=s:=by
 refine Tm.ind λt J hs u hu r s U I h=>?_;obtain⟨ar,pl,op⟩:=right_op hs;obtain⟨B,P,p⟩:=right_op hu;have comp:∀{v:Tm},¬(v.op=20\/v.op=21\/v.op=24)->textL v=40::(wordL v.op++((if v.op=22 then 32::(digL v.a++32::digL v.b) else[])++((v.ks.map textL).flatMap (λx=>32::x)++[41]))):=λ{v} z=>by
  rw[textL_eq];grind [textF]
 by_cases lt:t.op=20\/t.op=21\/t.op=24
 .obtain⟨_,f1,f2,f3⟩:=atom_text i hs lt;by_cases lu:u.op=20\/u.op=21\/u.op=24
  .grind [atom_text,atom_cancel,atom_inj]
  .exfalso;rw[comp lu] at h
   match H:textL t,f2 with
   |c::q,_=>
    grind
 .by_cases lu:u.op=20\/u.op=21\/u.op=24
  .exfalso;obtain⟨_,g1,g2,g3⟩:=atom_text i hu lu;rw[comp lt] at h
   match H:textL u,g2 with
   |c::q,_=>
    grind
  .rw[comp lt,comp lu] at h;simp only[GM,Gi,Gn,k6,Gj] at h;have na:=node_arity op lt;have M:=node_arity p lu;have kst:∀{l:List Tm} {q:List UInt8},1<=l.length->∃A,(l.map textL).flatMap (λx=>32::x)++41::q=32::A:=λ{l q} n=>by
    cases l with
    |nil=>simp at n
    |cons a l=>grind
   have st:∀{v:Tm} {q:List UInt8},1<=v.ks.length->Stop ((if v.op=22 then 32::(digL v.a++32::digL v.b) else[])++((v.ks.map textL).flatMap (λx=>32::x)++41::q)):=λ{v q} n=>by
    split
    .exact stop_cons (.inl rfl)
    .obtain⟨A,e⟩:=kst (q:=q) n
     grind [stop_cons]
   have N:(((⟨t.op.toNat,oM⟩:Fin 28):Nat):Int)=t.op:=(by grind);have O:(((⟨u.op.toNat,oM⟩:Fin 28):Nat):Int)=u.op:=(by grind);have f:=word_free ⟨t.op.toNat,oM⟩;have g:=word_free ⟨u.op.toNat,oM⟩;rw[N] at f;rw[O] at g;obtain⟨hw,h⟩:=atom_cancel f g (st (v:=t) oM) (st (v:=u) oM) h;have o:=word_ne ⟨t.op.toNat,oM⟩ oM oM;have G:=word_inj ⟨t.op.toNat,oM⟩ ⟨u.op.toNat,oM⟩ (by grind) o;have w:t.op=u.op:=by
    omega
   have j:t.a=u.a/\t.b=u.b/\(t.ks.map textL).flatMap (λx=>32::x)++41::r=(u.ks.map textL).flatMap (λx=>32::x)++41::s:=by
    by_cases d:t.op=22
    .rw[Q1 d,Q1 oM] at h;simp only[GM,Gi,Gn,k6] at h;have c1:=cut_ab i hs d;have c2:=cut_ab i hu oM;have da:∀{x:Int},0<=x->x<4->Free (digL x):=λ{x} C E=>by
      have:=dig_free ⟨x.toNat,oM⟩
      grind
     have di:∀{x y:Int},0<=x->x<4->0<=y->y<4->digL x=digL y->x=y:=λ{x y} C E D F he=>by
      have:=dig_inj ⟨x.toNat,oM⟩ ⟨y.toNat,oM⟩ (by
       grind)
      grind
     obtain⟨Q,h⟩:=atom_cancel (da oM oM) (da oM oM) (stop_cons (.inl rfl)) (stop_cons (.inl rfl)) h;simp only[Gn,k6] at h;obtain⟨V,K⟩:=kst (l:=t.ks) (q:=r) oM;obtain⟨W,L⟩:=kst (l:=u.ks) (q:=s) oM;obtain⟨R,h⟩:=atom_cancel (da oM oM) (da oM oM) (by rw[K];exact stop_cons (.inl rfl)) (by rw[L];exact stop_cons (.inl rfl)) h
     grind
    grind [plain_ab]
   obtain⟨S,T,h⟩:=j;obtain⟨m,e⟩:=kids_inj (by
    grind) (λk m v z=>J k m ((sort_parts hs).2.1 k m) v ((sort_parts hu).2.1 v z)) h
   grind [tm_extT,plain_s]
theorem text_inj (b:declOk ds=true) (hs:sortM ds t≠ -1) (hu:sortM ds u≠ -1) (h:textL t=textL u):t=u:=
 (text_inj' b t hs u hu [] [] (λc a=>by cases a) (λc a=>by cases a) (by grind)).1
end
end Go.M
end
namespace Go.Proofs.YtfnpmncplaibiaaGreatDoor
open Go Go.Vc Go.Proofs
section
variable {w:World} {K:oK} {F Fx X Q:oA} {n:Nat} {v:Value}
theorem dcl_small {ds:List M.Dcl} (a:M.declOk ds=true) {i:Nat} (hi:i<=ds.length):0<=M.bitT ds i/\M.bitT ds i<=16:=by
 have c:=(M.decl_iff.1 a).1;induction i with
 |zero=>exact⟨Pt _,show(0:Int)<=16 by decide⟩
 |succ i b=>
  have:=b oM;have hw:=M.dcl_wide a (i:=i) oM;rw[M.bitT_succ oM];have key:M.bitT ds i<=4*(i:Int):=by
   clear b this;induction i with
   |zero=>exact Pt _
   |succ j ihj=>
    have hw:=M.dcl_wide a (i:=j) oM;have:=ihj oM (M.dcl_wide a oM);rw[M.bitT_succ oM];omega
  omega
theorem bitsOf_spec {dv:Value} {ds:List M.Dcl} (l:DclsR Fx w dv ds) (d:M.declOk ds=true) (o:∀w',Ext w w'->K (nI (M.bits ds)) w'):vcall Uy #[dv] w K:=by
 refine ze {loops:=[(3,[3,8])]} Tryz.func129 ?_;simp only[push_cast,l.len];have k:=(M.decl_iff.1 d).1;refine vloop_up ds.length (λi u w'=>u=[nI (M.bitT ds i),nI i]/\Ext w w') ⟨rfl,Same.refl _ _⟩ ?_;rintro i _ _ w2 C hi ⟨rfl,c⟩ n;have e:=l.ext c;refine oZ ?_;refine zb (λa=>?_) (λa=>?_)
 .have b:i<ds.length:=oM;simp(disch:=exact oS) only[push_cast,e.iaddr,e.load];refine zh qz λb1 v p f r m=>?_;refine stDecl m λt j _ k=>?_;have g:Ext w2 t:=Ext.then f j λy s=>by subst s;omega
  have q:=dcl_small d hi;have h:=dcl_small d (i:=i+1) b;rw[M.bitT_succ b] at h;simp(disch:=exact oS) only[push_cast,k.ld1,zj];refine n b _ _ ⟨?_,c.trans g⟩;rw[M.bitT_succ b];simp
 .have:i=ds.length:=oM;subst this;rw[M.bitT_all];exact o w2 c
theorem nameB_take {ds:List M.Dcl} {k j:Nat} {wd top:Int} (c:(j:Int)<wd) (hw:wd=(ds.getD k (M.nada,0)).2) (b:top=2+M.bits (ds.take k)):(M.nameB ds k).take (j+1)=(M.nameB ds k).take j++[top+(wd-1-j)]:=by
 have a:j<(M.nameB ds k).length:=by rw[M.nameB_len];omega
 rw[M.take_add a 0];congr 1;unfold M.nameB;rw[X0,GK,PA oM];show[2+M.bits (ds.take k)+(ds.getD k (M.nada,0)).2-1-(j:Int)]=[top+(wd-1-(j:Int))];rw[b,hw];congr 1;omega
theorem inputs_spec {bl:Nat} {r:List Value} {dv:Value} {ds:List M.Dcl} {s:ByteArray} {x0:Value} (T:Blk w bl (x0::dv::r) yo) (N:DclsR Fx w dv ds) (f:M.declOk ds=true) (hs:0<=M.findD ds s)
  (L:∀w' r,Ext w w'->OwnI zf w' r (M.nameB ds (M.findD ds s).toNat)->(∀b,r.ownBlock=some b->w.heap.size<=b)->K r w'):vcall ZY #[oP bl 0,.string s] w K:=by
 refine ze {loops:=[(3,[5,15]),(8,[8,9])]} Tryz.func198 ?_;simp only[push_cast,T.ld1,N.len];have h4:=(M.decl_iff.1 f).1;have a0:=M.findD_lt ds s;refine vloop_up ds.length (λi u w'=>u=[nI (2+M.bitT ds i),nI i]/\Ext w w'/\i<=(M.findD ds s).toNat) ⟨rfl,Same.refl _ _,gY _⟩ ?_;rintro i _ _ w2 C hi ⟨rfl,k,Z⟩ U;have q:=N.ext k;refine oZ ?_;have d:i<ds.length:=oM
 refine zb (λa=>?_) (λa=>oM);simp(disch:=exact oS) only[push_cast,q.iaddr,q.load];refine zh qz λb1 w3 W D a3 S=>?_;refine stDecl S λw4 J _ o=>?_;have t:Ext w2 w4:=Ext.then D J λy hy=>by subst hy;omega
 have a2:=dcl_small f hi;have H:=dcl_small f (i:=i+1) d;rw[M.bitT_succ d] at H;have Q:=M.dcl_wide f d;simp(disch:=exact oS) only[push_cast,o.ld0,o.ld1,zj];refine zb (λe=>?_) (λe=>?_)
 .have E:i=(M.findD ds s).toNat:=by
   by_cases c:i=(M.findD ds s).toNat
   .exact c
   .have R:=M.dcl_apart f (i:=(M.findD ds s).toNat) (j:=i) oM oM;exact absurd (e.trans (M.findD_get hs).symm) R
  rw[<-E] at L;have B:M.bitT ds i=M.bits (ds.take i):=rfl;generalize V:(ds.getD i (M.nada,0)).2=wd at*;refine kz (λm u w'=> ∃j r,u=[r,nI ((m:Int)-1)]/\(m:Int)+(j:Nat)=wd/\Ext w w'/\OwnI zf w' r ((M.nameB ds i).take j)/\∀b,r.ownBlock=some b->w.heap.size<=b) wd.toNat
   ⟨0,_,by rw[show((wd.toNat:Nat):Int)=wd by omega],oM,k.trans t,OwnI.nil,λb p=>by cases p⟩ ?_
  rintro m _ _ w5 C5 ⟨j,r,rfl,a1,v,n,l⟩ A;refine oZ ?_;refine zb (λY=>?_) (λO=>?_)
  .simp(disch:=omega) only[push_cast,zj];refine zC yE y9 yi rfl rfl λb6 w6 X x a4 z=>?_;have g:=v.trans x;have hz:=g.size;have hle:((M.nameB ds i).take j).length<=16:=by rw[gg,M.nameB_len];omega
   refine(n.ext x).app1 yF z oM oM λr7 w7 G I F=>?_
   try simp(disch:=omega) only[push_cast,zj]
   refine A (m-1) _ _ oM ⟨j+1,r7,?_,oM,Ext.then g I λb p=>l b p,?_,λb p=>(F b p).elim (l b) λh=>oM⟩
   .rw[show((m-1:Nat):Int)=(m:Int)-1 by omega]
   .rw[nameB_take (wd:=wd) (top:=2+M.bits (ds.take i)) oM V.symm rfl,<-B];rw[show(2+M.bitT ds i+(wd-1-j))=2+M.bitT ds i+((m:Int)-1) by omega];exact G
  .rw[gC (by rw[M.nameB_len];omega)] at n;exact L w5 r v n l
 .refine U d _ _ ⟨?_,k.trans t,?_⟩
  .rw[M.bitT_succ d];simp;omega
  .have:i≠(M.findD ds s).toNat:=λh=>e (by rw[h];exact M.findD_get hs);omega
end
end Go.Proofs.YtfnpmncplaibiaaGreatDoor
namespace Go.Proofs.YtfnpmncplaibiaaGreatDoor
open Go Go.Vc Go.Proofs Go.Shelf
section
variable {w:World} {K:oK} {F X Q:oA}
def YF0:ByteArray:=⟨#[48,49,50,51,52,53,54,55,56,57,97,98,99,100,101,102,103,104,105,106,107,108,109,110,111,112,113,114,115,116,117,118,119,120,121,122]⟩
theorem digit_text:∀k:Fin 10,(YF0.extract k.1 (k.1+1)).data.toList=M.digL (k.1:Int):=by decide+kernel
theorem Itoa_spec {k:Nat} (c:k<10) (b:∀s:ByteArray,s.data.toList=M.digL (k:Int)->K (.string s) w):vcall jc #[nI k] w K:=by
 refine ze {} Tryz.func194 ?_;refine ze {} Tryz.func240 ?_;refine ze {cuts:=[(12292,[]),(28680,[6])]} Tryz.func282 ?_;refine oZ ?_;refine zb (λ_=>?_) (λh=>absurd trivial h);refine zp (λ_ _=>False) ?_ (λ_ _ _ h=>h.elim);intro J d;refine zb (λ_=>?_) (λh=>oM);refine zb (λ_=>?_) (λh=>oM);refine ze {} Tryz.func306 ?_;simp(disch:=omega) only[push_cast,zj];refine zb (λ_=>?_) (λh=>oM);have a:YF0.size=36:=by decide+kernel
 show xd xi (.string YF0) _ _ _ w _;rw[q30 rK oM oM (by rw[a];omega)];rw[show((k:Int)).toNat=k by omega,show((k:Int)+1).toNat=k+1 by omega];exact b _ (digit_text ⟨k,c⟩)
def byV (c:UInt8):Value:= .int .u8 c.toNat
theorem qA0 {v:Value} {l:List UInt8} (h:OwnV xj w v (l.map byV)) (g:l≠[]):q60 xj xi v w K=K (.string ⟨l.toArray⟩) w:=by
 obtain⟨a,c,k,p,n,d⟩:=(OwnV.vals h).shape;have f:(l.map byV).map (λx=>[x])≠[]:=by simpa using g
 obtain⟨b,o,m,_,_,e⟩:=d f;simp only[K3] at k e;subst m;subst k;refine yb (run_convert_bytes_back w xj xi Yk ⟨b,o,none⟩ c l XJ rK rK λj i=>?_);have:=e j i 0 (byV l[j]) (by
  rw[X0,GK,GK,gk i];rfl)
 rw[yq] at this⊢;rw[pJ,G0] at this;exact this
def kf0 (n:Nat) (i:Nat):UInt8:=if n/2^i%2=1 then 49 else 48
theorem bitC_take {wd n j:Nat} (a:j<wd):((List.range wd).reverse.map (kf0 n)).take (j+1)=((List.range wd).reverse.map (kf0 n)).take j++[kf0 n (wd-1-j)]:=by
 have b:j<((List.range wd).reverse.map (kf0 n)).length:=by simpa using a
 rw[M.take_add b 0];congr 1;rw[X0,GK,List.getElem?_reverse (by simpa using a),G1,PA oM];rfl
theorem VecText_spec {wd n:Int} (C:M.vok wd n=true) (hK:∀w' s,Ext w w'->s.data.toList=M.vecL wd.toNat n.toNat->K (.string s) w'):vcall X4 #[qd wd n] w K:=by
 refine ze {loops:=[(5,[3,4])]} Tryz.func193 ?_;obtain⟨U,V,W,X⟩:=M.vok_iff.1 C;have hp:(2:Int)^wd.toNat<=16:=by
  have:=pow4 (k:=wd.toNat) oM oM;have e:=Wp wd.toNat;omega
 refine zk λb1 w1 a0 z aa g=>?_;have y:∀w':World,Blk w' b1 [nI wd,nI n] zg->∀K:oK,zt zg (oP b1 0) w' K=K (qd wd n) w':=λw' hB K=>Blk.ldAgg hB (by exact zr);rw[y w1 g];refine VecOk_spec λw2 o=>?_;rw[C];simp only[push_cast,GP];refine zC XJ rK (show yj Yk (.int .u8 0) by unfold yj;kernel_rfl) rfl rfl λb3 w3 a5 A ab I=>?_;have D:=g.ext (o.trans A);have e3:=z.trans (o.trans A);have s1:=z.size;have s2:=o.size;have S:OwnV xj w3 (.slice (some ⟨b3,0,none⟩) 1 1) ([(35:UInt8)].map byV):=Blk.own1 (t:=xj) (cs:=[byV 35]) (by rw[k40];exact I) (gY _) rfl rfl oM;simp(disch:=exact oS) only[push_cast,D.ld0,zj];refine kz (λm u w'=> ∃j r,u=[r,nI ((m:Int)-1)]/\(m:Int)+(j:Nat)=wd/\Ext w w'/\Blk w' b1 [nI wd,nI n] zg/\OwnV xj w' r ((35::((List.range wd.toNat).reverse.map (kf0 n.toNat)).take j).map byV)/\∀b,r.ownBlock=some b->w1.heap.size<=b) wd.toNat
  ⟨0,_,by rw[show((wd.toNat:Nat):Int)=wd by omega],oM,e3,D,S,λb l=>by have e:b3=b:=gd l;omega⟩ ?_
 rintro m _ _ Y Z ⟨j,r,rfl,a9,p,i,v,q⟩ L;refine oZ ?_;refine zb (λa7=>?_) (λa8=>?_)
 .rw[y Y i];rw[show n=((n.toNat:Nat):Int) by omega];refine raw_spec oM λw6 O=>?_;rw[show(m:Int)-1=((m-1:Nat):Int) by omega];refine bit_spec oM oM ?_;have step:∀(x:UInt8) (G:oK),x=kf0 n.toNat (wd.toNat-1-j)->(∀d a,Ext w a->Blk a b1 [nI wd,nI n] zg->OwnV xj a d ((35::((List.range wd.toNat).reverse.map (kf0 n.toNat)).take (j+1)).map byV)->(∀b,d.ownBlock=some b->w1.heap.size<=b)->G d a)->
    vbuildS xj 1 [(0,.int .u8 x.toNat)] w6 λt21 F=>vbi .append [xj,xj] xj [r,t21] F G:=by
   intro x G hx N;refine zC XJ rK (show yj Yk (.int .u8 0) by unfold yj;kernel_rfl) rfl rfl λb7 a a6 Q ad J=>?_;have f:=O.trans Q;have hl:((35::((List.range wd.toNat).reverse.map (kf0 n.toNat)).take j).map byV).length<=20:=by
    simp only[K3,gE,gg,PC,G1];omega
   refine(v.ext f).app1 Zl0 J rfl oM oM λr8 w8 T E R=>?_;have ac:=p.size;have z67:=f.size;refine N r8 w8 (Ext.then (p.trans f) E λb l=>by have:=q b l;omega) ((i.ext f).same E λl=>by have:=q b1 l;have:=g.lt;omega) ?_ λb l=>(R b l).elim (q b) λh=>by have:=i.lt;omega
   rw[bitC_take oM,<-hx,<-GM,gD];exact T
  have B:wd.toNat-1-j=m-1:=oM;have fin:∀d a,Ext w a->Blk a b1 [nI wd,nI n] zg->OwnV xj a d ((35::((List.range wd.toNat).reverse.map (kf0 n.toNat)).take (j+1)).map byV)->(∀b,d.ownBlock=some b->w1.heap.size<=b)->Z [d,nI (((m-1:Nat):Int)-1)] a:=λd a U V W X=>
   L (m-1) _ _ oM ⟨j+1,d,rfl,oM,U,V,W,X⟩
  refine zb (λc=>?_) (λc=>?_)
  .refine step 49 _ (by rw[B];unfold kf0;rw[Q1 c]) λd a H a2 a3 a4=>?_;rw[zj oM oM];exact fin d a H a2 a3 a4
  .refine step 48 _ (by rw[B];unfold kf0;rw[q0 c]) λd a H a2 a3 a4=>?_;rw[zj oM oM];exact fin d a H a2 a3 a4
 .rw[gC (by simp;omega)] at v;rw[qA0 v (by simp)];exact hK Y _ p rfl
theorem joinX:Builder.Extra P YtfnpmncplaibiaaGreatDoor.joinL_ren where
 sizeBuilder:=rK
 liesBuilder:=rK
 t5:=rK
 a5:=λw=>rK
 z5:=λw=>rK
 v5:=λw=>rK
 infoByte:=rK
 cellsByte:=rK
 sizeByte:=rK
 neB5:=by decide+kernel
def joinB:List (List UInt8)->List UInt8
 |[]=>[]
 |x::xs=>x++xs.flatMap λy=>32::y
theorem jK0 (xs:List (List UInt8)):Lib.join xs [32]=joinB xs:=by
 unfold Lib.join joinB;induction xs with
 |nil=>rfl
 |cons x xs a=>
  cases xs with
  |nil=>simp[List.intercalate,List.intersperse]
  |cons y ys=>
   simp only[List.intercalate,List.intersperse_cons_cons,GU] at a⊢;rw[a];simp
theorem Join_spec {v:Value} {xs:List ByteArray} (h:OwnV yX w v (xs.map .string)) (n:2<=xs.length) (y:xs.length<=1000) (g:(joinB (xs.map (·.data.toList))).length<=1000000)
  (q:∀w' s,Ext w w'->s.data.toList=joinB (xs.map (·.data.toList))->K (.string s) w'):vcall YZ #[v,.string ⟨#[32]⟩] w K:=by
 obtain⟨a,c,m,l,u,d⟩:=(OwnV.vals h).shape;have k:(xs.map Value.string).map (λx=>[x])≠[]:=by intro e;have:=congrArg List.length e;simp only[K3,pg] at this;omega
 obtain⟨b,o,r,_,t,f⟩:=d k;simp only[K3] at m f l;subst r;subst m;refine⟨rK,?_⟩;refine(Any.strings_Join_many YtfnpmncplaibiaaGreatDoor.joinL joinX b o c xs ⟨#[32]⟩ w (λj x g=>?_) t n oM l (by rw[show(⟨#[32]⟩:ByteArray).data.toList=[32] from rfl,jK0];omega)).mono ?_
 .have i:j<xs.length:=(GA.1 g).1;have:=f j i 0 (.string x) (by
   rw[X0,GK,GK,g];rfl)
  rw[yq,pJ,G0] at this;exact this
 .rintro e w' ⟨rfl,p⟩;refine q w' _ (yE0 p) ?_;rw[show(⟨#[32]⟩:ByteArray).data.toList=[32] from rfl,jK0]
end
end Go.Proofs.YtfnpmncplaibiaaGreatDoor
end
