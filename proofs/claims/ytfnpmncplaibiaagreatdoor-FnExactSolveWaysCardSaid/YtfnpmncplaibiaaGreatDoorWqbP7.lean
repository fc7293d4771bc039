import Derived.Ground.NamesProg
import Derived.Ground.SlsfProg
import Derived.Shelf.SlSortCmp.Whole1
import Derived.Shelf.Strings.OnBuilder
import Derived.Shelf.Strings.SlTrimAscii
import Derived.Shelf.SlGeneric
import Derived.Test.YtfnpmncplaibiaaGreatDoorWqbP6
/- A part of the proof. -/
set_option linter.all false
set_option maxRecDepth 9999
set_option maxHeartbeats 2000000
noncomputable section
namespace Go.Proofs
open Go.Shelf
def YtfnpmncplaibiaaGreatDoor.sortL_ren:Go.Shelf.Ren:=⟨λ|6=>347 |15=>362 |14=>361 |28=>374 |29=>329 |20=>366 |21=>367 |22=>368 |23=>369 |24=>370 |25=>371 |26=>372 |27=>373 |46=>376 |47=>377 |48=>378 |49=>379 |50=>380 |57=>381 |n=>n,λ|22=>43 |24=>3 |25=>138 |3=>3 |39=>363 |0=>0 |53=>391 |55=>289 |4=>4 |46=>431 |45=>430 |50=>169 |5=>5 |9=>9 |66=>436 |70=>263 |76=>441 |77=>176 |n=>n,λ|n=>n⟩
theorem YtfnpmncplaibiaaGreatDoor.sortL:Go.Proofs.SlLaysF.n6 Tryz.prog YtfnpmncplaibiaaGreatDoor.sortL_ren:={
 mixed:=rK
 f6:=⟨Tryz.f347.name,dC,Tryz.func347.trans (congrArg some rK)⟩
 f14:=⟨Tryz.f361.name,dC,Tryz.func361.trans (congrArg some rK)⟩
 f15:=Tryz.func362.trans (congrArg some rK)
 f20:=⟨Tryz.f366.name,dC,Tryz.func366.trans (congrArg some rK)⟩
 f21:=⟨Tryz.f367.name,dC,Tryz.func367.trans (congrArg some rK)⟩
 f22:=⟨Tryz.f368.name,dC,Tryz.func368.trans (congrArg some rK)⟩
 f23:=⟨Tryz.f369.name,dC,Tryz.func369.trans (congrArg some rK)⟩
 f24:=⟨Tryz.f370.name,dC,Tryz.func370.trans (congrArg some rK)⟩
 f25:=⟨Tryz.f371.name,dC,Tryz.func371.trans (congrArg some rK)⟩
 f26:=⟨Tryz.f372.name,dC,Tryz.func372.trans (congrArg some rK)⟩
 f27:=⟨Tryz.f373.name,dC,Tryz.func373.trans (congrArg some rK)⟩
 f28:=Tryz.func374.trans (congrArg some rK)
 f29:=Tryz.func329.trans (congrArg some rK)
 f46:=⟨Tryz.f376.name,dC,Tryz.func376.trans (congrArg some rK)⟩
 f47:=Tryz.func377.trans (congrArg some rK)
 f48:=Tryz.func378.trans (congrArg some rK)
 f49:=⟨Tryz.f379.name,dC,Tryz.func379.trans (congrArg some rK)⟩
 f50:=⟨Tryz.f380.name,dC,Tryz.func380.trans (congrArg some rK)⟩
 f57:=⟨Tryz.f381.name,dC,Tryz.func381.trans (congrArg some rK)⟩
 t0:=Tryz.underlying0
 a0:=Tryz.isAgg0
 z0:=Tryz.sizeOf0
 v0:=Tryz.zeroValue0
 t3:=Tryz.underlying3
 a3:=Tryz.isAgg3
 z3:=Tryz.sizeOf3
 v3:=Tryz.zeroValue3
 t4:=Tryz.underlying4
 a4:=Tryz.isAgg4
 z4:=Tryz.sizeOf4
 v4:=Tryz.zeroValue4
 t5:=Tryz.underlying5
 a5:=Tryz.isAgg5
 z5:=Tryz.sizeOf5
 v5:=Tryz.zeroValue5
 t9:=Tryz.underlying9
 a9:=Tryz.isAgg9
 z9:=Tryz.sizeOf9
 v9:=Tryz.zeroValue9
 t22:=Tryz.underlying43
 a22:=Tryz.isAgg43
 z22:=Tryz.sizeOf43
 v22:=Tryz.zeroValue43
 a24:=Tryz.isAgg3
 z24:=Tryz.sizeOf3
 t25:=Tryz.underlying138
 a25:=Tryz.isAgg138
 z25:=Tryz.sizeOf138
 v25:=Tryz.zeroValue138
 t39:=Tryz.underlying363
 a39:=Tryz.isAgg363
 z39:=Tryz.sizeOf363
 v39:=Tryz.zeroValue363
 t45:=Tryz.underlying430
 a45:=Tryz.isAgg430
 z45:=Tryz.sizeOf430
 v45:=Tryz.zeroValue430
 t46:=Tryz.underlying431
 a46:=Tryz.isAgg431
 z46:=Tryz.sizeOf431
 v46:=Tryz.zeroValue431
 t50:=Tryz.underlying169
 a50:=Tryz.isAgg169
 z50:=Tryz.sizeOf169
 v50:=Tryz.zeroValue169
 t53:=Tryz.underlying391
 a53:=Tryz.isAgg391
 z53:=Tryz.sizeOf391
 v53:=Tryz.zeroValue391
 t55:=Tryz.underlying289
 a55:=Tryz.isAgg289
 z55:=Tryz.sizeOf289
 v55:=Tryz.zeroValue289
 t66:=Tryz.underlying436
 a66:=Tryz.isAgg436
 z66:=Tryz.sizeOf436
 v66:=Tryz.zeroValue436
 t70:=Tryz.underlying263
 a70:=Tryz.isAgg263
 z70:=Tryz.sizeOf263
 v70:=Tryz.zeroValue263
 t76:=Tryz.underlying441
 a76:=Tryz.isAgg441
 z76:=Tryz.sizeOf441
 v76:=Tryz.zeroValue441
 t77:=Tryz.underlying176
 a77:=Tryz.isAgg176
 z77:=Tryz.sizeOf176
 v77:=Tryz.zeroValue176}
def YtfnpmncplaibiaaGreatDoor.trimL_ren:Go.Shelf.Ren:=⟨λ|160=>121 |232=>177 |231=>176 |227=>178 |234=>180 |233=>179 |236=>182 |235=>181 |228=>235 |271=>238 |151=>237 |197=>236 |120=>281 |152=>280 |260=>279 |137=>302 |119=>303 |224=>304 |225=>305 |217=>327 |266=>349 |n=>n,λ|9=>9 |4=>4 |3=>3 |5=>5 |117=>257 |116=>256 |0=>0 |124=>260 |21=>21 |105=>321 |46=>363 |119=>376 |139=>379 |138=>378 |n=>n,λ|3=>5 |4=>6 |n=>n⟩
theorem YtfnpmncplaibiaaGreatDoor.trimL:Go.Proofs.Lays.n160 Tryz.prog YtfnpmncplaibiaaGreatDoor.trimL_ren:={
 mixed:=rK
 f119:=Tryz.func303.trans (congrArg some rK)
 f120:=Tryz.func281.trans (congrArg some rK)
 f137:=Tryz.func302.trans (congrArg some rK)
 f151:=Tryz.func237.trans (congrArg some rK)
 f152:=Tryz.func280.trans (congrArg some rK)
 f160:=Tryz.func121.trans (congrArg some rK)
 f197:=Tryz.func236.trans (congrArg some rK)
 f217:=Tryz.func327.trans (congrArg some rK)
 f224:=Tryz.func304.trans (congrArg some rK)
 f225:=Tryz.func305.trans (congrArg some rK)
 f227:=Tryz.func178.trans (congrArg some rK)
 f228:=Tryz.func235.trans (congrArg some rK)
 f231:=Tryz.func176.trans (congrArg some rK)
 f232:=Tryz.func177.trans (congrArg some rK)
 f233:=Tryz.func179.trans (congrArg some rK)
 f234:=Tryz.func180.trans (congrArg some rK)
 f235:=Tryz.func181.trans (congrArg some rK)
 f236:=Tryz.func182.trans (congrArg some rK)
 f260:=Tryz.func279.trans (congrArg some rK)
 f266:=Tryz.func349.trans (congrArg some rK)
 f271:=Tryz.func238.trans (congrArg some rK)
 t0:=Tryz.underlying0
 a0:=Tryz.isAgg0
 z0:=Tryz.sizeOf0
 v0:=Tryz.zeroValue0
 t3:=Tryz.underlying3
 a3:=Tryz.isAgg3
 z3:=Tryz.sizeOf3
 v3:=Tryz.zeroValue3
 t4:=Tryz.underlying4
 a4:=Tryz.isAgg4
 z4:=Tryz.sizeOf4
 v4:=Tryz.zeroValue4
 t5:=Tryz.underlying5
 a5:=Tryz.isAgg5
 z5:=Tryz.sizeOf5
 v5:=Tryz.zeroValue5
 t9:=Tryz.underlying9
 a9:=Tryz.isAgg9
 z9:=Tryz.sizeOf9
 v9:=Tryz.zeroValue9
 t21:=Tryz.underlying21
 a21:=Tryz.isAgg21
 z21:=Tryz.sizeOf21
 v21:=Tryz.zeroValue21
 t46:=Tryz.underlying363
 a46:=Tryz.isAgg363
 z46:=Tryz.sizeOf363
 v46:=Tryz.zeroValue363
 t105:=Tryz.underlying321
 a105:=Tryz.isAgg321
 z105:=Tryz.sizeOf321
 v105:=Tryz.zeroValue321
 t116:=Tryz.underlying256
 a116:=Tryz.isAgg256
 z116:=Tryz.sizeOf256
 t117:=Tryz.underlying257
 a117:=Tryz.isAgg257
 z117:=Tryz.sizeOf257
 v117:=Tryz.zeroValue257
 t119:=Tryz.underlying376
 a119:=Tryz.isAgg376
 z119:=Tryz.sizeOf376
 t124:=Tryz.underlying260
 a124:=Tryz.isAgg260
 z124:=Tryz.sizeOf260
 v124:=Tryz.zeroValue260
 t138:=Tryz.underlying378
 a138:=Tryz.isAgg378
 z138:=Tryz.sizeOf378
 v138:=Tryz.zeroValue378
 t139:=Tryz.underlying379
 a139:=Tryz.isAgg379
 z139:=Tryz.sizeOf379
 v139:=Tryz.zeroValue379
 g3:=rK
 g4:=rK}
def YtfnpmncplaibiaaGreatDoor.joinL_ren:Go.Shelf.Ren:=⟨λ|156=>195 |165=>241 |166=>242 |169=>243 |240=>283 |241=>284 |276=>310 |277=>311 |n=>n,λ|31=>226 |9=>9 |3=>3 |4=>4 |0=>0 |20=>20 |72=>327 |76=>329 |70=>325 |37=>40 |75=>86 |127=>362 |164=>388 |5=>5 |80=>286 |n=>n,λ|n=>n⟩
theorem YtfnpmncplaibiaaGreatDoor.joinL:Go.Proofs.Lays.n156 Tryz.prog YtfnpmncplaibiaaGreatDoor.joinL_ren:={
 mixed:=rK
 f156:=Tryz.func195.trans (congrArg some rK)
 f165:=Tryz.func241.trans (congrArg some rK)
 f166:=Tryz.func242.trans (congrArg some rK)
 f169:=Tryz.func243.trans (congrArg some rK)
 f240:=Tryz.func283.trans (congrArg some rK)
 f241:=Tryz.func284.trans (congrArg some rK)
 f276:=Tryz.func310.trans (congrArg some rK)
 f277:=Tryz.func311.trans (congrArg some rK)
 t0:=Tryz.underlying0
 a0:=Tryz.isAgg0
 z0:=Tryz.sizeOf0
 v0:=Tryz.zeroValue0
 t3:=Tryz.underlying3
 a3:=Tryz.isAgg3
 z3:=Tryz.sizeOf3
 v3:=Tryz.zeroValue3
 t4:=Tryz.underlying4
 a4:=Tryz.isAgg4
 z4:=Tryz.sizeOf4
 v4:=Tryz.zeroValue4
 t9:=Tryz.underlying9
 a9:=Tryz.isAgg9
 z9:=Tryz.sizeOf9
 v9:=Tryz.zeroValue9
 t20:=Tryz.underlying20
 a20:=Tryz.isAgg20
 z20:=Tryz.sizeOf20
 v20:=Tryz.zeroValue20
 t31:=Tryz.underlying226
 a31:=Tryz.isAgg226
 z31:=Tryz.sizeOf226
 v31:=Tryz.zeroValue226
 t37:=Tryz.underlying40
 a37:=Tryz.isAgg40
 z37:=Tryz.sizeOf40
 v37:=Tryz.zeroValue40
 t70:=Tryz.underlying325
 a70:=Tryz.isAgg325
 z70:=Tryz.sizeOf325
 v70:=Tryz.zeroValue325
 t72:=Tryz.underlying327
 a72:=Tryz.isAgg327
 z72:=Tryz.sizeOf327
 v72:=Tryz.zeroValue327
 t75:=Tryz.underlying86
 a75:=Tryz.isAgg86
 z75:=Tryz.sizeOf86
 v75:=Tryz.zeroValue86
 t76:=Tryz.underlying329
 a76:=Tryz.isAgg329
 z76:=Tryz.sizeOf329
 v76:=Tryz.zeroValue329
 t127:=Tryz.underlying362
 a127:=Tryz.isAgg362
 z127:=Tryz.sizeOf362
 v127:=Tryz.zeroValue362
 t164:=Tryz.underlying388
 a164:=Tryz.isAgg388
 z164:=Tryz.sizeOf388
 v164:=Tryz.zeroValue388}
end Go.Proofs
namespace Go.Proofs.YtfnpmncplaibiaaGreatDoor
open Go Go.Vc Go.Proofs
section
variable {w:World} {K:oK} {F G:oA}
theorem dw_nil {α:Type} {p:α->Bool}:∀{l:List α},l.dropWhile p=[]↔ ∀x,x∈l->p x=true
 |[]=>by simp
 |a::l=>by
  rw[PD];split
  .rename_i h;rw[dw_nil];constructor
   .intro b x c;rcases gj.1 c with rfl|c
    .exact h
    .exact b x c
   .intro b x c;exact b x (gp _ c)
  .rename_i h;constructor
   .intro b;cases b
   .intro b;exact absurd (b a gk) h
theorem dw_head {α:Type} {p:α->Bool}:∀{l:List α},l.dropWhile p≠[]->∃x,x∈l.dropWhile p/\p x=false
 |[],h=>absurd rfl h
 |a::l,h=>by
  rw[PD] at h⊢;split
  .rename_i b;rw[X0 b] at h;exact dw_head h
  .rename_i b;exact⟨a,gk,by simpa using b⟩
theorem dw_sub {α:Type} {p:α->Bool}:∀{l:List α} {x:α},x∈l.dropWhile p->x∈l
 |[],_,h=>h
 |a::l,x,h=>by
  rw[PD] at h;split at h
  .exact gp _ (dw_sub h)
  .exact h
theorem kO0 {l cs:List UInt8}:Lib.trimS l cs=[]↔ ∀x,x∈l->cs.contains x=true:=by
 unfold Lib.trimS Lib.trimLeftS Lib.trimRightS;rw[dw_nil];constructor
 .intro h;by_cases a:∀x,x∈l->cs.contains x=true
  .exact a
  .exfalso;have b:List.dropWhile (λx=>cs.contains x) l.reverse≠[]:=λe=>a λx c=>dw_nil.1 e x (Ps.2 c);obtain⟨y,g,f⟩:=dw_head b;have d:=h y (Ps.2 g);rw[f] at d;cases d
 .intro h x c;exact h x (Ps.1 (dw_sub (Ps.1 c)))
def abc:ByteArray:=⟨#[97,98,99,100,101,102,103,104,105,106,107,108,109,110,111,112,113,114,115,116,117,118,119,120,121,122]⟩
theorem abc_in (x:UInt8):abc.data.toList.contains x=(decide (97<=x.toNat)&&decide (x.toNat<=122)):=by
 have a:∀n:Fin 256,abc.data.toList.contains (UInt8.ofNat n.1)=(decide (97<=(UInt8.ofNat n.1).toNat)&&decide ((UInt8.ofNat n.1).toNat<=122)):=by decide+kernel
 have:=a ⟨x.toNat,x.toNat_lt⟩;simpa using this
theorem yK0 {w w':World} (h:Go.RowKit.Below w.heap.size w w'):Ext w w':=⟨h.os,h.tape,h.output,h.size,λb a _=>h.block b a⟩
def yp0 (s:ByteArray):Bool:=s.data.all λc=>decide (97<=c.toNat)&&decide (c.toNat<=122)
theorem k60 {s:ByteArray} (hs:s.size<=9223372036854775807) (f:∀w' r,Ext w w'->(r=⟨#[]⟩↔yp0 s=true)->K (.string r) w'):vcall Vu #[.string s,.string abc] w K:=by
 refine⟨rK,?_⟩;refine(Any.strings_Trim_laid YtfnpmncplaibiaaGreatDoor.trimL rK s abc w hs dC (ascii_of_all dC)).mono ?_;rintro e w' ⟨rfl,g⟩;refine f w' _ (yK0 g) ?_;have c:((⟨(Lib.trimS s.data.toList abc.data.toList).toArray⟩:ByteArray)=⟨#[]⟩)↔Lib.trimS s.data.toList abc.data.toList=[]:=by
  constructor
  .intro h;have d:=congrArg (λb:ByteArray=>b.data.toList) h;simpa using d
  .intro h;rw[h]
 rw[c,kO0];unfold yp0;rw[pB];constructor
 .intro h x a;rw[<-abc_in];exact h x (pR.2 a)
 .intro h x a;rw[abc_in];exact h x (pR.1 a)
theorem stDecl {b:Nat} {x y:Value} {t:TypeId} {s:ByteArray} {n:Int} (h:Blk w b [x,y] t) (c:∀w',Same (· =b) w w'->w'.heap.size=w.heap.size->Blk w' b [.string s,nI n] t->K undef w'):zG xu (oP b 0) (.agg ⟨[.string s,nI n]⟩) w K:=
 h.stAgg rfl rK (by intro v a;simp only[gj,gC,Gn] at a;rcases a with rfl|rfl<;>rfl) c
theorem Y0 (s:ByteArray):M.nameOk s=(decide (1<=s.size)&&decide (s.size<=4)&&decide (s≠M.tru)&&yp0 s):=rfl
theorem DeclOk_spec {v:Value} {ds:List M.Dcl} (N:DclsR F w v ds) (D:∀w',Ext w w'->K (.bool (M.declOk ds)) w'):vcall UJ #[v] w K:=by
 refine ze {loops:=[(5,[3,11])],cuts:=[(32777,[])]} Tryz.func84 ?_;simp only[push_cast,N.len];refine zb (λa=>?_) (λa=>?_)
 .have:=D w (Same.refl _ _);rwa[show M.declOk ds=false from by rw[GS];intro h;have:=(M.decl_iff.1 h).1;omega] at this
 refine vloop_up ds.length (λi u w'=>u=[nI (M.bitT ds i),nI i]/\Ext w w'/\(∀j,j<i->M.dclOk ds j=true)/\ -4*(i:Int)<=M.bitT ds i/\M.bitT ds i<=4*i) ⟨rfl,Same.refl _ _,oM,by simp[M.bitT],by simp[M.bitT]⟩ ?_;rintro i _ _ w1 C hi ⟨rfl,o,q,a0,a1⟩ hC;have E:=N.ext o;refine oZ ?_;refine zb (λb=>?_) (λb=>?_)
 .have z:i<ds.length:=oM;have d:M.dclOk ds i=false->∀w',Ext w w'->K (.bool false) w':=λe w' he=>by
   have:=D w' he;rwa[show M.declOk ds=false from by rw[GS];intro h;have:=(M.decl_iff.1 h).2.1 i z;rw[e] at this;cases this] at this
  unfold M.dclOk at d;rw[Y0] at d;simp(disch:=exact oS) only[push_cast,E.iaddr,E.load];obtain⟨s,n,B⟩:∃s n,ds.getD i yG0=(s,n):=⟨_,_,rfl⟩;simp only[B] at d⊢;refine zi xL λb1 w2 U O a4 X=>?_;refine stDecl X λW R _ S=>?_;have a6:=o.size;have k:Ext w W:=Ext.then (o.trans O) R λy hy=>by subst hy;omega
  refine zp (λu w'=>u=[]/\Ext W w'/\M.nameOk s=true) (λC' L=>?_) ?_
  .simp(disch:=exact oS) only[push_cast,S.ld0,XQ Zb];refine zb (λc=>?_) (λc=>?_)
   .exact d (by rw[gm (show¬1<=s.size by omega)];simp) _ k
   refine zb (λc2=>?_) (λc2=>?_)
   .exact d (by rw[gm (show¬s.size<=4 by omega)];simp) _ k
   refine zb (λc3=>?_) (λc3=>?_)
   .exact d (by rw[show decide (s≠M.tru)=false from gm (λh=>h c3)];simp) _ k
   refine k60 oM λw4 r l V=>?_;refine oZ ?_;refine zb (λI=>?_) (λI=>?_)
   .have:yp0 s=false:=by
     rw[GS];exact λh=>I (V.2 h)
    exact d (by rw[this];simp) _ (k.trans l)
   .have J:r=⟨#[]⟩:=by
     by_cases h:r=⟨#[]⟩
     .exact h
     .exact absurd h I
    refine L _ _ ⟨rfl,l,?_⟩;rw[Y0,gz (show 1<=s.size by omega),gz (show s.size<=4 by omega),show decide (s≠M.tru)=true from gz c3,V.1 J];rfl
  .rintro u g w4 ⟨rfl,l,A⟩;have T:=S.ext l;have f:=k.trans l;have G:=N.ext f;rw[Y0] at A;rw[A] at d;rw[G.cut (by intro e;subst e;simp at z) rK oM];refine oZ ?_;have a3:(ds.take i).length=i:=by rw[gh];omega
   refine Jk (p:=λj=>decide (((ds.take i).getD j yG0).1=s)) (G.taken oM) (λj hj=>?_) λw5 m=>?_
   .intro w' K he D;refine oZ ?_;refine ze {} Tryz.func123 ?_;refine zj λb3 w6 a2 H a5 Z=>?_;have h7:=(T.ext he).ext H;simp(disch:=exact oS) only[push_cast,Z.ld0,h7.ld0];exact D _ H
   .rw[<-XG];have Y:=T.ext m;have efd:idxI (ds.take i).length (λj=>decide (((ds.take i).getD j yG0).1=s))=M.findD (ds.take i) s:=rfl;rw[efd];refine zb (λc=>?_) (λc=>?_)
    .exact d (by rw[gm (show¬M.findD (ds.take i) s<0 by omega)];simp) _ (f.trans m)
    simp(disch:=exact oS) only[push_cast,Y.ld1];refine zb (λc1=>?_) (λc1=>?_)
    .exact d (by rw[gm (show¬1<=n by omega)];simp) _ (f.trans m)
    refine zb (λc2=>?_) (λc2=>?_)
    .exact d (by rw[gm (show¬n<=4 by omega)];simp) _ (f.trans m)
    have t:=M.bitT_succ z;rw[show ds.getD i (M.nada,0)=(s,n) from B] at t;rw[zk (x:=M.bitT ds i+n) oM oM,inc64' oM,show M.bitT ds i+n=M.bitT ds (i+1) from t.symm];refine hC oM _ _ ⟨rfl,f.trans m,λj hj=>?_,oM,oM⟩;by_cases e:j=i
    .subst e;unfold M.dclOk;rw[show ds.getD j (M.nada,0)=(s,n) from B,Y0,A];simp only[pL,gg,V0];exact⟨⟨oM,oM⟩,oM⟩
    .exact q j oM
 .have Q:i=ds.length:=oM;subst Q;have:=D w1 o;rw[M.bitT_all];have e:M.declOk ds=decide (M.bits ds<=8):=by
   rw[P9,M.decl_iff,V0];exact⟨λh=>h.2.2,λh=>⟨oM,q,h⟩⟩
  rwa[e] at this
theorem EnvOk_spec {v ev:Value} {ds:List M.Dcl} {env:oI} (p:DclsR F w v ds) (x:Ints G w ev env) (r:∀w',Ext w w'->K (.bool (M.envOk ds env)) w'):vcall yo0 #[v,ev] w K:=by
 refine ze {loops:=[(4,[19])],cuts:=[(8195,[])]} Tryz.func139 ?_;have A:=p.small;refine zp (λu w'=>u=[]/\Ext w w'/\M.declOk ds=true/\env.length=ds.length) (λC q=>?_) ?_
 .refine DeclOk_spec p λw1 c=>?_;have s:=p.ext c;have l:=x.ext c;have f:=r w1 c;unfold M.envOk at f;refine oZ ?_;refine zm (λa=>?_) (λa=>?_)
  .rw[show M.declOk ds=false by simpa using a] at f;exact f
  .rw[gW] at a;simp only[push_cast,l.len,s.len];refine zb (λb=>?_) (λb=>?_)
   .rw[a,gm (show¬env.length=ds.length by omega)] at f;exact f
   .exact q _ _ ⟨rfl,c,a,oM⟩
 .rintro u g w1 ⟨rfl,c,t,z⟩;have l:=x.ext c;simp only[push_cast,l.len];refine vloop_up env.length (λi u w'=>u=[nI i]/\Ext w w'/\∀j,j<i->M.vok (ds.getD j yG0).2 (env.getD j 0)=true) ⟨rfl,c,oM⟩ ?_;rintro i _ _ w2 C hi ⟨rfl,d,k⟩ q;have m:=p.ext d;have o:=x.ext d;refine oZ ?_;refine zb (λa=>?_) (λa=>?_)
  .simp(disch:=exact oS) only[push_cast,o.iaddr,o.load,m.iaddr]
   try simp(disch:=exact oS) only[push_cast,m.load1]
   refine VecOk_spec λB n=>?_;refine oZ ?_;refine zm (λb=>?_) (λb=>?_)
   .have f:=r B (d.trans n);rwa[show M.envOk ds env=false from by
     rw[GS];intro h;have:=(M.env_ok h).2.2 i oM;rw[this] at b;cases b] at f
   .rw[inc64' oM];refine q oM _ _ ⟨rfl,d.trans n,λj y=>?_⟩;by_cases e:j=i
    .subst e;simpa using b
    .exact k j oM
  .have f:=r w2 d;rwa[show M.envOk ds env=true from by
    simp only[M.envOk,gg,gQ,gJ,V0];exact⟨⟨t,z⟩,λj y=>k j oM⟩] at f
theorem TermSort_spec {dv v:Value} {ds:List M.Dcl} {t:M.Tm} (r:DclsR F w dv ds) (z:TermR G w v t) (q:∀w',Ext w w'->K (nI (M.tsort ds t)) w'):vcall KN #[dv,v] w K:=by
 refine ze {} Tryz.func87 ?_;obtain⟨cs,rfl,c⟩:=z.cells;refine zj λb1 w1 u g y n=>?_;rw[n.ldAgg (t:=za) (by rw[zV c];exact zc)];refine TermMany_spec (c.ext g).term λw2 i=>?_;refine oZ ?_;have e:=g.trans i;refine DeclOk_spec (r.ext e) λA j=>?_;have f:=e.trans j;have m:=q A f;unfold M.tsort at m;refine oZ ?_;refine zm (λa=>?_) (λa=>?_)
 .rwa[y3 (λh=>by rw[h.2] at a;cases a)] at m
 .rw[gW] at a;refine zb (λb=>?_) (λb=>?_)
  .rw[y3 (λh=>by
    have n:=M.fits_iff.1 h.1;unfold M.manyM at b;rw[X0 h.1] at b;omega)] at m
   exact m
  .have x:M.fits t=true:=by
    by_cases h:M.fits t=true
    .exact h
    .unfold M.manyM at b;rw[y3 h] at b;omega
   refine zd λC k _=>?_;have p:=((n.ext i).ext j).ext k;rw[p.ldAgg (t:=za) (by rw[zV c];exact zc)];refine⟨rfl,WG λD mb l hm=>?_⟩;have s:=p.ext l;rw[s.ldAgg (t:=za) (by rw[zV c];exact zc)];have d:=(f.trans k).trans l;refine⟨⟨rfl,rfl⟩,sortOf_spec t hm (r.ext d) a (c.ext d).term λB o=>?_⟩;have:=q B (d.trans o);unfold M.tsort at this;rwa[X0 ⟨x,a⟩] at this
end
section
variable {w:World} {K:oK} {F G:oA}
theorem l2Name_spec {s:ByteArray} (hs:s.size<=9223372036854775807) (d:K (.bool (M.nameOk s)) w):vcall Uj #[.string s] w K:=by
 refine ze {loops:=[(2,[3])]} Tryz.func104 ?_;rw[Y0] at d;refine vloop_up s.size (λi u w'=>u=[nI i]/\w'=w/\∀j,j<i->(decide (97<=(s.data.getD j 0).toNat)&&decide ((s.data.getD j 0).toNat<=122))=true) ⟨rfl,rfl,oM⟩ ?_;rintro i _ _ w1 C hi ⟨rfl,rfl,g⟩ o;simp(disch:=exact oS) only[push_cast,XQ Zb];have l:i<s.size->(decide (97<=(s.data.getD i 0).toNat)&&decide ((s.data.getD i 0).toNat<=122))=false->yp0 s=false:=λf h=>by
  rw[GS];intro k;unfold yp0 at k;rw[pB] at k;have m:i<s.data.size:=f;have:=k (s.data.getD i 0) (by rw[gX,GB m];exact Array.getElem_mem m);rw[h] at this;cases this
 refine zb (λa=>?_) (λa=>?_)
 .have f:i<s.size:=oM;rw[vindex_str Zb oM oM,gu];refine oZ ?_;refine zb (λb=>?_) (λb=>?_)
  .rw[l f (by rw[gm (show¬97<=(s.data.getD i 0).toNat by omega)];rfl),pW] at d;exact d
  rw[vindex_str Zb oM oM,gu];refine oZ ?_;refine zb (λc=>?_) (λc=>?_)
  .rw[l f (by rw[gm (show¬(s.data.getD i 0).toNat<=122 by omega)];simp),pW] at d;exact d
  rw[inc64' oM];refine o f _ _ ⟨rfl,rfl,λj n=>?_⟩;by_cases e:j=i
  .subst e;simp only[gg,V0];omega
  .exact g j oM
 .have p:i=s.size:=oM;have k:yp0 s=true:=by
   unfold yp0;rw[pB];intro x q;obtain⟨j,n,rfl⟩:=Array.getElem_of_mem q;have:=g j (by have:s.data.size=s.size:=rfl;omega);rwa[gX,GB n] at this
  rw[k,PU] at d
  try simp(disch:=exact oS) only[push_cast,XQ Zb]
  refine zb (λb=>?_) (λb=>?_)
  .refine zb (λc=>?_) (λc=>?_)
   .rw[gz (show 1<=s.size by omega),gz (show s.size<=4 by omega)] at d;exact d
   .rw[gm (show¬s.size<=4 by omega)] at d;simpa using d
  .rw[gm (show¬1<=s.size by omega)] at d;simpa using d
theorem l2Find_spec {v:Value} {ds:List M.Dcl} {s:ByteArray} (f:DclsR F w v ds) (d:K (nI (M.findD ds s)) w):vcall Uk #[v,.string s] w K:=by
 refine ze {loops:=[(2,[5])]} Tryz.func105 ?_;have k:=f.small;refine vloop_up ds.length (λi u w'=>u=[nI i]/\w'=w/\∀j,j<i->(ds.getD j yG0).1≠s) ⟨rfl,rfl,oM⟩ ?_;rintro i _ _ w1 C hi ⟨rfl,rfl,c⟩ g;simp only[push_cast,f.len];refine zb (λa=>?_) (λa=>?_)
 .try simp(disch:=exact oS) only[push_cast,f.iaddr]
  try simp(disch:=exact oS) only[push_cast,f.load0]
  refine zb (λb=>?_) (λb=>?_)
  .rw[M.findD_of oM b c] at d;exact d
  .rw[inc64' oM];refine g oM _ _ ⟨rfl,rfl,λj h=>?_⟩;by_cases e:j=i
   .subst e;exact b
   .exact c j oM
 .rw[M.findD_none (λj h=>c j oM)] at d;exact d
theorem spec_DeclOk_spec {v:Value} {ds:List M.Dcl} (E:DclsR F w v ds) (D:∀i,i<ds.length->(ds.getD i yG0).1.size<=9223372036854775807) (A:∀w',Ext w w'->K (.bool (M.declOk ds)) w'):vcall Us #[v] w K:=by
 refine ze {loops:=[(5,[3,4])]} Tryz.func68 ?_;simp only[push_cast,E.len];refine zb (λa=>?_) (λa=>?_)
 .have:=A w (Same.refl _ _);rwa[show M.declOk ds=false from by rw[GS];intro h;have:=(M.decl_iff.1 h).1;omega] at this
 refine vloop_up ds.length (λi u w'=>u=[nI (M.bitT ds i),nI i]/\Ext w w'/\(∀j,j<i->M.dclOk ds j=true)/\ -4*(i:Int)<=M.bitT ds i/\M.bitT ds i<=4*i) ⟨rfl,Same.refl _ _,oM,by simp[M.bitT],by simp[M.bitT]⟩ ?_;rintro i _ _ w1 C hi ⟨rfl,p,m,H,I⟩ G;have r:=E.ext p;simp only[push_cast,r.len];refine zb (λb=>?_) (λb=>?_)
 .have g:i<ds.length:=oM;have f:M.dclOk ds i=false->∀w',Ext w w'->K (.bool false) w':=λe w' he=>by
   have:=A w' he;rwa[show M.declOk ds=false from by rw[GS];intro h;have:=(M.decl_iff.1 h).2.1 i g;rw[e] at this;cases this] at this
  unfold M.dclOk at f;refine zd λw2 t _=>?_;have d:=r.ext t;have k:=p.trans t;simp(disch:=exact oS) only[push_cast,d.iaddr,k5];simp(disch:=exact oS) only[push_cast,d.load0,d.load1,k5];have y:=D i g;have o:=M.bitT_succ g;obtain⟨s,n,l⟩:∃s n,ds.getD i yG0=(s,n):=⟨_,_,rfl⟩;rw[show ds.getD i (M.nada,0)=(s,n) from l] at o;simp only[l] at f y⊢;refine l2Name_spec y ?_;simp only[push_cast,k5];refine zm (λc=>?_) (λc=>?_)
  .exact f (by rw[show M.nameOk s=false by simpa using c];simp) _ k
  rw[gW] at c;rw[c] at f;have ecut:∀(w:World) (K:oK),xy yC v none (some (nI (i:Int))) none w K=K (cutV v i) w:=λw K=>d.cut (by intro e;subst e;simp at g) rK oM;have z:∀(K:oK),zu yx (oE ((eaddr v 2 i).add 0)) w2 K=K (.string s) w2:=λK=>(by rw[d.load0 kY0 g,l]);have q:∀(K:oK),zu zE (oE ((eaddr v 2 i).add 1)) w2 K=K (nI n) w2:=λK=>by rw[d.load1 Jy g,l]
  try simp(disch:=exact oS) only[push_cast,d.iaddr,k5]
  try simp(disch:=exact oS) only[push_cast,d.iaddr,z,q,ecut,k5]
  refine zb (λc1=>?_) (λc1=>?_)
  .exact f (by rw[gm (show¬1<=n by omega)];simp) _ k
  refine zb (λc2=>?_) (λc2=>?_)
  .exact f (by rw[gm (show¬n<=4 by omega)];simp) _ k
  refine l2Find_spec (d.taken oM) ?_;simp only[push_cast,k5];refine zb (λc3=>?_) (λc3=>?_)
  .exact f (by rw[gm (show¬M.findD (ds.take i) s<0 by omega)];simp) _ k
  try simp(disch:=exact oS) only[push_cast,d.iaddr]
  try simp(disch:=exact oS) only[push_cast,q]
  rw[zk (x:=M.bitT ds i+n) oM oM,inc64' oM,show M.bitT ds i+n=M.bitT ds (i+1) from o.symm];refine G oM _ _ ⟨rfl,k,λj J=>?_,oM,oM⟩;by_cases e:j=i
  .subst e;unfold M.dclOk;rw[show ds.getD j (M.nada,0)=(s,n) from l,c];simp only[pL,gg,V0];exact⟨⟨oM,oM⟩,oM⟩
  .exact m j oM
 .have B:i=ds.length:=oM;subst B;have:=A w1 p;rw[M.bitT_all];have e:M.declOk ds=decide (M.bits ds<=8):=by
   rw[P9,M.decl_iff,V0];exact⟨λh=>h.2.2,λh=>⟨oM,m,h⟩⟩
  rwa[e] at this
theorem spec_EnvOk_spec {v ev:Value} {ds:List M.Dcl} {env:oI} (q:DclsR F w v ds) (y:∀i,i<ds.length->(ds.getD i yG0).1.size<=9223372036854775807) (A:Ints G w ev env) (s:∀w',Ext w w'->K (.bool (M.envOk ds env)) w'):vcall yi0 #[v,ev] w K:=by
 refine ze {loops:=[(4,[5])],cuts:=[(8195,[])]} Tryz.func82 ?_;have E:=q.small;refine zp (λu w'=>u=[]/\Ext w w'/\M.declOk ds=true/\env.length=ds.length) (λC r=>?_) ?_
 .refine spec_DeclOk_spec q y λw1 c=>?_;have t:=q.ext c;have z:=A.ext c;have k:=s w1 c;unfold M.envOk at k;refine oZ ?_;refine zm (λa=>?_) (λa=>?_)
  .rw[show M.declOk ds=false by simpa using a] at k;exact k
  .rw[gW] at a;simp only[push_cast,z.len,t.len];refine zb (λb=>?_) (λb=>?_)
   .rw[a,gm (show¬env.length=ds.length by omega)] at k;exact k
   .exact r _ _ ⟨rfl,c,a,oM⟩
 .rintro u g w1 ⟨rfl,c,x,D⟩;refine vloop_up ds.length (λi u w'=>u=[nI i]/\Ext w w'/\∀j,j<i->M.vok (ds.getD j yG0).2 (env.getD j 0)=true) ⟨rfl,c,oM⟩ ?_;rintro i _ _ w2 C hi ⟨rfl,d,l⟩ r;have m:=q.ext d;simp only[push_cast,m.len];refine zb (λa=>?_) (λa=>?_)
  .refine zd λI f _=>?_;have n:=m.ext f;have p:=(A.ext d).ext f;simp(disch:=exact oS) only[push_cast,p.iaddr,p.load,n.iaddr,k5]
   try simp(disch:=exact oS) only[push_cast,n.load1,k5]
   refine spec_VecOk_spec λH o=>?_;simp only[push_cast,k5];refine zm (λb=>?_) (λb=>?_)
   .have k:=s H ((d.trans f).trans o);rwa[show M.envOk ds env=false from by
     rw[GS];intro h;have:=(M.env_ok h).2.2 i oM;rw[this] at b;cases b] at k
   .rw[inc64' oM];refine r oM _ _ ⟨rfl,(d.trans f).trans o,λj B=>?_⟩;by_cases e:j=i
    .subst e;simpa using b
    .exact l j oM
  .have k:=s w2 d;rwa[show M.envOk ds env=true from by
    simp only[M.envOk,gg,gQ,gJ,V0];exact⟨⟨x,D⟩,λj B=>l j oM⟩] at k
theorem spec_TermMany_spec:∀(t:M.Tm) {w:World} {K:oK} {F:oA} {v:Value},TermR F w v t->(∀w',Ext w w'->K (.tuple #[nI (M.manyM t),nI (M.lvlM t)]) w')->vcall KB #[v] w K:=by
 refine M.Tm.ind λt ih w K F v ht R=>?_;refine ze {loops:=[(4,[4,5,6])],cuts:=[(20486,[])]} Tryz.func106 ?_;obtain⟨ksv,rfl,y⟩:=ht;refine zj λb1 w1 S B a1 O=>?_;have a2:=y.small;have hS:=M.szT_all t;have hD:=M.dpT_all t;have k:M.fits t=true↔M.sizeM t<=20/\M.deepM t<=7:=M.fits_iff;refine vloop_up t.ks.length (λi u w'=> ∃n d:Nat,u=[nI n,nI d,nI i]/\Ext w1 w'/\n<=41/\d<=8/\(1+M.szT t.ks i<=20/\M.dpT t.ks i<=7->n=1+M.szT t.ks i/\d=M.dpT t.ks i)/\(¬(1+M.szT t.ks i<=20/\M.dpT t.ks i<=7)->20<n\/7<d))
  ⟨1,0,rfl,Same.refl _ _,oM,oM,λh=>⟨rfl,rfl⟩,λh=>by
   have I:M.szT t.ks 0=0:=rfl;have e2:M.dpT t.ks 0=0:=rfl;omega⟩ ?_
 rintro i _ _ w2 C hi ⟨n,d,rfl,o,c1,c2,c3,H⟩ Q;have J:=O.ext o;have L:=B.trans o;have l:=y.ext L;have V:=M.szT_mono (ks:=t.ks) (i:=i) (j:=t.ks.length) oM (gr _);have W:=M.dpT_mono (ks:=t.ks) (i:=i) (j:=t.ks.length) oM (gr _);have I:IntKind.i64.wrap ((d:Int)+1)=((d+1:Nat):Int):=inc64' oM;have m:(20<n\/i=t.ks.length)->∀q,(q=K)->vif (.bool (decide ((20:Int)<n))) (q (.tuple #[nI 21,nI 8]) w2) (vif (.bool (decide ((7:Int)<((d+1:Nat):Int)))) (q (.tuple #[nI 21,nI 8]) w2) (q (.tuple #[nI (n:Int),nI ((d+1:Nat):Int)]) w2)):=by
  rintro a0 q rfl;have p:=R w2 L;unfold M.manyM M.lvlM at p;have c:(20<n\/7<d+1)->¬(M.fits t=true):=λh T=>by
   have N:=k.1 T;have:=c3 oM;omega
  refine zb (λa=>?_) (λa=>?_)
  .rw[y3 (c oM),y3 (c oM)] at p;exact p
  refine zb (λb=>?_) (λb=>?_)
  .rw[y3 (c oM),y3 (c oM)] at p;exact p
  .have E:i=t.ks.length:=oM;subst E;have r:M.sizeM t<=20/\M.deepM t<=7:=by
    by_cases h:1+M.szT t.ks t.ks.length<=20/\M.dpT t.ks t.ks.length<=7
    .have:=c3 h;omega
    .have:=H h;omega
   have h3:=c3 oM;rw[X0 (k.2 r),X0 (k.2 r)] at p;rw[show n=M.sizeM t by omega,show d+1=M.deepM t by omega];exact p
 refine zp (λu w'=>u=[]/\w'=w2/\i<t.ks.length/\n<=20) (λC' z=>?_) ?_
 .simp only[push_cast,J.ld4,l.len,I];refine zb (λa=>?_) (λa=>?_)
  .refine zb (λb=>?_) (λb=>?_)
   .exact z _ _ ⟨rfl,rfl,oM,oM⟩
   .exact m (.inl oM) K rfl
  .exact m (.inr oM) K rfl
 .rintro u g w3 ⟨rfl,rfl,U,hn⟩;have X:=M.szT_succ (ks:=t.ks) (i:=i) oM;have Y:=M.dpT_succ (ks:=t.ks) (i:=i) oM;have Z:=M.szT_mono (ks:=t.ks) (i:=i+1) (j:=t.ks.length) oM (gr _);simp(disch:=exact oS) only[push_cast,J.ld4,l.iaddr];refine l.load zc oM λx N=>?_;refine ih _ (M.getD_mem oM _) N λw4 D=>?_;have f:=M.fits_iff (t:=t.ks.getD i default);have G:M.manyM (t.ks.getD i default)<=21:=by
   unfold M.manyM;split
   .have:=f.1 (by assumption);omega
   .omega
  have A:M.lvlM (t.ks.getD i default)<=8:=by
   unfold M.lvlM;split
   .have:=f.1 (by assumption);omega
   .omega
  have e:M.sizeM (t.ks.getD i default)<=20/\M.deepM (t.ks.getD i default)<=7->M.manyM (t.ks.getD i default)=M.sizeM (t.ks.getD i default)/\M.lvlM (t.ks.getD i default)=M.deepM (t.ks.getD i default):=λh=>by
   unfold M.manyM M.lvlM;rw[X0 (f.2 h),X0 (f.2 h)];exact⟨rfl,rfl⟩
  have c: ¬(M.sizeM (t.ks.getD i default)<=20/\M.deepM (t.ks.getD i default)<=7)->M.manyM (t.ks.getD i default)=21/\M.lvlM (t.ks.getD i default)=8:=λh=>by
   unfold M.manyM M.lvlM;rw[y3 (λx=>h (f.1 x)),y3 (λx=>h (f.1 x))];exact⟨rfl,rfl⟩
  generalize M.manyM (t.ks.getD i default)=nk at G e c⊢;generalize M.lvlM (t.ks.getD i default)=dk at A e c⊢;refine oZ ?_;refine l1Max_spec ?_
  try simp only[push_cast]
  rw[inc64' oM,zk (x:=(n:Int)+nk) oM oM,show(n:Int)+(nk:Int)=((n+nk:Nat):Int) by omega,show max (d:Int) (dk:Int)=((max d dk:Nat):Int) by omega];refine Q oM _ _ ⟨n+nk,max d dk,rfl,o.trans D,oM,oM,λh=>?_,λh=>?_⟩
  .have:=c3 oM;have:=e oM;omega
  .by_cases r:M.sizeM (t.ks.getD i default)<=20/\M.deepM (t.ks.getD i default)<=7
   .have h5:=e r;by_cases s:1+M.szT t.ks i<=20/\M.dpT t.ks i<=7
    .have:=c3 s;omega
    .have:=H s;omega
   .have:=c r;omega
end
section
variable {w:World} {K:oK} {F G:oA}
theorem l2Arity_spec {o:Int} (f:K (nI (M.arity o)) w):vcall VJ #[nI o] w K:=by
 refine ze {cuts:=[(12293,[4])]} Tryz.func212 ?_;have d:∀c,M.arity o=c->K (nI c) w:=by grind
 refine zp (λu w'=>u=[.bool (decide (o=20\/o=21\/o=24))]/\w'=w) (λC e=>?_) ?_
 .refine oZ ?_;refine zb (λa=>?_) (λa=>?_)
  .grind
  refine zb (λb=>?_) (λb=>?_)
  .grind
  grind
 .rintro u g w1 ⟨rfl,rfl⟩;simp only[push_cast]
  repeat' first
   |exact d _ (by
    unfold M.arity;repeat' split
    all_goals omega)
   |refine zb (λ_=>?_) (λ_=>?_)
theorem l2Plain_spec {v:Value} {t:M.Tm} (x:TermR F w v t) (n:∀w',Ext w w'->K (.bool (M.formed t)) w'):vcall VI #[v] w K:=by
 refine ze {cuts:=[(8195,[]),(16389,[])]} Tryz.func147 ?_;obtain⟨ksv,rfl,m⟩:=x;refine zj λb1 w1 p f r j=>?_;have y:=n _ f;have k:M.plainM t=false->K (.bool false) w1:=λh=>by
  simp_all[M.formed]
 unfold M.plainM at k;refine zp (λu w'=>u=[]/\w'=w1/\(decide (t.op=21)||decide (t.s=M.nada))=true) (λC o=>?_) ?_
 .simp only[push_cast,j.ld0,j.ld3];refine zb (λa=>?_) (λa=>?_)
  .refine zb (λb=>?_) (λb=>?_)
   .grind [M.nada]
   grind [M.nada]
  grind
 rintro u g w2 ⟨rfl,rfl,q⟩;rw[q,PU] at k;refine zp (λu w'=>u=[]/\w'=w2/\(decide (t.op=20)||decide (t.op=22)||(decide (t.a=0)&&decide (t.b=0)))=true) (λC o=>?_) ?_
 .simp only[push_cast,j.ld0,j.ld1,j.ld2];refine zb (λa=>?_) (λa=>?_)
  .refine zb (λb=>?_) (λb=>?_)
   .refine zb (λc=>?_) (λc=>?_)
    .grind
    grind [zb]
   grind
  grind
 rintro u g z ⟨rfl,rfl,hm⟩;refine zd λA i _=>?_;have l:=j.ext i;have d:=m.ext (f.trans i);simp only[push_cast,l.ld0,l.ld4,d.len,k5];refine l2Arity_spec ?_;simp only[push_cast,l.ld4,d.len,k5,gi];have:=n _ (f.trans i);have e:M.formed t=decide ((t.ks.length:Int)=M.arity t.op):=by
  unfold M.formed M.plainM
  grind
 grind
theorem l2One_spec {v:Value} {t:M.Tm} {a:Int} (n:TermR F w v t) (q: -1<=a/\a<=4) (p:∀w',Ext w w'->K (nI (M.oneM t a)) w'):vcall ya0 #[v,nI a] w K:=by
 refine ze {cuts:=[(8194,[5]),(16388,[13]),(28679,[40])]} Tryz.func148 ?_;obtain⟨ksv,rfl,l⟩:=n;refine zj λb1 w1 i j m f=>?_;have k:∀c,M.oneM t a=c->K (nI c) w1:=by grind
 unfold M.oneM at k;refine zp (λu w'=>u=[.bool (decide (t.op=25/\a=0))]/\w'=w1) (λC h=>?_) ?_
 .simp only[push_cast,f.ld0]
  grind [zb]
 rintro u g w2 ⟨rfl,rfl⟩;refine oZ ?_;refine zb (λb=>?_) (λb=>?_)
 .grind
 refine zp (λu w'=>u=[.bool (decide (t.op=25\/a<1))]/\w'=w2) (λC h=>?_) ?_
 .simp only[push_cast,f.ld0]
  grind [zb]
 rintro u g o ⟨rfl,rfl⟩;refine oZ ?_;refine zb (λc=>?_) (λc=>?_)
 .grind
 simp only[push_cast,f.ld0];refine zb (λd=>?_) (λd=>?_)
 .refine zp (λu w'=>u=[.bool (decide (0<=t.b/\t.b<=t.a/\t.a<a))]/\w'=o) (λC h=>?_) ?_
  .simp only[push_cast,f.ld1,f.ld2]
   grind [zb]
  rintro u g r ⟨rfl,rfl⟩;refine oZ ?_;refine zb (λe=>?_) (λe=>?_)
  .simp only[push_cast,f.ld1,f.ld2]
   grind [zk]
  grind
 grind
theorem l2Both_spec {o a b:Int} (j: -1<=a/\a<=4) (h: -1<=b/\b<=4) (i:K (nI (M.bothM o a b)) w):vcall Um #[nI o,nI a,nI b] w K:=by
 refine ze {cuts:=[(12291,[8]),(24582,[21])]} Tryz.func149 ?_;have d:∀c,M.bothM o a b=c->K (nI c) w:=by grind
 unfold M.bothM at d;refine zp (λu w'=>u=[.bool (decide (o=26\/o=27))]/\w'=w) (λC f=>?_) ?_
 .simp only[push_cast]
  grind [zb]
 rintro u g w2 ⟨rfl,rfl⟩;refine oZ ?_;refine zb (λc=>?_) (λc=>?_)
 .grind [zb]
 refine zp (λu w'=>u=[.bool (decide (a<1\/b<1))]/\w'=w2) (λC f=>?_) ?_
 .grind [zb]
 rintro u g k ⟨rfl,rfl⟩;have e:IntKind.i64.wrap (a+b)=a+b:=zk oM oM;simp only[push_cast,e]
 repeat' first
  |exact d _ (by
   repeat' split
   all_goals omega)
  |refine zb (λ_=>?_) (λ_=>?_)
theorem l2Sort_spec:∀(t:M.Tm) {w:World} {K:oK} {F G:oA} {dv v:Value} {ds:List M.Dcl},DclsR F w dv ds->M.declOk ds=true->TermR G w v t->(∀w',Ext w w'->K (nI (M.sortM ds t)) w')->vcall Ui #[dv,v] w K:=by
 refine M.Tm.ind λt Q w K F G dv v ds I f X hK=>?_;refine ze {} Tryz.func107 ?_;obtain⟨ksv,rfl,l⟩:=X;refine zj λb1 w1 T q V R=>?_;have y:∀c w',M.sortM ds t=c->Ext w w'->K (nI c) w':=by grind
 rw[R.ldAgg (t:=za) zc];refine l2Plain_spec (F:=G) (t:=t) ⟨ksv,rfl,l.ext q⟩ λw2 r=>?_;have p:=q.trans r;have n:=R.ext r;refine oZ ?_;refine zm (λa=>?_) (λa=>?_)
 .grind [M.sort_bad]
 have x:M.formed t=true:=by simpa using a
 have S:=(M.formed_iff.1 x).1;have j:=I.ext p;simp only[push_cast,n.ld0];refine zb (λC=>?_) (λC=>?_)
 .have B:t.ks.length=0:=(by grind [M.arity]);have hs:=M.sort_leaf (ds:=ds) x B;simp only[push_cast,n.ld1,n.ld2];refine spec_VecOk_spec λw3 e=>?_;have o:=n.ext e;refine zm (λb=>?_) (λb=>?_)
  .simp only[push_cast,o.ld1];exact y _ _ (by simp_all[M.sortK]) (p.trans e)
  .exact y _ _ (by simp_all[M.sortK]) (p.trans e)
 refine zb (λD=>?_) (λD=>?_)
 .have B:t.ks.length=0:=(by grind [M.arity]);have hs:=M.sort_leaf (ds:=ds) x B;have U:=M.findD_lt ds t.s;simp only[push_cast,n.ld3];refine l2Find_spec j ?_
  try simp only[push_cast]
  refine zb (λb=>?_) (λb=>?_)
  .grind [M.sortK]
  .try simp(disch:=exact oS) only[push_cast,j.iaddr]
   try simp(disch:=exact oS) only[push_cast,j.load1]
   grind [M.sortK]
 refine zb (λE=>?_) (λE=>?_)
 .have B:t.ks.length=0:=(by grind [M.arity]);simp_all[M.sort_leaf,M.sortK]
 have hlen:t.ks.length=1\/t.ks.length=2\/t.ks.length=3:=by
  grind [M.arity]
 have m:=l.ext p;simp(disch:=exact oS) only[push_cast,n.ld4,m.iaddr];refine m.load zc oM λx0 L=>?_;refine Q (M.kid t 0) (M.kid_mem oM) j f L λw3 e=>?_;have o:=n.ext e;have h:=p.trans e;have d:=l.ext h;have A:=M.sort_range f (M.kid t 0);simp(disch:=exact oS) only[push_cast,o.ld4,d.len];refine zb (λY=>?_) (λY=>?_)
 .rw[o.ldAgg (t:=za) zc];refine l2One_spec (F:=G) (t:=t) ⟨ksv,rfl,d⟩ A λw4 k=>?_;exact y _ _ (M.sort_one f x oM) (h.trans k)
 simp(disch:=exact oS) only[push_cast,o.ld4,d.iaddr];refine d.load zc oM λx1 N=>?_;refine Q (M.kid t 1) (M.kid_mem oM) (I.ext h) f N λw4 k=>?_;have H:=o.ext k;have i:=h.trans k;have g:=l.ext i;have J:=M.sort_range f (M.kid t 1);simp(disch:=exact oS) only[push_cast,H.ld4,H.ld0,g.len];refine zb (λZ=>?_) (λZ=>?_)
 .refine l2Both_spec A J ?_
  grind [M.sort_two]
 have W:=M.sort_three (ds:=ds) x oM;refine zb (λz=>?_) (λz=>?_)
 .grind
 simp(disch:=exact oS) only[push_cast,H.ld4,g.iaddr];refine g.load zc oM λx2 O=>?_;refine Q (M.kid t 2) (M.kid_mem oM) (I.ext i) f O λw5 u=>?_;refine oZ ?_;refine zb (λz2=>?_) (λz2=>?_)
 .exact y _ _ oM (i.trans u)
 .exact y _ _ oM (i.trans u)
def JX (ds:List M.Dcl):Prop:=∀i,i<ds.length->(ds.getD i yG0).1.size<=9223372036854775807
theorem spec_TermSort_spec {dv v:Value} {ds:List M.Dcl} {t:M.Tm} (n:JX ds) (p:DclsR F w dv ds) (x:TermR G w v t) (o:∀w',Ext w w'->K (nI (M.tsort ds t)) w'):vcall Kz #[dv,v] w K:=by
 refine ze {} Tryz.func69 ?_;obtain⟨cs,rfl,e⟩:=x.cells;refine zj λb1 w1 s g u k=>?_;rw[k.ldAgg (t:=za) (by rw[zV e];exact zc)];refine spec_TermMany_spec t (e.ext g).term λw2 i=>?_;refine oZ ?_;have f:=g.trans i;refine spec_DeclOk_spec (p.ext f) n λy j=>?_;have d:=f.trans j;have m:=o y d;unfold M.tsort at m;refine oZ ?_;refine zm (λa=>?_) (λa=>?_)
 .grind
 rw[gW] at a;refine zb (λb=>?_) (λb=>?_)
 .rw[y3 (λh=>by
   have k:=M.fits_iff.1 h.1;unfold M.manyM at b
   grind)] at m
  exact m
 have q:M.fits t=true:=by
  grind [M.manyM]
 refine zb (λc=>?_) (λc=>?_)
 .unfold M.lvlM at c;rw[X0 q] at c;have:=M.fits_iff.1 q;omega
 have r:=(k.ext i).ext j;rw[r.ldAgg (t:=za) (by rw[zV e];exact zc)];refine l2Sort_spec t (p.ext d) a (e.ext d).term λz l=>?_;have:=o z (d.trans l);simp_all[M.tsort]
theorem XF {b:Bool} (a:K (nI (M.b2i b)) w):vcall Un #[.bool b] w K:=by
 refine ze {} Tryz.func118 ?_;refine zm (λh=>?_) (λh=>?_)<;>subst h<;>exact a
def Y40 (H:oA) (w:World) (ev:Value) (env:oI) (t:M.Tm):Prop:=Ints H w ev env\/nnB t=true
theorem qz {H:oA} {ev:Value} {env:oI} {t:M.Tm} {w w':World} (h:Y40 H w ev env t) (he:Ext w w'):Y40 H w' ev env t:=h.imp (λh=>h.ext he) id
theorem jn {H:oA} {ev:Value} {env:oI} {t k:M.Tm} (h:Y40 H w ev env t) (a:k∈t.ks):Y40 H w ev env k:=h.imp id λh=>(nnB_iff.1 h).2 k a
theorem jR0 {H:oA} {ev:Value} {env:oI} {t:M.Tm} (h:Y40 H w ev env t) (a:t.op=21):Ints H w ev env:=h.elim id λh=>absurd a (nnB_iff.1 h).1
def k90 (t:M.Tm):Prop:=∀{w:World} {K:oK} {F G H:oA} {dv v ev:Value} {ds:List M.Dcl} {env:oI},DclsR F w dv ds->M.envOk ds env=true->TermR G w v t->Y40 H w ev env t->M.sortM ds t≠ -1->(∀w',Ext w w'->K (nI (M.evalM ds env t)) w')->vcall Ul #[dv,v,ev] w K
theorem l2Vec_spec {t:M.Tm} (A:k90 t) {H:oA} {dv v ev:Value} {ds:List M.Dcl} {env:oI} (l:DclsR F w dv ds) (he:M.envOk ds env=true) (x:TermR G w v t) (z:Y40 H w ev env t) (hs:M.sortM ds t≠ -1) (p:∀w',Ext w w'->K (qe (M.sortM ds t) (M.evalM ds env t)) w'):vcall y90 #[dv,v,ev] w K:=by
 refine ze {} Tryz.func269 ?_;obtain⟨cs,rfl,c⟩:=x.cells;refine zj λb1 w1 q h s m=>?_;refine zi zY λb2 w2 r f u n=>?_;refine zd λC d _=>?_;have k:=(m.ext f).ext d;have b:=(h.trans f).trans d;have i:aggB za cs.length=true:=by rw[zV c];exact zc
 rw[k.ldAgg (t:=za) i];refine⟨rfl,?_⟩;rw[k.ldAgg (t:=za) i];refine⟨rfl,l2Sort_spec t (l.ext b) (M.env_ok he).1 (c.ext b).term λD e=>?_⟩;rw[(k.ext e).ldAgg (t:=za) i];have a:=b.trans e;refine⟨⟨rfl,rfl⟩,A (l.ext a) he (c.ext a).term (qz z a) hs λE g=>?_⟩;simp only[push_cast,k5];refine stVec (((n.ext d).ext e).ext g) λI j _ o=>?_;rw[o.lv rK];exact p _ (Ext.then (a.trans g) j λy B=>oM)
theorem l2Do_spec {t:M.Tm} (W:∀k,k∈t.ks->k90 k) {H:oA} {dv v ev:Value} {ds:List M.Dcl} {env:oI} (T:DclsR F w dv ds) (he:M.envOk ds env=true) (ht:TermR G w v t) (V:Y40 H w ev env t) (hs:M.sortM ds t≠ -1)
  (ho:(1<=t.op/\t.op<=17)\/t.op=22) (I:∀w',Ext w w'->K (nI (M.evalM ds env t)) w'):vcall xd0 #[dv,v,ev] w K:=by
 refine ze {} Tryz.func223 ?_;obtain⟨ksv,rfl,z⟩:=ht;have a3:1<=t.ks.length:=by
  rcases(by omega:t.op=22\/(t.op=1\/t.op=2)\/(3<=t.op/\t.op<=14)\/(15<=t.op/\t.op<=17)) with h|h|h|h
  .have:=(M.eval_cut he hs h).1;omega
  .have:=(M.eval_un he hs h).1;omega
  .have:=(M.eval_bin he hs h.1 h.2).1;omega
  .have:=(M.eval_cmp he hs h.1 h.2).1;omega
 refine zj λb1 w1 a0 e a7 L=>?_;have j:=z.ext e;simp(disch:=exact oS) only[push_cast,L.ld4,j.iaddr];refine j.load zc oM λx0 Q=>?_;refine l2Vec_spec (W (M.kid t 0) (M.kid_mem oM)) (T.ext e) he Q (jn (qz V e) (M.kid_mem oM)) (M.good_kid hs oM) λw2 n=>?_;refine zi zY λb2 w3 a1 x a8 h3=>?_;refine stVec h3 λw4 C _ E=>?_;have aa:=e.size;have ab:=n.size;have b:Ext w w4:=Ext.then ((e.trans n).trans x) C λy p=>oM
 have a4:=L.lt;have l:=((L.ext n).ext x).same C oM;simp only[push_cast,l.ld0];refine zb (λr=>?_) (λr=>?_)
 .obtain⟨hl,hv,o⟩:=M.eval_cut he hs r;simp only[push_cast,E.ldAgg (t:=zg) zt,l.ld1,l.ld2];refine spec_VecCut_spec λY a=>?_;refine oZ ?_;refine zi zY λb3 Z u c A s=>?_;refine stVec s λD d _ q=>?_;simp only[push_cast,q.ld1];have:=I D (Ext.then ((b.trans a).trans c) d λy p=>by subst p;have:=(b.trans a).size;omega)
  grind
 have f:=z.ext b;simp only[push_cast,l.ld4,f.len];refine zb (λl1=>?_) (λl1=>?_)
 .have i:t.op=1\/t.op=2:=by
   grind [M.eval_bin,M.eval_cmp]
  obtain⟨hl,hv,o⟩:=M.eval_un he hs i;simp only[push_cast,E.ldAgg (t:=zg) zt,l.ld0];refine spec_VecUn_spec λY a=>?_;refine oZ ?_;refine zi zY λb3 Z u c A s=>?_;refine stVec s λD d _ q=>?_;simp only[push_cast,q.ld1];have:=I D (Ext.then ((b.trans a).trans c) d λy p=>by subst p;have:=(b.trans a).size;omega)
  grind
 have i:3<=t.op/\t.op<=17:=by
  grind [M.eval_un]
 have a5:t.ks.length=2:=by
  grind [M.eval_bin,M.eval_cmp]
 simp(disch:=exact oS) only[push_cast,l.ld4,f.iaddr];refine f.load zc oM λx1 R=>?_;refine l2Vec_spec (W (M.kid t 1) (M.kid_mem oM)) (T.ext b) he R (jn (qz V b) (M.kid_mem oM)) (M.good_kid hs oM) λY a=>?_;refine zi zY λb3 Z u c A s=>?_;refine stVec s λD d _ q=>?_;have ac:=b.size;have ad:=a.size;have m:Ext w D:=Ext.then ((b.trans a).trans c) d λy p=>oM
 have a6:=E.lt;have U:=l.lt;have S:=((l.ext a).ext c).same d oM;have X:=((E.ext a).ext c).same d oM;simp only[push_cast,S.ld0];refine zb (λJ=>?_) (λJ=>?_)
 .obtain⟨_,_,_,o⟩:=M.eval_cmp he hs oM i.2;simp only[push_cast,X.ldAgg (t:=zg) zt,q.ldAgg (t:=zg) zt,S.ld0];refine spec_VecCmp_spec λw8 g=>?_;refine oZ ?_;refine XF ?_;have:=I _ (m.trans g)
  grind
 .obtain⟨_,_,_,o⟩:=M.eval_bin he hs i.1 oM;simp only[push_cast,X.ldAgg (t:=zg) zt,q.ldAgg (t:=zg) zt,S.ld0];refine spec_VecBin_spec λw8 g=>?_;refine oZ ?_;refine zi zY λb4 w9 a2 O a9 h9=>?_;refine stVec h9 λw10 B _ N=>?_;simp only[push_cast,N.ld1];have:=I w10 (Ext.then ((m.trans g).trans O) B λy p=>by subst p;have:=(m.trans g).size;omega)
  grind
theorem l2Eval_spec:∀(t:M.Tm),k90 t:=by
 refine M.Tm.ind λt B=>?_;intro w K F G H dv v ev ds env x he ht y hs Z;refine ze {} Tryz.func169 ?_;obtain⟨ksv,rfl,n⟩:=ht;refine zj λb1 w1 a0 g a5 A=>?_;have l:=n.ext g;have I:∀c w',M.evalM ds env t=c->Ext w w'->K (nI c) w':=by grind
 have Y:=M.arity_ops (o:=t.op) (by have:=(M.formed_iff.1 (M.sort_parts hs).1).1;omega);simp only[push_cast,A.ld0];refine zb (λR=>?_) (λR=>?_)
 .simp only[push_cast,A.ld2]
  grind [M.eval_leaf]
 refine zb (λD=>?_) (λD=>?_)
 .have a4:=M.findD_lt ds t.s;have a3:=M.name_found hs D;have a2:=(M.env_ok he).2.1;have p:=(jR0 y D).ext g;simp only[push_cast,A.ld3];refine l2Find_spec (x.ext g) ?_;simp(disch:=exact oS) only[push_cast,p.iaddr,p.load]
  grind [M.eval_leaf]
 refine zb (λS=>?_) (λS=>?_)
 .grind [M.eval_leaf]
 refine zb (λN=>?_) (λN=>?_)
 .obtain⟨V,P,j⟩:=M.eval_no he hs N;simp(disch:=exact oS) only[push_cast,A.ld4,l.iaddr];refine l.load zc oM λx0 J=>?_;refine B (M.kid t 0) (M.kid_mem oM) (x.ext g) he J (jn (qz y g) (M.kid_mem oM)) (M.good_kid hs oM) λw2 h=>?_;refine oZ ?_;have a1:=M.inS_zero P;rw[zk oM oM];exact I _ _ j (g.trans h)
 refine zb (λz=>?_) (λz=>?_)
 .obtain⟨V,P,Q,j⟩:=M.eval_two he hs (.inl z);rw[X0 z] at j;refine zd λw2 h _=>?_;have C:=A.ext h;have a:=g.trans h;have f:=n.ext a;simp(disch:=exact oS) only[push_cast,C.ld4,f.iaddr,k5];obtain⟨css,m,U,q⟩:=f;rw[m.ldAgg zc (i:=0) oM];simp only[k5];rw[m.ldAgg zc (i:=1) oM];simp only[k5];refine B (M.kid t 0) (M.kid_mem oM) (x.ext a) he (q 0 oM).term (jn (qz y a) (M.kid_mem oM)) (M.good_kid hs oM) λW d=>?_;have T:=C.ext d;have r:=n.ext (a.trans d);have u:=m.ext d;simp(disch:=exact oS) only[push_cast,T.ld4,r.iaddr,k5];rw[u.ldAgg zc (i:=1) oM];refine⟨⟨rfl,rfl⟩,?_⟩
  try simp only[k5,gi]
  refine B (M.kid t 1) (M.kid_mem oM) (x.ext (a.trans d)) he ((q 1 oM).ext d).term (jn (qz y (a.trans d)) (M.kid_mem oM)) (M.good_kid hs oM) λw4 E=>?_;simp only[push_cast,k5];have e:IntKind.i64.wrap (M.evalM ds env (M.kid t 0)*M.evalM ds env (M.kid t 1))=M.evalM ds env (M.kid t 0)*M.evalM ds env (M.kid t 1):=by
   rcases M.inS_zero P with e|e<;>rcases M.inS_zero Q with X|X<;>rw[e,X]<;>rfl
  rw[e];exact I _ _ j ((a.trans d).trans E)
 refine zb (λO=>?_) (λO=>?_)
 .obtain⟨V,P,Q,j⟩:=M.eval_two he hs (.inr O);rw[y3 z] at j;refine zd λw2 h _=>?_;have C:=A.ext h;have a:=g.trans h;have f:=n.ext a;simp(disch:=exact oS) only[push_cast,C.ld4,f.iaddr,k5];obtain⟨css,m,U,q⟩:=f;rw[m.ldAgg zc (i:=0) oM];simp only[k5];rw[m.ldAgg zc (i:=1) oM];simp only[k5];refine B (M.kid t 0) (M.kid_mem oM) (x.ext a) he (q 0 oM).term (jn (qz y a) (M.kid_mem oM)) (M.good_kid hs oM) λW d=>?_;have T:=C.ext d;have r:=n.ext (a.trans d);have u:=m.ext d;simp(disch:=exact oS) only[push_cast,T.ld4,r.iaddr,k5];rw[u.ldAgg zc (i:=1) oM];refine⟨⟨rfl,rfl⟩,?_⟩
  try simp only[k5,gi]
  refine B (M.kid t 1) (M.kid_mem oM) (x.ext (a.trans d)) he ((q 1 oM).ext d).term (jn (qz y (a.trans d)) (M.kid_mem oM)) (M.good_kid hs oM) λw4 E=>?_;refine l1Max_spec ?_;exact I _ _ j ((a.trans d).trans E)
 refine zb (λL=>?_) (λL=>?_)
 .obtain⟨V,P,j⟩:=M.eval_if he hs L;simp(disch:=exact oS) only[push_cast,A.ld4,l.iaddr];refine l.load zc oM λx0 J=>?_;refine B (M.kid t 0) (M.kid_mem oM) (x.ext g) he J (jn (qz y g) (M.kid_mem oM)) (M.good_kid hs oM) λw2 h=>?_;have C:=A.ext h;have a:=g.trans h;have f:=n.ext a;refine oZ ?_;refine zb (λb=>?_) (λb=>?_)
  .rw[X0 b] at j;simp(disch:=exact oS) only[push_cast,C.ld4,f.iaddr];refine f.load zc oM λx1 p=>?_;refine B (M.kid t 1) (M.kid_mem oM) (x.ext a) he p (jn (qz y a) (M.kid_mem oM)) (M.good_kid hs oM) λW d=>?_;exact I _ _ j (a.trans d)
  .rw[y3 b] at j;simp(disch:=exact oS) only[push_cast,C.ld4,f.iaddr];refine f.load zc oM λx1 p=>?_;refine B (M.kid t 2) (M.kid_mem oM) (x.ext a) he p (jn (qz y a) (M.kid_mem oM)) (M.good_kid hs oM) λW d=>?_;exact I _ _ j (a.trans d)
 .rw[A.ldAgg (t:=za) zc];refine l2Do_spec (G:=G) (t:=t) (λk I=>B k I) (x.ext g) he ⟨ksv,rfl,l⟩ (qz y g) hs oM λw2 h=>?_;exact Z _ (g.trans h)
end
section
variable {w:World} {K:oK}
@[push_cast] theorem bd_T3 (o a b:Int):yA za [(0,nI o),(1,nI a),(2,nI b)] w K=K (.agg ⟨[nI o,nI a,nI b,.string ⟨#[]⟩,oN]⟩) w:=zU jg (us:=[[nI o],[nI a],[nI b]]) rfl rfl
@[push_cast] theorem bd_T1 (o:Int):yA za [(0,nI o)] w K=K (.agg ⟨[nI o,nI 0,nI 0,.string ⟨#[]⟩,oN]⟩) w:=zU jg (us:=[[nI o]]) rfl rfl
@[push_cast] theorem bd_Tk (o:Int) (a:Option Addr) (l c:Nat):yA za [(0,nI o),(4,.slice a l c)] w K=K (.agg ⟨[nI o,nI 0,nI 0,.string ⟨#[]⟩,.slice a l c]⟩) w:=zU jg (us:=[[nI o],[.slice a l c]]) rfl rfl
theorem qh {b:Nat} {cs cs':List Value} {t:TypeId} {G:oA} {f:M.Tm} (h:Blk w b cs t) (k:cs.length=5) (c:TmR G w cs' f) (i:∀x,G x->x≠b) (j:∀w',Same (· =b) w w'->w'.heap.size=w.heap.size->TermR G w' (.agg ⟨cs'⟩) f->K (.agg ⟨cs'⟩) w'):
  zG za (oP b 0) (.agg ⟨cs'⟩) w λ_ w1=>vlv za (oP b 0) w1 λr w2=>K r w2:=by
 refine stTerm h k c λw' a d g=>?_;rw[g.lv (by rw[zV c];exact zc)];exact j w' a d (c.same a λx l _ e=>i x l e).term
theorem yr0 {G:oA} (o a b:Int) (s:ByteArray):TmR G w [nI o,nI a,nI b,.string s,oN] (.mk o a b s []):=TmR.of (t:= .mk o a b s []) TmsR.nil
end
section
variable {w:World} {K:oK} {G:oA}
theorem kidsL {css:List (List Value)} {ts:List M.Tm} (l:css.length=ts.length) (n:css.length<=100) (h:∀i,i<ts.length->TmR G w (css.getD i []) (ts.getD i default))
  (j:∀w' a,Ext w w'->w'.heap.size=w.heap.size+1->TmsR (λz=>G z\/z=w.heap.size) w' (.slice a css.length css.length) ts->K (.slice a css.length css.length) w'):
  vbuildS zl (css.map λc=>Value.agg ⟨c⟩).length ((css.map λc=>Value.agg ⟨c⟩).zipIdx.map λp=>(p.2,p.1)) w K:=by
 have d:∀u,u∈css->u.length=5:=λu hu=>by
  obtain⟨i,hi,rfl⟩:=gq hu;have:=zV (h i oM);rwa[y4,gd hi] at this
 refine vbuildS_row (us:=css) (k:=5) qC j8 zr (by rw[GV];rfl) d (by rw[K3];omega) λb w' o he hs g=>?_;rw[K3];refine j w' _ he hs ⟨css,?_,l,λi hi=>((h i hi).ext he).weaken λx f _=> .inl f⟩;have m:Own 0 5 zl w' (.slice (some ⟨b,0,none⟩) css.length css.length) css:=Blk.ownk (by rw[jX];exact g) d rfl oM;exact m.sl.weaken λx f _=> .inr (by have e:x=b:=(V1 f).symm;omega)
theorem Xc0 {v0:Value} {t0:M.Tm} (b:TermR G w v0 t0) (c:∀w' a,Ext w w'->w'.heap.size=w.heap.size+1->TmsR (λz=>G z\/z=w.heap.size) w' (.slice a 1 1) [t0]->K (.slice a 1 1) w'):vbuildS zl 1 [(0,v0)] w K:=by
 obtain⟨c0,rfl,d⟩:=b.cells;refine kidsL (css:=[c0]) (ts:=[t0]) rfl (by simp) (λi hi=>?_) c;have:i=0:=by simpa using hi
 subst this;exact d
theorem kids2 {v0 v1:Value} {t0 t1:M.Tm} (b:TermR G w v0 t0) (c:TermR G w v1 t1) (d:∀w' a,Ext w w'->w'.heap.size=w.heap.size+1->TmsR (λz=>G z\/z=w.heap.size) w' (.slice a 2 2) [t0,t1]->K (.slice a 2 2) w'):vbuildS zl 2 [(0,v0),(1,v1)] w K:=by
 obtain⟨c0,rfl,e⟩:=b.cells;obtain⟨c1,rfl,f⟩:=c.cells;refine kidsL (css:=[c0,c1]) (ts:=[t0,t1]) rfl (by simp) (λi hi=>?_) d
 match i,hi with
 |0,_=>exact e
 |1,_=>exact f
abbrev WM:List Value:=[nI 0,nI 0,nI 0,.string ⟨#[]⟩,.slice none 0 0]
end
theorem dtSize {ds:List M.Dcl} {t:M.Tm}:M.tsort ds t= -1\/(0<=M.tsort ds t/\M.tsort ds t<=4/\M.tsort ds t=M.sortM ds t/\M.fits t=true/\M.declOk ds=true):=by
 unfold M.tsort;split
 .rename_i h;have:=M.sort_range h.2 t;by_cases e:M.sortM ds t= -1
  .exact .inl e
  .exact .inr ⟨oM,oM,rfl,h.1,h.2⟩
 .exact .inl rfl
section
variable {w:World} {F:oA}
abbrev Z00 (o:Int) (ks:List M.Tm):M.Tm:= .mk o 0 0 M.nada ks
theorem Ku {o:Int} {a:Option Addr} {l c:Nat} {ks:List M.Tm} (h:TmsR F w (.slice a l c) ks):TermR F w (.agg ⟨[nI o,nI 0,nI 0,.string ⟨#[]⟩,.slice a l c]⟩) (Z00 o ks):=⟨_,rfl,h⟩
theorem Q3 {o:Int}:TermR F w (.agg ⟨[nI o,nI 0,nI 0,.string ⟨#[]⟩,oN]⟩) (Z00 o []):=Ku TmsR.nil
end
section
variable {w:World} {K:oK} {F D G:oA}
theorem flatten_setEl {k:Nat}:∀{xs:List (List Value)} (_:∀x,x∈xs->x.length=k) {i:Nat} {y:List Value},y.length=k->i<xs.length->(xs.set i y).flatten=xs.flatten.take (i*k)++y++xs.flatten.drop (i*k+k)
 |[],_,i,y,_,hi=>by simp at hi
 |x::r,h,i,y,c,hi=>by
  have e:=h x gk;cases i with
  |zero=>
   simp only[po,GR,PZ,pV,Gk,Gi];rw[List.drop_append,Pk oM,Gk,show k-x.length=0 by omega,z0f]
  |succ i=>
   simp only[PI,GR];have a:(i+1)*k=x.length+i*k:=by rw[pa];omega
   have b:x.length+i*k+k=x.length+(i*k+k):=oM;rw[flatten_setEl (λz d=>h z (gp _ d)) c (by simpa using hi),a,b,List.take_length_add_append,List.drop_length_add_append];simp only[gZ]
set_option maxRecDepth 100000 in
theorem own_stEl {v:Value} {k:Nat} {t e:TypeId} {xs:List (List Value)} {y:List Value} (h:Own 0 k t w v xs) (J:0<k) (n:y.length=k) (B:∀c,c∈y->c.oneCell'=true) (u:aggB e k=true) {i:Nat} (hi:i<xs.length)
  (C:∀w',Own 0 k t w' v (xs.set i y)->Same (λb=>v.ownBlock=some b) w w'->w'.heap.size=w.heap.size->K undef w'):zG e (oE (eaddr v k i)) (.agg ⟨y⟩) w K:=by
 have E:=flatten_len h.wide;rcases h.row with⟨H,s⟩;rcases s with⟨rfl,L⟩|⟨g,cap,cur,rfl,o,x,j,p,r,f⟩
 .omega
 .have F:i*k+k<=xs.length*k:=by rw[<-Nat.succ_mul];exact pT _ hi
  have G:xs.length*k<=cap*k:=pT _ j;have d:=run_storeCells_at (P:=P) g (i*k) (Yp t) y 0 cur w x oM B;have he:eaddr (.slice (some ⟨g,0,none⟩) xs.length cap) k i=⟨g,i*k,none⟩:=by
   simp only[eaddr,Gi]
  rw[he];have D:cur.toList.length=cap*k:=(by simpa using r);have m:(cur.toList.take (i*k+0)++y++cur.toList.drop (i*k+0+y.length)).toArray.size=cap*k:=by
   simp only[pb,Q1,gh,pk];omega
  have a:(cur.toList.take (i*k+0)++y++cur.toList.drop (i*k+0+y.length)).toArray.toList.take (xs.length*k)=(xs.set i y).flatten:=by
   rw[flatten_setEl h.wide n hi,<-f,n];simp only[G7];have I:(cur.toList.take (i*k)).length=i*k:=by rw[gh];omega
   rw[List.take_append,List.take_append,gD (l:=List.take (i*k) cur.toList) oM,gD (l:=y) oM,pr,GL oM,List.drop_take];congr 2;rw[Q1,gh];omega
  refine⟨(),_,?_,C (w.setRow g (cur.toList.take (i*k+0)++y++cur.toList.drop (i*k+0+y.length)).toArray) ⟨?_,?_⟩ ⟨rfl,rfl,rfl,by simp,λq _ A=>setRow_other w g q _ (λe=>A (by rw[e];rfl))⟩ (by simp)⟩
  .simp only[Instr.storeAt,Instr.sureAddr,Sem.run_bind,Sem.run_pure,Result.andThen_ok,storeVar,jj u,Value.cells];simp only[pb,n,z0c,not_true_eq_false,if_false];rw[n] at d;exact d
  .rw[gP];refine⟨?_,.inr ⟨g,cap,_,rfl,o,setRow_heap w g _ _ _ _ x,j,p,m,a⟩⟩;rw[<-a,gh];have:=m;simp only[pb] at this;simp only[List.toList_toArray,this];omega
  .intro z u;obtain⟨q,A,rfl⟩:=gq u;rw[pF];split
   .exact n
   .exact h.wide _ (pj _)
end
section
variable {w:World} {K:oK} {F D G:oA}
theorem getD_set {α:Type} {xs:List α} {i j:Nat} {x d:α} (hi:i<xs.length):(xs.set i x).getD j d=if i=j then x else xs.getD j d:=by
 simp only[y4,List.getElem?_set];by_cases e:i=j
 .subst e;simp[hi]
 .simp[e]
theorem vmkS_agg {bs n k:Nat} {t:TypeId} {cs:List Value} {z A:IntKind} (C:elZ t k bs=true) (G:0<k) (g:yl (Yp t) (.agg ⟨cs⟩)) (m:bs*n<=281474976710656) (o:n<=9223372036854775807)
  (B:∀v' w',Own 0 k t w' v' (List.replicate n cs)->Ext w w'->(∀b,v'.ownBlock=some b->w.heap.size<=b)->K v' w'):vmkS t (.int z n) (.int A n) w K:=by
 obtain⟨hu,i,J,hi,f,u,p,v⟩:=yE0 C;have:J= .agg ⟨cs⟩:=by
  unfold yl at g;rw[hi] at g;simp only[f,Gr] at g;exact g
 subst this;subst p;have c:cs.length=k:=v;obtain⟨w',H,a,r⟩:=run_make_full (P:=P) w 0 t (Yp t) i _ k hu hi f u z A n m (by simpa[maxLen] using o) oM;have hw:∀x,x∈List.replicate n cs->x.length=k:=λx I=>by rw[G8 I];exact c
 refine⟨_,w',H,B _ w' ⟨?_,hw⟩ ((Same.of_grown r).mono λ_ _ h=>by cases h) λb D=>by cases D;exact gr _⟩;have e:(madeCells (Value.agg ⟨cs⟩).cells (n*k)).toList=(List.replicate n cs).flatten:=by
  refine gM (by rw[flatten_len hw];simp[madeCells]) λj L l=>?_;have F:j<n*k:=by rw[flatten_len hw,gI] at l;exact l
  have y:j/k<n:=Nat.div_lt_of_lt_mul (by rw[PF];exact F);have d:=pS j G;have q:=flatten_get hw (i:=j/k) (j:=j%k) (by simpa using y) d;have s:j/k*k+j%k=j:=by rw[PF];exact Nat.div_add_mod j k
  rw[s,gd l] at q;have E:(List.replicate n cs).getD (j/k) []=cs:=(by simp[y4,y]);rw[E,gd oM] at q;rw[V1 q];simp[madeCells,Value.cells,c,d]
 rw[gI];rw[e] at a;exact a
theorem tmR_one {cs:List Value} {t:M.Tm} (h:TmR F w cs t):∀c,c∈cs->c.oneCell'=true:=λc e=>by
 obtain⟨f,rfl,d,b,_⟩:=h.inv;obtain⟨a,l,rfl,_⟩:=b.shape;simp only[gj,gC,Gn] at e;rcases e with rfl|rfl|rfl|rfl|rfl<;>rfl
def qi0:M.Tm->Bool:=M.Tm.fold λt xs=>decide (t.ks.length<=1048576)&&xs.all id
theorem Yt0 (t:M.Tm):qi0 t=(decide (t.ks.length<=1048576)&&(t.ks.map qi0).all id):=M.Tm.fold_eq _ t
theorem fitB_iff {t:M.Tm}:qi0 t=true↔t.ks.length<=1048576/\∀k,k∈t.ks->qi0 k=true:=by
 rw[Yt0,gg,V0,gQ];refine z0a λ_=>⟨λh k a=>h _ (Gc a),λh y b=>?_⟩;obtain⟨k,a,rfl⟩:=gy.1 b;exact h k a
end
end Go.Proofs.YtfnpmncplaibiaaGreatDoor
section
namespace Go.M
def vecL (w n:Nat):List UInt8:=35::(List.range w).reverse.map λi=>if n/2^i%2=1 then 49 else 48
def digL (n:Int):List UInt8:=[UInt8.ofNat (48+n.toNat)]
def textF (t:Tm) (xs:List (List UInt8)):List UInt8:=
 if t.op=20 then vecL t.a.toNat t.b.toNat else if t.op=21 then t.s.data.toList else if t.op=24 then[116,114,117,101]
 else 40::(wordL t.op++((if t.op=22 then 32::(digL t.a++32::digL t.b) else[])++(xs.flatMap (λx=>32::x)++[41])))
def textL:Tm->List UInt8:=Tm.fold textF
theorem textL_eq (t:Tm):textL t=textF t (t.ks.map textL):=Tm.fold_eq _ t
def Stop (r:List UInt8):Prop:=∀c,r.head?=some c->c=32\/c=41
def Free (a:List UInt8):Prop:=∀c,c∈a->c≠32/\c≠41
theorem atom_cancel:∀{a b r s:List UInt8},Free a->Free b->Stop r->Stop s->a++r=b++s->a=b/\r=s
 |[],[],r,s,_,_,_,_,h=>⟨rfl,h⟩
 |[],y::b,r,s,_,g,j,_,h=>by
  have d:r=y::(b++s):=h;have k:=g y gk;rcases j y (by grind) with e|e
  .grind
  grind
 |x::a,[],r,s,f,_,_,hs,h=>by
  have d:s=x::(a++r):=h.symm;have k:=f x gk;rcases hs x (by grind) with e|e
  .grind
  grind
 |x::a,y::b,r,s,f,g,j,hs,h=>by
  have d:x::(a++r)=y::(b++s):=h;simp only[Gg] at d;obtain⟨rfl,d⟩:=d;obtain⟨rfl,e⟩:=atom_cancel (λc i=>f c (gp _ i)) (λc i=>g c (gp _ i)) j hs d
  grind
theorem stop_cons {c:UInt8} {r:List UInt8} (h:c=32\/c=41):Stop (c::r):=λd a=>by
 grind
theorem word_free:∀o:Fin 28,Free (wordL o):=by unfold Free;decide+kernel
theorem word_inj:∀o p:Fin 28,wordL o=wordL p->wordL o≠[]->o=p:=by decide+kernel
theorem word_ne:∀o:Fin 28,1<=o.1->(o.1<=17\/o.1=22\/o.1=23\/25<=o.1)->wordL o≠[]:=by decide+kernel
theorem vec_inj:∀w:Fin 5,∀a:Fin 16,∀v:Fin 5,∀b:Fin 16,a.1<2^w.1->b.1<2^v.1->vecL w a=vecL v b->w=v/\a=b:=by decide+kernel
theorem vec_free (w n:Nat):Free (vecL w n):=λc a=>by
 grind [vecL]
theorem dig_inj:∀a b:Fin 4,digL a=digL b->a=b:=by decide+kernel
theorem dig_free:∀a:Fin 4,Free (digL a):=by unfold Free;decide+kernel
section
variable {ds:List Dcl} {t u:Tm}
theorem name_ok (d:declOk ds=true) (hs:sortM ds t≠ -1) (i:t.op=21):t.s.data.toList≠[]/\t.s≠tru/\∀c,c∈t.s.data.toList->97<=c.toNat/\c.toNat<=122:=by
 have f:=name_found hs i;have h:(findD ds t.s).toNat<ds.length:=by have:=(findD_lt ds t.s).2;omega
 have g:=findD_get f;have a:=(decl_iff.1 d).2.1 _ h;unfold dclOk at a;rw[g] at a;simp only[gg,V0,nameOk] at a;obtain⟨⟨⟨⟨⟨⟨j,k⟩,b⟩,l⟩,_⟩,_⟩,_⟩:=a;refine⟨λe=>?_,b,λc m=>?_⟩
 .have:t.s.size=0:=by show t.s.data.size=0;simp_all
  omega
 grind [Array.all_eq_true']
theorem right_op (hs:sortM ds t≠ -1):arity t.op=t.ks.length/\plainM t=true/\((1<=t.op/\t.op<=17)\/(20<=t.op/\t.op<=27)):=by
 obtain⟨a,_,_⟩:=sort_parts hs;simp_all[formed_iff,arity_ops]
theorem leaf_arity {o:Int} (h:o=20\/o=21\/o=24):arity o=0:=by unfold arity;omega
theorem node_arity {o:Int} (h:(1<=o/\o<=17)\/(20<=o/\o<=27)) (a: ¬(o=20\/o=21\/o=24)):1<=arity o:=by
 grind [arity]
theorem vec_ok (hs:sortM ds t≠ -1) (c:t.op=20):vok t.a t.b=true:=by
 have h:=(sort_parts hs).2.2
 grind [sortK]
theorem cut_ab (c:declOk ds=true) (hs:sortM ds t≠ -1) (d:t.op=22):0<=t.b/\t.b<=t.a/\t.a<4:=by
 have h:=(sort_parts hs).2.2;have e:(t.ks.map (sortM ds)).getD 0 0<=4:=by
  by_cases hi:0<t.ks.length
  .simp_all[sort_range]
  grind
 grind [sortK]
theorem atom_text (f:declOk ds=true) (hs:sortM ds t≠ -1) (h:t.op=20\/t.op=21\/t.op=24):textL t=textF t []/\Free (textL t)/\textL t≠[]/\∀c,(textL t).head?=some c->c≠40:=by
 have g:t.ks=[]:=by grind [List.eq_nil_of_length_eq_zero,right_op,leaf_arity]
 have e:textL t=textF t []:=by rw[textL_eq,g];rfl
 refine⟨e,?_⟩;rw[e];unfold textF;rcases h with o|o|o
 .rw[X0 o]
  grind [vec_free,vecL]
 .rw[y3 oM,X0 o];obtain⟨d,i,b⟩:=name_ok f hs o;refine⟨λc a=>?_,d,λc a=>?_⟩
  .have:=b c a;exact⟨λe=>by simp_all,λe=>by simp_all⟩
  .have:=b c (List.mem_of_mem_head? a);intro e;simp_all
 grind [Free]
theorem tm_extT {t u:Tm} (c:t.op=u.op) (d:t.a=u.a) (e:t.b=u.b) (f:t.s=u.s) (g:t.ks=u.ks):t=u:=by
 cases t;cases u
 grind [Tm.op,Tm.a,Tm.b,Tm.s,Tm.ks]
theorem plain_ab (h:plainM t=true) (c:t.op≠20/\t.op≠22):t.a=0/\t.b=0:=by
 grind [plainM]
theorem plain_s (h:plainM t=true) (a:t.op≠21):t.s=nada:=by
 grind [plainM]
theorem atom_inj (g:declOk ds=true) (hs:sortM ds t≠ -1) (hu:sortM ds u≠ -1) (l:t.op=20\/t.op=21\/t.op=24) (m:u.op=20\/u.op=21\/u.op=24) (h:textL t=textL u):t=u:=by
 have x:t.ks=[]:=by grind [List.eq_nil_of_length_eq_zero,right_op,leaf_arity]
 have n:u.ks=[]:=by grind [List.eq_nil_of_length_eq_zero,right_op,leaf_arity]
 have j:=(right_op hs).2.1;have d:=(right_op hu).2.1;rw[(atom_text g hs l).1,(atom_text g hu m).1] at h;unfold textF at h;have letter:∀{v:Tm},sortM ds v≠ -1->v.op=21->∀c r,v.s.data.toList=c::r->97<=c.toNat:=by grind [name_ok,List.mem_cons_self]
 have notrue:∀{v:Tm},sortM ds v≠ -1->v.op=21->v.s.data.toList=[116,114,117,101]->False:=λ{v} q i e=>(name_ok g q i).2.1 (by
  have:v.s.data= #[116,114,117,101]:=(by grind);show v.s=tru;have f:v.s=⟨v.s.data⟩:=rfl;rw[f,this];rfl)
 rcases l with o|o|o<;>rcases m with p|p|p
 .rw[X0 o,X0 p] at h;have v1:=vok_lt (vec_ok hs o);have v2:=vok_lt (vec_ok hu p);have w1:=vok_iff.1 (vec_ok hs o);have w2:=vok_iff.1 (vec_ok hu p);have k:((2^t.a.toNat:Nat):Int)=2^t.a.toNat:=(by simp);have f:((2^u.a.toNat:Nat):Int)=2^u.a.toNat:=(by simp);have:=vec_inj ⟨t.a.toNat,oM⟩ ⟨t.b.toNat,oM⟩ ⟨u.a.toNat,oM⟩ ⟨u.b.toNat,oM⟩ (by grind) (by grind) h
  grind [tm_extT,plain_s]
 .rw[X0 o,y3 oM,X0 p] at h;exact absurd (letter hu p 35 _ h.symm) dC
 .grind [vecL]
 .rw[y3 oM,X0 o,X0 p] at h;exact absurd (letter hs o 35 _ h) dC
 .rw[y3 oM,X0 o,y3 oM,X0 p] at h;obtain⟨w,b1⟩:=plain_ab j oM;obtain⟨a2,b2⟩:=plain_ab d oM;refine tm_extT oM oM oM ?_ (by grind);have:=GP.1 h;have k:t.s=⟨t.s.data⟩:=rfl;have f:u.s=⟨u.s.data⟩:=rfl;rw[k,f,this]
 .grind
 .grind [vecL]
 .grind
 grind [plain_ab,tm_extT,plain_s]
theorem kids_inj:∀{ks us:List Tm} {r s:List UInt8},ks.length=us.length->(∀k,k∈ks->∀u,u∈us->∀r s,Stop r->Stop s->textL k++r=textL u++s->k=u/\r=s)->
  (ks.map textL).flatMap (λx=>32::x)++41::r=(us.map textL).flatMap (λx=>32::x)++41::s->ks=us/\r=s
 |[],[],r,s,_,_,h=>by
  grind
 |[],_::_,_,_,b,_,_=>by simp at b
 |_::_,[],_,_,b,_,_=>by simp at b
 |k::ks,u::us,r,s,b,c,h=>by
  simp only[GF,List.flatMap_cons,GM,gZ,Gg,k5] at h;have st:∀(l:List Tm) (r:List UInt8),Stop ((l.map textL).flatMap (λx=>32::x)++41::r):=λl r=>by
   cases l with
   |nil=>exact stop_cons (.inr rfl)
   |cons a l=>exact stop_cons (.inl rfl)
  obtain⟨he,h⟩:=c k gk u gk _ _ (st _ _) (st _ _) h;obtain⟨rfl,e⟩:=kids_inj (by grind) (λk d u hu=>c k (gp _ d) u (gp _ hu)) h
  grind
theorem text_inj' (i:declOk ds=true):∀t:Tm,sortM ds t≠ -1->∀u:Tm,sortM ds u≠ -1->∀r s,Stop r->Stop s->textL t++r=textL u++s->t=u/\r=s:=by
 refine Tm.ind λt J hs u hu r s U I h=>?_;obtain⟨ar,pl,op⟩:=right_op hs;obtain⟨B,P,p⟩:=right_op hu;have comp:∀{v:Tm},¬(v.op=20\/v.op=21\/v.op=24)->textL v=40::(wordL v.op++((if v.op=22 then 32::(digL v.a++32::digL v.b) else[])++((v.ks.map textL).flatMap (λx=>32::x)++[41]))):=λ{v} z=>by
  rw[textL_eq];grind [textF]
 by_cases lt:t.op=20\/t.op=21\/t.op=24
 .obtain⟨_,f1,f2,f3⟩:=atom_text i hs lt;by_cases lu:u.op=20\/u.op=21\/u.op=24
  .grind [atom_text,atom_cancel,atom_inj]
  .exfalso;rw[comp lu] at h
   match H:textL t,f2 with
   |c::q,_=>
    grind
 .by_cases lu:u.op=20\/u.op=21\/u.op=24
  .exfalso;obtain⟨_,g1,g2,g3⟩:=atom_text i hu lu;rw[comp lt] at h
   match H:textL u,g2 with
   |c::q,_=>
    grind
  .rw[comp lt,comp lu] at h;simp only[GM,gZ,Gg,k5,Gk] at h;have na:=node_arity op lt;have M:=node_arity p lu;have kst:∀{l:List Tm} {q:List UInt8},1<=l.length->∃A,(l.map textL).flatMap (λx=>32::x)++41::q=32::A:=λ{l q} n=>by
    cases l with
    |nil=>simp at n
    |cons a l=>grind
   have st:∀{v:Tm} {q:List UInt8},1<=v.ks.length->Stop ((if v.op=22 then 32::(digL v.a++32::digL v.b) else[])++((v.ks.map textL).flatMap (λx=>32::x)++41::q)):=λ{v q} n=>by
    split
    .exact stop_cons (.inl rfl)
    .obtain⟨A,e⟩:=kst (q:=q) n
     grind [stop_cons]
   have N:(((⟨t.op.toNat,oM⟩:Fin 28):Nat):Int)=t.op:=(by grind);have O:(((⟨u.op.toNat,oM⟩:Fin 28):Nat):Int)=u.op:=(by grind);have f:=word_free ⟨t.op.toNat,oM⟩;have g:=word_free ⟨u.op.toNat,oM⟩;rw[N] at f;rw[O] at g;obtain⟨hw,h⟩:=atom_cancel f g (st (v:=t) oM) (st (v:=u) oM) h;have o:=word_ne ⟨t.op.toNat,oM⟩ oM oM;have G:=word_inj ⟨t.op.toNat,oM⟩ ⟨u.op.toNat,oM⟩ (by grind) o;have w:t.op=u.op:=by
    omega
   have j:t.a=u.a/\t.b=u.b/\(t.ks.map textL).flatMap (λx=>32::x)++41::r=(u.ks.map textL).flatMap (λx=>32::x)++41::s:=by
    by_cases d:t.op=22
    .rw[X0 d,X0 oM] at h;simp only[GM,gZ,Gg,k5] at h;have c1:=cut_ab i hs d;have c2:=cut_ab i hu oM;have da:∀{x:Int},0<=x->x<4->Free (digL x):=λ{x} C E=>by
      have:=dig_free ⟨x.toNat,oM⟩
      grind
     have di:∀{x y:Int},0<=x->x<4->0<=y->y<4->digL x=digL y->x=y:=λ{x y} C E D F he=>by
      have:=dig_inj ⟨x.toNat,oM⟩ ⟨y.toNat,oM⟩ (by
       grind)
      grind
     obtain⟨Q,h⟩:=atom_cancel (da oM oM) (da oM oM) (stop_cons (.inl rfl)) (stop_cons (.inl rfl)) h;simp only[Gg,k5] at h;obtain⟨V,K⟩:=kst (l:=t.ks) (q:=r) oM;obtain⟨W,L⟩:=kst (l:=u.ks) (q:=s) oM;obtain⟨R,h⟩:=atom_cancel (da oM oM) (da oM oM) (by rw[K];exact stop_cons (.inl rfl)) (by rw[L];exact stop_cons (.inl rfl)) h
     grind
    grind [plain_ab]
   obtain⟨S,T,h⟩:=j;obtain⟨m,e⟩:=kids_inj (by
    grind) (λk m v z=>J k m ((sort_parts hs).2.1 k m) v ((sort_parts hu).2.1 v z)) h
   grind [tm_extT,plain_s]
theorem text_inj (b:declOk ds=true) (hs:sortM ds t≠ -1) (hu:sortM ds u≠ -1) (h:textL t=textL u):t=u:=
 (text_inj' b t hs u hu [] [] (λc a=>by cases a) (λc a=>by cases a) (by grind)).1
end
end Go.M
end
namespace Go.Proofs.YtfnpmncplaibiaaGreatDoor
open Go Go.Vc Go.Proofs
section
variable {w:World} {K:oK} {F Fx X Q:oA} {n:Nat} {v:Value}
theorem dcl_small {ds:List M.Dcl} (a:M.declOk ds=true) {i:Nat} (hi:i<=ds.length):0<=M.bitT ds i/\M.bitT ds i<=16:=by
 have c:=(M.decl_iff.1 a).1;induction i with
 |zero=>exact⟨Py _,show(0:Int)<=16 by decide⟩
 |succ i b=>
  have:=b oM;have hw:=M.dcl_wide a (i:=i) oM;rw[M.bitT_succ oM];have key:M.bitT ds i<=4*(i:Int):=by
   clear b this;induction i with
   |zero=>exact Py _
   |succ j ihj=>
    have hw:=M.dcl_wide a (i:=j) oM;have:=ihj oM (M.dcl_wide a oM);rw[M.bitT_succ oM];omega
  omega
theorem bitsOf_spec {dv:Value} {ds:List M.Dcl} (l:DclsR Fx w dv ds) (d:M.declOk ds=true) (o:∀w',Ext w w'->K (nI (M.bits ds)) w'):vcall UF #[dv] w K:=by
 refine ze {loops:=[(3,[3,8])]} Tryz.func129 ?_;simp only[push_cast,l.len];have k:=(M.decl_iff.1 d).1;refine vloop_up ds.length (λi u w'=>u=[nI (M.bitT ds i),nI i]/\Ext w w') ⟨rfl,Same.refl _ _⟩ ?_;rintro i _ _ w2 C hi ⟨rfl,c⟩ n;have e:=l.ext c;refine oZ ?_;refine zb (λa=>?_) (λa=>?_)
 .have b:i<ds.length:=oM;simp(disch:=exact oS) only[push_cast,e.iaddr,e.load];refine zi xL λb1 v p f r m=>?_;refine stDecl m λt j _ k=>?_;have g:Ext w2 t:=Ext.then f j λy s=>by subst s;omega
  have q:=dcl_small d hi;have h:=dcl_small d (i:=i+1) b;rw[M.bitT_succ b] at h;simp(disch:=exact oS) only[push_cast,k.ld1,zk];refine n b _ _ ⟨?_,c.trans g⟩;rw[M.bitT_succ b];simp
 .have:i=ds.length:=oM;subst this;rw[M.bitT_all];exact o w2 c
theorem nameB_take {ds:List M.Dcl} {k j:Nat} {wd top:Int} (c:(j:Int)<wd) (hw:wd=(ds.getD k (M.nada,0)).2) (b:top=2+M.bits (ds.take k)):(M.nameB ds k).take (j+1)=(M.nameB ds k).take j++[top+(wd-1-j)]:=by
 have a:j<(M.nameB ds k).length:=by rw[M.nameB_len];omega
 rw[M.take_add a 0];congr 1;unfold M.nameB;rw[y4,GN,PC oM];show[2+M.bits (ds.take k)+(ds.getD k (M.nada,0)).2-1-(j:Int)]=[top+(wd-1-(j:Int))];rw[b,hw];congr 1;omega
theorem inputs_spec {bl:Nat} {r:List Value} {dv:Value} {ds:List M.Dcl} {s:ByteArray} {x0:Value} (T:Blk w bl (x0::dv::r) yo) (N:DclsR Fx w dv ds) (f:M.declOk ds=true) (hs:0<=M.findD ds s)
  (L:∀w' r,Ext w w'->OwnI zf w' r (M.nameB ds (M.findD ds s).toNat)->(∀b,r.ownBlock=some b->w.heap.size<=b)->K r w'):vcall Y9 #[oP bl 0,.string s] w K:=by
 refine ze {loops:=[(3,[5,15]),(8,[8,9])]} Tryz.func198 ?_;simp only[push_cast,T.ld1,N.len];have h4:=(M.decl_iff.1 f).1;have a0:=M.findD_lt ds s;refine vloop_up ds.length (λi u w'=>u=[nI (2+M.bitT ds i),nI i]/\Ext w w'/\i<=(M.findD ds s).toNat) ⟨rfl,Same.refl _ _,Gf _⟩ ?_;rintro i _ _ w2 C hi ⟨rfl,k,Z⟩ U;have q:=N.ext k;refine oZ ?_;have d:i<ds.length:=oM
 refine zb (λa=>?_) (λa=>oM);simp(disch:=exact oS) only[push_cast,q.iaddr,q.load];refine zi xL λb1 w3 W D a3 S=>?_;refine stDecl S λw4 J _ o=>?_;have t:Ext w2 w4:=Ext.then D J λy hy=>by subst hy;omega
 have a2:=dcl_small f hi;have H:=dcl_small f (i:=i+1) d;rw[M.bitT_succ d] at H;have Q:=M.dcl_wide f d;simp(disch:=exact oS) only[push_cast,o.ld0,o.ld1,zk];refine zb (λe=>?_) (λe=>?_)
 .have E:i=(M.findD ds s).toNat:=by
   by_cases c:i=(M.findD ds s).toNat
   .exact c
   .have R:=M.dcl_apart f (i:=(M.findD ds s).toNat) (j:=i) oM oM;exact absurd (e.trans (M.findD_get hs).symm) R
  rw[<-E] at L;have B:M.bitT ds i=M.bits (ds.take i):=rfl;generalize V:(ds.getD i (M.nada,0)).2=wd at*;refine ji (λm u w'=> ∃j r,u=[r,nI ((m:Int)-1)]/\(m:Int)+(j:Nat)=wd/\Ext w w'/\OwnI zf w' r ((M.nameB ds i).take j)/\∀b,r.ownBlock=some b->w.heap.size<=b) wd.toNat
   ⟨0,_,by rw[show((wd.toNat:Nat):Int)=wd by omega],oM,k.trans t,OwnI.nil,λb p=>by cases p⟩ ?_
  rintro m _ _ w5 C5 ⟨j,r,rfl,a1,v,n,l⟩ A;refine oZ ?_;refine zb (λY=>?_) (λO=>?_)
  .simp(disch:=omega) only[push_cast,zk];refine zB yD y7 yi rfl rfl λb6 w6 X x a4 z=>?_;have g:=v.trans x;have hz:=g.size;have hle:((M.nameB ds i).take j).length<=16:=by rw[gh,M.nameB_len];omega
   refine(n.ext x).app1 yF z oM oM λr7 w7 G I F=>?_
   try simp(disch:=omega) only[push_cast,zk]
   refine A (m-1) _ _ oM ⟨j+1,r7,?_,oM,Ext.then g I λb p=>l b p,?_,λb p=>(F b p).elim (l b) λh=>oM⟩
   .rw[show((m-1:Nat):Int)=(m:Int)-1 by omega]
   .rw[nameB_take (wd:=wd) (top:=2+M.bits (ds.take i)) oM V.symm rfl,<-B];rw[show(2+M.bitT ds i+(wd-1-j))=2+M.bitT ds i+((m:Int)-1) by omega];exact G
  .rw[gD (by rw[M.nameB_len];omega)] at n;exact L w5 r v n l
 .refine U d _ _ ⟨?_,k.trans t,?_⟩
  .rw[M.bitT_succ d];simp;omega
  .have:i≠(M.findD ds s).toNat:=λh=>e (by rw[h];exact M.findD_get hs);omega
end
end Go.Proofs.YtfnpmncplaibiaaGreatDoor
namespace Go.Proofs.YtfnpmncplaibiaaGreatDoor
open Go Go.Vc Go.Proofs Go.Shelf
section
variable {w:World} {K:oK} {F X Q:oA}
def Yx0:ByteArray:=⟨#[48,49,50,51,52,53,54,55,56,57,97,98,99,100,101,102,103,104,105,106,107,108,109,110,111,112,113,114,115,116,117,118,119,120,121,122]⟩
theorem digit_text:∀k:Fin 10,(Yx0.extract k.1 (k.1+1)).data.toList=M.digL (k.1:Int):=by decide+kernel
theorem Itoa_spec {k:Nat} (c:k<10) (b:∀s:ByteArray,s.data.toList=M.digL (k:Int)->K (.string s) w):vcall jk #[nI k] w K:=by
 refine ze {} Tryz.func194 ?_;refine ze {} Tryz.func240 ?_;refine ze {cuts:=[(12292,[]),(28680,[6])]} Tryz.func282 ?_;refine oZ ?_;refine zb (λ_=>?_) (λh=>absurd trivial h);refine zp (λ_ _=>False) ?_ (λ_ _ _ h=>h.elim);intro J d;refine zb (λ_=>?_) (λh=>oM);refine zb (λ_=>?_) (λh=>oM);refine ze {} Tryz.func306 ?_;simp(disch:=omega) only[push_cast,zk];refine zb (λ_=>?_) (λh=>oM);have a:Yx0.size=36:=by decide+kernel
 show xy yx (.string Yx0) _ _ _ w _;rw[xX0 rK oM oM (by rw[a];omega)];rw[show((k:Int)).toNat=k by omega,show((k:Int)+1).toNat=k+1 by omega];exact b _ (digit_text ⟨k,c⟩)
def byV (c:UInt8):Value:= .int .u8 c.toNat
theorem qv0 {v:Value} {l:List UInt8} (h:OwnV xF w v (l.map byV)) (g:l≠[]):yS0 xF yx v w K=K (.string ⟨l.toArray⟩) w:=by
 obtain⟨a,c,k,p,n,d⟩:=(OwnV.vals h).shape;have f:(l.map byV).map (λx=>[x])≠[]:=by simpa using g
 obtain⟨b,o,m,_,_,e⟩:=d f;simp only[K3] at k e;subst m;subst k;refine y9 (run_convert_bytes_back w xF yx ZC ⟨b,o,none⟩ c l XU rK rK λj i=>?_);have:=e j i 0 (byV l[j]) (by
  rw[y4,GN,GN,gd i];rfl)
 rw[yw] at this⊢;rw[pU,G7] at this;exact this
def jZ0 (n:Nat) (i:Nat):UInt8:=if n/2^i%2=1 then 49 else 48
theorem bitC_take {wd n j:Nat} (a:j<wd):((List.range wd).reverse.map (jZ0 n)).take (j+1)=((List.range wd).reverse.map (jZ0 n)).take j++[jZ0 n (wd-1-j)]:=by
 have b:j<((List.range wd).reverse.map (jZ0 n)).length:=by simpa using a
 rw[M.take_add b 0];congr 1;rw[y4,GN,pN (by simpa using a),GZ,PC oM];rfl
theorem VecText_spec {wd n:Int} (C:M.vok wd n=true) (hK:∀w' s,Ext w w'->s.data.toList=M.vecL wd.toNat n.toNat->K (.string s) w'):vcall Xd #[qe wd n] w K:=by
 refine ze {loops:=[(5,[3,4])]} Tryz.func193 ?_;obtain⟨U,V,W,X⟩:=M.vok_iff.1 C;have hp:(2:Int)^wd.toNat<=16:=by
  have:=pow4 (k:=wd.toNat) oM oM;have e:=WE wd.toNat;omega
 refine zj λb1 w1 a0 z aa g=>?_;have y:∀w':World,Blk w' b1 [nI wd,nI n] zg->∀K:oK,zu zg (oP b1 0) w' K=K (qe wd n) w':=λw' hB K=>Blk.ldAgg hB (by exact zt);rw[y w1 g];refine VecOk_spec λw2 o=>?_;rw[C];simp only[push_cast,Gp];refine zB XU rK (show yl ZC (.int .u8 0) by unfold yl;kernel_rfl) rfl rfl λb3 w3 a5 A ab I=>?_;have D:=g.ext (o.trans A);have e3:=z.trans (o.trans A);have s1:=z.size;have s2:=o.size;have S:OwnV xF w3 (.slice (some ⟨b3,0,none⟩) 1 1) ([(35:UInt8)].map byV):=Blk.own1 (t:=xF) (cs:=[byV 35]) (by rw[jQ0];exact I) (Gf _) rfl rfl oM;simp(disch:=exact oS) only[push_cast,D.ld0,zk];refine ji (λm u w'=> ∃j r,u=[r,nI ((m:Int)-1)]/\(m:Int)+(j:Nat)=wd/\Ext w w'/\Blk w' b1 [nI wd,nI n] zg/\OwnV xF w' r ((35::((List.range wd.toNat).reverse.map (jZ0 n.toNat)).take j).map byV)/\∀b,r.ownBlock=some b->w1.heap.size<=b) wd.toNat
  ⟨0,_,by rw[show((wd.toNat:Nat):Int)=wd by omega],oM,e3,D,S,λb l=>by have e:b3=b:=V1 l;omega⟩ ?_
 rintro m _ _ Y Z ⟨j,r,rfl,a9,p,i,v,q⟩ L;refine oZ ?_;refine zb (λa7=>?_) (λa8=>?_)
 .rw[y Y i];rw[show n=((n.toNat:Nat):Int) by omega];refine raw_spec oM λw6 O=>?_;rw[show(m:Int)-1=((m-1:Nat):Int) by omega];refine bit_spec oM oM ?_;have step:∀(x:UInt8) (G:oK),x=jZ0 n.toNat (wd.toNat-1-j)->(∀d a,Ext w a->Blk a b1 [nI wd,nI n] zg->OwnV xF a d ((35::((List.range wd.toNat).reverse.map (jZ0 n.toNat)).take (j+1)).map byV)->(∀b,d.ownBlock=some b->w1.heap.size<=b)->G d a)->
    vbuildS xF 1 [(0,.int .u8 x.toNat)] w6 λt21 F=>vbi .append [xF,xF] xF [r,t21] F G:=by
   intro x G hx N;refine zB XU rK (show yl ZC (.int .u8 0) by unfold yl;kernel_rfl) rfl rfl λb7 a a6 Q ad J=>?_;have f:=O.trans Q;have hl:((35::((List.range wd.toNat).reverse.map (jZ0 n.toNat)).take j).map byV).length<=20:=by
    simp only[K3,gF,gh,pE,GZ];omega
   refine(v.ext f).app1 Z70 J rfl oM oM λr8 w8 T E R=>?_;have ac:=p.size;have z67:=f.size;refine N r8 w8 (Ext.then (p.trans f) E λb l=>by have:=q b l;omega) ((i.ext f).same E λl=>by have:=q b1 l;have:=g.lt;omega) ?_ λb l=>(R b l).elim (q b) λh=>by have:=i.lt;omega
   rw[bitC_take oM,<-hx,<-GM,gE];exact T
  have B:wd.toNat-1-j=m-1:=oM;have fin:∀d a,Ext w a->Blk a b1 [nI wd,nI n] zg->OwnV xF a d ((35::((List.range wd.toNat).reverse.map (jZ0 n.toNat)).take (j+1)).map byV)->(∀b,d.ownBlock=some b->w1.heap.size<=b)->Z [d,nI (((m-1:Nat):Int)-1)] a:=λd a U V W X=>
   L (m-1) _ _ oM ⟨j+1,d,rfl,oM,U,V,W,X⟩
  refine zb (λc=>?_) (λc=>?_)
  .refine step 49 _ (by rw[B];unfold jZ0;rw[X0 c]) λd a H a2 a3 a4=>?_;rw[zk oM oM];exact fin d a H a2 a3 a4
  .refine step 48 _ (by rw[B];unfold jZ0;rw[y3 c]) λd a H a2 a3 a4=>?_;rw[zk oM oM];exact fin d a H a2 a3 a4
 .rw[gD (by simp;omega)] at v;rw[qv0 v (by simp)];exact hK Y _ p rfl
theorem joinX:Builder.Extra P YtfnpmncplaibiaaGreatDoor.joinL_ren where
 sizeBuilder:=rK
 liesBuilder:=rK
 t5:=rK
 a5:=λw=>rK
 z5:=λw=>rK
 v5:=λw=>rK
 infoByte:=rK
 cellsByte:=rK
 sizeByte:=rK
 neB5:=by decide+kernel
def joinB:List (List UInt8)->List UInt8
 |[]=>[]
 |x::xs=>x++xs.flatMap λy=>32::y
theorem jA0 (xs:List (List UInt8)):Lib.join xs [32]=joinB xs:=by
 unfold Lib.join joinB;induction xs with
 |nil=>rfl
 |cons x xs a=>
  cases xs with
  |nil=>simp[List.intercalate,List.intersperse]
  |cons y ys=>
   simp only[List.intercalate,List.intersperse_cons_cons,GR] at a⊢;rw[a];simp
theorem Join_spec {v:Value} {xs:List ByteArray} (h:OwnV yW w v (xs.map .string)) (n:2<=xs.length) (y:xs.length<=1000) (g:(joinB (xs.map (·.data.toList))).length<=1000000)
  (q:∀w' s,Ext w w'->s.data.toList=joinB (xs.map (·.data.toList))->K (.string s) w'):vcall X8 #[v,.string ⟨#[32]⟩] w K:=by
 obtain⟨a,c,m,l,u,d⟩:=(OwnV.vals h).shape;have k:(xs.map Value.string).map (λx=>[x])≠[]:=by intro e;have:=congrArg List.length e;simp only[K3,pK] at this;omega
 obtain⟨b,o,r,_,t,f⟩:=d k;simp only[K3] at m f l;subst r;subst m;refine⟨rK,?_⟩;refine(Any.strings_Join_many YtfnpmncplaibiaaGreatDoor.joinL joinX b o c xs ⟨#[32]⟩ w (λj x g=>?_) t n oM l (by rw[show(⟨#[32]⟩:ByteArray).data.toList=[32] from rfl,jA0];omega)).mono ?_
 .have i:j<xs.length:=(Gx.1 g).1;have:=f j i 0 (.string x) (by
   rw[y4,GN,GN,g];rfl)
  rw[yw,pU,G7] at this;exact this
 .rintro e w' ⟨rfl,p⟩;refine q w' _ (yK0 p) ?_;rw[show(⟨#[32]⟩:ByteArray).data.toList=[32] from rfl,jA0]
end
end Go.Proofs.YtfnpmncplaibiaaGreatDoor
namespace Go.Proofs.YtfnpmncplaibiaaGreatDoor
open Go Go.Vc Go.Proofs
section
variable {w:World} {K:oK} {F X Q:oA}
theorem Kv {s:ByteArray} {m:Value} (c:∀w',Ext w w'->K (.string s) w'):vcall yu #[.agg ⟨[.string s,m]⟩] w K:=by
 refine ze {} Tryz.func412 ?_;refine zj λb w1 d he e a=>?_;simp(disch:=exact oS) only[push_cast,a.ld0];exact c w1 he
theorem word_spec {o:Int} {v:Value} (k:KindR o v) (l:(1<=o/\o<=17)\/(22<=o/\o<=27)) (a:o≠24) (j:∀w' s,Ext w w'->s.data.toList=M.wordL o->K (.string s) w'):vinvoke v Zw #[] w K:=by
 obtain⟨s,m,r,rfl,e,g,i⟩:=k.word;have hs:s.data.toList=M.wordL o:=by
  rcases i with h|h|h|h
  .omega
  .omega
  .exact absurd h a
  .exact h
 have fin:vcall yu #[.agg ⟨[.string s,nI m]⟩] w K:=Kv λw' he=>j w' s he hs;unfold kTy;by_cases c:24<=o
 .obtain⟨f,rfl,_⟩:=g c
  repeat rw[y3 oM]
  exact zO (Yh _ _ _) fin
 .have:=e oM;subst this;by_cases c1:o<=2
  .rw[X0 c1];exact zO (Xz _ _) fin
  rw[y3 c1];by_cases c2:o<=13
  .rw[X0 c2];exact zO (X2 _ _) fin
  rw[y3 c2];by_cases c3:o=14
  .rw[X0 c3];exact zO (YY _ _) fin
  rw[y3 c3];by_cases b:o<=17
  .rw[X0 b];exact zO (YV _ _) fin
  rw[y3 b,y3 oM,y3 oM];by_cases d:o=22
  .rw[X0 d];exact zO (YS _ _) fin
  rw[y3 d,X0 oM];exact zO (XC _ _) fin
theorem wordL_len (o:Int):(M.wordL o).length<=5:=by
 by_cases h:0<=o/\o<28
 .have a:∀k:Fin 28,(M.wordL (k.1:Int)).length<=5:=(by decide+kernel);have:=a ⟨o.toNat,oM⟩;rwa[show((o.toNat:Nat):Int)=o by omega] at this
 .unfold M.wordL
  repeat rw[y3 oM]
  decide
theorem kJ0 (wd n:Nat):(M.vecL wd n).length=wd+1:=by unfold M.vecL;simp
theorem kids_sum {f:M.Tm->Nat} {ks:List M.Tm} {g:M.Tm->List UInt8} (h:∀k,k∈ks->(g k).length+1<=f k):((ks.map g).flatMap (λx=>32::x)).length<=(ks.map f).sum:=by
 induction ks with
 |nil=>simp
 |cons k ks b=>
  have:=h k gk;have:=b λy a=>h y (gp _ a);simp only[GF,List.flatMap_cons,Q1,gF,List.sum_cons];omega
theorem text_len {ds:List M.Dcl} (i:M.declOk ds=true):∀t,M.sortM ds t≠ -1->(M.textL t).length+1<=20*M.sizeM t:=by
 refine M.Tm.ind λt n hs=>?_;obtain⟨h,v,u⟩:=M.right_op hs;rw[M.sizeM_eq,M.textL_eq];have e:((t.ks.map M.textL).flatMap (λx=>32::x)).length<=(t.ks.map λk=>20*M.sizeM k).sum:=kids_sum λk e=>n k e ((M.sort_parts hs).2.1 k e);have g:(t.ks.map λk=>20*M.sizeM k).sum=20*(t.ks.map M.sizeM).sum:=by
  generalize t.ks=l;induction l with
  |nil=>rfl
  |cons k l ihl=>simp only[GF,List.sum_cons,ihl];omega
 unfold M.textF;by_cases c:t.op=20
 .rw[X0 c,kJ0];have:=M.vok_iff.1 (M.vec_ok hs c);omega
 rw[y3 c];by_cases c:t.op=21
 .rw[X0 c];have j:=M.name_found hs c;have m:(M.findD ds t.s).toNat<ds.length:=by have:=(M.findD_lt ds t.s).2;omega
  have d:=(M.decl_iff.1 i).2.1 _ m;unfold M.dclOk at d;rw[M.findD_get j] at d;simp only[gg,V0,M.nameOk] at d;obtain⟨⟨⟨⟨⟨⟨o,p⟩,q⟩,r⟩,_⟩,_⟩,_⟩:=d;have:t.s.data.toList.length=t.s.size:=by rw[pD];rfl
  omega
 rw[y3 c];by_cases c:t.op=24
 .rw[X0 c];simp;omega
 rw[y3 c];have:=wordL_len t.op;have f:(if t.op=22 then(32:UInt8)::(M.digL t.a++32::M.digL t.b) else[]).length<=4:=by
  split
  .simp[M.digL]
  .simp
 simp only[gF,Q1,pK];omega
theorem Itoa_int {k:Int} (b:0<=k) (c:k<10) (a:∀s:ByteArray,s.data.toList=M.digL k->K (.string s) w):vcall jk #[nI k] w K:=by
 obtain⟨j,rfl⟩:∃j:Nat,k=j:=⟨k.toNat,oM⟩;exact Itoa_spec oM a
theorem textOf_spec {ds:List M.Dcl} (hd:M.declOk ds=true) {kb:Nat}:∀(t:M.Tm),M.sortM ds t≠ -1->M.sizeM t<=1000->∀{w:World} {K:oK} {F:oA} {tv:Value},KindsR w kb->TermR F w tv t->
  (∀w' s,Ext w w'->s.data.toList=M.textL t->K (.string s) w')->vcall Zr #[.map (some kb),tv] w K:=by
 refine M.Tm.ind λt ih hs bf w K F tv hk ht n=>?_;obtain⟨ac,hp,ho⟩:=M.right_op hs;have hlen:=text_len hd t hs;obtain⟨kv,rfl,ae⟩:=ht;apply zp0;refine zj λb1 w1 b4 f bh m=>?_;have Y:=hk.ext f;have H:=ae.ext f;rw[M.textL_eq] at n hlen;unfold M.textF at n hlen;simp(disch:=exact oS) only[push_cast,m.ld0,m.ld1,m.ld2,m.ld3];refine zb (λc=>?_) (λc=>?_)
 .rw[X0 c] at n;have hv:=M.vec_ok hs c;have e:yA zg [(0,nI t.a),(1,nI t.b)] w1=λK=>K (qe t.a t.b) w1:=by
   funext K;exact zU Je (us:=[[nI t.a],[nI t.b]]) rfl rfl
  try rw[e]
  exact VecText_spec hv λw2 s B ak=>n w2 s (f.trans B) ak
 rw[y3 c] at n hlen;refine zb (λc=>?_) (λc=>?_)
 .rw[X0 c] at n;exact n w1 _ f rfl
 rw[y3 c] at n hlen;refine zb (λc=>?_) (λc=>?_)
 .rw[X0 c] at n;exact n w1 _ f rfl
 rw[y3 c] at n hlen;have ai:(1<=t.op/\t.op<=17)\/(22<=t.op/\t.op<=27):=oM
 refine KX (ok:=false) Y (by rw[ac];omega) λbm af=>?_;simp only[Gd,if_false];refine word_spec af ai oM λw2 ws B a6=>?_;refine zB XV rK XM rfl rfl λb3 w3 b6 W bi a9=>?_;have O:=B.trans W;have s1:=f.size;have s2:=B.size;have k:=m.ext O;have a2:OwnV yW w3 (.slice (some ⟨b3,0,none⟩) 1 1) ([ws].map .string):=Blk.own1 (t:=yW) (cs:=[Value.string ws]) (by rw[qs0];exact a9) (Gf _) rfl rfl oM;have be:1<=t.ks.length:=by
  have:=M.node_arity ho oM;omega
 have bc:t.ks.length<=3:=by
  have h:M.arity t.op<=3:=by
   unfold M.arity;repeat' split
   all_goals omega
  omega
 refine zp (λu w'=> ∃(wv:Value) (wl:List ByteArray),u=[wv]/\Ext w1 w'/\OwnV yW w' wv (wl.map .string)/\(∀b,wv.ownBlock=some b->w1.heap.size<=b)/\wl.length<=3/\wl.map (·.data.toList)=M.wordL t.op::(if t.op=22 then[M.digL t.a,M.digL t.b] else[])) ?_ ?_
 .intro J hJ;simp(disch:=exact oS) only[push_cast,k.ld0,k.ld1,k.ld2];refine zb (λz=>?_) (λz=>?_)
  .obtain⟨b2,ba,b0⟩:=M.cut_ab hd hs z;refine zd λw4 X _=>?_;have p:=k.ext X;simp(disch:=exact oS) only[push_cast,p.ld1,p.ld2,k5];refine Itoa_int oM oM λsa am=>?_;simp(disch:=exact oS) only[push_cast,p.ld2,k5,gi];refine Itoa_int oM oM λsb an=>?_;refine vbuildS_row1 (xs:=[.string sa,.string sb]) XV Yv XM (λx a8=>by
    simp only[gj,gC,Gn] at a8;rcases a8 with rfl|rfl<;>rfl) (by simp) λb5 w5 b8 q bj S=>?_
   have ap:Vals (· =b5) w5 (.slice (some ⟨b5,0,none⟩) 2 2) [.string sa,.string sb]:=S.sl1 rfl (by simp);have Q:=X.trans q;refine(a2.ext Q).app ys0 ap (λu hu=>by
    simp only[gj,gC,Gn] at hu;rcases hu with rfl|rfl<;>rfl) (by simp) (by simp) λr6 w6 G al E=>?_
   have z35:=Q.size;have z3:=W.size;refine hJ _ _ ⟨r6,[ws,sa,sb],rfl,Ext.then (O.trans Q) al λb A=>by have e:b3=b:=V1 A;omega,by simpa using G,λb A=>(E b A).elim (λh=>by have e:b3=b:=V1 h;omega) λh=>oM,by simp,?_⟩;rw[X0 z];simp[a6,am,an]
  .exact hJ _ _ ⟨_,[ws],rfl,O,a2,λb A=>by have e:b3=b:=V1 A;omega,by simp,by rw[y3 z];simp[a6]⟩
 rintro _ _ w5 ⟨wv,wl,rfl,q,aj,ah,bg,a7⟩;have S:=m.ext q;have Z:=H.ext q;simp(disch:=exact oS) only[push_cast,S.ld4,Z.len];refine vloop_up t.ks.length (λi u w'=> ∃(r:Value) (kl:List ByteArray),u=[r,nI i]/\Ext w1 w'/\OwnV yW w' r ((wl++kl).map .string)/\(∀b,r.ownBlock=some b->w1.heap.size<=b)/\kl.map (·.data.toList)=(t.ks.take i).map M.textL) ⟨wv,[],rfl,q,by simpa using aj,ah,rfl⟩ ?_;rintro i _ g w6 C hi ⟨r,kl,rfl,v,G,E,l⟩ hC;have I:=H.ext v;have av:kl.length=i:=by
  have:=congrArg List.length l;simp only[K3,gh] at this;omega
 refine oZ ?_;refine zb (λa=>?_) (λa=>?_)
 .have d:i<t.ks.length:=oM;simp(disch:=exact oS) only[push_cast,I.iaddr];refine I.load zc d λx hx=>?_;obtain⟨cx,rfl,T⟩:=hx.cells;refine zi zr λb7 w7 b9 D bk aa=>?_;refine stTerm aa rfl (T.ext D) λw8 aq bl ab=>?_;have R:Ext w6 w8:=Ext.then D aq λy hy=>by subst hy;omega
  have v8:=T.ext R;simp only[push_cast,ab.ldAgg (t:=za) (by rw[zV T];exact zc)];have L:t.ks.getD i default∈t.ks:=M.getD_mem d _;have ao:M.sizeM (t.ks.getD i default)<=1000:=by
   have h1:=M.szT_succ d;have h2:=M.szT_mono (ks:=t.ks) (i:=i+1) (j:=t.ks.length) d (gr _);have h3:=M.szT_all t;omega
  refine ih _ L ((M.sort_parts hs).2.1 _ L) ao (Y.ext (v.trans R)) v8.term λw9 sk ad a5=>?_;refine zB XV rK XM rfl rfl λaz w10 au V ax U=>?_;have o:=R.trans (ad.trans V);have bd:((wl++kl).map Value.string).length<=6:=by rw[K3,Q1];omega
  refine(G.ext o).app1 ys0 U rfl oM oM λar bn a1 a3 a0=>?_;have z6:=v.size;have ay:=o.size
  try simp(disch:=omega) only[push_cast,zk]
  refine hC d _ _ ⟨ar,kl++[sk],by simp<;>exact⟨rfl,rfl⟩,Ext.then (v.trans o) a3 λb A=>E b A,?_,λb A=>(a0 b A).elim (E b) λh=>oM,?_⟩
  .rw[<-gZ,gE];exact a1
  .rw[M.take_add d default,gE,gE,l];simp[a5]
 .have d:i=t.ks.length:=oM;subst d;rw[gA] at l;have N:joinB ((wl++kl).map (·.data.toList))=M.wordL t.op++((if t.op=22 then(32:UInt8)::(M.digL t.a++32::M.digL t.b) else[])++(t.ks.map M.textL).flatMap λx=>32::x):=by
   rw[gE,a7,l];show joinB (M.wordL t.op::((if t.op=22 then[M.digL t.a,M.digL t.b] else[])++t.ks.map M.textL))=_;rw[show ∀(x:List UInt8) xs,joinB (x::xs)=x++xs.flatMap (λy=>32::y) from λ_ _=>rfl,List.flatMap_append];split<;>simp
  have ag:2<=(wl++kl).length:=by
   have h1:1<=wl.length:=by
    have:=congrArg List.length a7;simp only[K3,gF] at this;omega
   rw[Q1];omega
  simp only[gF,Q1,pK] at hlen;have bb:(joinB ((wl++kl).map (·.data.toList))).length<=20000:=by
   rw[N];simp only[Q1];omega
  refine Join_spec G ag (by rw[Q1];omega) oM λw7 sj D a4=>?_;have aw:sj.size<=20000:=by
   have:sj.data.toList.length=sj.size:=by rw[pD];rfl
   rw[a4] at this;omega
  have h1:(⟨#[40]⟩:ByteArray).size=1:=(by decide+kernel);have h3:(⟨#[41]⟩:ByteArray).size=1:=(by decide+kernel);have h2:((⟨#[40]⟩:ByteArray)++sj).size=1+sj.size:=(by rw[ByteArray.size_append,h1]);rw[Zj oM,Zj oM];refine n w7 _ (f.trans (v.trans D)) ?_;rw[ByteArray.data_append,ByteArray.data_append,PA,PA,a4,N];simp
end
end Go.Proofs.YtfnpmncplaibiaaGreatDoor
section
namespace Go.M
theorem node_right {ds:List Dcl} {t:Tm} (l:declOk ds=true) (hs:sortM ds t≠ -1) {L:Nat->Nat} (n:∀i,i<t.ks.length->L i=lenS (sortM ds (kid t i))):
  (1<=t.op->t.op<=2->t.ks.length=1/\1<=L 0/\L 0<=4)/\(3<=t.op->t.op<=13->t.ks.length=2/\L 0=L 1/\1<=L 0/\L 0<=4)/\(t.op=14->t.ks.length=2/\1<=L 0/\1<=L 1/\L 0+L 1<=4)/\
  (15<=t.op->t.op<=17->t.ks.length=2/\L 0=L 1/\1<=L 0/\L 0<=4)/\(t.op=22->t.ks.length=1/\0<=t.b/\t.b<=t.a/\t.a<L 0/\L 0<=4)/\(t.op=23->t.ks.length=3/\L 0=1/\L 1=L 2/\1<=L 1/\L 1<=4)/\
  (25<=t.op->(t.ks.length=if t.op=25 then 1 else 2)/\∀i,i<t.ks.length->L i=1):=by
 obtain⟨j,m,g⟩:=sort_parts hs;simp only[formed,gg,V0] at j;obtain⟨f,q⟩:=j;have k:=arity_ops (o:=t.op) oM;have s:∀i,i<t.ks.length->(t.ks.map (sortM ds)).getD i 0=sortM ds (kid t i):=λi hi=>getD_map _ hi _ _;have d:∀i,-1<=sortM ds (kid t i)/\sortM ds (kid t i)<=4:=λi=>sort_range l _;rw[g] at hs;unfold sortK at hs;unfold arity at f;have u:=d 0;have v:=d 1;have w:=d 2;refine⟨λa b=>?_,λa b=>?_,λa=>?_,λa b=>?_,λa=>?_,λa=>?_,λa=>?_⟩
 .grind [lenS]
 .have e:t.ks.length=2:=oM
  grind [lenS]
 .have e:t.ks.length=2:=oM
  grind [lenS]
 .have e:t.ks.length=2:=oM
  grind [lenS]
 .grind [lenS]
 .have e:t.ks.length=3:=oM
  grind [lenS]
 .have e:t.ks.length=if t.op=25 then 1 else 2:=by
   grind
  rw[y3 oM,y3 oM,X0 oM] at hs;by_cases c:(t.ks.map (sortM ds)).any (λx=>decide (x≠0))=true
  .grind
  .refine⟨e,λi hi=>?_⟩;have h:=n i hi;have r:sortM ds (kid t i)=0:=Gy λp=>c (ph.2 ⟨sortM ds (kid t i),gy.2 ⟨_,getD_mem hi default,rfl⟩,by grind⟩);rw[r] at h;exact h
end Go.M
end
end
