import Derived.Ground.NamesProg
import Derived.Ground.SlsfProg
import Derived.Shelf.SlSortCmp.Whole1
import Derived.Shelf.Strings.OnBuilder
import Derived.Shelf.Strings.SlTrimAscii
import Derived.Shelf.SlGeneric
import Derived.Test.YtfnpmncplaibiaaGreatDoorWqaP6
/- A part of the proof. -/
set_option linter.all false
set_option maxRecDepth 9999
set_option maxHeartbeats 2000000
noncomputable section
namespace Go.Proofs
open Go.Shelf
def YtfnpmncplaibiaaGreatDoor.sortL_ren:Go.Shelf.Ren:=⟨λ|6=>347 |15=>362 |14=>361 |28=>374 |29=>329 |20=>366 |21=>367 |22=>368 |23=>369 |24=>370 |25=>371 |26=>372 |27=>373 |46=>376 |47=>377 |48=>378 |49=>379 |50=>380 |57=>381 |n=>n,λ|22=>43 |24=>3 |25=>138 |3=>3 |39=>363 |0=>0 |53=>391 |55=>289 |4=>4 |46=>431 |45=>430 |50=>169 |5=>5 |9=>9 |66=>436 |70=>263 |76=>441 |77=>176 |n=>n,λ|n=>n⟩
theorem YtfnpmncplaibiaaGreatDoor.sortL:Go.Proofs.SlLaysF.n6 Tryz.prog YtfnpmncplaibiaaGreatDoor.sortL_ren:={
 mixed:=rK
 f6:=⟨Tryz.f347.name,dC,Tryz.func347.trans (congrArg some rK)⟩
 f14:=⟨Tryz.f361.name,dC,Tryz.func361.trans (congrArg some rK)⟩
 f15:=Tryz.func362.trans (congrArg some rK)
 f20:=⟨Tryz.f366.name,dC,Tryz.func366.trans (congrArg some rK)⟩
 f21:=⟨Tryz.f367.name,dC,Tryz.func367.trans (congrArg some rK)⟩
 f22:=⟨Tryz.f368.name,dC,Tryz.func368.trans (congrArg some rK)⟩
 f23:=⟨Tryz.f369.name,dC,Tryz.func369.trans (congrArg some rK)⟩
 f24:=⟨Tryz.f370.name,dC,Tryz.func370.trans (congrArg some rK)⟩
 f25:=⟨Tryz.f371.name,dC,Tryz.func371.trans (congrArg some rK)⟩
 f26:=⟨Tryz.f372.name,dC,Tryz.func372.trans (congrArg some rK)⟩
 f27:=⟨Tryz.f373.name,dC,Tryz.func373.trans (congrArg some rK)⟩
 f28:=Tryz.func374.trans (congrArg some rK)
 f29:=Tryz.func329.trans (congrArg some rK)
 f46:=⟨Tryz.f376.name,dC,Tryz.func376.trans (congrArg some rK)⟩
 f47:=Tryz.func377.trans (congrArg some rK)
 f48:=Tryz.func378.trans (congrArg some rK)
 f49:=⟨Tryz.f379.name,dC,Tryz.func379.trans (congrArg some rK)⟩
 f50:=⟨Tryz.f380.name,dC,Tryz.func380.trans (congrArg some rK)⟩
 f57:=⟨Tryz.f381.name,dC,Tryz.func381.trans (congrArg some rK)⟩
 t0:=Tryz.underlying0
 a0:=Tryz.isAgg0
 z0:=Tryz.sizeOf0
 v0:=Tryz.zeroValue0
 t3:=Tryz.underlying3
 a3:=Tryz.isAgg3
 z3:=Tryz.sizeOf3
 v3:=Tryz.zeroValue3
 t4:=Tryz.underlying4
 a4:=Tryz.isAgg4
 z4:=Tryz.sizeOf4
 v4:=Tryz.zeroValue4
 t5:=Tryz.underlying5
 a5:=Tryz.isAgg5
 z5:=Tryz.sizeOf5
 v5:=Tryz.zeroValue5
 t9:=Tryz.underlying9
 a9:=Tryz.isAgg9
 z9:=Tryz.sizeOf9
 v9:=Tryz.zeroValue9
 t22:=Tryz.underlying43
 a22:=Tryz.isAgg43
 z22:=Tryz.sizeOf43
 v22:=Tryz.zeroValue43
 a24:=Tryz.isAgg3
 z24:=Tryz.sizeOf3
 t25:=Tryz.underlying138
 a25:=Tryz.isAgg138
 z25:=Tryz.sizeOf138
 v25:=Tryz.zeroValue138
 t39:=Tryz.underlying363
 a39:=Tryz.isAgg363
 z39:=Tryz.sizeOf363
 v39:=Tryz.zeroValue363
 t45:=Tryz.underlying430
 a45:=Tryz.isAgg430
 z45:=Tryz.sizeOf430
 v45:=Tryz.zeroValue430
 t46:=Tryz.underlying431
 a46:=Tryz.isAgg431
 z46:=Tryz.sizeOf431
 v46:=Tryz.zeroValue431
 t50:=Tryz.underlying169
 a50:=Tryz.isAgg169
 z50:=Tryz.sizeOf169
 v50:=Tryz.zeroValue169
 t53:=Tryz.underlying391
 a53:=Tryz.isAgg391
 z53:=Tryz.sizeOf391
 v53:=Tryz.zeroValue391
 t55:=Tryz.underlying289
 a55:=Tryz.isAgg289
 z55:=Tryz.sizeOf289
 v55:=Tryz.zeroValue289
 t66:=Tryz.underlying436
 a66:=Tryz.isAgg436
 z66:=Tryz.sizeOf436
 v66:=Tryz.zeroValue436
 t70:=Tryz.underlying263
 a70:=Tryz.isAgg263
 z70:=Tryz.sizeOf263
 v70:=Tryz.zeroValue263
 t76:=Tryz.underlying441
 a76:=Tryz.isAgg441
 z76:=Tryz.sizeOf441
 v76:=Tryz.zeroValue441
 t77:=Tryz.underlying176
 a77:=Tryz.isAgg176
 z77:=Tryz.sizeOf176
 v77:=Tryz.zeroValue176}
def YtfnpmncplaibiaaGreatDoor.trimL_ren:Go.Shelf.Ren:=⟨λ|160=>121 |232=>177 |231=>176 |227=>178 |234=>180 |233=>179 |236=>182 |235=>181 |228=>235 |271=>238 |151=>237 |197=>236 |120=>281 |152=>280 |260=>279 |137=>302 |119=>303 |224=>304 |225=>305 |217=>327 |266=>349 |n=>n,λ|9=>9 |4=>4 |3=>3 |5=>5 |117=>257 |116=>256 |0=>0 |124=>260 |21=>21 |105=>321 |46=>363 |119=>376 |139=>379 |138=>378 |n=>n,λ|3=>5 |4=>6 |n=>n⟩
theorem YtfnpmncplaibiaaGreatDoor.trimL:Go.Proofs.Lays.n160 Tryz.prog YtfnpmncplaibiaaGreatDoor.trimL_ren:={
 mixed:=rK
 f119:=Tryz.func303.trans (congrArg some rK)
 f120:=Tryz.func281.trans (congrArg some rK)
 f137:=Tryz.func302.trans (congrArg some rK)
 f151:=Tryz.func237.trans (congrArg some rK)
 f152:=Tryz.func280.trans (congrArg some rK)
 f160:=Tryz.func121.trans (congrArg some rK)
 f197:=Tryz.func236.trans (congrArg some rK)
 f217:=Tryz.func327.trans (congrArg some rK)
 f224:=Tryz.func304.trans (congrArg some rK)
 f225:=Tryz.func305.trans (congrArg some rK)
 f227:=Tryz.func178.trans (congrArg some rK)
 f228:=Tryz.func235.trans (congrArg some rK)
 f231:=Tryz.func176.trans (congrArg some rK)
 f232:=Tryz.func177.trans (congrArg some rK)
 f233:=Tryz.func179.trans (congrArg some rK)
 f234:=Tryz.func180.trans (congrArg some rK)
 f235:=Tryz.func181.trans (congrArg some rK)
 f236:=Tryz.func182.trans (congrArg some rK)
 f260:=Tryz.func279.trans (congrArg some rK)
 f266:=Tryz.func349.trans (congrArg some rK)
 f271:=Tryz.func238.trans (congrArg some rK)
 t0:=Tryz.underlying0
 a0:=Tryz.isAgg0
 z0:=Tryz.sizeOf0
 v0:=Tryz.zeroValue0
 t3:=Tryz.underlying3
 a3:=Tryz.isAgg3
 z3:=Tryz.sizeOf3
 v3:=Tryz.zeroValue3
 t4:=Tryz.underlying4
 a4:=Tryz.isAgg4
 z4:=Tryz.sizeOf4
 v4:=Tryz.zeroValue4
 t5:=Tryz.underlying5
 a5:=Tryz.isAgg5
 z5:=Tryz.sizeOf5
 v5:=Tryz.zeroValue5
 t9:=Tryz.underlying9
 a9:=Tryz.isAgg9
 z9:=Tryz.sizeOf9
 v9:=Tryz.zeroValue9
 t21:=Tryz.underlying21
 a21:=Tryz.isAgg21
 z21:=Tryz.sizeOf21
 v21:=Tryz.zeroValue21
 t46:=Tryz.underlying363
 a46:=Tryz.isAgg363
 z46:=Tryz.sizeOf363
 v46:=Tryz.zeroValue363
 t105:=Tryz.underlying321
 a105:=Tryz.isAgg321
 z105:=Tryz.sizeOf321
 v105:=Tryz.zeroValue321
 t116:=Tryz.underlying256
 a116:=Tryz.isAgg256
 z116:=Tryz.sizeOf256
 t117:=Tryz.underlying257
 a117:=Tryz.isAgg257
 z117:=Tryz.sizeOf257
 v117:=Tryz.zeroValue257
 t119:=Tryz.underlying376
 a119:=Tryz.isAgg376
 z119:=Tryz.sizeOf376
 t124:=Tryz.underlying260
 a124:=Tryz.isAgg260
 z124:=Tryz.sizeOf260
 v124:=Tryz.zeroValue260
 t138:=Tryz.underlying378
 a138:=Tryz.isAgg378
 z138:=Tryz.sizeOf378
 v138:=Tryz.zeroValue378
 t139:=Tryz.underlying379
 a139:=Tryz.isAgg379
 z139:=Tryz.sizeOf379
 v139:=Tryz.zeroValue379
 g3:=rK
 g4:=rK}
def YtfnpmncplaibiaaGreatDoor.joinL_ren:Go.Shelf.Ren:=⟨λ|156=>195 |165=>241 |166=>242 |169=>243 |240=>283 |241=>284 |276=>310 |277=>311 |n=>n,λ|31=>226 |9=>9 |3=>3 |4=>4 |0=>0 |20=>20 |72=>327 |76=>329 |70=>325 |37=>40 |75=>86 |127=>362 |164=>388 |5=>5 |80=>286 |n=>n,λ|n=>n⟩
theorem YtfnpmncplaibiaaGreatDoor.joinL:Go.Proofs.Lays.n156 Tryz.prog YtfnpmncplaibiaaGreatDoor.joinL_ren:={
 mixed:=rK
 f156:=Tryz.func195.trans (congrArg some rK)
 f165:=Tryz.func241.trans (congrArg some rK)
 f166:=Tryz.func242.trans (congrArg some rK)
 f169:=Tryz.func243.trans (congrArg some rK)
 f240:=Tryz.func283.trans (congrArg some rK)
 f241:=Tryz.func284.trans (congrArg some rK)
 f276:=Tryz.func310.trans (congrArg some rK)
 f277:=Tryz.func311.trans (congrArg some rK)
 t0:=Tryz.underlying0
 a0:=Tryz.isAgg0
 z0:=Tryz.sizeOf0
 v0:=Tryz.zeroValue0
 t3:=Tryz.underlying3
 a3:=Tryz.isAgg3
 z3:=Tryz.sizeOf3
 v3:=Tryz.zeroValue3
 t4:=Tryz.underlying4
 a4:=Tryz.isAgg4
 z4:=Tryz.sizeOf4
 v4:=Tryz.zeroValue4
 t9:=Tryz.underlying9
 a9:=Tryz.isAgg9
 z9:=Tryz.sizeOf9
 v9:=Tryz.zeroValue9
 t20:=Tryz.underlying20
 a20:=Tryz.isAgg20
 z20:=Tryz.sizeOf20
 v20:=Tryz.zeroValue20
 t31:=Tryz.underlying226
 a31:=Tryz.isAgg226
 z31:=Tryz.sizeOf226
 v31:=Tryz.zeroValue226
 t37:=Tryz.underlying40
 a37:=Tryz.isAgg40
 z37:=Tryz.sizeOf40
 v37:=Tryz.zeroValue40
 t70:=Tryz.underlying325
 a70:=Tryz.isAgg325
 z70:=Tryz.sizeOf325
 v70:=Tryz.zeroValue325
 t72:=Tryz.underlying327
 a72:=Tryz.isAgg327
 z72:=Tryz.sizeOf327
 v72:=Tryz.zeroValue327
 t75:=Tryz.underlying86
 a75:=Tryz.isAgg86
 z75:=Tryz.sizeOf86
 v75:=Tryz.zeroValue86
 t76:=Tryz.underlying329
 a76:=Tryz.isAgg329
 z76:=Tryz.sizeOf329
 v76:=Tryz.zeroValue329
 t127:=Tryz.underlying362
 a127:=Tryz.isAgg362
 z127:=Tryz.sizeOf362
 v127:=Tryz.zeroValue362
 t164:=Tryz.underlying388
 a164:=Tryz.isAgg388
 z164:=Tryz.sizeOf388
 v164:=Tryz.zeroValue388}
end Go.Proofs
namespace Go.Proofs.YtfnpmncplaibiaaGreatDoor
open Go Go.Vc Go.Proofs
section
variable {w:World} {K:oK} {F G:oA}
theorem dw_nil {α:Type} {p:α->Bool}:∀{l:List α},l.dropWhile p=[]↔ ∀x,x∈l->p x=true
 |[]=>by simp
 |a::l=>by
  rw[PM];split
  .rename_i h;rw[dw_nil];constructor
   .intro b x c;rcases gk.1 c with rfl|c
    .exact h
    .exact b x c
   .intro b x c;exact b x (gx _ c)
  .rename_i h;constructor
   .intro b;cases b
   .intro b;exact absurd (b a gp) h
theorem dw_head {α:Type} {p:α->Bool}:∀{l:List α},l.dropWhile p≠[]->∃x,x∈l.dropWhile p/\p x=false
 |[],h=>absurd rfl h
 |a::l,h=>by
  rw[PM] at h⊢;split
  .rename_i b;rw[V0 b] at h;exact dw_head h
  .rename_i b;exact⟨a,gp,by simpa using b⟩
theorem dw_sub {α:Type} {p:α->Bool}:∀{l:List α} {x:α},x∈l.dropWhile p->x∈l
 |[],_,h=>h
 |a::l,x,h=>by
  rw[PM] at h;split at h
  .exact gx _ (dw_sub h)
  .exact h
theorem kC0 {l cs:List UInt8}:Lib.trimS l cs=[]↔ ∀x,x∈l->cs.contains x=true:=by
 unfold Lib.trimS Lib.trimLeftS Lib.trimRightS;rw[dw_nil];constructor
 .intro h;by_cases a:∀x,x∈l->cs.contains x=true
  .exact a
  .exfalso;have b:List.dropWhile (λx=>cs.contains x) l.reverse≠[]:=λe=>a λx c=>dw_nil.1 e x (PB.2 c);obtain⟨y,g,f⟩:=dw_head b;have d:=h y (PB.2 g);rw[f] at d;cases d
 .intro h x c;exact h x (PB.1 (dw_sub (PB.1 c)))
def abc:ByteArray:=⟨#[97,98,99,100,101,102,103,104,105,106,107,108,109,110,111,112,113,114,115,116,117,118,119,120,121,122]⟩
theorem abc_in (x:UInt8):abc.data.toList.contains x=(decide (97<=x.toNat)&&decide (x.toNat<=122)):=by
 have a:∀n:Fin 256,abc.data.toList.contains (UInt8.ofNat n.1)=(decide (97<=(UInt8.ofNat n.1).toNat)&&decide ((UInt8.ofNat n.1).toNat<=122)):=by decide+kernel
 have:=a ⟨x.toNat,x.toNat_lt⟩;simpa using this
theorem yJ0 {w w':World} (h:Go.RowKit.Below w.heap.size w w'):Ext w w':=⟨h.os,h.tape,h.output,h.size,λb a _=>h.block b a⟩
def ys0 (s:ByteArray):Bool:=s.data.all λc=>decide (97<=c.toNat)&&decide (c.toNat<=122)
theorem k20 {s:ByteArray} (hs:s.size<=9223372036854775807) (f:∀w' r,Ext w w'->(r=⟨#[]⟩↔ys0 s=true)->K (.string r) w'):vcall Vx #[.string s,.string abc] w K:=by
 refine⟨rK,?_⟩;refine(Any.strings_Trim_laid YtfnpmncplaibiaaGreatDoor.trimL rK s abc w hs dC (ascii_of_all dC)).mono ?_;rintro e w' ⟨rfl,g⟩;refine f w' _ (yJ0 g) ?_;have c:((⟨(Lib.trimS s.data.toList abc.data.toList).toArray⟩:ByteArray)=⟨#[]⟩)↔Lib.trimS s.data.toList abc.data.toList=[]:=by
  constructor
  .intro h;have d:=congrArg (λb:ByteArray=>b.data.toList) h;simpa using d
  .intro h;rw[h]
 rw[c,kC0];unfold ys0;rw[pL];constructor
 .intro h x a;rw[<-abc_in];exact h x (Pc.2 a)
 .intro h x a;rw[abc_in];exact h x (Pc.1 a)
theorem stDecl {b:Nat} {x y:Value} {t:TypeId} {s:ByteArray} {n:Int} (h:Blk w b [x,y] t) (c:∀w',Same (· =b) w w'->w'.heap.size=w.heap.size->Blk w' b [.string s,nI n] t->K undef w'):zy yR (oP b 0) (.agg ⟨[.string s,nI n]⟩) w K:=
 h.stAgg rfl rK (by intro v a;simp only[gk,gE,Gn] at a;rcases a with rfl|rfl<;>rfl) c
theorem ZZ (s:ByteArray):M.nameOk s=(decide (1<=s.size)&&decide (s.size<=4)&&decide (s≠M.tru)&&ys0 s):=rfl
theorem DeclOk_spec {v:Value} {ds:List M.Dcl} (N:DclsR F w v ds) (D:∀w',Ext w w'->K (.bool (M.declOk ds)) w'):vcall UI #[v] w K:=by
 refine zf {loops:=[(5,[3,11])],cuts:=[(32777,[])]} Tryz.func84 ?_;simp only[push_cast,N.len];refine zb (λa=>?_) (λa=>?_)
 .have:=D w (Same.refl _ _);rwa[show M.declOk ds=false from by rw[G1];intro h;have:=(M.decl_iff.1 h).1;omega] at this
 refine vloop_up ds.length (λi u w'=>u=[nI (M.bitT ds i),nI i]/\Ext w w'/\(∀j,j<i->M.dclOk ds j=true)/\ -4*(i:Int)<=M.bitT ds i/\M.bitT ds i<=4*i) ⟨rfl,Same.refl _ _,oM,by simp[M.bitT],by simp[M.bitT]⟩ ?_;rintro i _ _ w1 C hi ⟨rfl,o,q,a0,a1⟩ hC;have E:=N.ext o;refine oZ ?_;refine zb (λb=>?_) (λb=>?_)
 .have z:i<ds.length:=oM;have d:M.dclOk ds i=false->∀w',Ext w w'->K (.bool false) w':=λe w' he=>by
   have:=D w' he;rwa[show M.declOk ds=false from by rw[G1];intro h;have:=(M.decl_iff.1 h).2.1 i z;rw[e] at this;cases this] at this
  unfold M.dclOk at d;rw[ZZ] at d;simp(disch:=exact oS) only[push_cast,E.iaddr,E.load];obtain⟨s,n,B⟩:∃s n,ds.getD i XL=(s,n):=⟨_,_,rfl⟩;simp only[B] at d⊢;refine zj yO λb1 w2 U O a4 X=>?_;refine stDecl X λW R _ S=>?_;have a6:=o.size;have k:Ext w W:=Ext.then (o.trans O) R λy hy=>by subst hy;omega
  refine zp (λu w'=>u=[]/\Ext W w'/\M.nameOk s=true) (λC' L=>?_) ?_
  .simp(disch:=exact oS) only[push_cast,S.ld0,WK Zd];refine zb (λc=>?_) (λc=>?_)
   .exact d (by rw[gr (show¬1<=s.size by omega)];simp) _ k
   refine zb (λc2=>?_) (λc2=>?_)
   .exact d (by rw[gr (show¬s.size<=4 by omega)];simp) _ k
   refine zb (λc3=>?_) (λc3=>?_)
   .exact d (by rw[show decide (s≠M.tru)=false from gr (λh=>h c3)];simp) _ k
   refine k20 oM λw4 r l V=>?_;refine oZ ?_;refine zb (λI=>?_) (λI=>?_)
   .have:ys0 s=false:=by
     rw[G1];exact λh=>I (V.2 h)
    exact d (by rw[this];simp) _ (k.trans l)
   .have J:r=⟨#[]⟩:=by
     by_cases h:r=⟨#[]⟩
     .exact h
     .exact absurd h I
    refine L _ _ ⟨rfl,l,?_⟩;rw[ZZ,gC (show 1<=s.size by omega),gC (show s.size<=4 by omega),show decide (s≠M.tru)=true from gC c3,V.1 J];rfl
  .rintro u g w4 ⟨rfl,l,A⟩;have T:=S.ext l;have f:=k.trans l;have G:=N.ext f;rw[ZZ] at A;rw[A] at d;rw[G.cut (by intro e;subst e;simp at z) rK oM];refine oZ ?_;have a3:(ds.take i).length=i:=by rw[gi];omega
   refine Jm (p:=λj=>decide (((ds.take i).getD j XL).1=s)) (G.taken oM) (λj hj=>?_) λw5 m=>?_
   .intro w' K he D;refine oZ ?_;refine zf {} Tryz.func123 ?_;refine zk λb3 w6 a2 H a5 Z=>?_;have h7:=(T.ext he).ext H;simp(disch:=exact oS) only[push_cast,Z.ld0,h7.ld0];exact D _ H
   .rw[<-XK];have Y:=T.ext m;have efd:idxI (ds.take i).length (λj=>decide (((ds.take i).getD j XL).1=s))=M.findD (ds.take i) s:=rfl;rw[efd];refine zb (λc=>?_) (λc=>?_)
    .exact d (by rw[gr (show¬M.findD (ds.take i) s<0 by omega)];simp) _ (f.trans m)
    simp(disch:=exact oS) only[push_cast,Y.ld1];refine zb (λc1=>?_) (λc1=>?_)
    .exact d (by rw[gr (show¬1<=n by omega)];simp) _ (f.trans m)
    refine zb (λc2=>?_) (λc2=>?_)
    .exact d (by rw[gr (show¬n<=4 by omega)];simp) _ (f.trans m)
    have t:=M.bitT_succ z;rw[show ds.getD i (M.nada,0)=(s,n) from B] at t;rw[zi (x:=M.bitT ds i+n) oM oM,inc64' oM,show M.bitT ds i+n=M.bitT ds (i+1) from t.symm];refine hC oM _ _ ⟨rfl,f.trans m,λj hj=>?_,oM,oM⟩;by_cases e:j=i
    .subst e;unfold M.dclOk;rw[show ds.getD j (M.nada,0)=(s,n) from B,ZZ,A];simp only[pz,gl,gh];exact⟨⟨oM,oM⟩,oM⟩
    .exact q j oM
 .have Q:i=ds.length:=oM;subst Q;have:=D w1 o;rw[M.bitT_all];have e:M.declOk ds=decide (M.bits ds<=8):=by
   rw[z0j,M.decl_iff,gh];exact⟨λh=>h.2.2,λh=>⟨oM,q,h⟩⟩
  rwa[e] at this
theorem EnvOk_spec {v ev:Value} {ds:List M.Dcl} {env:oI} (p:DclsR F w v ds) (x:Ints G w ev env) (r:∀w',Ext w w'->K (.bool (M.envOk ds env)) w'):vcall yr0 #[v,ev] w K:=by
 refine zf {loops:=[(4,[19])],cuts:=[(8195,[])]} Tryz.func139 ?_;have A:=p.small;refine zp (λu w'=>u=[]/\Ext w w'/\M.declOk ds=true/\env.length=ds.length) (λC q=>?_) ?_
 .refine DeclOk_spec p λw1 c=>?_;have s:=p.ext c;have l:=x.ext c;have f:=r w1 c;unfold M.envOk at f;refine oZ ?_;refine zm (λa=>?_) (λa=>?_)
  .rw[show M.declOk ds=false by simpa using a] at f;exact f
  .rw[Gc] at a;simp only[push_cast,l.len,s.len];refine zb (λb=>?_) (λb=>?_)
   .rw[a,gr (show¬env.length=ds.length by omega)] at f;exact f
   .exact q _ _ ⟨rfl,c,a,oM⟩
 .rintro u g w1 ⟨rfl,c,t,z⟩;have l:=x.ext c;simp only[push_cast,l.len];refine vloop_up env.length (λi u w'=>u=[nI i]/\Ext w w'/\∀j,j<i->M.vok (ds.getD j XL).2 (env.getD j 0)=true) ⟨rfl,c,oM⟩ ?_;rintro i _ _ w2 C hi ⟨rfl,d,k⟩ q;have m:=p.ext d;have o:=x.ext d;refine oZ ?_;refine zb (λa=>?_) (λa=>?_)
  .simp(disch:=exact oS) only[push_cast,o.iaddr,o.load,m.iaddr]
   try simp(disch:=exact oS) only[push_cast,m.load1]
   refine VecOk_spec λB n=>?_;refine oZ ?_;refine zm (λb=>?_) (λb=>?_)
   .have f:=r B (d.trans n);rwa[show M.envOk ds env=false from by
     rw[G1];intro h;have:=(M.env_ok h).2.2 i oM;rw[this] at b;cases b] at f
   .rw[inc64' oM];refine q oM _ _ ⟨rfl,d.trans n,λj y=>?_⟩;by_cases e:j=i
    .subst e;simpa using b
    .exact k j oM
  .have f:=r w2 d;rwa[show M.envOk ds env=true from by
    simp only[M.envOk,gl,Ga,gN,gh];exact⟨⟨t,z⟩,λj y=>k j oM⟩] at f
theorem envMap_spec {v ev:Value} {ds:List M.Dcl} {env:oI} (o:DclsR F w v ds) (H:Ints G w ev env) (B:M.envOk ds env=true) (Q:∀w' b,Ext w w'->EnvM w' b ds env->K (.map (some b)) w'):vcall UC #[v,ev] w K:=by
 refine zf {loops:=[(3,[11])]} Tryz.func141 ?_;have X:=o.small;obtain⟨q,hl,_⟩:=M.env_ok B;refine WI KW λb w1 hb hm k V=>?_;have p:=o.ext k;simp only[push_cast,p.len];refine vloop_up ds.length (λi u w'=>u=[nI i]/\Ext w w'/\MapF .string w' b ((List.range i).map λj=>(Value.string (ds.getD j XL).1,nI (env.getD j 0)))) ⟨rfl,k,hm⟩ ?_;rintro i _ _ w2 C hi ⟨rfl,c,f⟩ O;have h:=o.ext c;have Y:=c.size;have U:=f.lt;refine oZ ?_;refine zb (λa=>?_) (λa=>?_)
 .simp(disch:=exact oS) only[push_cast,h.iaddr,h.load];refine zj yO λb1 w3 R r W J=>?_;refine stDecl J λZ E _ L=>?_;have l:Ext w2 Z:=Ext.then r E λy I=>by subst I;omega
  refine zd λw5 d _=>?_;have N:=L.ext d;have g:=(c.trans l).trans d;have m:=H.ext g;have z:=(f.ext l).ext d;simp(disch:=exact oS) only[push_cast,N.ld0,m.iaddr,m.load,K3];refine zE0 KW z (Ym _) (λx H=>?_) λw6 A D _=>?_
  .obtain⟨j,S,e⟩:=gB.1 H
   injection e with n e2
   injection n with n
   exact M.dcl_apart q (i:=i) (j:=j) oM (gN.1 S) n
  .try simp only[push_cast]
   rw[inc64' oM];refine O oM _ _ ⟨rfl,Ext.then g D λy I=>by subst I;omega,?_⟩;rw[PG,gG];exact A
 .have t:i=ds.length:=oM;subst t;refine Q w2 b c ⟨_,f,λs hs=>?_⟩;have T:=M.findD_lt ds s;refine gB.2 ⟨(M.findD ds s).toNat,gN.2 oM,?_⟩;rw[show(ds.getD (M.findD ds s).toNat XL).1=s from M.findD_get hs]
theorem TermSort_spec {dv v:Value} {ds:List M.Dcl} {t:M.Tm} (r:DclsR F w dv ds) (z:TermR G w v t) (q:∀w',Ext w w'->K (nI (M.tsort ds t)) w'):vcall KL #[dv,v] w K:=by
 refine zf {} Tryz.func87 ?_;obtain⟨cs,rfl,c⟩:=z.cells;refine zk λb1 w1 u g y n=>?_;rw[n.ldAgg (t:=za) (by rw[zS c];exact zc)];refine TermMany_spec (c.ext g).term λw2 i=>?_;refine oZ ?_;have e:=g.trans i;refine DeclOk_spec (r.ext e) λA j=>?_;have f:=e.trans j;have m:=q A f;unfold M.tsort at m;refine oZ ?_;refine zm (λa=>?_) (λa=>?_)
 .rwa[Q1 (λh=>by rw[h.2] at a;cases a)] at m
 .rw[Gc] at a;refine zb (λb=>?_) (λb=>?_)
  .rw[Q1 (λh=>by
    have n:=M.fits_iff.1 h.1;unfold M.manyM at b;rw[V0 h.1] at b;omega)] at m
   exact m
  .have x:M.fits t=true:=by
    by_cases h:M.fits t=true
    .exact h
    .unfold M.manyM at b;rw[Q1 h] at b;omega
   refine zd λC k _=>?_;have p:=((n.ext i).ext j).ext k;rw[p.ldAgg (t:=za) (by rw[zS c];exact zc)];refine⟨rfl,J5 λD mb l hm=>?_⟩;have s:=p.ext l;rw[s.ldAgg (t:=za) (by rw[zS c];exact zc)];have d:=(f.trans k).trans l;refine⟨⟨rfl,rfl⟩,sortOf_spec t hm (r.ext d) a (c.ext d).term λB o=>?_⟩;have:=q B (d.trans o);unfold M.tsort at this;rwa[V0 ⟨x,a⟩] at this
theorem zv0 {dv v ev:Value} {ds:List M.Dcl} {t:M.Tm} {env:oI} {H:oA} (r:DclsR F w dv ds) (J:TermR G w v t) (C:Ints H w ev env) (B:∀w',Ext w w'->K (.tuple #[nI (M.teval ds t env),.bool (M.tok ds t env)]) w'):vcall KP #[dv,v,ev] w K:=by
 refine zf {} Tryz.func100 ?_;obtain⟨cs,rfl,c⟩:=J.cells;refine zk λb1 w1 E i I y=>?_;rw[y.ldAgg (t:=za) (by rw[zS c];exact zc)];refine TermSort_spec (r.ext i) (c.ext i).term λw2 n=>?_;have d:=i.trans n;have k:M.tok ds t env=false->∀w',Ext w w'->K (.tuple #[nI 0,.bool false]) w':=λe w' he=>by
  have:=B w' he;unfold M.teval at this;rw[e] at this;exact this
 unfold M.tok at k;refine oZ ?_;refine zb (λa=>?_) (λa=>?_)
 .exact k (by rw[show decide (M.tsort ds t≠ -1)=false from gr (λh=>h a)];rfl) _ d
 .refine EnvOk_spec (r.ext d) (C.ext d) λO o=>?_;have m:=d.trans o;refine oZ ?_;refine zm (λb=>?_) (λb=>?_)
  .exact k (by rw[show M.envOk ds env=false by simpa using b,pR]) _ m
  .rw[Gc] at b;have x:M.tok ds t env=true:=by
    unfold M.tok;rw[show decide (M.tsort ds t≠ -1)=true from gC a,b];rfl
   have l:M.sortM ds t≠ -1:=by
    unfold M.tsort at a;split at a
    .exact a
    .exact absurd rfl a
   have L:M.tsort ds t=M.sortM ds t:=by
    unfold M.tsort at a⊢;split at a
    .rename_i h;rw[V0 h]
    .exact absurd rfl a
   refine zd λQ p _=>?_;have z:=((y.ext n).ext o).ext p;rw[z.ldAgg (t:=za) (by rw[zS c];exact zc)];refine⟨rfl,J5 λR mb q hm=>?_⟩;have A:=z.ext q;rw[A.ldAgg (t:=za) (by rw[zS c];exact zc)];have f:=(m.trans p).trans q;refine⟨⟨rfl,rfl⟩,envMap_spec (r.ext f) (C.ext f) b λS eb j u=>?_⟩;have D:=A.ext j;rw[D.ldAgg (t:=za) (by rw[zS c];exact zc)];have g:=f.trans j;refine⟨⟨rfl,rfl⟩,zH0 t (hm.ext j) (r.ext g) b u (c.ext g).term l λN s=>?_⟩;simp only[push_cast,K3];have:=B N (g.trans s);unfold M.teval at this;rw[x] at this;exact this
end
section
variable {w:World} {K:oK} {F G:oA}
theorem l2Name_spec {s:ByteArray} (hs:s.size<=9223372036854775807) (d:K (.bool (M.nameOk s)) w):vcall Uj #[.string s] w K:=by
 refine zf {loops:=[(2,[3])]} Tryz.func104 ?_;rw[ZZ] at d;refine vloop_up s.size (λi u w'=>u=[nI i]/\w'=w/\∀j,j<i->(decide (97<=(s.data.getD j 0).toNat)&&decide ((s.data.getD j 0).toNat<=122))=true) ⟨rfl,rfl,oM⟩ ?_;rintro i _ _ w1 C hi ⟨rfl,rfl,g⟩ o;simp(disch:=exact oS) only[push_cast,WK Zd];have l:i<s.size->(decide (97<=(s.data.getD i 0).toNat)&&decide ((s.data.getD i 0).toNat<=122))=false->ys0 s=false:=λf h=>by
  rw[G1];intro k;unfold ys0 at k;rw[pL] at k;have m:i<s.data.size:=f;have:=k (s.data.getD i 0) (by rw[Gf,GJ m];exact Array.getElem_mem m);rw[h] at this;cases this
 refine zb (λa=>?_) (λa=>?_)
 .have f:i<s.size:=oM;rw[vindex_str Zd oM oM,gu];refine oZ ?_;refine zb (λb=>?_) (λb=>?_)
  .rw[l f (by rw[gr (show¬97<=(s.data.getD i 0).toNat by omega)];rfl),pR] at d;exact d
  rw[vindex_str Zd oM oM,gu];refine oZ ?_;refine zb (λc=>?_) (λc=>?_)
  .rw[l f (by rw[gr (show¬(s.data.getD i 0).toNat<=122 by omega)];simp),pR] at d;exact d
  rw[inc64' oM];refine o f _ _ ⟨rfl,rfl,λj n=>?_⟩;by_cases e:j=i
  .subst e;simp only[gl,gh];omega
  .exact g j oM
 .have p:i=s.size:=oM;have k:ys0 s=true:=by
   unfold ys0;rw[pL];intro x q;obtain⟨j,n,rfl⟩:=Array.getElem_of_mem q;have:=g j (by have:s.data.size=s.size:=rfl;omega);rwa[Gf,GJ n] at this
  rw[k,z0a] at d
  try simp(disch:=exact oS) only[push_cast,WK Zd]
  refine zb (λb=>?_) (λb=>?_)
  .refine zb (λc=>?_) (λc=>?_)
   .rw[gC (show 1<=s.size by omega),gC (show s.size<=4 by omega)] at d;exact d
   .rw[gr (show¬s.size<=4 by omega)] at d;simpa using d
  .rw[gr (show¬1<=s.size by omega)] at d;simpa using d
theorem l2Find_spec {v:Value} {ds:List M.Dcl} {s:ByteArray} (f:DclsR F w v ds) (d:K (nI (M.findD ds s)) w):vcall Uk #[v,.string s] w K:=by
 refine zf {loops:=[(2,[5])]} Tryz.func105 ?_;have k:=f.small;refine vloop_up ds.length (λi u w'=>u=[nI i]/\w'=w/\∀j,j<i->(ds.getD j XL).1≠s) ⟨rfl,rfl,oM⟩ ?_;rintro i _ _ w1 C hi ⟨rfl,rfl,c⟩ g;simp only[push_cast,f.len];refine zb (λa=>?_) (λa=>?_)
 .try simp(disch:=exact oS) only[push_cast,f.iaddr]
  try simp(disch:=exact oS) only[push_cast,f.load0]
  refine zb (λb=>?_) (λb=>?_)
  .rw[M.findD_of oM b c] at d;exact d
  .rw[inc64' oM];refine g oM _ _ ⟨rfl,rfl,λj h=>?_⟩;by_cases e:j=i
   .subst e;exact b
   .exact c j oM
 .rw[M.findD_none (λj h=>c j oM)] at d;exact d
theorem spec_DeclOk_spec {v:Value} {ds:List M.Dcl} (E:DclsR F w v ds) (D:∀i,i<ds.length->(ds.getD i XL).1.size<=9223372036854775807) (A:∀w',Ext w w'->K (.bool (M.declOk ds)) w'):vcall Uu #[v] w K:=by
 refine zf {loops:=[(5,[3,4])]} Tryz.func68 ?_;simp only[push_cast,E.len];refine zb (λa=>?_) (λa=>?_)
 .have:=A w (Same.refl _ _);rwa[show M.declOk ds=false from by rw[G1];intro h;have:=(M.decl_iff.1 h).1;omega] at this
 refine vloop_up ds.length (λi u w'=>u=[nI (M.bitT ds i),nI i]/\Ext w w'/\(∀j,j<i->M.dclOk ds j=true)/\ -4*(i:Int)<=M.bitT ds i/\M.bitT ds i<=4*i) ⟨rfl,Same.refl _ _,oM,by simp[M.bitT],by simp[M.bitT]⟩ ?_;rintro i _ _ w1 C hi ⟨rfl,p,m,H,I⟩ G;have r:=E.ext p;simp only[push_cast,r.len];refine zb (λb=>?_) (λb=>?_)
 .have g:i<ds.length:=oM;have f:M.dclOk ds i=false->∀w',Ext w w'->K (.bool false) w':=λe w' he=>by
   have:=A w' he;rwa[show M.declOk ds=false from by rw[G1];intro h;have:=(M.decl_iff.1 h).2.1 i g;rw[e] at this;cases this] at this
  unfold M.dclOk at f;refine zd λw2 t _=>?_;have d:=r.ext t;have k:=p.trans t;simp(disch:=exact oS) only[push_cast,d.iaddr,K3];simp(disch:=exact oS) only[push_cast,d.load0,d.load1,K3];have y:=D i g;have o:=M.bitT_succ g;obtain⟨s,n,l⟩:∃s n,ds.getD i XL=(s,n):=⟨_,_,rfl⟩;rw[show ds.getD i (M.nada,0)=(s,n) from l] at o;simp only[l] at f y⊢;refine l2Name_spec y ?_;simp only[push_cast,K3];refine zm (λc=>?_) (λc=>?_)
  .exact f (by rw[show M.nameOk s=false by simpa using c];simp) _ k
  rw[Gc] at c;rw[c] at f;have ecut:∀(w:World) (K:oK),xt yF v none (some (nI (i:Int))) none w K=K (cutV v i) w:=λw K=>d.cut (by intro e;subst e;simp at g) rK oM;have z:∀(K:oK),zu xe (oE ((eaddr v 2 i).add 0)) w2 K=K (.string s) w2:=λK=>(by rw[d.load0 kM0 g,l]);have q:∀(K:oK),zu zE (oE ((eaddr v 2 i).add 1)) w2 K=K (nI n) w2:=λK=>by rw[d.load1 Jz g,l]
  try simp(disch:=exact oS) only[push_cast,d.iaddr,K3]
  try simp(disch:=exact oS) only[push_cast,d.iaddr,z,q,ecut,K3]
  refine zb (λc1=>?_) (λc1=>?_)
  .exact f (by rw[gr (show¬1<=n by omega)];simp) _ k
  refine zb (λc2=>?_) (λc2=>?_)
  .exact f (by rw[gr (show¬n<=4 by omega)];simp) _ k
  refine l2Find_spec (d.taken oM) ?_;simp only[push_cast,K3];refine zb (λc3=>?_) (λc3=>?_)
  .exact f (by rw[gr (show¬M.findD (ds.take i) s<0 by omega)];simp) _ k
  try simp(disch:=exact oS) only[push_cast,d.iaddr]
  try simp(disch:=exact oS) only[push_cast,q]
  rw[zi (x:=M.bitT ds i+n) oM oM,inc64' oM,show M.bitT ds i+n=M.bitT ds (i+1) from o.symm];refine G oM _ _ ⟨rfl,k,λj J=>?_,oM,oM⟩;by_cases e:j=i
  .subst e;unfold M.dclOk;rw[show ds.getD j (M.nada,0)=(s,n) from l,c];simp only[pz,gl,gh];exact⟨⟨oM,oM⟩,oM⟩
  .exact m j oM
 .have B:i=ds.length:=oM;subst B;have:=A w1 p;rw[M.bitT_all];have e:M.declOk ds=decide (M.bits ds<=8):=by
   rw[z0j,M.decl_iff,gh];exact⟨λh=>h.2.2,λh=>⟨oM,m,h⟩⟩
  rwa[e] at this
theorem spec_EnvOk_spec {v ev:Value} {ds:List M.Dcl} {env:oI} (q:DclsR F w v ds) (y:∀i,i<ds.length->(ds.getD i XL).1.size<=9223372036854775807) (A:Ints G w ev env) (s:∀w',Ext w w'->K (.bool (M.envOk ds env)) w'):vcall yl0 #[v,ev] w K:=by
 refine zf {loops:=[(4,[5])],cuts:=[(8195,[])]} Tryz.func82 ?_;have E:=q.small;refine zp (λu w'=>u=[]/\Ext w w'/\M.declOk ds=true/\env.length=ds.length) (λC r=>?_) ?_
 .refine spec_DeclOk_spec q y λw1 c=>?_;have t:=q.ext c;have z:=A.ext c;have k:=s w1 c;unfold M.envOk at k;refine oZ ?_;refine zm (λa=>?_) (λa=>?_)
  .rw[show M.declOk ds=false by simpa using a] at k;exact k
  .rw[Gc] at a;simp only[push_cast,z.len,t.len];refine zb (λb=>?_) (λb=>?_)
   .rw[a,gr (show¬env.length=ds.length by omega)] at k;exact k
   .exact r _ _ ⟨rfl,c,a,oM⟩
 .rintro u g w1 ⟨rfl,c,x,D⟩;refine vloop_up ds.length (λi u w'=>u=[nI i]/\Ext w w'/\∀j,j<i->M.vok (ds.getD j XL).2 (env.getD j 0)=true) ⟨rfl,c,oM⟩ ?_;rintro i _ _ w2 C hi ⟨rfl,d,l⟩ r;have m:=q.ext d;simp only[push_cast,m.len];refine zb (λa=>?_) (λa=>?_)
  .refine zd λI f _=>?_;have n:=m.ext f;have p:=(A.ext d).ext f;simp(disch:=exact oS) only[push_cast,p.iaddr,p.load,n.iaddr,K3]
   try simp(disch:=exact oS) only[push_cast,n.load1,K3]
   refine spec_VecOk_spec λH o=>?_;simp only[push_cast,K3];refine zm (λb=>?_) (λb=>?_)
   .have k:=s H ((d.trans f).trans o);rwa[show M.envOk ds env=false from by
     rw[G1];intro h;have:=(M.env_ok h).2.2 i oM;rw[this] at b;cases b] at k
   .rw[inc64' oM];refine r oM _ _ ⟨rfl,(d.trans f).trans o,λj B=>?_⟩;by_cases e:j=i
    .subst e;simpa using b
    .exact l j oM
  .have k:=s w2 d;rwa[show M.envOk ds env=true from by
    simp only[M.envOk,gl,Ga,gN,gh];exact⟨⟨x,D⟩,λj B=>l j oM⟩] at k
theorem spec_TermMany_spec:∀(t:M.Tm) {w:World} {K:oK} {F:oA} {v:Value},TermR F w v t->(∀w',Ext w w'->K (.tuple #[nI (M.manyM t),nI (M.lvlM t)]) w')->vcall KB #[v] w K:=by
 refine M.Tm.ind λt ih w K F v ht R=>?_;refine zf {loops:=[(4,[4,5,6])],cuts:=[(20486,[])]} Tryz.func106 ?_;obtain⟨ksv,rfl,y⟩:=ht;refine zk λb1 w1 S B a1 O=>?_;have a2:=y.small;have hS:=M.szT_all t;have hD:=M.dpT_all t;have k:M.fits t=true↔M.sizeM t<=20/\M.deepM t<=7:=M.fits_iff;refine vloop_up t.ks.length (λi u w'=> ∃n d:Nat,u=[nI n,nI d,nI i]/\Ext w1 w'/\n<=41/\d<=8/\(1+M.szT t.ks i<=20/\M.dpT t.ks i<=7->n=1+M.szT t.ks i/\d=M.dpT t.ks i)/\(¬(1+M.szT t.ks i<=20/\M.dpT t.ks i<=7)->20<n\/7<d))
  ⟨1,0,rfl,Same.refl _ _,oM,oM,λh=>⟨rfl,rfl⟩,λh=>by
   have I:M.szT t.ks 0=0:=rfl;have e2:M.dpT t.ks 0=0:=rfl;omega⟩ ?_
 rintro i _ _ w2 C hi ⟨n,d,rfl,o,c1,c2,c3,H⟩ Q;have J:=O.ext o;have L:=B.trans o;have l:=y.ext L;have V:=M.szT_mono (ks:=t.ks) (i:=i) (j:=t.ks.length) oM (gz _);have W:=M.dpT_mono (ks:=t.ks) (i:=i) (j:=t.ks.length) oM (gz _);have I:IntKind.i64.wrap ((d:Int)+1)=((d+1:Nat):Int):=inc64' oM;have m:(20<n\/i=t.ks.length)->∀q,(q=K)->vif (.bool (decide ((20:Int)<n))) (q (.tuple #[nI 21,nI 8]) w2) (vif (.bool (decide ((7:Int)<((d+1:Nat):Int)))) (q (.tuple #[nI 21,nI 8]) w2) (q (.tuple #[nI (n:Int),nI ((d+1:Nat):Int)]) w2)):=by
  rintro a0 q rfl;have p:=R w2 L;unfold M.manyM M.lvlM at p;have c:(20<n\/7<d+1)->¬(M.fits t=true):=λh T=>by
   have N:=k.1 T;have:=c3 oM;omega
  refine zb (λa=>?_) (λa=>?_)
  .rw[Q1 (c oM),Q1 (c oM)] at p;exact p
  refine zb (λb=>?_) (λb=>?_)
  .rw[Q1 (c oM),Q1 (c oM)] at p;exact p
  .have E:i=t.ks.length:=oM;subst E;have r:M.sizeM t<=20/\M.deepM t<=7:=by
    by_cases h:1+M.szT t.ks t.ks.length<=20/\M.dpT t.ks t.ks.length<=7
    .have:=c3 h;omega
    .have:=H h;omega
   have h3:=c3 oM;rw[V0 (k.2 r),V0 (k.2 r)] at p;rw[show n=M.sizeM t by omega,show d+1=M.deepM t by omega];exact p
 refine zp (λu w'=>u=[]/\w'=w2/\i<t.ks.length/\n<=20) (λC' z=>?_) ?_
 .simp only[push_cast,J.ld4,l.len,I];refine zb (λa=>?_) (λa=>?_)
  .refine zb (λb=>?_) (λb=>?_)
   .exact z _ _ ⟨rfl,rfl,oM,oM⟩
   .exact m (.inl oM) K rfl
  .exact m (.inr oM) K rfl
 .rintro u g w3 ⟨rfl,rfl,U,hn⟩;have X:=M.szT_succ (ks:=t.ks) (i:=i) oM;have Y:=M.dpT_succ (ks:=t.ks) (i:=i) oM;have Z:=M.szT_mono (ks:=t.ks) (i:=i+1) (j:=t.ks.length) oM (gz _);simp(disch:=exact oS) only[push_cast,J.ld4,l.iaddr];refine l.load zc oM λx N=>?_;refine ih _ (M.getD_mem oM _) N λw4 D=>?_;have f:=M.fits_iff (t:=t.ks.getD i default);have G:M.manyM (t.ks.getD i default)<=21:=by
   unfold M.manyM;split
   .have:=f.1 (by assumption);omega
   .omega
  have A:M.lvlM (t.ks.getD i default)<=8:=by
   unfold M.lvlM;split
   .have:=f.1 (by assumption);omega
   .omega
  have e:M.sizeM (t.ks.getD i default)<=20/\M.deepM (t.ks.getD i default)<=7->M.manyM (t.ks.getD i default)=M.sizeM (t.ks.getD i default)/\M.lvlM (t.ks.getD i default)=M.deepM (t.ks.getD i default):=λh=>by
   unfold M.manyM M.lvlM;rw[V0 (f.2 h),V0 (f.2 h)];exact⟨rfl,rfl⟩
  have c: ¬(M.sizeM (t.ks.getD i default)<=20/\M.deepM (t.ks.getD i default)<=7)->M.manyM (t.ks.getD i default)=21/\M.lvlM (t.ks.getD i default)=8:=λh=>by
   unfold M.manyM M.lvlM;rw[Q1 (λx=>h (f.1 x)),Q1 (λx=>h (f.1 x))];exact⟨rfl,rfl⟩
  generalize M.manyM (t.ks.getD i default)=nk at G e c⊢;generalize M.lvlM (t.ks.getD i default)=dk at A e c⊢;refine oZ ?_;refine l1Max_spec ?_
  try simp only[push_cast]
  rw[inc64' oM,zi (x:=(n:Int)+nk) oM oM,show(n:Int)+(nk:Int)=((n+nk:Nat):Int) by omega,show max (d:Int) (dk:Int)=((max d dk:Nat):Int) by omega];refine Q oM _ _ ⟨n+nk,max d dk,rfl,o.trans D,oM,oM,λh=>?_,λh=>?_⟩
  .have:=c3 oM;have:=e oM;omega
  .by_cases r:M.sizeM (t.ks.getD i default)<=20/\M.deepM (t.ks.getD i default)<=7
   .have h5:=e r;by_cases s:1+M.szT t.ks i<=20/\M.dpT t.ks i<=7
    .have:=c3 s;omega
    .have:=H s;omega
   .have:=c r;omega
end
section
variable {w:World} {K:oK} {F G:oA}
theorem l2Arity_spec {o:Int} (f:K (nI (M.arity o)) w):vcall VN #[nI o] w K:=by
 refine zf {cuts:=[(12293,[4])]} Tryz.func212 ?_;have d:∀c,M.arity o=c->K (nI c) w:=by grind
 refine zp (λu w'=>u=[.bool (decide (o=20\/o=21\/o=24))]/\w'=w) (λC e=>?_) ?_
 .refine oZ ?_;refine zb (λa=>?_) (λa=>?_)
  .grind
  refine zb (λb=>?_) (λb=>?_)
  .grind
  grind
 .rintro u g w1 ⟨rfl,rfl⟩;simp only[push_cast]
  repeat' first
   |exact d _ (by
    unfold M.arity;repeat' split
    all_goals omega)
   |refine zb (λ_=>?_) (λ_=>?_)
theorem l2Plain_spec {v:Value} {t:M.Tm} (x:TermR F w v t) (n:∀w',Ext w w'->K (.bool (M.formed t)) w'):vcall VL #[v] w K:=by
 refine zf {cuts:=[(8195,[]),(16389,[])]} Tryz.func147 ?_;obtain⟨ksv,rfl,m⟩:=x;refine zk λb1 w1 p f r j=>?_;have y:=n _ f;have k:M.plainM t=false->K (.bool false) w1:=λh=>by
  simp_all[M.formed]
 unfold M.plainM at k;refine zp (λu w'=>u=[]/\w'=w1/\(decide (t.op=21)||decide (t.s=M.nada))=true) (λC o=>?_) ?_
 .simp only[push_cast,j.ld0,j.ld3];refine zb (λa=>?_) (λa=>?_)
  .refine zb (λb=>?_) (λb=>?_)
   .grind [M.nada]
   grind [M.nada]
  grind
 rintro u g w2 ⟨rfl,rfl,q⟩;rw[q,z0a] at k;refine zp (λu w'=>u=[]/\w'=w2/\(decide (t.op=20)||decide (t.op=22)||(decide (t.a=0)&&decide (t.b=0)))=true) (λC o=>?_) ?_
 .simp only[push_cast,j.ld0,j.ld1,j.ld2];refine zb (λa=>?_) (λa=>?_)
  .refine zb (λb=>?_) (λb=>?_)
   .refine zb (λc=>?_) (λc=>?_)
    .grind
    grind [zb]
   grind
  grind
 rintro u g z ⟨rfl,rfl,hm⟩;refine zd λA i _=>?_;have l:=j.ext i;have d:=m.ext (f.trans i);simp only[push_cast,l.ld0,l.ld4,d.len,K3];refine l2Arity_spec ?_;simp only[push_cast,l.ld4,d.len,K3,gm];have:=n _ (f.trans i);have e:M.formed t=decide ((t.ks.length:Int)=M.arity t.op):=by
  unfold M.formed M.plainM
  grind
 grind
theorem l2One_spec {v:Value} {t:M.Tm} {a:Int} (n:TermR F w v t) (q: -1<=a/\a<=4) (p:∀w',Ext w w'->K (nI (M.oneM t a)) w'):vcall yd0 #[v,nI a] w K:=by
 refine zf {cuts:=[(8194,[5]),(16388,[13]),(28679,[40])]} Tryz.func148 ?_;obtain⟨ksv,rfl,l⟩:=n;refine zk λb1 w1 i j m f=>?_;have k:∀c,M.oneM t a=c->K (nI c) w1:=by grind
 unfold M.oneM at k;refine zp (λu w'=>u=[.bool (decide (t.op=25/\a=0))]/\w'=w1) (λC h=>?_) ?_
 .simp only[push_cast,f.ld0]
  grind [zb]
 rintro u g w2 ⟨rfl,rfl⟩;refine oZ ?_;refine zb (λb=>?_) (λb=>?_)
 .grind
 refine zp (λu w'=>u=[.bool (decide (t.op=25\/a<1))]/\w'=w2) (λC h=>?_) ?_
 .simp only[push_cast,f.ld0]
  grind [zb]
 rintro u g o ⟨rfl,rfl⟩;refine oZ ?_;refine zb (λc=>?_) (λc=>?_)
 .grind
 simp only[push_cast,f.ld0];refine zb (λd=>?_) (λd=>?_)
 .refine zp (λu w'=>u=[.bool (decide (0<=t.b/\t.b<=t.a/\t.a<a))]/\w'=o) (λC h=>?_) ?_
  .simp only[push_cast,f.ld1,f.ld2]
   grind [zb]
  rintro u g r ⟨rfl,rfl⟩;refine oZ ?_;refine zb (λe=>?_) (λe=>?_)
  .simp only[push_cast,f.ld1,f.ld2]
   grind [zi]
  grind
 grind
theorem l2Both_spec {o a b:Int} (j: -1<=a/\a<=4) (h: -1<=b/\b<=4) (i:K (nI (M.bothM o a b)) w):vcall Um #[nI o,nI a,nI b] w K:=by
 refine zf {cuts:=[(12291,[8]),(24582,[21])]} Tryz.func149 ?_;have d:∀c,M.bothM o a b=c->K (nI c) w:=by grind
 unfold M.bothM at d;refine zp (λu w'=>u=[.bool (decide (o=26\/o=27))]/\w'=w) (λC f=>?_) ?_
 .simp only[push_cast]
  grind [zb]
 rintro u g w2 ⟨rfl,rfl⟩;refine oZ ?_;refine zb (λc=>?_) (λc=>?_)
 .grind [zb]
 refine zp (λu w'=>u=[.bool (decide (a<1\/b<1))]/\w'=w2) (λC f=>?_) ?_
 .grind [zb]
 rintro u g k ⟨rfl,rfl⟩;have e:IntKind.i64.wrap (a+b)=a+b:=zi oM oM;simp only[push_cast,e]
 repeat' first
  |exact d _ (by
   repeat' split
   all_goals omega)
  |refine zb (λ_=>?_) (λ_=>?_)
theorem l2Sort_spec:∀(t:M.Tm) {w:World} {K:oK} {F G:oA} {dv v:Value} {ds:List M.Dcl},DclsR F w dv ds->M.declOk ds=true->TermR G w v t->(∀w',Ext w w'->K (nI (M.sortM ds t)) w')->vcall Uh #[dv,v] w K:=by
 refine M.Tm.ind λt Q w K F G dv v ds I f X hK=>?_;refine zf {} Tryz.func107 ?_;obtain⟨ksv,rfl,l⟩:=X;refine zk λb1 w1 T q V R=>?_;have y:∀c w',M.sortM ds t=c->Ext w w'->K (nI c) w':=by grind
 rw[R.ldAgg (t:=za) zc];refine l2Plain_spec (F:=G) (t:=t) ⟨ksv,rfl,l.ext q⟩ λw2 r=>?_;have p:=q.trans r;have n:=R.ext r;refine oZ ?_;refine zm (λa=>?_) (λa=>?_)
 .grind [M.sort_bad]
 have x:M.formed t=true:=by simpa using a
 have S:=(M.formed_iff.1 x).1;have j:=I.ext p;simp only[push_cast,n.ld0];refine zb (λC=>?_) (λC=>?_)
 .have B:t.ks.length=0:=(by grind [M.arity]);have hs:=M.sort_leaf (ds:=ds) x B;simp only[push_cast,n.ld1,n.ld2];refine spec_VecOk_spec λw3 e=>?_;have o:=n.ext e;refine zm (λb=>?_) (λb=>?_)
  .simp only[push_cast,o.ld1];exact y _ _ (by simp_all[M.sortK]) (p.trans e)
  .exact y _ _ (by simp_all[M.sortK]) (p.trans e)
 refine zb (λD=>?_) (λD=>?_)
 .have B:t.ks.length=0:=(by grind [M.arity]);have hs:=M.sort_leaf (ds:=ds) x B;have U:=M.findD_lt ds t.s;simp only[push_cast,n.ld3];refine l2Find_spec j ?_
  try simp only[push_cast]
  refine zb (λb=>?_) (λb=>?_)
  .grind [M.sortK]
  .try simp(disch:=exact oS) only[push_cast,j.iaddr]
   try simp(disch:=exact oS) only[push_cast,j.load1]
   grind [M.sortK]
 refine zb (λE=>?_) (λE=>?_)
 .have B:t.ks.length=0:=(by grind [M.arity]);simp_all[M.sort_leaf,M.sortK]
 have hlen:t.ks.length=1\/t.ks.length=2\/t.ks.length=3:=by
  grind [M.arity]
 have m:=l.ext p;simp(disch:=exact oS) only[push_cast,n.ld4,m.iaddr];refine m.load zc oM λx0 L=>?_;refine Q (M.kid t 0) (M.kid_mem oM) j f L λw3 e=>?_;have o:=n.ext e;have h:=p.trans e;have d:=l.ext h;have A:=M.sort_range f (M.kid t 0);simp(disch:=exact oS) only[push_cast,o.ld4,d.len];refine zb (λY=>?_) (λY=>?_)
 .rw[o.ldAgg (t:=za) zc];refine l2One_spec (F:=G) (t:=t) ⟨ksv,rfl,d⟩ A λw4 k=>?_;exact y _ _ (M.sort_one f x oM) (h.trans k)
 simp(disch:=exact oS) only[push_cast,o.ld4,d.iaddr];refine d.load zc oM λx1 N=>?_;refine Q (M.kid t 1) (M.kid_mem oM) (I.ext h) f N λw4 k=>?_;have H:=o.ext k;have i:=h.trans k;have g:=l.ext i;have J:=M.sort_range f (M.kid t 1);simp(disch:=exact oS) only[push_cast,H.ld4,H.ld0,g.len];refine zb (λZ=>?_) (λZ=>?_)
 .refine l2Both_spec A J ?_
  grind [M.sort_two]
 have W:=M.sort_three (ds:=ds) x oM;refine zb (λz=>?_) (λz=>?_)
 .grind
 simp(disch:=exact oS) only[push_cast,H.ld4,g.iaddr];refine g.load zc oM λx2 O=>?_;refine Q (M.kid t 2) (M.kid_mem oM) (I.ext i) f O λw5 u=>?_;refine oZ ?_;refine zb (λz2=>?_) (λz2=>?_)
 .exact y _ _ oM (i.trans u)
 .exact y _ _ oM (i.trans u)
def yP0 (ds:List M.Dcl):Prop:=∀i,i<ds.length->(ds.getD i XL).1.size<=9223372036854775807
theorem spec_TermSort_spec {dv v:Value} {ds:List M.Dcl} {t:M.Tm} (n:yP0 ds) (p:DclsR F w dv ds) (x:TermR G w v t) (o:∀w',Ext w w'->K (nI (M.tsort ds t)) w'):vcall Kz #[dv,v] w K:=by
 refine zf {} Tryz.func69 ?_;obtain⟨cs,rfl,e⟩:=x.cells;refine zk λb1 w1 s g u k=>?_;rw[k.ldAgg (t:=za) (by rw[zS e];exact zc)];refine spec_TermMany_spec t (e.ext g).term λw2 i=>?_;refine oZ ?_;have f:=g.trans i;refine spec_DeclOk_spec (p.ext f) n λy j=>?_;have d:=f.trans j;have m:=o y d;unfold M.tsort at m;refine oZ ?_;refine zm (λa=>?_) (λa=>?_)
 .grind
 rw[Gc] at a;refine zb (λb=>?_) (λb=>?_)
 .rw[Q1 (λh=>by
   have k:=M.fits_iff.1 h.1;unfold M.manyM at b
   grind)] at m
  exact m
 have q:M.fits t=true:=by
  grind [M.manyM]
 refine zb (λc=>?_) (λc=>?_)
 .unfold M.lvlM at c;rw[V0 q] at c;have:=M.fits_iff.1 q;omega
 have r:=(k.ext i).ext j;rw[r.ldAgg (t:=za) (by rw[zS e];exact zc)];refine l2Sort_spec t (p.ext d) a (e.ext d).term λz l=>?_;have:=o z (d.trans l);simp_all[M.tsort]
theorem XJ {b:Bool} (a:K (nI (M.b2i b)) w):vcall Un #[.bool b] w K:=by
 refine zf {} Tryz.func118 ?_;refine zm (λh=>?_) (λh=>?_)<;>subst h<;>exact a
def ZL0 (H:oA) (w:World) (ev:Value) (env:oI) (t:M.Tm):Prop:=Ints H w ev env\/nnB t=true
theorem qB {H:oA} {ev:Value} {env:oI} {t:M.Tm} {w w':World} (h:ZL0 H w ev env t) (he:Ext w w'):ZL0 H w' ev env t:=h.imp (λh=>h.ext he) id
theorem jl {H:oA} {ev:Value} {env:oI} {t k:M.Tm} (h:ZL0 H w ev env t) (a:k∈t.ks):ZL0 H w ev env k:=h.imp id λh=>(nnB_iff.1 h).2 k a
theorem jL0 {H:oA} {ev:Value} {env:oI} {t:M.Tm} (h:ZL0 H w ev env t) (a:t.op=21):Ints H w ev env:=h.elim id λh=>absurd a (nnB_iff.1 h).1
def k60 (t:M.Tm):Prop:=∀{w:World} {K:oK} {F G H:oA} {dv v ev:Value} {ds:List M.Dcl} {env:oI},DclsR F w dv ds->M.envOk ds env=true->TermR G w v t->ZL0 H w ev env t->M.sortM ds t≠ -1->(∀w',Ext w w'->K (nI (M.evalM ds env t)) w')->vcall Ul #[dv,v,ev] w K
theorem l2Vec_spec {t:M.Tm} (A:k60 t) {H:oA} {dv v ev:Value} {ds:List M.Dcl} {env:oI} (l:DclsR F w dv ds) (he:M.envOk ds env=true) (x:TermR G w v t) (z:ZL0 H w ev env t) (hs:M.sortM ds t≠ -1) (p:∀w',Ext w w'->K (qa (M.sortM ds t) (M.evalM ds env t)) w'):vcall yc0 #[dv,v,ev] w K:=by
 refine zf {} Tryz.func269 ?_;obtain⟨cs,rfl,c⟩:=x.cells;refine zk λb1 w1 q h s m=>?_;refine zj zY λb2 w2 r f u n=>?_;refine zd λC d _=>?_;have k:=(m.ext f).ext d;have b:=(h.trans f).trans d;have i:aggB za cs.length=true:=by rw[zS c];exact zc
 rw[k.ldAgg (t:=za) i];refine⟨rfl,?_⟩;rw[k.ldAgg (t:=za) i];refine⟨rfl,l2Sort_spec t (l.ext b) (M.env_ok he).1 (c.ext b).term λD e=>?_⟩;rw[(k.ext e).ldAgg (t:=za) i];have a:=b.trans e;refine⟨⟨rfl,rfl⟩,A (l.ext a) he (c.ext a).term (qB z a) hs λE g=>?_⟩;simp only[push_cast,K3];refine stVec (((n.ext d).ext e).ext g) λI j _ o=>?_;rw[o.lv rK];exact p _ (Ext.then (a.trans g) j λy B=>oM)
theorem l2Do_spec {t:M.Tm} (W:∀k,k∈t.ks->k60 k) {H:oA} {dv v ev:Value} {ds:List M.Dcl} {env:oI} (T:DclsR F w dv ds) (he:M.envOk ds env=true) (ht:TermR G w v t) (V:ZL0 H w ev env t) (hs:M.sortM ds t≠ -1)
  (ho:(1<=t.op/\t.op<=17)\/t.op=22) (I:∀w',Ext w w'->K (nI (M.evalM ds env t)) w'):vcall xf0 #[dv,v,ev] w K:=by
 refine zf {} Tryz.func223 ?_;obtain⟨ksv,rfl,z⟩:=ht;have a3:1<=t.ks.length:=by
  rcases(by omega:t.op=22\/(t.op=1\/t.op=2)\/(3<=t.op/\t.op<=14)\/(15<=t.op/\t.op<=17)) with h|h|h|h
  .have:=(M.eval_cut he hs h).1;omega
  .have:=(M.eval_un he hs h).1;omega
  .have:=(M.eval_bin he hs h.1 h.2).1;omega
  .have:=(M.eval_cmp he hs h.1 h.2).1;omega
 refine zk λb1 w1 a0 e a7 L=>?_;have j:=z.ext e;simp(disch:=exact oS) only[push_cast,L.ld4,j.iaddr];refine j.load zc oM λx0 Q=>?_;refine l2Vec_spec (W (M.kid t 0) (M.kid_mem oM)) (T.ext e) he Q (jl (qB V e) (M.kid_mem oM)) (M.good_kid hs oM) λw2 n=>?_;refine zj zY λb2 w3 a1 x a8 h3=>?_;refine stVec h3 λw4 C _ E=>?_;have aa:=e.size;have ab:=n.size;have b:Ext w w4:=Ext.then ((e.trans n).trans x) C λy p=>oM
 have a4:=L.lt;have l:=((L.ext n).ext x).same C oM;simp only[push_cast,l.ld0];refine zb (λr=>?_) (λr=>?_)
 .obtain⟨hl,hv,o⟩:=M.eval_cut he hs r;simp only[push_cast,E.ldAgg (t:=zh) zt,l.ld1,l.ld2];refine spec_VecCut_spec λY a=>?_;refine oZ ?_;refine zj zY λb3 Z u c A s=>?_;refine stVec s λD d _ q=>?_;simp only[push_cast,q.ld1];have:=I D (Ext.then ((b.trans a).trans c) d λy p=>by subst p;have:=(b.trans a).size;omega)
  grind
 have f:=z.ext b;simp only[push_cast,l.ld4,f.len];refine zb (λl1=>?_) (λl1=>?_)
 .have i:t.op=1\/t.op=2:=by
   grind [M.eval_bin,M.eval_cmp]
  obtain⟨hl,hv,o⟩:=M.eval_un he hs i;simp only[push_cast,E.ldAgg (t:=zh) zt,l.ld0];refine spec_VecUn_spec λY a=>?_;refine oZ ?_;refine zj zY λb3 Z u c A s=>?_;refine stVec s λD d _ q=>?_;simp only[push_cast,q.ld1];have:=I D (Ext.then ((b.trans a).trans c) d λy p=>by subst p;have:=(b.trans a).size;omega)
  grind
 have i:3<=t.op/\t.op<=17:=by
  grind [M.eval_un]
 have a5:t.ks.length=2:=by
  grind [M.eval_bin,M.eval_cmp]
 simp(disch:=exact oS) only[push_cast,l.ld4,f.iaddr];refine f.load zc oM λx1 R=>?_;refine l2Vec_spec (W (M.kid t 1) (M.kid_mem oM)) (T.ext b) he R (jl (qB V b) (M.kid_mem oM)) (M.good_kid hs oM) λY a=>?_;refine zj zY λb3 Z u c A s=>?_;refine stVec s λD d _ q=>?_;have ac:=b.size;have ad:=a.size;have m:Ext w D:=Ext.then ((b.trans a).trans c) d λy p=>oM
 have a6:=E.lt;have U:=l.lt;have S:=((l.ext a).ext c).same d oM;have X:=((E.ext a).ext c).same d oM;simp only[push_cast,S.ld0];refine zb (λJ=>?_) (λJ=>?_)
 .obtain⟨_,_,_,o⟩:=M.eval_cmp he hs oM i.2;simp only[push_cast,X.ldAgg (t:=zh) zt,q.ldAgg (t:=zh) zt,S.ld0];refine spec_VecCmp_spec λw8 g=>?_;refine oZ ?_;refine XJ ?_;have:=I _ (m.trans g)
  grind
 .obtain⟨_,_,_,o⟩:=M.eval_bin he hs i.1 oM;simp only[push_cast,X.ldAgg (t:=zh) zt,q.ldAgg (t:=zh) zt,S.ld0];refine spec_VecBin_spec λw8 g=>?_;refine oZ ?_;refine zj zY λb4 w9 a2 O a9 h9=>?_;refine stVec h9 λw10 B _ N=>?_;simp only[push_cast,N.ld1];have:=I w10 (Ext.then ((m.trans g).trans O) B λy p=>by subst p;have:=(m.trans g).size;omega)
  grind
theorem l2Eval_spec:∀(t:M.Tm),k60 t:=by
 refine M.Tm.ind λt B=>?_;intro w K F G H dv v ev ds env x he ht y hs Z;refine zf {} Tryz.func169 ?_;obtain⟨ksv,rfl,n⟩:=ht;refine zk λb1 w1 a0 g a5 A=>?_;have l:=n.ext g;have I:∀c w',M.evalM ds env t=c->Ext w w'->K (nI c) w':=by grind
 have Y:=M.arity_ops (o:=t.op) (by have:=(M.formed_iff.1 (M.sort_parts hs).1).1;omega);simp only[push_cast,A.ld0];refine zb (λR=>?_) (λR=>?_)
 .simp only[push_cast,A.ld2]
  grind [M.eval_leaf]
 refine zb (λD=>?_) (λD=>?_)
 .have a4:=M.findD_lt ds t.s;have a3:=M.name_found hs D;have a2:=(M.env_ok he).2.1;have p:=(jL0 y D).ext g;simp only[push_cast,A.ld3];refine l2Find_spec (x.ext g) ?_;simp(disch:=exact oS) only[push_cast,p.iaddr,p.load]
  grind [M.eval_leaf]
 refine zb (λS=>?_) (λS=>?_)
 .grind [M.eval_leaf]
 refine zb (λN=>?_) (λN=>?_)
 .obtain⟨V,P,j⟩:=M.eval_no he hs N;simp(disch:=exact oS) only[push_cast,A.ld4,l.iaddr];refine l.load zc oM λx0 J=>?_;refine B (M.kid t 0) (M.kid_mem oM) (x.ext g) he J (jl (qB y g) (M.kid_mem oM)) (M.good_kid hs oM) λw2 h=>?_;refine oZ ?_;have a1:=M.inS_zero P;rw[zi oM oM];exact I _ _ j (g.trans h)
 refine zb (λz=>?_) (λz=>?_)
 .obtain⟨V,P,Q,j⟩:=M.eval_two he hs (.inl z);rw[V0 z] at j;refine zd λw2 h _=>?_;have C:=A.ext h;have a:=g.trans h;have f:=n.ext a;simp(disch:=exact oS) only[push_cast,C.ld4,f.iaddr,K3];obtain⟨css,m,U,q⟩:=f;rw[m.ldAgg zc (i:=0) oM];simp only[K3];rw[m.ldAgg zc (i:=1) oM];simp only[K3];refine B (M.kid t 0) (M.kid_mem oM) (x.ext a) he (q 0 oM).term (jl (qB y a) (M.kid_mem oM)) (M.good_kid hs oM) λW d=>?_;have T:=C.ext d;have r:=n.ext (a.trans d);have u:=m.ext d;simp(disch:=exact oS) only[push_cast,T.ld4,r.iaddr,K3];rw[u.ldAgg zc (i:=1) oM];refine⟨⟨rfl,rfl⟩,?_⟩
  try simp only[K3,gm]
  refine B (M.kid t 1) (M.kid_mem oM) (x.ext (a.trans d)) he ((q 1 oM).ext d).term (jl (qB y (a.trans d)) (M.kid_mem oM)) (M.good_kid hs oM) λw4 E=>?_;simp only[push_cast,K3];have e:IntKind.i64.wrap (M.evalM ds env (M.kid t 0)*M.evalM ds env (M.kid t 1))=M.evalM ds env (M.kid t 0)*M.evalM ds env (M.kid t 1):=by
   rcases M.inS_zero P with e|e<;>rcases M.inS_zero Q with X|X<;>rw[e,X]<;>rfl
  rw[e];exact I _ _ j ((a.trans d).trans E)
 refine zb (λO=>?_) (λO=>?_)
 .obtain⟨V,P,Q,j⟩:=M.eval_two he hs (.inr O);rw[Q1 z] at j;refine zd λw2 h _=>?_;have C:=A.ext h;have a:=g.trans h;have f:=n.ext a;simp(disch:=exact oS) only[push_cast,C.ld4,f.iaddr,K3];obtain⟨css,m,U,q⟩:=f;rw[m.ldAgg zc (i:=0) oM];simp only[K3];rw[m.ldAgg zc (i:=1) oM];simp only[K3];refine B (M.kid t 0) (M.kid_mem oM) (x.ext a) he (q 0 oM).term (jl (qB y a) (M.kid_mem oM)) (M.good_kid hs oM) λW d=>?_;have T:=C.ext d;have r:=n.ext (a.trans d);have u:=m.ext d;simp(disch:=exact oS) only[push_cast,T.ld4,r.iaddr,K3];rw[u.ldAgg zc (i:=1) oM];refine⟨⟨rfl,rfl⟩,?_⟩
  try simp only[K3,gm]
  refine B (M.kid t 1) (M.kid_mem oM) (x.ext (a.trans d)) he ((q 1 oM).ext d).term (jl (qB y (a.trans d)) (M.kid_mem oM)) (M.good_kid hs oM) λw4 E=>?_;refine l1Max_spec ?_;exact I _ _ j ((a.trans d).trans E)
 refine zb (λL=>?_) (λL=>?_)
 .obtain⟨V,P,j⟩:=M.eval_if he hs L;simp(disch:=exact oS) only[push_cast,A.ld4,l.iaddr];refine l.load zc oM λx0 J=>?_;refine B (M.kid t 0) (M.kid_mem oM) (x.ext g) he J (jl (qB y g) (M.kid_mem oM)) (M.good_kid hs oM) λw2 h=>?_;have C:=A.ext h;have a:=g.trans h;have f:=n.ext a;refine oZ ?_;refine zb (λb=>?_) (λb=>?_)
  .rw[V0 b] at j;simp(disch:=exact oS) only[push_cast,C.ld4,f.iaddr];refine f.load zc oM λx1 p=>?_;refine B (M.kid t 1) (M.kid_mem oM) (x.ext a) he p (jl (qB y a) (M.kid_mem oM)) (M.good_kid hs oM) λW d=>?_;exact I _ _ j (a.trans d)
  .rw[Q1 b] at j;simp(disch:=exact oS) only[push_cast,C.ld4,f.iaddr];refine f.load zc oM λx1 p=>?_;refine B (M.kid t 2) (M.kid_mem oM) (x.ext a) he p (jl (qB y a) (M.kid_mem oM)) (M.good_kid hs oM) λW d=>?_;exact I _ _ j (a.trans d)
 .rw[A.ldAgg (t:=za) zc];refine l2Do_spec (G:=G) (t:=t) (λk I=>B k I) (x.ext g) he ⟨ksv,rfl,l⟩ (qB y g) hs oM λw2 h=>?_;exact Z _ (g.trans h)
end
section
variable {w:World} {K:oK} {F F':oA}
def Bytes (F:oA) (w:World) (v:Value) (xs:List Nat):Prop:=Vals F w v (xs.map λx=>Value.int .u8 (x:Nat))/\∀x,x∈xs->x<256
theorem Bytes.same {S:oA} {w':World} {v:Value} {xs:List Nat} (h:Bytes F w v xs) (hw:Same S w w') (hs:∀b,F b->b<w.heap.size->¬S b):Bytes F w' v xs:=⟨h.1.same hw hs,h.2⟩
theorem Bytes.ext {w':World} {v:Value} {xs:List Nat} (h:Bytes F w v xs) (hw:Ext w w'):Bytes F w' v xs:=⟨h.1.ext hw,h.2⟩
theorem Bytes.load {v:Value} {xs:List Nat} (h:Bytes F w v xs) {e:TypeId} (he:oneB e=true) {i:Nat} (hi:i<xs.length):zu e (oE (eaddr v 1 i)) w K=K (.int .u8 (xs.getD i 0:Nat)) w:=by
 rw[Vals.load h.1 he (by simpa using hi)];simp[X0,hi]
theorem Bytes.len {w':World} {v:Value} {xs:List Nat} (h:Bytes F w v xs) {t:TypeId} (a:isSl t=true) (ty:TypeId):vbi .len [t] ty [v] w' K=K (nI xs.length) w':=by
 have:=Vals.len (K:=K) (w':=w') h.1 a ty;rwa[gd] at this
theorem Bytes.iaddr {w':World} {v:Value} {xs:List Nat} (h:Bytes F w v xs) {t:TypeId} (c:elB t 1=true) {kd:IntKind} {i:Int} (a:0<=i) (b:i<xs.length):
  y2 t v (.int kd i) w' K=K (oE (eaddr v 1 i.toNat)) w':=Vals.iaddr h.1 c a (by simpa using b)
structure RdR (F:oA) (w:World) (b:Nat) (v:Value) (xs:List Nat) (p:Nat):Prop where
 blk:Blk w b [v,nI p] yY
 bytes:Bytes F w v xs
 apart: ¬F b
 few:xs.length<=2000
theorem RdR.same {S:oA} {w':World} {b p:Nat} {v:Value} {xs:List Nat} (h:RdR F w b v xs p) (hw:Same S w w') (a: ¬S b) (hs:∀b,F b->b<w.heap.size->¬S b):RdR F w' b v xs p:=
 ⟨h.blk.same hw a,h.bytes.same hw hs,h.apart,h.few⟩
theorem RdR.ext {w':World} {b p:Nat} {v:Value} {xs:List Nat} (h:RdR F w b v xs p) (hw:Ext w w'):RdR F w' b v xs p:=h.same hw id λ_ _ _ h=>h
theorem l12Open_spec {v:Value} {xs:List Nat} (n:Bytes F w v xs) (hF:∀b,F b->b<w.heap.size)
  (C:∀w' b v' ys,Ext w w'->RdR F w' b v' ys 0->w.heap.size<=b->K (oP b 0) w'):vcall VO #[v] w K:=by
 refine zf {} Tryz.func55 ?_;simp only[push_cast,n.len];have fin:∀(v':Value) (ys:List Nat),Bytes F w v' ys->ys.length<=2000->yi yY [(0,v')] w λt9 f=>WM yY t9 f λt10 g=>K t10 g:=λv' ys j E=>by
  refine Yx yK0 (us:=[[v']]) (by simp[j.1.cells1]) rfl ?_;refine y4 λb w1 L m H B=>?_;exact C w1 b v' ys m ⟨B,j.ext m,λh=>by have:=hF b h;omega,E⟩ oM
 refine zb (λa=>?_) (λa=>fin v xs n oM);have k:xt xf v none (some (nI (2000:Nat))) none w λt7 r=>yi yY [(0,t7)] r λt9 f=>WM yY t9 f λt10 g=>K t10 g:=by
  obtain⟨a0,c0,rfl,D,q,d⟩:=n.1.shape;rw[Sl.cut n.1 (λa l c e=>?_) Zl0 (by simp;omega)]
  .refine fin _ (xs.take 2000) ⟨⟨⟨a0,c0,?_,?_,q,λG=>?_⟩,λy j=>?_⟩,λy j=>n.2 y (gV j)⟩ (by simp;omega)
   .simp only[cutV,gd,gi];rw[GG oM]
   .simp at D⊢;omega
   .obtain⟨b,o,p,t,z,A⟩:=d (λe=>by simp at e;subst e;simp at a);refine⟨b,o,p,t,z,λi hi=>?_⟩;simp only[gd,gi] at hi;have:=A i (by simp;omega);have e:(((xs.take 2000).map λx=>Value.int .u8 (x:Nat)).map λx=>[x]).getD i []=((xs.map λx=>Value.int .u8 (x:Nat)).map λx=>[x]).getD i []:=by
     simp only[X0,GQ,PU];rw[V0 oM]
    rw[e];exact this
   .obtain⟨u,_,rfl⟩:=gB.1 j;rfl
  .injection e with s I J
   obtain⟨b,o,p,_⟩:=d (λe=>by simp at e;subst e;simp at a);exact⟨b,o,by rw[p] at s;exact(gg s).symm⟩
 exact k
theorem pick_spec {b p:Nat} {v:Value} {xs:List Nat} {n:Int} (h:RdR F w b v xs p) (hn:n<=1099511627776) (hp:p<1099511627776)
  (B:∀w' (k:Nat),Same (· =b) w w'->w'.heap.size=w.heap.size->RdR F w' b v xs (p+1)->(1<=n->(k:Int)<n)->(n<1->k=0)->K (nI k) w'):vcall j9 #[oP b 0,nI n] w K:=by
 refine zf {cuts:=[(12292,[])]} Tryz.func58 ?_;have R:=h.few;simp only[push_cast,h.blk.ld1];have y:IntKind.i64.wrap ((p:Int)+1)=((p+1:Nat):Int):=by rw[zi oM oM];omega
 rw[y];refine h.blk.st rfl rfl yG rfl λw1 g l L=>?_;have t:Blk w1 b [v,nI (p+1:Nat)] yY:=L;have u:RdR F w1 b v xs (p+1):=⟨t,h.bytes.same g λx q _ e=>h.apart (e▸q),h.apart,h.few⟩;have q:=u.bytes;refine zp (λ_ w'=>w'=w1/\1<=n/\xs.length≠0) ?_ ?_
 .intro J hJ;refine zb (λa=>?_) (λa=>?_)
  .exact B w1 0 g l u (λh=>oM) λ_=>rfl
  .simp only[push_cast,t.ld0,q.len];refine zb (λa2=>?_) (λa2=>?_)
   .exact B w1 0 g l u (λh=>oM) λ_=>rfl
   .exact hJ _ _ ⟨rfl,oM,oM⟩
 rintro _ _ _ ⟨rfl,h1,a0⟩;simp(disch:=(simp only[push_cast])) only[t.ld0,t.ld1,xo0,Yq,Vj,ym,Gg,Zm,q.len];rw[show((p+1:Nat):Int)-1=(p:Int) from by omega,zi oM oM];simp only[xt0];have f:∀i,i<xs.length->xs.getD i 0<256:=λi hi=>q.2 _ (by rw[X0,gj hi];exact GZ hi);have o:∀x:Nat,((x:Int).tmod n)=((x%n.toNat:Nat):Int)/\((x%n.toNat:Nat):Int)<n:=λx=>by
  obtain⟨m,rfl⟩:∃m:Nat,n=m:=⟨n.toNat,oM⟩;rw[gu];exact⟨rfl,by have:=pE x (show 0<m by omega);omega⟩
 refine zb (λa=>?_) (λa=>?_)
 .simp(disch:=exact oS) only[t.ld0,q.iaddr,gu,q.load,qw xy0 WC];have hb:=f p oM;rw[zi oM oM,jf oM];obtain⟨m1,m2⟩:=o (xs.getD p 0);rw[m1];exact B _ _ g l u (λ_=>m2) λh=>oM
 .refine zd λw2 j r=>?_;have S:=t.ext j;have s:=q.ext j;have z:(xs.length:Int)≠0:=oM;have T:((p:Int).tmod xs.length)=((p%xs.length:Nat):Int):=by rw[pG oM];rfl
  have l1:p%xs.length<xs.length:=pE _ oM;have U:IntKind.i64.wrap ((p:Int)*7)=((p*7:Nat):Int):=by rw[zi oM oM];omega
  have V:IntKind.i64.wrap (((p*7:Nat):Int)+3)=((p*7+3:Nat):Int):=by rw[zi oM oM];omega
  have W:(((p*7+3:Nat):Int).tmod xs.length)=(((p*7+3)%xs.length:Nat):Int):=by rw[pG oM];rfl
  have l2:(p*7+3)%xs.length<xs.length:=pE _ oM;have b1:=f _ l1;have b2:=f _ l2;generalize M:xs.getD (p%xs.length) 0=c at b1;generalize A:xs.getD ((p*7+3)%xs.length) 0=d at b2;have Y:IntKind.i64.wrap ((c:Nat):Int)=((c:Nat):Int):=zi oM oM;have Z:IntKind.i64.wrap ((d:Nat):Int)=((d:Nat):Int):=zi oM oM;have e7:IntKind.i64.wrap (((c:Nat):Int)*131)=((c*131:Nat):Int):=by rw[zi oM oM];omega
  have e8:IntKind.i64.wrap (((d:Nat):Int)*1117)=((d*1117:Nat):Int):=by rw[zi oM oM];omega
  have e9:IntKind.i64.wrap (((c*131:Nat):Int)+((d*1117:Nat):Int))=((c*131+d*1117:Nat):Int):=by rw[zi oM oM];omega
  have C:IntKind.i64.wrap ((p:Int)*29)=((p*29:Nat):Int):=by rw[zi oM oM];omega
  have D:IntKind.i64.wrap (((c*131+d*1117:Nat):Int)+((p*29:Nat):Int))=((c*131+d*1117+p*29:Nat):Int):=by rw[zi oM oM];omega
  obtain⟨Q,N⟩:∃Q,Q=p/xs.length:=⟨_,rfl⟩;have hq:Q<=p:=by rw[N];exact GM _ _
  have E:IntKind.i64.wrap ((p:Int).tdiv xs.length)=((Q:Nat):Int):=by
   have:(p:Int).tdiv xs.length=(Q:Int):=by rw[N];rfl
   rw[this];exact zi oM oM
  have G:IntKind.i64.wrap (((Q:Nat):Int)*53)=((Q*53:Nat):Int):=by rw[zi oM oM];omega
  have H:IntKind.i64.wrap (((c*131+d*1117+p*29:Nat):Int)+((Q*53:Nat):Int))=((c*131+d*1117+p*29+Q*53:Nat):Int):=by rw[zi oM oM];omega
  simp(disch:=exact oS) only[S.ld0,xo0,Yq,ym,Gg,K3,s.len,jf z,jQ z,xs0,XT,T,U,V,W,E,s.iaddr,gu,s.load,M,A,qw xy0 WC,Y,Z,e7,e8,e9,C,D,G,H];have O:c*131+d*1117+p*29+Q*53<9223372036854775808:=oM;generalize c*131+d*1117+p*29+Q*53=X at O⊢;have I:IntKind.i64.wrap ((X:Int).tdiv 64)=((X/64:Nat):Int):=by
   have:(X:Int).tdiv 64=((X/64:Nat):Int):=rfl;rw[this];exact zi oM oM
  rw[jQ oM,I,xZ0 O oM,jf oM];obtain⟨m1,m2⟩:=o (X^^^X/64);rw[m1];exact B _ _ (g.trans (Same.of_ext j)) (by rw[r];exact l) (u.ext j) (λ_=>m2) λh=>oM
theorem num_spec {b p:Nat} {v vs:Value} {xs:List Nat} {ns:oI} (h:RdR F w b v xs p) (g:Ints F' w vs ns) (d:ns≠[]) (o:ns.length<=1000) (n:p<1099511627776) (c:∀x,F' x->x≠b)
  (j:∀w' m,Same (· =b) w w'->w'.heap.size=w.heap.size->RdR F w' b v xs (p+1)->m∈ns->K (nI m) w'):vcall xQ #[oP b 0,vs] w K:=by
 refine zf {} Tryz.func57 ?_;have f:=GW.2 d;simp only[push_cast,g.len];refine pick_spec h oM n λw1 k hs r l i _=>?_;have s:=i oM;have a:=g.same hs λx q _ e=>c x q e;simp(disch:=exact oS) only[push_cast,a.iaddr,a.load];exact j w1 _ hs r l (M.getD_mem oM _)
end
section
variable {w:World} {K:oK} {F D:oA}
@[push_cast] theorem bd_Decl (s:ByteArray) (n:Int):yi yR [(0,.string s),(1,nI n)] w K=K (.agg ⟨[.string s,nI n]⟩) w:=zT xl0 (us:=[[.string s],[nI n]]) rfl rfl
abbrev OwnD (w:World) (v:Value) (ds:List M.Dcl):Prop:=Own 0 2 yF w v (ds.map λd=>[.string d.1,nI d.2])
def Dok (ds:List M.Dcl):Prop:=ds.length<=5/\∀i,i<ds.length->1<=(ds.getD i XL).2/\(ds.getD i XL).2<=4/\(ds.getD i XL).1.size<=5
theorem OwnD.dcls {v:Value} {ds:List M.Dcl} (h:OwnD w v ds):DclsR (λb=>v.ownBlock=some b) w v ds:=Own.sl h
def YS0:List ByteArray:=[⟨#[120]⟩,⟨#[121]⟩,⟨#[122]⟩,⟨#[119]⟩]
set_option maxRecDepth 20000 in
theorem gd_ok {ds:List M.Dcl} (h:Dok ds) (l:ds.length<=4) (m:ds.map (·.1)=YS0.take ds.length) (f:M.bits ds<=8):M.declOk ds=true:=by
 have nm:∀i,i<ds.length->(ds.getD i (M.nada,0)).1=YS0.getD i M.nada:=λi hi=>by
  rw[<-M.getD_map (·.1) hi M.nada (M.nada,0),m,M.take_getD hi]
 refine M.decl_iff.2 ⟨l,λi hi=>?_,f⟩;have hw:=h.2 i hi;have c:∀j,j<i->(ds.getD j (M.nada,0)).1≠(ds.getD i (M.nada,0)).1:=λj d=>by
  rw[nm j oM,nm i hi];have:∀a b:Fin 4,b.1<a.1->YS0.getD b.1 M.nada≠YS0.getD a.1 M.nada:=dC;exact this ⟨i,oM⟩ ⟨j,oM⟩ d
 have g:M.findD (ds.take i) (ds.getD i (M.nada,0)).1= -1:=M.findD_none λj d=>by
  rw[gi] at d;rw[M.take_getD oM];exact c j oM
 have k:M.nameOk (ds.getD i (M.nada,0)).1=true:=by
  rw[nm i hi];have:∀a:Fin 4,M.nameOk (YS0.getD a.1 M.nada)=true:=(by decide+kernel);exact this ⟨i,oM⟩
 unfold M.dclOk;rw[k,g];have e:1<=(ds.getD i (M.nada,0)).2/\(ds.getD i (M.nada,0)).2<=4:=⟨hw.1,hw.2.1⟩;rw[gC e.1,gC e.2];rfl
set_option maxRecDepth 20000 in
theorem l2Decls_spec3 {b p:Nat} {v:Value} {xs:List Nat} (h:RdR F w b v xs p) (hF:∀x,F x->x<w.heap.size) (hp:p+100<1099511627776)
  (hK:∀w' D dv ds,Same (· =b) w w'->RdR F w' b v xs D->D<=p+100->DclsR (λx=>w.heap.size<=x) w' dv ds->Dok ds->M.declOk ds=true->0<ds.length->K dv w'):vcall VM #[oP b 0] w K:=by
 refine zf {loops:=[(5,[4,5,6])],cuts:=[(24583,[])]} Tryz.func94 ?_;have lb:=h.blk.lt;refine vbuildS_row1 (xs:=YS0.map .string) Z8 rK Z7 (λx o=>by obtain⟨s,_,rfl⟩:=gB.1 o;rfl) dC λb1 w1 ab A ak Z=>?_;have a2:Vals (· =b1) w1 (.slice (some ⟨b1,0,none⟩) (YS0.map Value.string).length (YS0.map Value.string).length) (YS0.map Value.string):=Z.sl1 rfl dC;refine vbuildS_row (xs:=[]) (us:=[]) (k:=2) jn kf yO rfl (by simp) dC λb2 w2 ac H al h2=>?_;have ho:OwnD w2 (.slice (some ⟨b2,0,none⟩) 0 0) []:=Blk.ownk (css:=[]) h2 (by simp) rfl dC;have W:=(h.ext A).ext H;refine vloop_up 4 (λi u w'=> ∃sv ds D,∃bits:Int,u=[sv,nI bits,nI i]/\Same (· =b) w w'/\RdR F w' b v xs D/\D<=p+2*i/\OwnD w' sv ds/\(∀x,sv.ownBlock=some x->w1.heap.size<=x)/\ds.length=i/\Dok ds/\0<=bits/\bits<=4*i/\Vals (· =b1) w' (.slice (some ⟨b1,0,none⟩) (YS0.map Value.string).length (YS0.map Value.string).length) (YS0.map Value.string)/\ds.map (·.1)=YS0.take i/\bits=M.bits ds/\bits<=8)
  ⟨_,[],p,0,rfl,Same.of_ext (A.trans H),W,oM,ho,λx o=>by have e:x=b2:=(gg o).symm;omega,rfl,⟨by simp,λi hi=>by simp at hi⟩,oM,oM,a2.ext H,rfl,rfl,oM⟩ ?_
 rintro i _ _ w3 C hi ⟨sv,ds,D,bits,rfl,m,X,ai,R,l,B,G,aa,ae,a6,E,L,af⟩ hC;have ao:=m.size;have an:=A.size;have t:∀z U,Same (· =b) w3 z->RdR F z b v xs U->U<=p+2*i+2->0<i->K sv z:=λz U hs hR aj ag=>by
  refine hK z U sv ds (m.trans hs) hR oM ?_ G (gd_ok G oM (by rw[B];exact E) oM) oM;exact((R.same hs λx o e=>by have:=l x o;omega).sl).weaken λx o _=>by have:=l x o;omega
 refine zp (λu z=>u=[]/\Same (· =b) w3 z/\RdR F z b v xs (D+1)/\i<4) (λC' V=>?_) ?_
 .refine pick_spec X oM oM λz k y ap r hk _=>?_;have:=hk oM;refine oZ ?_;rw[zi (x:=1+(k:Int)) oM oM];refine zb (λa=>?_) (λa=>?_)
  .refine zb (λc=>?_) (λc=>?_)
   .exact V _ _ ⟨rfl,y,r,oM⟩
   .exact t _ _ y r oM oM
  .exact t _ _ y r oM oM
 .rintro u g z ⟨rfl,y,r,N⟩;refine pick_spec r oM oM λw5 k a5 a8 J hk _=>?_;have ah:=hk oM;have d:=y.trans a5;refine oZ ?_;rw[zi (x:=1+(k:Int)) oM oM,zi (x:=8-bits) oM oM];refine l1Min_spec ?_;obtain⟨n,hn⟩:∃n:Int,n=min (1+(k:Int)) (8-bits):=⟨_,rfl⟩;rw[<-hn];refine oZ ?_;refine zb (λa=>?_) (λa=>?_)
  .exact t _ _ d J oM oM
  .have I:=a6.same d λx o _ e=>by have:=h.blk.lt;have:=A.size;omega
   have hlen:(YS0.map Value.string).length=4:=rfl;have e1:(YS0.map Value.string).getD i undef= .string (YS0.getD i ⟨#[]⟩):=M.getD_map _ (show i<YS0.length from N) _ _;rw[I.iaddr rK oM (by rw[hlen];omega),gu,I.load rK (by rw[hlen];omega),e1];have T:(YS0.getD i ⟨#[]⟩).size<=1:=by
    rcases(by omega:i=0\/i=1\/i=2\/i=3) with rfl|rfl|rfl|rfl<;>decide
   generalize Q:YS0.getD i ⟨#[]⟩=nm at T⊢;refine oZ ?_;refine qH jn kf yO rfl rfl dC λb3 w6 ad f am h6=>?_;have a3:=(R.same d λx o e=>by have:=l x o;omega).ext f;refine Own.app1k a3 Yl dC h6 rfl (by intro v hv;simp only[gk,gE,Gn] at hv;rcases hv with rfl|rfl<;>rfl) (by rw[gd,B];omega) (by rw[gd,B];omega) λa9 w7 a4 q a0=>?_;have a8:=d.size;have aq:=f.size;have S:Same (· =b) w w7:=by
    refine⟨q.os.trans (f.os.trans (d.os.trans m.os)),q.tape.trans (f.tape.trans (d.tape.trans m.tape)),q.output.trans (f.output.trans (d.output.trans m.output)),gU (((m.trans d).trans (Same.of_ext f)).size) q.size,λx o a1=>?_⟩;rw[q.block x (by have:=((m.trans d).trans (Same.of_ext f)).size;omega) (λe=>by have:=l x e;omega)];exact((m.trans d).trans (Same.of_ext f)).block x o a1
   have Y:RdR F w7 b v xs (D+1+1):=(J.ext f).same q (λe=>by have:=l b e;omega) λx o _ e=>by have:=l x e;have:=hF x o;omega
   have a7:=(I.ext f).same q (λx o _ e=>by have:=l x e;omega);rw[inc64' oM,zi (x:=bits+n) oM oM];refine hC oM _ _ ⟨a9,ds++[(nm,n)],D+1+1,bits+n,rfl,S,Y,oM,by rw[OwnD,gG];exact a4,λx o=>?_,by rw[V1];simp[B],⟨by rw[V1];simp;omega,λj hj=>?_⟩,oM,oM,a7,?_,?_,oM⟩
   .rcases a0 x o with h|h
    .exact l x h
    .omega
   .rw[V1] at hj;by_cases O:j<ds.length
    .rw[X0,gK O,<-X0];exact G.2 j O
    .have:j=ds.length:=by simp at hj;omega
     subst this;rw[X0,gX oM];simp only[GH,Po,GF];exact⟨oM,oM,gU T dC⟩
   .rw[gG,E,M.take_add (show i<YS0.length from N) ⟨#[]⟩,Q];rfl
   .rw[L];unfold M.bits;rw[gG,PH];simp
@[push_cast] theorem bd_T3 (o a b:Int):yi za [(0,nI o),(1,nI a),(2,nI b)] w K=K (.agg ⟨[nI o,nI a,nI b,.string ⟨#[]⟩,oN]⟩) w:=zT qq (us:=[[nI o],[nI a],[nI b]]) rfl rfl
@[push_cast] theorem bd_T1 (o:Int):yi za [(0,nI o)] w K=K (.agg ⟨[nI o,nI 0,nI 0,.string ⟨#[]⟩,oN]⟩) w:=zT qq (us:=[[nI o]]) rfl rfl
@[push_cast] theorem bd_Tn (o:Int) (s:ByteArray):yi za [(0,nI o),(3,.string s)] w K=K (.agg ⟨[nI o,nI 0,nI 0,.string s,oN]⟩) w:=zT qq (us:=[[nI o],[.string s]]) rfl rfl
@[push_cast] theorem bd_Tk (o:Int) (a:Option Addr) (l c:Nat):yi za [(0,nI o),(4,.slice a l c)] w K=K (.agg ⟨[nI o,nI 0,nI 0,.string ⟨#[]⟩,.slice a l c]⟩) w:=zT qq (us:=[[nI o],[.slice a l c]]) rfl rfl
@[push_cast] theorem bd_Tc (o x y:Int) (a:Option Addr) (l c:Nat):yi za [(0,nI o),(1,nI x),(2,nI y),(4,.slice a l c)] w K=K (.agg ⟨[nI o,nI x,nI y,.string ⟨#[]⟩,.slice a l c]⟩) w:=zT qq (us:=[[nI o],[nI x],[nI y],[.slice a l c]]) rfl rfl
theorem xK {b:Nat} {cs cs':List Value} {t:TypeId} {G:oA} {t':M.Tm} (h:Blk w b cs t) (j:cs.length=5) (c:TmR G w cs' t') (g:∀x,G x->x≠b) (i:∀w',Same (· =b) w w'->w'.heap.size=w.heap.size->TermR G w' (.agg ⟨cs'⟩) t'->K (.agg ⟨cs'⟩) w'):
  zy za (oP b 0) (.agg ⟨cs'⟩) w λ_ w1=>vlv za (oP b 0) w1 λr w2=>K r w2:=by
 refine stTerm h j c λw' a d f=>?_;rw[f.lv (by rw[zS c];exact zc)];exact i w' a d (c.same a λx k _ e=>g x k e).term
theorem JJ {G:oA} (o a b:Int) (s:ByteArray):TmR G w [nI o,nI a,nI b,.string s,oN] (.mk o a b s []):=TmR.of (t:= .mk o a b s []) TmsR.nil
abbrev xn0 (K:oK) (F:oA) (w:World) (b p c:Nat) (v:Value) (xs:List Nat):Prop:=∀w' p' tv t,Same (· =b) w w'->RdR F w' b v xs p'->p'<=p+c->TermR (λx=>w.heap.size<=x) w' tv t->t.ks.length<=3->K tv w'
theorem same_new {b b2:Nat} {w w1 w2:World} (h:Same (· =b) w w1) (a:Same (· =b2) w1 w2) (f:w.heap.size<=b2):Same (· =b) w w2:=
 ⟨a.os.trans h.os,a.tape.trans h.tape,a.output.trans h.output,gU h.size a.size,λx d c=>by
  rw[a.block x (gQ d h.size) (λe=>by subst e;omega)];exact h.block x d c⟩
theorem RdR.new {b b2 p:Nat} {v:Value} {xs:List Nat} {w1:World} (h:RdR F w b v xs p) (hs:Same (· =b2) w w1) (a:b≠b2) (hF:∀x,F x->x≠b2):RdR F w1 b v xs p:=h.same hs a λx c _ e=>hF x c e
theorem l2Leafy_spec {b p:Nat} {v dv:Value} {xs:List Nat} {ds:List M.Dcl} {sort:Int} (h:RdR F w b v xs p) (hF:∀x,F x->x<w.heap.size) (hd:DclsR D w dv ds) (hD:∀x,D x->x≠b) (a0:Dok ds) (a8:0<=sort) (E:sort<=4) (hp:p+100<1099511627776)
  (hK:xn0 K F w b p 100 v xs):vcall Xd #[oP b 0,dv,nI sort] w K:=by
 refine zf {loops:=[(6,[9])],cuts:=[(28680,[])]} Tryz.func136 ?_;have lb:=h.blk.lt;refine zj zr λb1 w1 a5 n a9 h1=>?_;have H:=h.ext n;have J:=hd.ext n;have o:∀w2 p2 cs t,Same (· =b) w w2->RdR F w2 b v xs p2->p2<=p+100->Blk w2 b1 [nI 0,nI 0,nI 0,.string ⟨#[]⟩,oN] za->TmR (λ_=>False) w2 cs t->t.ks.length<=3->
   zy za (oP b1 0) (.agg ⟨cs⟩) w2 λ_ w1=>vlv za (oP b1 0) w1 λr w2=>K r w2:=by
  intro w2 p2 cs t hs W a1 U hc Z;refine xK U rfl hc (λx y=>y.elim) λA l ab ht=>?_;exact hK A p2 _ t (same_new hs l oM) (W.new l oM λx y e=>by have:=hF x y;omega) a1 (ht.weaken λx y _=>y.elim) Z
 refine oZ ?_;refine zb (λa=>?_) (λa=>?_)
 .exact o _ _ _ _ (Same.of_ext n) H oM h1 (JJ 24 0 0 _) (gW _)
 simp only[push_cast,J.len];have hlen:=a0.1;refine pick_spec H oM oM λw2 at_ B aa X hk _=>?_;have h2:=h1.same B oM;have z:∀A p3,Same (· =b) w A->RdR F A b v xs p3->p3<=p+50->Blk A b1 [nI 0,nI 0,nI 0,.string ⟨#[]⟩,oN] za->
   vcall Y0 #[nI sort] A λt52 O=>vcall j9 #[oP b 0,t52] O λt53 Q=>yi za [(0,(nI 20)),(1,nI sort),(2,t53)] Q λt54 R=>zy za (oP b1 0) t54 R λ_ S=>vlv za (oP b1 0) S λN T=>K N T:=by
  intro A p3 hs W a2 U;refine l1Two_spec oM ?_;have a7:2^sort.toNat<=2^4:=gY oM oM;refine pick_spec W oM oM λw4 k E a3 f _ _=>?_;refine oZ ?_;exact o _ _ _ _ (hs.trans E) f oM (U.same E (by have:=n.size;omega)) (JJ 20 sort k _) (gW _)
 refine vloop_up ds.length (λi u w'=> ∃L,u=[nI i]/\Same (· =b) w w'/\RdR F w' b v xs L/\L<=p+1+i/\Blk w' b1 [nI 0,nI 0,nI 0,.string ⟨#[]⟩,oN] za/\DclsR D w' dv ds)
  ⟨p+1,rfl,(Same.of_ext n).trans B,X,oM,h2,J.same B λx y _ e=>hD x y e⟩ ?_
 rintro i _ _ A C hi ⟨L,rfl,l,I,a2,G,Y⟩ hC;refine zp (λu w'=>u=[]/\i<ds.length/\Same (· =b) w w'/\RdR F w' b v xs (L+1)/\Blk w' b1 [nI 0,nI 0,nI 0,.string ⟨#[]⟩,oN] za/\DclsR D w' dv ds) (λC' V=>?_) ?_
 .refine oZ ?_;refine zb (λc=>?_) (λc=>?_)
  .refine pick_spec I oM oM λw4 k d a3 f _ _=>?_;have m:=G.same d oM;refine oZ ?_;refine zb (λe=>?_) (λe=>?_)
   .exact V _ _ ⟨rfl,oM,l.trans d,f,m,Y.same d λx y _ e=>hD x y e⟩
   .exact z _ _ (l.trans d) f oM m
  .exact z _ _ l I oM G
 .rintro u g w4 ⟨rfl,a6,d,f,m,s⟩;have a4:at_<ds.length:=by have:=hk oM;omega
  have e1:IntKind.i64.wrap ((at_:Int)+(i:Int))=((at_+i:Nat):Int):=by rw[zi oM oM];omega
  have eR:∀(w:World) (K:oK),qb .rem zE false (nI ((at_+i:Nat):Int)) (nI (ds.length:Int)) w K=K (nI (((at_+i)%ds.length:Nat):Int)) w:=λw K=>by rw[jf oM];rfl
  have hm:(at_+i)%ds.length<ds.length:=pE _ oM;obtain⟨q,hq⟩:∃q,q=at_+i:=⟨_,rfl⟩;rw[<-hq] at e1 eR hm;obtain⟨j,hj⟩:∃j,j=q%ds.length:=⟨_,rfl⟩;rw[<-hj] at eR hm;simp(disch:=exact oS) only[push_cast,e1,eR,s.iaddr]
  try simp(disch:=exact oS) only[push_cast,s.load0,s.load1]
  refine zb (λc=>?_) (λc=>?_)
  .exact o _ _ _ _ d f oM m (JJ 21 0 0 _) (gW _)
  .rw[inc64' oM];exact hC oM _ _ ⟨L+1,rfl,d,f,oM,m,s⟩
end
section
variable {w:World} {K:oK} {F D G:oA}
theorem kidsL {css:List (List Value)} {ts:List M.Tm} (l:css.length=ts.length) (n:css.length<=100) (h:∀i,i<ts.length->TmR G w (css.getD i []) (ts.getD i default))
  (j:∀w' a,Ext w w'->w'.heap.size=w.heap.size+1->TmsR (λz=>G z\/z=w.heap.size) w' (.slice a css.length css.length) ts->K (.slice a css.length css.length) w'):
  vbuildS zl (css.map λc=>Value.agg ⟨c⟩).length ((css.map λc=>Value.agg ⟨c⟩).zipIdx.map λp=>(p.2,p.1)) w K:=by
 have d:∀u,u∈css->u.length=5:=λu hu=>by
  obtain⟨i,hi,rfl⟩:=gy hu;have:=zS (h i oM);rwa[X0,gj hi] at this
 refine vbuildS_row (us:=css) (k:=5) xJ qc zr (by rw[G3];rfl) d (by rw[gd];omega) λb w' o he hs g=>?_;rw[gd];refine j w' _ he hs ⟨css,?_,l,λi hi=>((h i hi).ext he).weaken λx f _=> .inl f⟩;have m:Own 0 5 zl w' (.slice (some ⟨b,0,none⟩) css.length css.length) css:=Blk.ownk (by rw[jW];exact g) d rfl oM;exact m.sl.weaken λx f _=> .inr (by have e:x=b:=(gg f).symm;omega)
theorem yv0 {v0:Value} {t0:M.Tm} (b:TermR G w v0 t0) (c:∀w' a,Ext w w'->w'.heap.size=w.heap.size+1->TmsR (λz=>G z\/z=w.heap.size) w' (.slice a 1 1) [t0]->K (.slice a 1 1) w'):vbuildS zl 1 [(0,v0)] w K:=by
 obtain⟨c0,rfl,d⟩:=b.cells;refine kidsL (css:=[c0]) (ts:=[t0]) rfl (by simp) (λi hi=>?_) c;have:i=0:=by simpa using hi
 subst this;exact d
theorem kids2 {v0 v1:Value} {t0 t1:M.Tm} (b:TermR G w v0 t0) (c:TermR G w v1 t1) (d:∀w' a,Ext w w'->w'.heap.size=w.heap.size+1->TmsR (λz=>G z\/z=w.heap.size) w' (.slice a 2 2) [t0,t1]->K (.slice a 2 2) w'):vbuildS zl 2 [(0,v0),(1,v1)] w K:=by
 obtain⟨c0,rfl,e⟩:=b.cells;obtain⟨c1,rfl,f⟩:=c.cells;refine kidsL (css:=[c0,c1]) (ts:=[t0,t1]) rfl (by simp) (λi hi=>?_) d
 match i,hi with
 |0,_=>exact e
 |1,_=>exact f
theorem kids3 {v0 v1 v2:Value} {t0 t1 t2:M.Tm} (b:TermR G w v0 t0) (c:TermR G w v1 t1) (d:TermR G w v2 t2) (e:∀w' a,Ext w w'->w'.heap.size=w.heap.size+1->TmsR (λz=>G z\/z=w.heap.size) w' (.slice a 3 3) [t0,t1,t2]->K (.slice a 3 3) w'):vbuildS zl 3 [(0,v0),(1,v1),(2,v2)] w K:=by
 obtain⟨c0,rfl,f⟩:=b.cells;obtain⟨c1,rfl,g⟩:=c.cells;obtain⟨c2,rfl,h⟩:=d.cells;refine kidsL (css:=[c0,c1,c2]) (ts:=[t0,t1,t2]) rfl (by simp) (λi hi=>?_) e
 match i,hi with
 |0,_=>exact f
 |1,_=>exact g
 |2,_=>exact h
abbrev Kb:List Value:=[nI 0,nI 0,nI 0,.string ⟨#[]⟩,.slice none 0 0]
structure Dw (F D:oA) (w0:World) (b b1:Nat) (v dv:Value) (xs:List Nat) (ds:List M.Dcl) (w:World) (p:Nat):Prop where
 same:Same (· =b) w0 w
 rd:RdR F w b v xs p
 var:Blk w b1 Kb za
 dcl:DclsR D w dv ds
 old:b<w0.heap.size
 new:b1=w0.heap.size
 size:b1<w.heap.size
 hF:∀x,F x->x<w0.heap.size
 hD:∀x,D x->x≠b
 hD1:∀x,D x->x<w0.heap.size
section
variable {w0:World} {b b1 p:Nat} {v dv:Value} {xs:List Nat} {ds:List M.Dcl}
theorem Dw.step {w1:World} {p1:Nat} (h:Dw F D w0 b b1 v dv xs ds w p) (hs:Same (· =b) w w1) (a:RdR F w1 b v xs p1):Dw F D w0 b b1 v dv xs ds w1 p1:=
 ⟨h.same.trans hs,a,h.var.same hs (by have:=h.old;have:=h.new;omega),h.dcl.same hs λx c _ e=>h.hD x c e,h.old,h.new,gQ h.size hs.size,h.hF,h.hD,h.hD1⟩
theorem Dw.ext {w1:World} (h:Dw F D w0 b b1 v dv xs ds w p) (he:Ext w w1):Dw F D w0 b b1 v dv xs ds w1 p:=h.step (Same.of_ext he) (h.rd.ext he)
theorem Dw.begin (h:RdR F w b v xs p) (hF:∀x,F x->x<w.heap.size) (f:DclsR D w dv ds) (hD:∀x,D x->x≠b) (hD1:∀x,D x->x<w.heap.size) {K:oK} (e:∀w1,Dw F D w b w.heap.size v dv xs ds w1 p->K (oP w.heap.size 0) w1):xE za w K:=by
 refine zj zr λb1 w1 c a g d=>?_;subst c;exact e w1 ⟨Same.of_ext a,h.ext a,d,f.ext a,h.blk.lt,rfl,oM,hF,hD,hD1⟩
abbrev Nw (b1:Nat) (x:Nat):Prop:=b1<x
theorem Dw.fin {c:Nat} {cs:List Value} {t:M.Tm} (h:Dw F D w0 b b1 v dv xs ds w p) {p0:Nat} (j:p<=p0+c) (k:TmR (Nw b1) w cs t) (f:t.ks.length<=3) (i:xn0 K F w0 b p0 c v xs):
  zy za (oP b1 0) (.agg ⟨cs⟩) w λ_ w1=>vlv za (oP b1 0) w1 λr w2=>K r w2:=by
 have:=h.old;have:=h.new;refine xK h.var rfl k (λx d e=>by subst e;exact Nat.lt_irrefl _ d) λn a m g=>?_;exact i n p _ t (same_new h.same a oM) (h.rd.new a oM λx d e=>by have:=h.hF x d;omega) j (g.weaken λx d _=>by have l:b1<x:=d;omega) f
theorem Dw.pick {n:Int} (h:Dw F D w0 b b1 v dv xs ds w p) (f:n<=1099511627776) (g:p<1099511627776) (d:∀w1 (k:Nat),Dw F D w0 b b1 v dv xs ds w1 (p+1)->Same (· =b) w w1->(1<=n->(k:Int)<n)->(n<1->k=0)->K (nI k) w1):vcall j9 #[oP b 0,nI n] w K:=
 pick_spec h.rd f g λw1 k hs i e a c=>d w1 k (h.step hs e) hs a c
theorem Dw.sub {g:Nat} {args:Array Value} {c:Nat} (h:Dw F D w0 b b1 v dv xs ds w p) (i:∀d,xn0 d F w b p c v xs->vcall g args w d) (e:∀w1 p1 tv t,Dw F D w0 b b1 v dv xs ds w1 p1->Same (· =b) w w1->p1<=p+c->TermR (Nw b1) w1 tv t->t.ks.length<=3->K tv w1):vcall g args w K:=
 i K λw1 p1 tv t hs f j k a=>e w1 p1 tv t (h.step hs f) hs j (k.weaken λx l _=>by have:=h.size;show b1<x;omega) a
theorem Dw.keep {tv:Value} {t:M.Tm} {w1:World} (h:Dw F D w0 b b1 v dv xs ds w p) (a:TermR (Nw b1) w tv t) (hs:Same (· =b) w w1):TermR (Nw b1) w1 tv t:=
 a.same hs λx c _ e=>by subst e;have:=h.old;have:=h.new;have d:b1<x:=c;omega
theorem Dw.tms {kv:Value} {ks:List M.Tm} (h:Dw F D w0 b b1 v dv xs ds w p) {w1:World} (c:TmsR (λz=>Nw b1 z\/z=w.heap.size) w1 kv ks):TmsR (Nw b1) w1 kv ks:=
 c.weaken λx a _=>by
  rcases a with a|a
  .exact a
  .have:=h.size;show b1<x;omega
end
def JS (d:Nat):Nat:=100*4^d
theorem cost_succ (d:Nat):JS (d+1)=4*JS d:=by unfold JS;rw[Nat.pow_succ];omega
theorem cost_ge (d:Nat):100<=JS d:=by
 have:1<=4^d:=Nat.pow_pos oM;unfold JS;omega
def QB (d:Nat):Prop:=∀{w:World} {K:oK} {F D:oA} {b p:Nat} {v dv:Value} {xs:List Nat} {ds:List M.Dcl} {sort deep:Int},RdR F w b v xs p->(∀x,F x->x<w.heap.size)->DclsR D w dv ds->(∀x,D x->x≠b)->(∀x,D x->x<w.heap.size)->Dok ds->0<=sort->sort<=4-> -100<=deep->deep<=d->
 p+JS d<1099511627776->xn0 K F w b p (JS d) v xs->vcall Zs #[oP b 0,dv,nI sort,nI deep] w K
theorem num_draw {w0:World} {b b1 p:Nat} {v dv:Value} {xs:List Nat} {ds:List M.Dcl} {ns:oI} (h:Dw F D w0 b b1 v dv xs ds w p) (a:ns≠[]) (c:ns.length<=1000) (l:p<1099511627776) (j:∀w1 m,Dw F D w0 b b1 v dv xs ds w1 (p+1)->Same (· =b) w w1->m∈ns->K (nI m) w1):
  vbuildS ze ns.length ((ns.map λx=>nI x).zipIdx.map λp=>(p.2,p.1)) w λs w1=>vcall xQ #[oP b 0,s] w1 K:=by
 have:=vbuildS_row1 (w:=w) (K:=λs w1=>vcall xQ #[oP b 0,s] w1 K) (t:=ze) (xs:=ns.map λx=>nI x) x8 yG xp (λx d=>by obtain⟨y,_,rfl⟩:=gB.1 d;rfl) (by simp;omega) λb2 w' o f q i=>by
  have n:Ints (· =b2) w' (.slice (some ⟨b2,0,none⟩) (ns.map λx=>nI x).length (ns.map λx=>nI x).length) ns:=i.sl1 rfl (by simp;omega);have g:=h.ext f;have:=h.rd.blk.lt;refine num_spec g.rd n a c l (λx d e=>by subst d;omega) λw2 m hs r k hm=>?_;exact j w2 m (g.step hs k) ((Same.of_ext f).trans hs) hm
 rwa[gd] at this
theorem l2Asks_spec {d:Nat} (hT:QB d) {b p:Nat} {v dv:Value} {xs:List Nat} {ds:List M.Dcl} {deep:Int} (h:RdR F w b v xs p) (hF:∀x,F x->x<w.heap.size) (hd:DclsR D w dv ds) (hD:∀x,D x->x≠b) (hD1:∀x,D x->x<w.heap.size) (G:Dok ds) (aa:1<=deep) (ab:deep<=d+1) (ac:d<=9)
  (hp:p+2*JS d+10<1099511627776) (U:xn0 K F w b p (2*JS d+10) v xs):vcall Up #[oP b 0,dv,nI deep] w K:=by
 refine zf {cuts:=[(40971,[7])]} Tryz.func205 ?_;refine Dw.begin h hF hd hD hD1 λw1 h1=>?_;have hg:=h1.new;have e1:IntKind.i64.wrap (deep-1)=deep-1:=zi oM oM;have f:∀{w2:World} {p2:Nat} {s:Int} {V:oK},Dw F D w b w.heap.size v dv xs ds w2 p2->0<=s->s<=4->p2+JS d<1099511627776->(∀B R tv t,Dw F D w b w.heap.size v dv xs ds B R->Same (· =b) w2 B->R<=p2+JS d->TermR (Nw w.heap.size) B tv t->t.ks.length<=3->V tv B)->
   vcall Zs #[oP b 0,dv,nI s,nI (deep-1)] w2 V:=λr y i a4 X=>
  r.sub (λV hk=>hT r.rd (λx hx=>gQ (hF x hx) r.same.size) r.dcl hD (λx hx=>gQ (hD1 x hx) r.same.size) G y i oM oM a4 hk) X
 refine h1.pick oM oM λw2 k r ag hk _=>?_;simp only[push_cast,e1];refine zb (λa=>?_) (λa=>?_)
 .refine f r oM oM oM λB R I t0 o H O l _=>?_;refine yv0 l λJ sa Y aj j=>?_;have n:=o.ext Y;refine oZ ?_;exact n.fin (p0:=p) oM (TmR.of (t:= .mk 25 0 0 _ [t0]) (o.tms j)) (Gx rfl) U
 refine zb (λa1=>?_) (λa1=>?_)
 .refine f r oM oM oM λB R I t0 o H O l _=>?_;refine f o oM oM oM λJ S T t1 n i Q q _=>?_;refine kids2 (o.keep l i) q λw5 sa E a7 j=>?_;have z:=n.ext E;refine oZ ?_;exact z.fin (p0:=p) oM (TmR.of (t:= .mk 26 0 0 _ [t0,t1]) (n.tms j)) (Gx rfl) U
 refine zb (λa2=>?_) (λa2=>?_)
 .refine f r oM oM oM λB R I t0 o H O l _=>?_;refine f o oM oM oM λJ S T t1 n i Q q _=>?_;refine kids2 (o.keep l i) q λw5 sa E a7 j=>?_;have z:=n.ext E;refine oZ ?_;exact z.fin (p0:=p) oM (TmR.of (t:= .mk 27 0 0 _ [t0,t1]) (n.tms j)) (Gx rfl) U
 refine r.pick oM oM λB k3 o H a0 _=>?_;have a8:=a0 oM;refine oZ ?_;rw[zi (x:=1+(k3:Int)) oM oM];refine zp (λu J=> ∃s S,u=[nI s]/\0<=s/\s<=4/\S<=p+4/\Dw F D w b w.heap.size v dv xs ds J S) (λC W=>?_) ?_
 .have hlen:=G.1;have L:=o.dcl;simp only[push_cast,L.len];refine zb (λc=>?_) (λc=>?_)
  .refine o.pick oM oM λJ k4 n i ad _=>?_;have N:=n.dcl;refine oZ ?_;refine zb (λe=>?_) (λe=>?_)
   .try simp only[push_cast,N.len]
    refine n.pick oM oM λw5 k5 z a5 a3 _=>?_;have a9:=a3 oM;have A:=z.dcl;simp(disch:=exact oS) only[push_cast,A.iaddr]
    try simp(disch:=exact oS) only[push_cast,A.load1]
    have ai:1<=(ds.getD k5 (M.nada,0)).2/\(ds.getD k5 (M.nada,0)).2<=4/\_:=G.2 k5 oM;exact W _ _ ⟨_,_,rfl,oM,oM,oM,z⟩
   .exact W _ _ ⟨_,_,rfl,oM,oM,oM,n⟩
  .exact W _ _ ⟨_,_,rfl,oM,oM,oM,o⟩
 .rintro u g J ⟨s,S,rfl,y,i,Q,n⟩;refine num_draw (ns:=[15,16,17,15]) n (by simp) dC oM λw5 m z a5 hm=>?_;simp only[push_cast,e1];refine f z y i oM λw6 p6 I t0 h6 ah ae l _=>?_;refine f h6 y i oM λw7 p7 T t1 h7 a6 af q _=>?_;refine kids2 (h6.keep l a6) q λw8 sa Z ak j=>?_;have h8:=h7.ext Z;refine oZ ?_;exact h8.fin (p0:=p) oM (TmR.of (t:= .mk m 0 0 _ [t0,t1]) (h7.tms j)) (Gx rfl) U
end
section
variable {w:World} {K:oK} {F F' D G:oA}
theorem l2Term_step {d:Nat} (an:d<=9) (hT:∀e,e<d->QB e):QB d:=by
 intro w K F D b p v dv xs ds sort deep h hF hd hD hD1 Y l m ap ao hp S;refine zf {cuts:=[(8195,[]),(53263,[]),(53261,[89])]} Tryz.func135 ?_;refine Dw.begin h hF hd hD hD1 λw1 h1=>?_;have a9:=cost_ge d;have G:∀{w2:World} {p2:Nat},Dw F D w b w.heap.size v dv xs ds w2 p2->p2<=p+1->JS d=100\/0<d->p2+100<=p+JS d\/d=0->(d=0->p2=p)->
   vcall Xd #[oP b 0,dv,nI sort] w2 λt27 ak=>zy za (oP w.heap.size 0) t27 ak λ_ al=>vlv za (oP w.heap.size 0) al λr8 am=>K r8 am:=by
  intro w2 p2 n Z _ T hz;refine n.sub (c:=100) (λK' O=>l2Leafy_spec n.rd (λx M=>gQ (hF x M) n.same.size) n.dcl hD Y l m (by rcases T with T|T<;>omega) O) λR p3 tv t y ag ar ht X=>?_;obtain⟨cs,rfl,U⟩:=ht.cells;refine y.fin (p0:=p) (c:=JS d) ?_ U X S;rcases T with T|T
  .omega
  .have:=hz T;omega
 refine zp (λu w'=> ∃p',u=[]/\Dw F D w b w.heap.size v dv xs ds w' p'/\p'<=p+1/\1<=deep) (λC hC=>?_) ?_
 .refine oZ ?_;refine zb (λa=>?_) (λa=>?_)
  .refine G h1 oM (by
    by_cases h0:d=0
    .subst h0;left;rfl
    .right;omega) ?_ (λ_=>rfl)
   by_cases h0:d=0
   .exact .inr h0
   .left;omega
  .have V:1<=d:=oM;have aa:JS d=4*JS (d-1):=by
    obtain⟨e,rfl⟩:∃e,d=e+1:=⟨d-1,oM⟩;exact cost_succ e
   have a4:=cost_ge (d-1);refine zb (λc=>?_) (λc=>?_)
   .refine h1.pick oM oM λw2 k n av O _=>?_;refine oZ ?_;refine zb (λe=>?_) (λe=>?_)
    .exact G n oM (.inr oM) (.inl oM) oM
    .exact hC _ _ ⟨p+1,rfl,n,oM,oM⟩
   .exact hC _ _ ⟨p,rfl,h1,oM,oM⟩
 rintro u g w2 ⟨p2,rfl,n,Z,ac⟩;have V:1<=d:=oM
 obtain⟨J,ab⟩:∃J,d=J+1:=⟨d-1,oM⟩;have aa:JS d=4*JS J:=by rw[ab,cost_succ]
 have a4:=cost_ge J;have e1:IntKind.i64.wrap (deep-1)=deep-1:=zi oM oM;have f:∀{w2:World} {p2:Nat} {s:Int} {K':oK},Dw F D w b w.heap.size v dv xs ds w2 p2->0<=s->s<=4->p2+JS J<1099511627776->(∀R p3 tv t,Dw F D w b w.heap.size v dv xs ds R p3->Same (· =b) w2 R->p3<=p2+JS J->TermR (Nw w.heap.size) R tv t->t.ks.length<=3->K' tv R)->
   vcall Zs #[oP b 0,dv,nI s,nI (deep-1)] w2 K':=λn l m Z a8=>
  n.sub (λK' O=>hT J oM n.rd (λx M=>gQ (hF x M) n.same.size) n.dcl hD (λx M=>gQ (hD1 x M) n.same.size) Y l m oM oM Z O) a8
 refine n.pick oM oM λR k y ag O _=>?_;have aq:=O oM;simp only[push_cast,e1];refine zb (λa=>?_) (λa=>?_)
 .refine f y oM oM oM λw4 p4 N t0 h4 Q ae j _=>?_;refine f h4 l m oM λw5 p5 a7 t1 z H au I _=>?_;refine f z l m oM λw6 p6 aw t2 q r L ah _=>?_;refine kids3 (z.keep (h4.keep j H) r) (z.keep I r) ah λw7 sa B a6 i=>?_;have A:=q.ext B;refine oZ ?_;exact A.fin (p0:=p) oM (TmR.of (t:= .mk 23 0 0 _ [t0,t1,t2]) (q.tms i)) (Gx rfl) S
 refine zb (λa0=>?_) (λa0=>?_)
 .refine y.sub (c:=2*JS J+10) (λK' O=>l2Asks_spec (hT J oM) y.rd (λx M=>gQ (hF x M) y.same.size) y.dcl hD (λx M=>gQ (hD1 x M) y.same.size) Y ac oM oM oM O) λw4 p4 tv t h4 Q ae ht X=>?_;obtain⟨cs,rfl,U⟩:=ht.cells;exact h4.fin (p0:=p) oM U X S
 refine zb (λa1=>?_) (λa1=>?_)
 .rw[zi (x:=5-sort) oM oM];refine y.pick oM oM λw4 k4 h4 Q ad a5=>?_;have ai:sort+(k4:Int)<=4:=by
   by_cases hn:1<=5-sort
   .have:=ad hn;omega
   .have:=a5 oM;omega
  refine oZ ?_;rw[zi (x:=sort+(k4:Int)) oM oM,zi (x:=sort+(k4:Int)-sort) oM oM,zi (x:=sort+(k4:Int)-sort+1) oM oM];refine h4.pick oM oM λw5 k5 z H o _=>?_;have E:=o oM;refine oZ ?_;refine f z oM ai oM λw6 p6 N t0 q r L j _=>?_;refine yv0 j λw7 sa B a6 i=>?_;have A:=q.ext B;refine oZ ?_;exact A.fin (p0:=p) oM (TmR.of (t:= .mk 22 _ _ _ [t0]) (q.tms i)) (Gx rfl) S
 refine zp (λu w'=>u=[]/\w'=R) (λC hC=>?_) ?_
 .refine zp (λu w'=>u=[.bool (decide (k=2/\1<sort))]/\w'=R) (λC' a3=>?_) ?_
  .try simp only[push_cast]
   refine zb (λc=>?_) (λc=>?_)
   .refine a3 _ _ ⟨?_,rfl⟩;have c':k=2:=oM;simp only[c',K3]
   .exact a3 _ _ ⟨by rw[gr oM],rfl⟩
  rintro u g w4 ⟨rfl,rfl⟩;refine oZ ?_;refine zb (λc=>?_) (λc=>?_)
  .rw[zi (x:=sort-1) oM oM];refine y.pick oM oM λw5 k5 z H o _=>?_;have E:=o oM
   try simp only[push_cast]
   rw[zi (x:=1+(k5:Int)) oM oM];refine f z oM oM oM λw6 p6 N t0 q r L j _=>?_
   try simp only[push_cast]
   rw[zi (x:=sort-(1+(k5:Int))) oM oM];refine f q oM oM oM λw7 p7 a7 t1 A a2 af I _=>?_;refine kids2 (q.keep j a2) I λw8 sa W aj i=>?_;have h8:=A.ext W;refine oZ ?_;exact h8.fin (p0:=p) oM (TmR.of (t:= .mk 14 0 0 _ [t0,t1]) (A.tms i)) (Gx rfl) S
  .exact hC _ _ ⟨rfl,rfl⟩
 rintro u g w4 ⟨rfl,rfl⟩
 try simp only[push_cast]
 refine zb (λc=>?_) (λc=>?_)
 .refine y.pick oM oM λw5 k5 z H o _=>?_;have E:=o oM
  try simp only[push_cast]
  rw[zi (x:=1+(k5:Int)) oM oM];refine f z l m oM λw6 p6 N t0 q r L j _=>?_;refine yv0 j λw7 sa B a6 i=>?_;have A:=q.ext B;refine oZ ?_;exact A.fin (p0:=p) oM (TmR.of (t:= .mk _ 0 0 _ [t0]) (q.tms i)) (Gx rfl) S
 .refine y.pick oM oM λw5 k5 z H o _=>?_;have E:=o oM
  try simp only[push_cast]
  rw[zi (x:=3+(k5:Int)) oM oM];refine f z l m oM λw6 p6 N t0 q r L j _=>?_;refine f q l m oM λw7 p7 a7 t1 A a2 af I _=>?_;refine kids2 (q.keep j a2) I λw8 sa W aj i=>?_;have h8:=A.ext W;refine oZ ?_;exact h8.fin (p0:=p) oM (TmR.of (t:= .mk _ 0 0 _ [t0,t1]) (A.tms i)) (Gx rfl) S
theorem l2Term_spec:∀d,d<=9->QB d:=by
 intro d;induction d using Nat.strongRecOn with
 |_ d b=>intro a;exact l2Term_step a λe he=>b e he oM
theorem dok_sized {ds:List M.Dcl} (h:Dok ds):yP0 ds:=λi hi=>by have:=(h.2 i hi).2.2;omega
theorem l2Some_spec {b p:Nat} {v dv:Value} {xs:List Nat} {ds:List M.Dcl} {sort:Int} (h:RdR F w b v xs p) (hF:∀x,F x->x<w.heap.size) (Z:DclsR D w dv ds) (hD:∀x,D x->x≠b) (hD1:∀x,D x->x<w.heap.size) (k:Dok ds) (r:0<=sort) (s:sort<=4)
  (hp:p+200000<1099511627776) (N:xn0 K F w b p 200000 v xs):vcall Ui #[oP b 0,dv,nI sort] w K:=by
 refine zf {loops:=[(2,[7])]} Tryz.func96 ?_;refine Dw.begin h hF Z hD hD1 λw1 V=>?_;have A:JS 4=25600:=rfl;refine vloop_up 4 (λi u w'=> ∃S,u=[nI (4-(i:Int))]/\Dw F D w b w.heap.size v dv xs ds w' S/\S<=p+25600*i) ⟨p,rfl,V,oM⟩ ?_;rintro i _ _ w2 C hi ⟨p2,rfl,e,a0⟩ X;have hold:=e.old;have Q:=e.new;refine oZ ?_;refine zb (λa=>?_) (λa=>?_)
 .refine e.sub (c:=JS 4) (λU B=>l2Term_spec 4 oM e.rd (λx l=>gQ (hF x l) e.same.size) e.dcl hD (λx l=>gQ (hD1 x l) e.same.size) k r s oM oM oM B) λJ T tv t z G E H j=>?_;obtain⟨cs,rfl,d⟩:=H.cells;have o:=d.weaken (F':=λx=>Nw w.heap.size x/\x<J.heap.size) λx l hl=>⟨l,hl⟩;refine zj zr λb2 w4 Y q R W=>?_;refine stTerm W rfl (o.ext q) λw5 I _ L=>?_;have f:Ext J w5:=Ext.then q I λy hy=>by subst hy;omega
  have O:aggB za cs.length=true:=by rw[zS d];exact zc
  rw[L.ldAgg (t:=za) O];have m:=z.ext f;refine spec_TermSort_spec (dok_sized k) m.dcl (d.ext f).term λw6 g=>?_;have n:=m.ext g;refine oZ ?_;refine zb (λc=>?_) (λc=>?_)
  .rw[(L.ext g).ldAgg (t:=za) O];exact n.fin (p0:=p) oM ((d.ext f).ext g) j N
  .rw[zi oM oM,show 4-(i:Int)-1=4-((i+1:Nat):Int) by omega];exact X oM _ _ ⟨T,rfl,n,oM⟩
 .refine e.sub (c:=100) (λU B=>l2Leafy_spec e.rd (λx l=>gQ (hF x l) e.same.size) e.dcl hD k r s oM B) λJ T tv t z G E H j=>?_;obtain⟨cs,rfl,d⟩:=H.cells;exact z.fin (p0:=p) oM d j N
end
section
variable {w:World} {K:oK} {F F' D G:oA}
theorem strof_spec {b p:Nat} {v vs:Value} {xs:List Nat} {ss:List ByteArray} (h:RdR F w b v xs p) (g:Vals F' w vs (ss.map .string)) (d:ss≠[]) (n:ss.length<=1000) (m:p<1099511627776) (c:∀x,F' x->x≠b)
  (j:∀w' s,Same (· =b) w w'->w'.heap.size=w.heap.size->RdR F w' b v xs (p+1)->s∈ss->K (.string s) w'):vcall km #[oP b 0,vs] w K:=by
 refine zf {} Tryz.func137 ?_;have f:=GW.2 d;have t:(ss.map Value.string).length=ss.length:=gd _;simp only[push_cast,g.len];refine pick_spec h oM m λw1 k hs q l i _=>?_;have r:=i oM;have a:=g.same hs λx o _ e=>c x o e;rw[a.iaddr rK oM oM,gu,a.load rK oM,M.getD_map _ oM _ M.nada];exact j w1 _ hs q l (M.getD_mem oM _)
theorem of_lit {b p:Nat} {v:Value} {xs:List Nat} {ss:List ByteArray} (h:RdR F w b v xs p) (hF:∀x,F x->x<w.heap.size) (a:ss≠[]) (c:ss.length<=1000) (k:p<1099511627776) (i:∀w1 s,Same (· =b) w w1->RdR F w1 b v xs (p+1)->s∈ss->K (.string s) w1):
  vbuildS yE ss.length ((ss.map Value.string).zipIdx.map λp=>(p.2,p.1)) w λs w1=>vcall km #[oP b 0,s] w1 K:=by
 have:=vbuildS_row1 (w:=w) (K:=λs w1=>vcall km #[oP b 0,s] w1 K) (t:=yE) (xs:=ss.map Value.string) Z8 rK Z7 (λx d=>by obtain⟨y,_,rfl⟩:=gB.1 d;rfl) (by rw[gd];omega) λb2 w' n f o g=>by
  have l:Vals (· =b2) w' (.slice (some ⟨b2,0,none⟩) (ss.map Value.string).length (ss.map Value.string).length) (ss.map Value.string):=g.sl1 rfl (by rw[gd];omega);have:=h.blk.lt;refine strof_spec (h.ext f) l a c k (λx d e=>by subst d;omega) λw2 m hs q j hm=>?_;exact i w2 m ((Same.of_ext f).trans hs) j hm
 rwa[gd] at this
theorem num_lit {b p:Nat} {v:Value} {xs:List Nat} {ns:oI} (h:RdR F w b v xs p) (a:ns≠[]) (c:ns.length<=1000) (k:p<1099511627776) (i:∀w1 m,Same (· =b) w w1->RdR F w1 b v xs (p+1)->m∈ns->K (nI m) w1):
  vbuildS ze ns.length ((ns.map λx=>nI x).zipIdx.map λp=>(p.2,p.1)) w λs w1=>vcall xQ #[oP b 0,s] w1 K:=by
 have:=vbuildS_row1 (w:=w) (K:=λs w1=>vcall xQ #[oP b 0,s] w1 K) (t:=ze) (xs:=ns.map λx=>nI x) x8 yG xp (λx d=>by obtain⟨y,_,rfl⟩:=gB.1 d;rfl) (by simp;omega) λb2 w' n f o g=>by
  have l:Ints (· =b2) w' (.slice (some ⟨b2,0,none⟩) (ns.map λx=>nI x).length (ns.map λx=>nI x).length) ns:=g.sl1 rfl (by simp;omega);have:=h.blk.lt;refine num_spec (h.ext f) l a c k (λx d e=>by subst d;omega) λw2 m hs q j hm=>?_;exact i w2 m ((Same.of_ext f).trans hs) j hm
 rwa[gd] at this
def Dsm (ds:List M.Dcl):Prop:=ds.length<=7/\∀i,i<ds.length->(ds.getD i XL).1.size<=5
theorem jB0 {ds:List M.Dcl} {k j:Nat} {d:M.Dcl} (a:k<ds.length):(ds.set k d).getD j XL=if k=j then d else ds.getD j XL:=by
 rw[X0,Ps];split
 .rename_i e;rfl
 .rw[<-X0]
theorem j70 {ds:List M.Dcl} {k:Nat} {d:M.Dcl} (c:List Value) (a:c=[Value.string d.1,nI d.2]):(ds.map λd=>[Value.string d.1,nI d.2]).set k c=(ds.set k d).map λd=>[Value.string d.1,nI d.2]:=by
 rw[PN,a]
theorem yE0 {b:Nat} (h:Blk w b [] yR):OwnD w (.slice (some ⟨b,0,none⟩) 0 0) []:=Blk.ownk (css:=[]) (by rw[Qt];exact h) (by simp) rfl dC
abbrev Vp (ds:List M.Dcl):List (List Value):=ds.map λd=>[Value.string d.1,nI d.2]
theorem one_cellsD {ds:List M.Dcl}:∀y,y∈Vp ds->∀c,c∈y->c.oneCell'=true:=λy b c a=>by
 obtain⟨d,_,rfl⟩:=gB.1 b;simp only[gk,gE,Gn] at a;rcases a with rfl|rfl<;>rfl
def Dsn (n:Nat) (ds:List M.Dcl):Prop:=ds.length<=n/\∀i,i<ds.length->(ds.getD i XL).1.size<=5
theorem dsn_sized {n:Nat} {ds:List M.Dcl} (h:Dsn n ds):yP0 ds:=λi hi=>by have:=h.2 i hi;omega
theorem dsn_up {n:Nat} {ds:List M.Dcl} (h:Dsn n ds):Dsn (n+2) ds:=⟨by have:=h.1;omega,h.2⟩
theorem jN0 {ds:List M.Dcl} (h:Dok ds):Dsn 5 ds:=⟨h.1,λi hi=>by have:=(h.2 i hi).2.2;omega⟩
theorem l2Spoil_spec2 {n b p:Nat} {v dv:Value} {xs:List Nat} {ds:List M.Dcl} (h:RdR F w b v xs p) (hF:∀x,F x->x<w.heap.size) (hd:DclsR D w dv ds) (hD:∀x,D x->x≠b) (hD1:∀x,D x->x<w.heap.size) (u:Dsn n ds) (aj:n<=100) (hp:p+10<1099511627776)
  (hK:∀w' p' W V,Same (· =b) w w'->RdR F w' b v xs p'->p'<=p+10->DclsR (λx=>w.heap.size<=x) w' W V->Dsn (n+2) V->K W w'):vcall Xc #[oP b 0,dv] w K:=by
 refine zf {} Tryz.func97 ?_;have lb:=h.blk.lt;have hlen:=u.1;refine vbuildS_row (xs:=[]) (us:=[]) (k:=2) jn kf yO rfl (by simp) dC λb1 w1 ar E aw h1=>?_;have am:=yE0 h1;refine vappend (F:=D) (ys:=Vp ds) Yl dC am (show Sl D w1 2 dv (Vp ds) from hd.ext E) one_cellsD (gW _) (by simp;omega) (by simp;omega) λov w2 J aa ak=>?_;replace J:OwnD w2 ov ds:=J;have ax:=E.size;have ay:=aa.size;have H:Same (· =b1) w1 w2:=aa.mono λx _ g=>(gg g).symm;have B:∀x,ov.ownBlock=some x->w.heap.size<=x:=λx g=>by
  rcases ak x g with g|g
  .have e:x=b1:=(gg g).symm;omega
  .omega
 have a5:Same (· =b) w w2:=same_new (Same.of_ext E) H oM;have X:RdR F w2 b v xs p:=(h.ext E).new H oM λx g e=>by have:=hF x g;omega
 have ah:DclsR D w2 dv ds:=(hd.ext E).same H λx g _ e=>by have:=hD1 x g;omega
 have G:∀U p3 I,Same (· =b) w U->RdR F U b v xs p3->p3<=p+10->OwnD U ov I->Dsn (n+2) I->K ov U:=λU p3 I hs hR an ho ai=>hK U p3 ov I hs hR an (ho.dcls.weaken λx g _=>B x g) ai;simp only[push_cast,ah.len];refine zb (λa=>?_) (λa=>?_)
 .exact G _ _ _ a5 X oM J (dsn_up u)
 refine pick_spec X oM oM λU k a6 az ae hk _=>?_;have au:=hk oM;refine pick_spec ae oM oM λw4 c a7 b0 C hc _=>?_;have L:OwnD w4 ov ds:=(J.same a6 λx g e=>by have:=B x g;omega).same a7 λx g e=>by have:=B x g;omega
 have f:=(a5.trans a6).trans a7;have ab:=f.size;have ad:∀x,F x->x<w4.heap.size:=λx g=>gQ (hF x g) ab;have t:∀{A:World} {p5:Nat} {d:M.Dcl} {x:Value} {j:Nat} {e:TypeId},OwnD A ov ds->Same (· =b) w A->RdR F A b v xs p5->p5<=p+10->x.cells= #[x]->x.oneCell'=true->qg e 1=true->j<2->([Value.string (ds.getD k XL).1,nI (ds.getD k XL).2].set j x)=[Value.string d.1,nI d.2]->d.1.size<=5->
   zy e (oE ((eaddr ov 2 k).add j)) x A λ_ Q=>K ov Q:=by
  intro A p5 d x j e ho hs hR ao ap aq hz hj a9 T;refine Own.stCell ho ap aq hz (by rw[gd];omega) hj λQ N o _=>?_;have hg:(Vp ds).getD k []=[Value.string (ds.getD k XL).1,nI (ds.getD k XL).2]:=K8 oM;rw[show(ds.map λd=>[Value.string d.1,nI d.2]).getD k []=_ from hg,a9,j70 (d:=d) _ rfl] at N;have a8:Same (· =b) w Q:=⟨o.os.trans hs.os,o.tape.trans hs.tape,o.output.trans hs.output,gU hs.size o.size,λy O S=>by
   rw[o.block y (gQ O hs.size) (λe=>by have:=B y e;omega)];exact hs.block y O S⟩
  refine G Q p5 _ a8 (hR.same o (λe=>by have:=B b e;omega) λy O _ e=>by have:=B y e;have:=hF y O;omega) ao N ⟨by rw[G4];omega,λi hi=>?_⟩;rw[G4] at hi;rw[jB0 oM];split
  .exact T
  .have:=u.2 i hi;omega
 have av:=u.2 k oM;refine oZ ?_;refine zb (λa0=>?_) (λa0=>?_)
 .refine num_lit (ns:=[0,5,-1,4]) C (by simp) dC oM λA m r R hm=>?_;have q:OwnD A ov ds:=L.same r λx g e=>by have:=B x g;omega
  have hi:=q.dcls;simp(disch:=exact oS) only[push_cast,hi.iaddr];exact t (d:=((ds.getD k XL).1,m)) (j:=1) q (f.trans r) R oM rfl rfl yG oM rfl (by show(ds.getD k XL).1.size<=5;omega)
 refine zb (λa1=>?_) (λa1=>?_)
 .refine of_lit (ss:=[⟨#[]⟩,⟨#[116,114,117,101]⟩,⟨#[97,98,99,100,101]⟩,⟨#[65]⟩,⟨#[110,111,116]⟩,⟨#[120]⟩]) C ad (by simp) dC oM λA s r R hm=>?_;have q:OwnD A ov ds:=L.same r λx g e=>by have:=B x g;omega
  have hi:=q.dcls;have T:s.size<=5:=by
   simp only[gk,gE,Gn] at hm;rcases hm with rfl|rfl|rfl|rfl|rfl|rfl<;>decide
  simp(disch:=exact oS) only[push_cast,hi.iaddr];exact t (d:=(s,(ds.getD k XL).2)) (j:=0) q (f.trans r) R oM rfl rfl WH oM rfl T
 refine zb (λa2=>?_) (λa2=>?_)
 .refine vbuildS_row (xs:=[.agg ⟨[.string ⟨#[113]⟩,nI 4]⟩,.agg ⟨[.string ⟨#[112]⟩,nI 1]⟩]) (us:=Vp [(⟨#[113]⟩,4),(⟨#[112]⟩,1)]) (k:=2) jn kf yO rfl (by simp) dC λb5 A ag l r h5=>?_;have Z:OwnD A (.slice (some ⟨b5,0,none⟩) 2 2) [(⟨#[113]⟩,4),(⟨#[112]⟩,1)]:=Blk.ownk (css:=Vp [(⟨#[113]⟩,4),(⟨#[112]⟩,1)]) (by rw[Qt];exact h5) (by simp) rfl dC;refine vappend (ys:=Vp [(⟨#[113]⟩,4),(⟨#[112]⟩,1)]) Yl dC (L.ext l) Z.sl one_cellsD (gW _) (by simp;omega) (by simp;omega) λac Q N z al=>?_;have b2:=l.size;have o:Same (· =b) w Q:=⟨z.os.trans ((f.trans (Same.of_ext l)).os),z.tape.trans ((f.trans (Same.of_ext l)).tape),z.output.trans ((f.trans (Same.of_ext l)).output),gU (f.trans (Same.of_ext l)).size z.size,λy O S=>by
   rw[z.block y (gQ O (f.trans (Same.of_ext l)).size) (λe=>by have:=B y e;omega)];exact(f.trans (Same.of_ext l)).block y O S⟩
  have af:RdR F Q b v xs _:=(C.ext l).same z (λe=>by have:=B b e;omega) λy O _ e=>by have:=B y e;have:=hF y O;omega
  have a4:OwnD Q ac (ds++[(⟨#[113]⟩,4),(⟨#[112]⟩,1)]):=by
   rw[OwnD,gG];exact N
  refine hK Q _ ac _ o af oM (a4.dcls.weaken λx g _=>?_) ⟨by rw[V1];simp;omega,λi hi=>?_⟩
  .rcases al x g with h|h
   .exact B x h
   .omega
  .rw[V1] at hi;by_cases Y:i<ds.length
   .rw[X0,gK Y,<-X0];have:=u.2 i Y;omega
   .rw[X0,gX oM];have:i-ds.length=0\/i-ds.length=1:=by simp at hi;omega
    rcases this with e|e<;>rw[e]<;>decide
 refine zb (λa3=>?_) (λa3=>?_)
 .refine vbuildS_row (xs:=[]) (us:=[]) (k:=2) jn kf yO rfl (by simp) dC λb5 A ag l r h5=>?_;have q:=yE0 h5;exact hK A _ _ [] (f.trans (Same.of_ext l)) (C.ext l) oM (q.dcls.weaken λx g _=>by have e:x=b5:=(gg g).symm;omega) ⟨by simp,λi hi=>by simp at hi⟩
 .exact G _ _ _ f C oM L (dsn_up u)
theorem l2Spoil_spec {b p:Nat} {v dv:Value} {xs:List Nat} {ds:List M.Dcl} (h:RdR F w b v xs p) (hF:∀x,F x->x<w.heap.size) (g:DclsR D w dv ds) (hD:∀x,D x->x≠b) (hD1:∀x,D x->x<w.heap.size) (d:Dok ds) (i:p+10<1099511627776)
  (f:∀w' e c a,Same (· =b) w w'->RdR F w' b v xs e->e<=p+10->DclsR (λx=>w.heap.size<=x) w' c a->Dsm a->K c w'):vcall Xc #[oP b 0,dv] w K:=
 l2Spoil_spec2 h hF g hD hD1 (jN0 d) oM i f
end
end Go.Proofs.YtfnpmncplaibiaaGreatDoor
end
