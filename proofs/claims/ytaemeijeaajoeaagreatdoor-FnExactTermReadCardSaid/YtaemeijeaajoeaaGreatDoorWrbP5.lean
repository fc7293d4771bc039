import Derived.Test.YtaemeijeaajoeaaGreatDoorWrbP4
import Derived.Laws.RangeString
import Derived.Lib.OthersKept
import Derived.Lib.TrimUEq
import Derived.Lib.RuneCount
import Derived.Recover
import Derived.Tactics
import Derived.Tactics2
import Derived.WalkSmall
/- A part of the proof. -/
set_option linter.unusedVariables false
set_option linter.unusedSimpArgs false
set_option linter.unnecessarySimpa false
set_option linter.unusedSectionVars false
section
namespace Go.Proofs.YtaemeijeaajoeaaGreatDoor
open Go Go.Vc Go.Proofs
variable {w w':World} {K:Value→World→Prop} {s:ByteArray} {V:Prop} {ds:List M.Dcl} {u t:M.Tm} {r:List UInt8}
theorem YZ (s:ByteArray) (i j:Nat):(s.extract i j).data.toList=(s.data.toList.drop i).take (j-i):=by
 rw[ByteArray.data_extract,Array.toList_extract,List.extract_eq_take_drop]
theorem xS {i:Nat} (b:i<s.size):s.data.toList.drop i=s.data.getD i 0::s.data.toList.drop (i+1):=by
 have a:i<s.data.size:=b;have c:i<s.data.toList.length:=by rw[Array.length_toList];exact a
 rw[List.drop_eq_getElem_cons c,Array.getD_eq_getD_getElem?,Array.getElem?_eq_getElem a,Array.getElem_toList];rfl
theorem X0 {i:Nat} (a:s.size<=i):s.data.toList.drop i=[]:=List.drop_eq_nil_of_le (by rw[yw];exact a)
theorem Wr {a r:List UInt8} (e:M.AllOk a) (g:∀c,r.head?=some c->M.okc c=false):M.wd (a++r)=a/\M.rs (a++r)=r:=by
 induction a with
 |nil=>
  cases r with
  |nil=>exact⟨rfl,rfl⟩
  |cons c r=>have h:=g c rfl;simp[M.wd,M.rs,h]
 |cons x a j=>
  have i:=e x List.mem_cons_self;obtain⟨b,d⟩:=j fun c f=>e c (List.mem_cons_of_mem _ f);simp only[M.wd,M.rs] at b d;simp[M.wd,M.rs,i,b,d]
theorem u8_ne {c:UInt8} {n:Nat} (h:(c.toNat:Int)≠n) (a:n<256):c≠UInt8.ofNat n:=fun e=>by
 subst e;apply h;simp[UInt8.toNat_ofNat];omega
theorem u8_eq {c:UInt8} {n:Nat} (h:(c.toNat:Int)=n):c=UInt8.ofNat n:=by
 have:c.toNat=n:=by omega
 rw[<-this];simp
theorem l2Word_spec {a:Nat} (E:a<=s.size) (G:s.size<=2000000) (q:∀x (e:Nat),a<=e->e<=s.size->x.data.toList=M.wd (s.data.toList.drop a)->s.data.toList.drop e=M.rs (s.data.toList.drop a)->K (.tuple #[.string x,.int .i64 e]) w):vcall PP yV #[.string s,.int .i64 a] w K:=by
 apply QJ;unfold Y5;refine vloop_up (s.size-a) (fun i u w'=> ∃j:Nat,j=a+i/\u=[.int .i64 j]/\w'=w/\M.AllOk ((s.data.toList.drop a).take i)) ⟨a,rfl,rfl,rfl,by simp[M.AllOk]⟩ ?_;rintro i _ _ B C F ⟨j,o,rfl,rfl,d⟩ p;have fin:(∀c,(s.data.toList.drop j).head?=some c->M.okc c=false)->yJ PP zc (.string s) (some (.int .i64 a)) (some (.int .i64 j)) none B fun t D=>K (.tuple #[t,.int .i64 j]) D:=fun h=>by
  rw[Qm ya (by omega) (by omega) (by omega),Int.toNat_natCast,Int.toNat_natCast];have e:s.data.toList.drop a=(s.data.toList.drop a).take i++s.data.toList.drop j:=(by rw[o,<-List.drop_drop,List.take_append_drop]);obtain⟨l,m⟩:=Wr d h;rw[<-e] at l m;refine q _ j (by omega) (by omega) ?_ m.symm;rw[YZ,l,show j-a=i by omega]
 simp only[push_cast,zY ya];refine zd (fun c=>?_) (fun c=>fin (by rw[X0 (by omega)];intro c h;cases h));have g:j<s.size:=by omega
 have f:=xS g;generalize v:s.data.getD j 0=x at f;have b:∀(w':World) (K:Value->World->Prop),yn PP zc (.string s) (.int .i64 j) w' K=K (.int .u8 (x.toNat:Int)) w':=fun w' K=>by rw[vindex_str ya (by omega) (by omega),Int.toNat_natCast,v]
 rw[f] at fin;rw[b];simp only[push_cast];refine zd (fun k=>?_) (fun k=>fin (by rintro _ h;cases h;rw[u8_eq (c:=x) (n:=32) (by omega)];rfl));rw[b];simp only[push_cast];refine zd (fun c2=>?_) (fun c2=>fin (by rintro _ h;cases h;rw[u8_eq (c:=x) (n:=40) (by omega)];rfl));rw[b];simp only[push_cast];refine zd (fun c3=>?_) (fun c3=>fin (by rintro _ h;cases h;rw[u8_eq (c:=x) (n:=41) (by omega)];rfl));rw[inc64' (by omega)];refine p (by omega) _ _ ⟨j+1,by omega,rfl,rfl,?_⟩;have hit:(s.data.toList.drop a).take (i+1)=(s.data.toList.drop a).take i++[x]:=by
  rw[List.take_add_one,List.getElem?_drop,<-o];have:s.data.toList[j]?=some x:=by
   have:=congrArg List.head? f;rwa[List.head?_drop] at this
  rw[this];rfl
 rw[hit];intro c r;rcases List.mem_append.1 r with h|h
 ·exact d c h
 ·rw[List.mem_singleton] at h;subst h;have y:c≠32:=u8_ne (n:=32) k (by decide);have z:c≠40:=u8_ne (n:=40) c2 (by decide);have A:c≠41:=u8_ne (n:=41) c3 (by decide);simp[M.okc,y,z,A]
theorem wordsL_inj:∀i j:Fin 28,i.1≠24->WV.getD i.1 ⟨#[]⟩≠⟨#[]⟩->WV.getD j.1 ⟨#[]⟩=WV.getD i.1 ⟨#[]⟩->j=i:=by decide+kernel
theorem l2Op_spec {o:Int} (F:V->s.data.toList=M.wordL o/\((1<=o/\o<=17)\/(22<=o/\o<=27))/\o≠24) (E:∀w' (p:Int),Ext w w'->0<=p->p<28->(V->p=o)->K (.int .i64 p) w'):vcall PP Zw #[.string s] w K:=by
 apply JR;unfold XG;refine l2Words_spec fun J v1 l z=>?_;have n:(WV.map Value.string).length=28:=rfl;have a:V->∃k:Nat,o=k/\k<28/\k≠24/\1<=k/\WV.getD k ⟨#[]⟩≠⟨#[]⟩/\s=WV.getD k ⟨#[]⟩:=fun h=>by
  obtain⟨g,q,x⟩:=F h;obtain⟨k,rfl⟩:∃k:Nat,o=k:=⟨o.toNat,by omega⟩;have y:=wordsL_get ⟨k,by omega⟩ (by show k≠24;omega);refine⟨k,rfl,by omega,by omega,by omega,fun e=>?_,str_ext (by rw[g];exact y.symm)⟩;have H:WV.getD (⟨k,by omega⟩:Fin 28).1 ⟨#[]⟩=⟨#[]⟩:=e;rw[H] at y;exact M.word_ne ⟨k,by omega⟩ (by show 1<=k;omega) (by show k<=17\/k=22\/k=23\/25<=k;omega) y.symm
 refine vloop_up 28 (fun i u w'=> ∃j:Nat,j=i+1/\u=[.int .i64 j]/\Ext J w'/\(V->∀k:Nat,o=k->j<=k)) ⟨1,rfl,rfl,Same.refl _ _,fun h k e=>by have:=F h;omega⟩ ?_;rintro i _ _ B C L ⟨j,N,rfl,b,hinv⟩ I;have f:=z.ext b;simp(disch:=first|(simp only[push_cast];done)|omega) only[push_cast,f.len,n];refine zd (fun c=>?_) (fun c=>E B 0 (l.trans b) (by omega) (by omega) fun h=>by
  obtain⟨k,rfl,g,_⟩:=a h;have:=hinv h k rfl;omega)
 have d:j<28:=by omega
 have m:(WV.map Value.string).getD j undef= .string (WV.getD j ⟨#[]⟩):=M.getD_map _ (show j<WV.length from d) _ ⟨#[]⟩;simp(disch:=first|(simp only[push_cast];done)|omega) only[push_cast,f.iaddr,f.load,Int.toNat_natCast,m];have next:(V->∀k:Nat,o=k->j≠k)->C [.int .i64 (IntKind.i64.wrap ((j:Int)+1))] B:=fun h=>by
  rw[inc64' (by omega)];exact I (by omega) _ _ ⟨j+1,by omega,rfl,b,fun G k v=>by have:=hinv G k v;have:=h G k v;omega⟩
 refine zd (fun D=>?_) (fun D=>next fun h k v e=>?_)
 ·refine zd (fun c2=>E B j (l.trans b) (by omega) (by omega) fun h=>?_) (fun c2=>next fun h k v e=>?_)
  ·obtain⟨k,rfl,g,q,x,r,t⟩:=a h;have:=wordsL_inj ⟨k,g⟩ ⟨j,d⟩ q r (by rw[<-t];exact c2);have:j=k:=congrArg Fin.val this;omega
  ·obtain⟨A,rfl,g,q,x,r,t⟩:=a h;have:A=k:=(by omega);subst this;subst e;exact c2 t.symm
 ·obtain⟨A,rfl,g,q,x,r,t⟩:=a h;have:A=k:=(by omega);subst this;subst e;exact D r
theorem Zp {t:TypeId} {k:IntKind} {i:Int} (h:PP.underlying t=some .string) (a:0<=i) (b:i<=s.size):yJ PP t (.string s) (some (.int k i)) none none w K=K (.string (s.extract i.toNat s.size)) w:=by
 refine y6 ?_;rw[run_sliceAt_string w t _ _ _ _ h];exact run_slice_string_l (P:=PP) w t s h k i a b
theorem dig_get {d:Int} (h:s.data.toList=M.digL d) (e:0<=d) (f:d<10):s.size=1/\((s.data.getD 0 0).toNat:Int)=48+d:=by
 have b:=yw s;rw[h] at b;have c:s.size=1:=b.symm;have a:=xS (s:=s) (i:=0) (by omega);rw[List.drop_zero,h] at a;have:s.data.getD 0 0=UInt8.ofNat (48+d.toNat):=(List.cons.inj a).1.symm;refine⟨c,?_⟩;rw[this];have:(UInt8.ofNat (48+d.toNat)).toNat=48+d.toNat:=by simp[UInt8.toNat_ofNat];omega
 rw[this];omega
theorem l12Num_spec {d:Int} (E:V->s.data.toList=M.digL d/\0<=d/\d<10) (N:s.size<=2000000) (t:∀(n:Int) (b:Bool),(V->n=d)->K (.tuple #[.int .i64 n,.bool b]) w):vcall PP ql #[.string s] w K:=by
 apply QS;unfold Yd;have v:V->s.size=1/\((s.data.getD 0 0).toNat:Int)=48+d/\0<=d/\d<10:=fun h=>by
  obtain⟨j,q,r⟩:=E h;obtain⟨A,B⟩:=dig_get j q r;exact⟨A,B,q,r⟩
 refine zL (fun u w'=> ∃b:Bool,u=[.bool b]/\w'=w/\(V->b=false)/\(b=true->0<s.size)) (fun J e=>?_) ?_
 ·simp only[push_cast,zY ya];refine zd (fun c=>?_) (fun c=>e _ _ ⟨false,rfl,rfl,fun _=>rfl,fun h=>by cases h⟩);rw[vindex_str ya (by omega) (by omega)];simp only[push_cast];refine e _ _ ⟨_,rfl,rfl,fun h=>?_,fun _=>by omega⟩;have:=v h;rw[decide_eq_false];show¬((s.data.getD 0 0).toNat:Int)=45;omega
 rintro _ _ w ⟨b,rfl,rfl,k,l⟩;refine zL (fun u w'=> ∃x:ByteArray,u=[.string x]/\w'=w/\(V->x=s)/\x.size<=s.size) (fun J e=>?_) ?_
 ·try simp only[push_cast]
  refine zE (fun c=>?_) (fun c=>e _ _ ⟨s,rfl,rfl,fun _=>rfl,Nat.le_refl _⟩);have:=l c;rw[Zp ya (by omega) (by omega)];refine e _ _ ⟨_,rfl,rfl,fun h=>?_,?_⟩
  ·have:=k h;rw[c] at this;cases this
  ·rw[ByteArray.size_extract];omega
 rintro _ _ w ⟨x,rfl,rfl,H,I⟩;have dead:∀{n:Int} {b:Bool},¬V->K (.tuple #[.int .i64 n,.bool b]) w:=fun h=>t _ _ fun G=>absurd G h;have a:V->x.size=1/\((x.data.getD 0 0).toNat:Int)=48+d/\0<=d/\d<10:=fun h=>by rw[H h];exact v h
 refine zL (fun u w'=>w'=w) (fun J e=>?_) ?_
 ·simp only[push_cast,zY ya];refine zd (fun c=>dead fun h=>by have:=a h;omega) (fun c=>?_);refine zd (fun c2=>dead fun h=>by have:=a h;omega) (fun c2=>?_);rw[vindex_str ya (by omega) (by omega)];simp only[push_cast];refine zd (fun c3=>?_) (fun c3=>e _ _ rfl)
  try simp only[push_cast,zY ya]
  refine zd (fun c4=>dead fun h=>by have:=a h;omega) (fun c4=>?_);refine zE (fun c5=>dead fun h=>by have:=k h;rw[c5] at this;cases this) (fun c5=>e _ _ rfl)
 rintro _ _ w rfl;refine vloop_up x.size (fun i u w'=> ∃n:Int,u=[.int .i64 n,.int .i64 i]/\w'=w/\(V->n=if i=0 then 0 else d)) ⟨0,rfl,rfl,fun _=>rfl⟩ ?_;rintro i _ _ w C L ⟨n,rfl,rfl,y⟩ D;simp only[push_cast,zY ya];refine zd (fun c=>?_) (fun c=>?_)
 ·have o:i<x.size:=(by omega);have f:∀(w':World) (K:Value->World->Prop),yn PP zc (.string x) (.int .i64 i) w' K=K (.int .u8 ((x.data.getD i 0).toNat:Int)) w':=fun w' K=>(by rw[vindex_str ya (by omega) (by omega),Int.toNat_natCast]);have p:V->i=0:=fun h=>by have:=a h;omega
  have m:V->((x.data.getD i 0).toNat:Int)=48+d:=fun h=>by rw[p h];exact(a h).2.1
  rw[f];simp only[push_cast];refine zd (fun z=>dead fun h=>by have:=a h;have:=m h;omega) (fun z=>?_);rw[f];simp only[push_cast];refine zd (fun c2=>dead fun h=>by have:=a h;have:=m h;omega) (fun c2=>?_);rw[f];have F:((x.data.getD i 0).toNat:Int)<256:=by have:=(x.data.getD i 0).toNat_lt;omega
  simp only[push_cast];rw[wrapB (by omega) (by omega),jm JZ K6,jB,inc64' (by omega)];refine D o _ _ ⟨_,rfl,rfl,fun h=>?_⟩;have j:=y h;rw[p h,if_pos rfl] at j;have:=m h;have:=a h;rw[if_neg (by omega),j,yb (x:=((x.data.getD i 0).toNat:Int)-48) (by omega) (by omega),show IntKind.i64.wrap (0*10)=0 from rfl,yb (by omega) (by omega)];omega
 ·have g:V->n=d:=fun h=>by rw[y h,if_neg];have:=a h;omega
  refine zE (fun c5=>?_) (fun c5=>t _ _ g);have: ¬V:=fun h=>by have:=k h;rw[c5] at this;cases this
  try simp only[push_cast]
  exact dead this
end Go.Proofs.YtaemeijeaajoeaaGreatDoor
end
section
namespace Go.Proofs.YtaemeijeaajoeaaGreatDoor
open Go Go.Vc Go.Proofs
variable {w w':World} {K:Value→World→Prop} {s:ByteArray} {V:Prop} {ds:List M.Dcl} {u t:M.Tm} {r:List UInt8}
theorem Jj {l:List UInt8} (h:s.data.toList=l) (i:Nat):s.data.getD i 0=l.getD i 0:=by
 subst h;rw[Array.getD_eq_getD_getElem?,List.getD_eq_getElem?_getD,Array.getElem?_toList]
theorem vecL_get {wd n i:Nat} (a:1<=i) (b:i<=wd):(M.vecL wd n).getD i 0=Qb n (wd-i):=by
 unfold M.vecL Qb;obtain⟨j,rfl⟩:∃j,i=j+1:=⟨i-1,by omega⟩;rw[List.getD_cons_succ,List.getD_eq_getElem?_getD,List.getElem?_map,List.getElem?_reverse (by simp;omega),List.length_range,List.getElem?_range (by omega)];simp only[Option.map_some,Option.getD_some];rw[show wd-1-j=wd-(j+1) by omega]
theorem bitC_nat (n k:Nat):((Qb n k).toNat:Int)=48+((n/2^k%2:Nat):Int):=by
 unfold Qb;rcases(by omega:n/2^k%2=0\/n/2^k%2=1) with h|h<;>rw[h]<;>rfl
theorem half_step {n k:Nat}:n/2^k=2*(n/2^(k+1))+n/2^k%2:=by
 rw[Nat.pow_succ,<-Nat.div_div_eq_div_mul];omega
theorem leaf_eta (e:M.sortM ds u≠ -1) (h:M.leafT u):u= .mk u.op u.a u.b u.s []:=by
 have d:u.ks=[]:=by
  obtain⟨c,f,g⟩:=M.right_op e;refine List.eq_nil_of_length_eq_zero ?_;unfold M.leafT at h;unfold M.arity at c;rw[if_pos h] at c;omega
 cases u;simp only[M.Tm.ks] at d;subst d;rfl
theorem spec_VecRead_spec {wd n:Nat} (D:V->s.data.toList=M.vecL wd n/\1<=wd/\wd<=4/\n<2^wd) (hz:s.size<=2000000) (hK:∀w' (a b:Int) (ok:Bool),Ext w w'->(ok=true->s.data.getD 0 0=35/\0<s.size)->(V->ok=true/\a=wd/\b=n)->K (.tuple #[Jy a b,.bool ok]) w'):vcall PP ja #[.string s] w K:=by
 apply XY;unfold Zc;refine zx xH fun b1 P a4 l a7 d=>?_;have O:V->s.size=wd+1:=fun h=>by have:=yw s;rw[(D h).1,YW] at this;omega
 have hc:V->∀i,1<=i->i<=wd->s.data.getD i 0=Qb n (wd-i):=fun h i A g=>by rw[Jj (D h).1,vecL_get A g]
 have fin:∀{f:World} {p q:Int} {ok:Bool} {x y:Value},Ext w f->Blk f b1 [x,y] zf->(ok=true->s.data.getD 0 0=35/\0<s.size)->(V->ok=true/\p=wd/\q=n)->zn PP zf (.pointer (some ⟨b1,0,none⟩)) (Jy p q) f fun _ z=>vlv PP zf (.pointer (some ⟨b1,0,none⟩)) z fun r w4=>K (.tuple #[r,.bool ok]) w4:=fun{f p q ok x y} he U A g=>by
  refine stVec U fun z E a1 B=>?_;rw[B.lv xM];exact hK z p q ok (Ext.then he E fun y L=>by subst L;omega) A g
 have bad:∀{f:World} {x y:Value},Ext w f->Blk f b1 [x,y] zf->¬V->zq PP zf [] f fun t z=>zn PP zf (.pointer (some ⟨b1,0,none⟩)) t z fun _ z=>vlv PP zf (.pointer (some ⟨b1,0,none⟩)) z fun r w4=>K (.tuple #[r,.bool false]) w4:=fun{f x y} he U h=>by
  rw[Vb];exact fin he U (fun h=>by cases h) fun hv=>absurd hv h
 refine zL (fun u w'=>w'=P/\s.data.getD 0 0=35/\2<=s.size) (fun J N=>?_) ?_
 ·rw[zY ya];simp only[yF];refine zd (fun c=>bad l d fun h=>by have:=O h;have:=D h;omega) (fun c=>?_);rw[zY ya];simp only[jA];refine zd (fun c2=>bad l d fun h=>by have:=O h;have:=D h;omega) (fun c2=>?_);rw[vindex_str ya (by omega) (by omega)];simp only[kJ];refine zd (fun c3=>bad l d fun h=>?_) (fun c3=>N _ _ ⟨rfl,?_,by omega⟩)
  ·apply c3;have:=Jj (D h).1 0;show((s.data.getD 0 0).toNat:Int)=35;rw[this];rfl
  ·have:((s.data.getD 0 0).toNat:Int)=35:=by
    by_cases e:((s.data.getD 0 0).toNat:Int)=35
    ·exact e
    ·exact absurd e c3
   exact u8_eq (n:=35) this
 rintro _ _ P ⟨rfl,S,g⟩;rw[zY ya,JW,yb (by omega) (by omega)];have eb:∀(w':World) (K:Value->World->Prop),zq PP zf [(0,.int .i64 ((s.size:Int)-1))] w' K=K (Jy ((s.size:Int)-1) 0) w':=fun w' K=>yd js (us:=[[.int .i64 ((s.size:Int)-1)]]) rfl rfl;rw[eb];refine zx xH fun b2 f a5 Z a8 W=>?_;refine stVec W fun z E a1 B=>?_;have Q:Ext P z:=Ext.then Z E fun y L=>by subst L;omega
 have q3:=d.ext Q;refine vloop_up s.size (fun i u w'=> ∃(j:Nat) (m:Int),j=i+1/\u=[.int .i64 j]/\Ext w w'/\Blk w' b1 [.int .i64 0,.int .i64 0] zf/\Blk w' b2 [.int .i64 ((s.size:Int)-1),.int .i64 m] zf/\P.heap.size<=w'.heap.size/\(V->i<=wd/\m=((n/2^(wd-i):Nat):Int))) ⟨1,0,rfl,rfl,l.trans Q,q3,B,Q.size,fun h=>⟨by omega,?_⟩⟩ ?_
 ·have T:=D h;rw[Nat.sub_zero,Nat.div_eq_of_lt T.2.2.2];rfl
 rintro i _ _ w5 C hi ⟨j,m,hj,rfl,R,p5,q5,a9,hm⟩ hC;rw[zY ya];simp only[push_cast];refine zd (fun c=>?_) (fun c=>?_)
 ·have G:V->j<=wd:=fun h=>by have:=O h;omega
  refine zL (fun u w'=>w'=w5) (fun J N=>?_) ?_
  ·rw[vindex_str ya (by omega) (by omega)];simp only[push_cast];refine zd (fun c1=>?_) (fun c1=>N _ _ rfl);rw[vindex_str ya (by omega) (by omega)];simp only[push_cast];refine zd (fun c2=>fin R p5 (fun h=>by cases h) fun h=>absurd h fun h=>?_) (fun c2=>N _ _ rfl);have A:=bitC_nat n (wd-j);rw[<-hc h j (by omega) (G h)] at A;omega
  rintro _ _ w5 rfl;refine zN fun w6 o _=>?_;have p6:=p5.ext o;have q6:=q5.ext o;have a6:((s.data.getD j 0).toNat:Int)<256:=by have:=(s.data.getD j 0).toNat_lt;omega
  have a0:∀(w':World) (K:Value->World->Prop),yn PP zc (.string s) (.int .i64 j) w' K=K (.int .u8 ((s.data.getD j 0).toNat:Int)) w':=fun w' K=>(by rw[vindex_str ya (by omega) (by omega),Int.toNat_natCast]);simp(disch:=first|(simp only[push_cast];done)|omega) only[push_cast,q6.ld1,a0,jm JZ K6,true_and];refine q6.st (i:=1) rfl rfl ZQ rfl fun w7 I aa X=>?_;have z6:=o.size;have a2:=d.lt;rw[inc64' (by omega)];refine hC (by omega) _ _ ⟨j+1,_,by omega,rfl,Ext.then (R.trans o) I fun y L=>by subst L;omega,p6.same I (by omega),X,by omega,fun h=>?_⟩;obtain⟨A,g⟩:=hm h;have H:=G h;have Y:=hc h j (by omega) H;have F:=bitC_nat n (wd-j);rw[<-Y] at F;have v:=half_step (n:=n) (k:=wd-j);rw[show wd-j+1=wd-i by omega] at v;have a3:n<16:=by
   have T:=D h;have:(2:Nat)^wd<=2^4:=Nat.pow_le_pow_right (by omega) T.2.2.1;omega
  have:n/2^(wd-i)<=n:=Nat.div_le_self _ _;refine⟨by omega,?_⟩;rw[show i+1=j by omega,F,g];rw[show(48:Int)+((n/2^(wd-j)%2:Nat):Int)-48=((n/2^(wd-j)%2:Nat):Int) by omega];have hq:n/2^(wd-j)%2<2:=Nat.mod_lt _ (by decide);generalize n/2^(wd-j)%2=q at v hq⊢;generalize n/2^(wd-j)=x at v⊢;generalize n/2^(wd-i)=y at v this⊢;rw[wrapB (by omega) (by omega),yb (x:=(y:Int)*2) (by omega) (by omega),yb (x:=(q:Int)) (by omega) (by omega),yb (by omega) (by omega)];omega
 ·rw[q5.ldAgg xM];refine fin R p5 (fun _=>⟨S,by omega⟩) fun h=>?_;obtain⟨A,g⟩:=hm h;have h3:=O h;have:i=wd:=(by omega);subst this;rw[Nat.sub_self,Nat.pow_zero,Nat.div_one] at g;exact⟨rfl,by omega,g⟩
end Go.Proofs.YtaemeijeaajoeaaGreatDoor
end
section
namespace Go.Proofs.YtaemeijeaajoeaaGreatDoor
open Go Go.Vc Go.Proofs
variable {w:World} {K:Value→World→Prop} {F F' D G:Nat→Prop}
@[push_cast] theorem Kr:zq PP za [] w K=K (.agg ⟨X2⟩) w:=yd jN (us:=[]) rfl rfl
end Go.Proofs.YtaemeijeaajoeaaGreatDoor
end
section
namespace Go.Proofs.YtaemeijeaajoeaaGreatDoor
open Go Go.Vc Go.Proofs
variable {w w':World} {K:Value→World→Prop} {s:ByteArray} {V:Prop} {ds:List M.Dcl} {u t:M.Tm} {r:List UInt8} {n:Nat}
def Good (ds:List M.Dcl) (n:Nat) (u:M.Tm):Prop:=M.declOk ds=true∧M.sortM ds u≠ -1∧M.deepM u≤n
def RdT (K:Value→World→Prop) (V:Prop) (u:M.Tm) (r:List UInt8) (s:ByteArray) (w:World):Prop:=
 ∀w' tv t (e:Int),Ext w w'→TermR (fun x=>w.heap.size≤x) w' tv t→(e= -1∨(0≤e∧e≤s.size))→(V→t=u∧0≤e∧e≤s.size∧s.data.toList.drop e.toNat=r)→K (.tuple #[tv,.int .i64 e]) w'
theorem leaf_name (n:M.declOk ds=true) (d:M.sortM ds u≠ -1) (h:M.leafT u) (c:s.data.toList=M.textL u):(u.op=24/\s=⟨#[116,114,117,101]⟩/\u= .mk 24 0 0 M.nada [])\/(u.op=20/\s.data.getD 0 0=35/\s≠⟨#[116,114,117,101]⟩/\s.data.toList=M.vecL u.a.toNat u.b.toNat/\M.vok u.a u.b=true/\u= .mk 20 u.a u.b M.nada [])\/(u.op=21/\(0<s.size->s.data.getD 0 0≠35)/\s≠⟨#[116,114,117,101]⟩/\u= .mk 21 0 0 s []):=by
 obtain⟨_,m,q,_⟩:=M.leaf_ok n d h;have he:=leaf_eta d h;have g:=(M.right_op d).2.1;rw[q] at c m;unfold M.textF at c m;rcases h with o|o|o
 ·right;left;rw[if_pos o] at c;have l:s.data.getD 0 0=35:=by rw[Jj c];rfl
  refine⟨o,l,fun e=>?_,c,M.vec_ok d o,?_⟩
  ·rw[e] at l;revert l;decide
  ·rw[o,M.plain_s g (by omega)] at he;exact he
 ·right;right;rw[if_neg (by omega),if_pos o] at c;have f:s=u.s:=str_ext c;obtain⟨w,r,t⟩:=M.name_ok n d o;refine⟨o,fun v e=>?_,fun e=>r (by rw[<-f,e];rfl),?_⟩
  ·have p:=xS (s:=s) (i:=0) v;rw[List.drop_zero,e] at p;have:=t 35 (by rw[<-c,p];exact List.mem_cons_self);revert this;decide
  ·obtain⟨j,k⟩:=M.plain_ab g (by omega);rw[o,j,k,<-f] at he;exact he
 ·left;rw[if_neg (by omega),if_neg (by omega),if_pos o] at c;obtain⟨j,k⟩:=M.plain_ab g (by omega);rw[o,j,k,M.plain_s g (by omega)] at he;exact⟨o,str_ext c,he⟩
theorem vok_nat {a b:Int} (h:M.vok a b=true):∃wd n:Nat,a=wd/\b=n/\1<=wd/\wd<=4/\n<2^wd:=by
 obtain⟨c,d,e,f⟩:=M.vok_iff.1 h;refine⟨a.toNat,b.toNat,by omega,by omega,by omega,by omega,?_⟩;have g:((2^a.toNat:Nat):Int)=2^a.toNat:=Qr _;omega
theorem l2Leaf_spec (z:V->M.declOk ds=true/\M.sortM ds u≠ -1/\M.leafT u/\s.data.toList=M.textL u) (hz:s.size<=2000000) (U:∀w' tv t,Ext w w'->TermR (fun _=>False) w' tv t->(V->t=u)->K tv w'):vcall PP jE #[.string s] w K:=by
 apply QO;unfold Y9;refine zx zy fun b1 w1 W l a0 j=>?_;have A:V->_:=fun h=>leaf_name (z h).1 (z h).2.1 (z h).2.2.1 (z h).2.2.2;have fin:∀{g:World} {o a b:Int} {x:ByteArray},Ext w g->Blk g b1 X2 za->(V->u= .mk o a b x [])->zn PP za (.pointer (some ⟨b1,0,none⟩)) (.agg ⟨[.int .i64 o,.int .i64 a,.int .i64 b,.string x,.slice none 0 0]⟩) g fun _ B=>vlv PP za (.pointer (some ⟨b1,0,none⟩)) B fun r L=>K r L:=fun{g o a b x} he T h=>by
  refine Yr T rfl (Ki (G:=fun _=>False) o a b x) (fun x hx=>hx.elim) fun B F J Y=>?_;exact U B _ _ (Ext.then he F fun y I=>by subst I;omega) Y fun Z=>(h Z).symm
 simp only[qs];refine zd (fun c=>?_) (fun c=>?_)
 ·rw[WI];refine fin l j fun h=>?_;rcases A h with h|h|h
  ·exact h.2.2
  ·exact absurd c h.2.2.1
  ·exact absurd c h.2.2.1
 have d:(V/\u.op=20)->s.data.toList=M.vecL u.a.toNat u.b.toNat/\1<=u.a.toNat/\u.a.toNat<=4/\u.b.toNat<2^u.a.toNat/\u.a=u.a.toNat/\u.b=u.b.toNat/\u= .mk 20 u.a u.b M.nada []:=fun h=>by
  rcases A h.1 with q|q|q
  ·omega
  ·obtain⟨wd,n,N,O,C⟩:=vok_nat q.2.2.2.2.1;have Q:u.a.toNat=wd:=(by omega);have v:u.b.toNat=n:=(by omega);refine⟨q.2.2.2.1,by omega,by omega,?_,by omega,by omega,q.2.2.2.2.2⟩;rw[Q,v];exact C.2.2
  ·omega
 refine spec_VecRead_spec (V:=V/\u.op=20) (wd:=u.a.toNat) (n:=u.b.toNat) (fun h=>⟨(d h).1,(d h).2.1,(d h).2.2.1,(d h).2.2.2.1⟩) hz fun g a b ok m i e=>?_;have v:=l.trans m;simp only[zH,zG];refine zx xH fun b3 B X E J D=>?_;refine stVec D fun L H a1 k=>?_;have f:Ext g L:=Ext.then E H fun y I=>by subst I;omega
 have P:=(j.ext m).ext f;refine zE (fun c5=>?_) (fun c5=>?_)
 ·simp(disch:=first|(simp only[push_cast];done)|omega) only[push_cast,k.ld0,k.ld1];refine fin (v.trans f) P fun h=>?_;have p:u.op=20:=by
   rcases A h with q|q|q
   ·exact absurd q.2.1 c
   ·exact q.1
   ·exact absurd (i c5).1 (q.2.1 (i c5).2)
  obtain⟨_,N,O⟩:=e ⟨h,p⟩;obtain⟨_,_,_,_,C,R,S⟩:=d ⟨h,p⟩;rw[N,O,<-C,<-R];exact S
 ·rw[Ue];refine fin (v.trans f) P fun h=>?_;rcases A h with q|q|q
  ·exact absurd q.2.1 c
  ·have:=(e ⟨h,q.1⟩).1;rw[c5] at this;cases this
  ·exact q.2.2.2
theorem K3 (c:M.sortM ds u≠ -1) (h: ¬M.leafT u):u= .mk u.op u.a u.b M.nada u.ks:=by
 have:=(M.node_arity' c h).2.2.2.2.2;cases u;simp only[M.Tm.s] at this;subst this;rfl
theorem l2Kids_spec {o a b:Int} {at_:Nat} {us:List M.Tm} (ih:∀{w:World} {K:Value->World->Prop} {k:Nat} {u:M.Tm} {r:List UInt8},k<=s.size->(V->Good ds n u/\M.Stop r/\s.data.toList.drop k=M.textL u++r)->RdT K V u r s w->vcall PP xo #[.string s,.int .i64 k,.int .i64 n] w K)
  (ha:at_<=s.size) (hz:s.size<=2000000) (hV:V->us.length<=3/\(∀u,u∈us->Good ds n u)/\s.data.toList.drop at_=M.kidsL us++41::r) (hK:RdT K V (.mk o a b M.nada us) r s w):
  vcall PP xp #[.string s,.int .i64 at_,.int .i64 n,.agg ⟨[.int .i64 o,.int .i64 a,.int .i64 b,.string M.nada,.slice none 0 0]⟩] w K:=by
 apply QP;unfold Ya;refine zr fun b1 w1 b6 A bb an=>?_;refine zx zy fun L G b7 N bc ao=>?_;have q1:=an.ext N;refine jz (fun m u w'=> ∃(k:Nat) (kv:Value) (ks rest:List M.Tm) (H:Nat->Prop),u=[.int .i64 k]/\m+ks.length=3/\k<=s.size/\Same (fun x=>x=b1\/G.heap.size<=x) G w'/\Blk w' b1 [.int .i64 o,.int .i64 a,.int .i64 b,.string M.nada,kv] za/\Blk w' L X2 za/\LstH H w' kv ks/\(∀x,kv.ownBlock=some x->G.heap.size<=x/\¬H x)/\(∀x,H x->G.heap.size<=x)/\(V->us=ks++rest/\s.data.toList.drop k=M.kidsL rest++41::r)) 3
  ⟨at_,_,[],us,fun _=>False,rfl,rfl,ha,Same.refl _ _,q1,ao,LstH.nil,fun x d=>(by cases d),fun x d=>d.elim,fun h=>⟨rfl,(hV h).2.2⟩⟩ ?_
 rintro m _ _ w3 C ⟨k,kv,ks,rest,H,rfl,hm,hk,a0,T,p2,j,f,hH,Q⟩ hC;have z3:=a0.size;have a4:∀{I:World},Same (fun x=>x=b1\/G.heap.size<=x) G I->Ext w I:=fun h=>Ext.then (A.trans N) h fun y hy=>by rcases hy with h|h<;>omega
 have fin:∀{I:World} {q:Value} {F:List M.Tm} {H4:Nat->Prop} {e:Int},Ext w3 I->Blk I b1 [.int .i64 o,.int .i64 a,.int .i64 b,.string M.nada,q] za->LstH H4 I q F->(∀x,q.ownBlock=some x->G.heap.size<=x)->(∀x,H4 x->G.heap.size<=x)->(e= -1\/(0<=e/\e<=s.size))->(V->F=us/\0<=e/\e<=s.size/\s.data.toList.drop e.toNat=r)->
   zn PP za (.pointer (some ⟨L,0,none⟩)) (.agg ⟨[.int .i64 o,.int .i64 a,.int .i64 b,.string M.nada,q]⟩) I fun _ w5=>vlv PP za (.pointer (some ⟨L,0,none⟩)) w5 fun r w6=>K (.tuple #[r,.int .i64 e]) w6:=fun{I q F H4 e} B z g h3 h4 h5 h6=>by
  have ht:TmR (fun x=>G.heap.size<=x) I [.int .i64 o,.int .i64 a,.int .i64 b,.string M.nada,q] (.mk o a b M.nada F):=TmR.of (t:= .mk o a b M.nada F) (g.tms.weaken fun x d _=>d.elim (h4 x) (h3 x));refine Yr (K:=fun v w'=>K (.tuple #[v,.int .i64 e]) w') (p2.ext B) rfl ht (fun x d=>by omega) fun w5 ax az aw=>?_;have e5:Ext w w5:=Ext.then (a4 (a0.trans (Same.of_ext B))) ax fun y hy=>by subst hy;have:=A.size;omega
  refine hK w5 _ _ e e5 (aw.weaken fun x d _=>by have:=A.size;have:=N.size;omega) h5 fun Q=>?_;obtain⟨g1,g2⟩:=h6 Q;exact⟨by rw[g1],g2⟩
 have a5:k<s.size->∀(w':World) (K:Value->World->Prop),yn PP zc (.string s) (.int .i64 k) w' K=K (.int .u8 ((s.data.getD k 0).toNat:Int)) w':=fun h w' K=>by rw[vindex_str ya (by omega) (by omega),Int.toNat_natCast]
 have closes:(V->rest=[])->vbi PP .len [zc] zb [.string s] w3 fun t48 aa=>zj PP .geq zb false (.int .i64 k) t48 aa fun t49 U=>
   vif t49 (zh PP za (.pointer (some ⟨b1,0,none⟩)) U fun t56 ab=>zn PP za (.pointer (some ⟨L,0,none⟩)) t56 ab fun _ ac=>vlv PP za (.pointer (some ⟨L,0,none⟩)) ac fun r8 ad=>K (.tuple #[r8,(.int .i64 (-1))]) ad)
    (yn PP zc (.string s) (.int .i64 k) U fun t53 ae=>zj PP .neq zQ true t53 (.int .u8 41) ae fun t54 W=>
     vif t54 (zh PP za (.pointer (some ⟨b1,0,none⟩)) W fun t56 af=>zn PP za (.pointer (some ⟨L,0,none⟩)) t56 af fun _ ag=>vlv PP za (.pointer (some ⟨L,0,none⟩)) ag fun r8 ah=>K (.tuple #[r8,(.int .i64 (-1))]) ah)
      (zh PP za (.pointer (some ⟨b1,0,none⟩)) W fun t57 ai=>zj PP .add zb true (.int .i64 k) (.int .i64 1) ai fun t59 aj=>zn PP za (.pointer (some ⟨L,0,none⟩)) t57 aj fun _ ak=>vlv PP za (.pointer (some ⟨L,0,none⟩)) ak fun r8 al=>K (.tuple #[r8,t59]) al)):=fun hr=>by
  have a1:V->ks=us/\s.data.toList.drop k=41::r:=fun h=>by
   obtain⟨z,g⟩:=Q h;rw[hr h] at z g;exact⟨by rw[z,List.append_nil],by rw[g];rfl⟩
  rw[zY ya];simp only[ZR];refine zd (fun c=>?_) (fun c=>?_)
  ·rw[T.ldAgg zo];refine fin (Same.refl _ _) T j (fun x d=>(f x d).1) hH (.inl rfl) fun h=>?_;have:=(a1 h).2;rw[X0 (by omega)] at this;cases this
  have O:k<s.size:=(by omega);have hg:=xS O;rw[a5 O];simp only[kJ];refine zd (fun c=>?_) (fun c=>?_)
  ·rw[T.ldAgg zo];refine fin (Same.refl _ _) T j (fun x d=>(f x d).1) hH (.inl rfl) fun h=>?_;have:=(a1 h).2;rw[hg] at this;rw[(List.cons.inj this).1] at c;exact absurd rfl c
  ·rw[T.ldAgg zo,jB,inc64' (by omega)];refine fin (Same.refl _ _) T j (fun x d=>(f x d).1) hH (.inr ⟨by omega,by omega⟩) fun h=>?_;obtain⟨z,g⟩:=a1 h;rw[hg] at g;exact⟨z,by omega,by omega,(List.cons.inj g).2⟩
 refine zL (fun u w'=>w'=w3/\k<s.size/\s.data.getD k 0=32/\ks.length<3) (fun J hJ=>?_) ?_
 ·rw[zY ya];simp only[sl0,yF];refine zd (fun c=>?_) (fun c=>?_)
  ·rw[a5 (by omega)];simp only[qT];refine zd (fun c2=>?_) (fun c2=>?_)
   ·simp(disch:=first|(simp only[push_cast];done)|omega) only[Z6,yG,Nat.zero_add,T.ld4,j.tms.len,yF];refine zd (fun c3=>hJ _ _ ⟨rfl,by omega,u8_eq (n:=32) c2,by omega⟩) (fun c3=>closes fun h=>?_);have z:=(Q h).1;have g:=(hV h).1;rw[z,List.length_append] at g;exact List.eq_nil_of_length_eq_zero (by omega)
   ·refine closes fun h=>?_;have g:=(Q h).2;cases rest with
    |nil=>rfl
    |cons x l=>
     rw[xS (by omega),M.kids_cons] at g;rw[(List.cons.inj g).1] at c2;exact absurd rfl c2
  ·refine closes fun h=>?_;have g:=(Q h).2;rw[X0 (by omega)] at g;have:=congrArg List.length g;simp at this
 rintro _ _ w3 ⟨rfl,O,am,ba⟩;have hg:=xS O;rw[am] at hg;have E:V->∃x l,rest=x::l/\s.data.toList.drop (k+1)=M.textL x++(M.kidsL l++41::r):=fun h=>by
  obtain⟨z,g⟩:=Q h;cases rest with
  |nil=>rw[hg] at g;exact absurd (List.cons.inj g).1 (by decide)
  |cons x l=>
   rw[hg,M.kids_cons] at g;exact⟨x,l,rfl,(List.cons.inj g).2⟩
 simp only[sl0,jB];rw[inc64' (by omega)];refine ih (u:=rest.headD default) (r:=M.kidsL rest.tail++41::r) (by omega) (fun h=>?_) fun I tv t e B ht b9 S=>?_
 ·obtain⟨x,l,z,g⟩:=E h;subst z;exact⟨(hV h).2.1 x (by rw[(Q h).1];exact List.mem_append_right _ List.mem_cons_self),M.kids_stop,g⟩
 simp only[zH,zG];obtain⟨cs,rfl,X⟩:=ht.cells;refine zx zy fun b5 w5 b8 Y az ap=>?_;refine stTerm ap rfl (X.ext Y) fun w6 ay bd aq=>?_;have z4:=B.size;have z5:=Y.size;have a3:Ext I w6:=Ext.then Y ay fun y hy=>by subst hy;omega
 have p:=B.trans a3;have R:=T.ext p;simp only[yF];refine zd (fun c=>?_) (fun c=>?_)
 ·rw[R.ldAgg zo];refine fin p R (j.ext p) (fun x d=>(f x d).1) hH (.inl rfl) fun h=>?_;have:=(S h).2.1;omega
 simp(disch:=first|(simp only[push_cast];done)|omega) only[Z6,yG,Nat.zero_add,R.ld4];rw[aq.ldAgg (t:=za) (by rw[yr X];exact zo)];have au:=j.ext p;refine LstH.push (H2:=fun x=>w3.heap.size<=x) au (fun x d=>⟨(f x d).2,fun h=>by have:=j.lt d;omega⟩) ((X.ext a3).term) (by omega) fun w7 a8 P a6 Z=>?_;have z6:=p.size;have a9:∀x,kv.ownBlock=some x->x≠b1/\x≠L:=fun x d=>by have:=(f x d).1;have:=A.size;omega
 have b0:=R.same P fun h=>(a9 _ h).1 rfl;have b3:=(p2.ext p).same P fun h=>(a9 _ h).2 rfl;refine b0.st (i:=4) Z.tms.cellsV Z.tms.one Yz rfl fun w8 a2 be ar=>?_;have z7:=P.size;have D:∀x,a8.ownBlock=some x->G.heap.size<=x:=fun x d=>by
  rcases a6 x d with h|h
  ·exact(f x h).1
  ·omega
 obtain⟨k8,rfl⟩:∃k8:Nat,e=k8:=⟨e.toNat,by omega⟩;have z1:=A.size;have z2:=N.size;have b4:Same (fun x=>x=b1\/G.heap.size<=x) w3 w8:=((Same.of_ext p).trans (P.mono fun x _ d=> .inr (f x d).1)).trans (a2.mono fun x _ d=> .inl d);have av:=Z.same a2 (fun x d e=>by have:=D x d;omega) (fun x d _ e=>by
  rcases d.1 with h|h
  ·have:=hH x h;omega
  ·omega)
 refine hC (m-1) _ _ (by omega) ⟨k8,a8,ks++[t],rest.tail,_,rfl,by rw[List.length_append];simp;omega,by omega,a0.trans b4,ar,b3.same a2 (by omega),av,fun x d=>⟨D x d,fun a7=>?_⟩,fun x d=>?_,fun h=>?_⟩
 ·have:=a7.2;rcases a6 x d with h|h
  ·rcases a7.1 with g|g
   ·exact(f x h).2 g
   ·have:=j.lt h;omega
  ·omega
 ·rcases d.1 with h|h
  ·exact hH x h
  ·omega
 ·obtain⟨x,l,z,g⟩:=E h;obtain⟨g1,g2,g3,g4⟩:=S h;subst z;refine⟨?_,g4⟩;rw[(Q h).1,g1];simp
theorem X7 (f:M.declOk ds=true) (g:M.sortM ds u≠ -1):∃c l,M.textL u=c::l/\(c≠40->M.leafT u)/\(c=40->¬M.leafT u):=by
 by_cases h:M.leafT u
 ·obtain⟨_,b,_,a⟩:=M.leaf_ok f g h;cases e:M.textL u with
  |nil=>exact absurd e b
  |cons c l=>exact⟨c,l,rfl,fun _=>h,fun d=>by rw[e,d] at a;exact absurd rfl a⟩
 ·exact⟨40,_,M.node_text h,fun h=>absurd rfl h,fun _=>h⟩
theorem min_word {k:Nat} (a:k<=s.size):∃m:Nat,min ((k:Int)+1) (s.size:Int)=m/\m<=s.size/\(k<s.size->m=k+1):=
 ⟨min (k+1) s.size,by omega,Nat.min_le_right _ _,fun h=>by omega⟩
theorem drop_cons {k:Nat} {c:UInt8} {l:List UInt8} (h:s.data.toList.drop k=c::l):k<s.size/\s.data.getD k 0=c/\s.data.toList.drop (k+1)=l:=by
 have a:k<s.size:=by
  by_cases e:k<s.size
  ·exact e
  ·rw[X0 (by omega)] at h;cases h
 rw[xS a] at h;exact⟨a,(List.cons.inj h).1,(List.cons.inj h).2⟩
theorem l2Read_spec (hz:s.size<=2000000):∀(n:Nat),n<=100->∀{w:World} {K:Value->World->Prop} {k:Nat} {u:M.Tm} {r:List UInt8},k<=s.size->(V->Good ds n u/\M.Stop r/\s.data.toList.drop k=M.textL u++r)->RdT K V u r s w->vcall PP xo #[.string s,.int .i64 k,.int .i64 n] w K:=by
 intro n;induction n with
 |zero=>
  intro _ w K k u r hk q hK;apply ZY;unfold jO;refine zx zy fun b1 P an N b5 S=>?_;have dead: ¬V:=fun h=>by have:=M.deep_pos u;have:=(q h).1.2.2;omega
  have fin:zn PP za (.pointer (some ⟨b1,0,none⟩)) (.agg ⟨X2⟩) P fun _ H=>vlv PP za (.pointer (some ⟨b1,0,none⟩)) H fun r Q=>K (.tuple #[r,.int .i64 (-1)]) Q:=by
   refine Yr (K:=fun v w'=>K (.tuple #[v,.int .i64 (-1)]) w') S rfl (Ki (G:=fun _=>False) 0 0 0 ⟨#[]⟩) (fun x E=>E.elim) fun H Z ab X=>?_;exact hK H _ _ (-1) (Ext.then N Z fun y O=>by subst O;omega) (X.weaken fun x E _=>E.elim) (.inl rfl) fun hv=>absurd hv dead
  refine zL (fun _ _=>False) (fun J hJ=>?_) (fun _ _ _ h=>h.elim);rw[zY ya];simp only[ZR,yF,Kr];exact zd (fun c=>fin) (fun c=>zd (fun c=>fin) (fun c=>absurd (show((0:Nat):Int)<1 by omega) c))
 |succ n ih=>
  intro hn w K k u r hk q hK;have b6:=fun{w:World} {K:Value->World->Prop} {k:Nat} {u:M.Tm} {r:List UInt8}=>ih (by omega) (w:=w) (K:=K) (k:=k) (u:=u) (r:=r);apply ZY;unfold jO;refine zx zy fun b1 P an N b5 S=>?_;have z1:=N.size;have fin:∀{F:World} {cs:List Value} {t:M.Tm} {e:Int},Ext P F->TmR (fun x=>P.heap.size<=x) F cs t->(e= -1\/(0<=e/\e<=s.size))->(V->t=u/\0<=e/\e<=s.size/\s.data.toList.drop e.toNat=r)->zn PP za (.pointer (some ⟨b1,0,none⟩)) (.agg ⟨cs⟩) F fun _ H=>vlv PP za (.pointer (some ⟨b1,0,none⟩)) H fun r Q=>K (.tuple #[r,.int .i64 e]) Q:=fun{F cs t e} j X I L=>by
   refine Yr (K:=fun v w'=>K (.tuple #[v,.int .i64 e]) w') (S.ext j) rfl X (fun x E=>by omega) fun H Z ab ay=>?_;exact hK H _ _ e (Ext.then (N.trans j) Z fun y O=>by subst O;omega) (ay.weaken fun x E _=>by omega) I L
  have bad:∀{F:World} {o a b:Int} {x:ByteArray},Ext P F->¬V->zn PP za (.pointer (some ⟨b1,0,none⟩)) (.agg ⟨[.int .i64 o,.int .i64 a,.int .i64 b,.string x,.slice none 0 0]⟩) F fun _ H=>vlv PP za (.pointer (some ⟨b1,0,none⟩)) H fun r Q=>K (.tuple #[r,.int .i64 (-1)]) Q:=fun{F o a b x} j h=>fin j (Ki o a b x) (.inl rfl) fun hv=>absurd hv h;have a5:V->∃c l,M.textL u=c::l/\(c≠40->M.leafT u)/\(c=40->¬M.leafT u):=fun h=>X7 (q h).1.1 (q h).1.2.1;have a2:V->∃c l,s.data.toList.drop k=c::l/\(c≠40->M.leafT u)/\(c=40->¬M.leafT u):=fun h=>by
   obtain⟨c,l,I,L⟩:=a5 h;exact⟨c,l++r,by rw[(q h).2.2,I];rfl,L⟩
  refine zL (fun u w'=>w'=P/\k<s.size) (fun J hJ=>?_) ?_
  ·rw[zY ya];simp only[ZR,yF,Kr];refine zd (fun c=>bad (Same.refl _ _) fun h=>?_) (fun c=>?_)
   ·obtain⟨c',l,I,_⟩:=a2 h;have:=(drop_cons I).1;omega
   ·exact zd (fun c2=>absurd c2 (by omega)) (fun c2=>hJ _ _ ⟨rfl,by omega⟩)
  rintro _ _ P ⟨rfl,bc⟩;have C:V->(s.data.getD k 0≠40->M.leafT u)/\(s.data.getD k 0=40->¬M.leafT u):=fun h=>by
   obtain⟨c',l,I,L⟩:=a2 h;rw[(drop_cons I).2.1];exact L
  rw[vindex_str ya (by omega) (by omega),Int.toNat_natCast];simp only[kJ];refine zd (fun c=>?_) (fun c=>?_)
  ·have hc:s.data.getD k 0≠40:=u8_ne (n:=40) c (by decide);refine l2Word_spec hk hz fun x e I L h3 h4=>?_;simp only[zH,zG,qs,Kr];have hw:V->x.data.toList=M.textL u/\s.data.toList.drop e=r:=fun h=>by
    obtain⟨⟨g1,g2,g3⟩,g4,g5⟩:=q h;obtain⟨g6,g7⟩:=M.leaf_word g1 g2 ((C h).1 hc) g4;rw[h3,h4,g5,g6,g7];exact⟨rfl,rfl⟩
   have be:x.size<=s.size:=by
    have h5:=yw x;rw[h3] at h5;have R:=congrArg List.length (M.wd_rs (s.data.toList.drop k));rw[List.length_append,List.length_drop,yw] at R;omega
   refine zd (fun c2=>bad (Same.refl _ _) fun h=>?_) (fun c2=>?_)
   ·obtain⟨c',l,g,_⟩:=a5 h;have:=(hw h).1;rw[c2,g] at this;cases this
   refine l2Leaf_spec (V:=V) (ds:=ds) (u:=u) (fun h=>⟨(q h).1.1,(q h).1.2.1,(C h).1 hc,(hw h).1⟩) (by omega) fun F tv t j X az=>?_;obtain⟨cs,rfl,U⟩:=X.cells;exact fin j (U.weaken fun x E _=>E.elim) (.inr ⟨by omega,by omega⟩) fun h=>⟨az h,by omega,by omega,by rw[Int.toNat_natCast];exact(hw h).2⟩
  ·have hc:s.data.getD k 0=40:=by
    have:((s.data.getD k 0).toNat:Int)=40:=Classical.not_not.1 c;exact u8_eq (n:=40) this
   have D:V->¬M.leafT u:=fun h=>(C h).2 hc;simp only[jB];rw[inc64' (by omega)];have ao:V->s.data.toList.drop (k+1)=M.wordL u.op++(M.cutL u++(M.kidsL u.ks++41::r)):=fun h=>by
    have g5:=(q h).2.2;rw[M.node_text (D h),List.cons_append] at g5;rw[(drop_cons g5).2.2];simp
   refine l2Word_spec (a:=k+1) (by omega) hz fun x e I L h3 h4=>?_;simp only[zH,zG];have hw:V->x.data.toList=M.wordL u.op/\s.data.toList.drop e=M.cutL u++(M.kidsL u.ks++41::r):=fun h=>by
    obtain⟨⟨g1,g2,g3⟩,g4,g5⟩:=q h;obtain⟨g6,g7⟩:=M.node_word g1 g2 (D h);rw[h3,h4,ao h,g6,g7];exact⟨rfl,rfl⟩
   have B:V->_:=fun h=>M.node_arity' (q h).1.2.1 (D h);refine l2Op_spec (V:=V) (o:=u.op) (fun h=>⟨(hw h).1,(B h).2.2.1,(B h).2.2.2.1⟩) fun F p j bd b7 W=>?_;rw[WI];refine zx zy fun b3 H bb a3 ab al=>?_;refine stTerm al rfl (Ki (G:=fun _=>False) p 0 0 ⟨#[]⟩) fun Q b0 bf A=>?_;have ai:Ext F Q:=Ext.then a3 b0 fun y O=>by subst O;omega
   have e4:=j.trans ai;refine zL (fun u w'=>w'=Q) (fun J hJ=>?_) ?_
   ·simp(disch:=first|(simp only[push_cast];done)|omega) only[push_cast,A.ld0];rw[A.ldAgg zo];refine zd (fun c2=>bad e4 fun h=>?_) (fun c2=>?_)
    ·have:=(B h).2.2.1;have:=W h;omega
    refine zd (fun c3=>bad e4 fun h=>?_) (fun c3=>hJ _ _ rfl);have:=(B h).2.2.2.1;have:=W h;omega
   rintro _ _ Q rfl;simp(disch:=first|(simp only[push_cast];done)|omega) only[push_cast,A.ld0];have kids:∀{w5:World} {a b:Int} {e5:Nat},Ext P w5->Blk w5 b3 [.int .i64 p,.int .i64 a,.int .i64 b,.string ⟨#[]⟩,.slice none 0 0] za->e5<=s.size->(V->a=u.a/\b=u.b/\s.data.toList.drop e5=M.kidsL u.ks++41::r)->
     zh PP za (.pointer (some ⟨b3,0,none⟩)) w5 fun t68 ac=>vcall PP xp #[.string s,.int .i64 e5,.int .i64 n,t68] ac fun t69 ad=>zm PP t69 0 ad fun t70 ae=>zm PP t69 1 ae fun t71 af=>
      zn PP za (.pointer (some ⟨b1,0,none⟩)) t70 af fun _ ag=>vlv PP za (.pointer (some ⟨b1,0,none⟩)) ag fun r6 ah=>K (.tuple #[r6,t71]) ah:=fun{w5 a b e5} a4 T hle Y=>by
    rw[T.ldAgg zo];refine l2Kids_spec (V:=V) (ds:=ds) (us:=u.ks) (r:=r) (n:=n) b6 hle hz (fun h=>?_) fun w6 tv t e6 aq X h5 R=>?_
    ·obtain⟨⟨g1,g2,g3⟩,g4,g5⟩:=q h;refine⟨(B h).2.1,fun x E=>⟨g1,(M.sort_parts g2).2.1 x E,by have:=M.kid_deep E;omega⟩,(Y h).2.2⟩
    obtain⟨cs,rfl,U⟩:=X.cells;simp only[zH,zG];have z5:=a4.size;refine fin (a4.trans aq) (U.weaken fun x E _=>by omega) h5 fun h=>?_;obtain⟨g1,g2⟩:=R h;refine⟨?_,g2⟩;have:=K3 (q h).1.2.1 (D h);rw[g1,W h,(Y h).1,(Y h).2.1];exact this.symm
   rw[yb (x:=(n:Int)+1-1) (by omega) (by omega),show(n:Int)+1-1=n by omega];refine zd (fun c2=>?_) (fun c2=>?_)
   ·refine kids e4 A L fun h=>?_;obtain⟨g1,g2⟩:=M.plain_zero (q h).1.2.1 (fun e=>D h (.inl e)) (by have:=W h;omega);refine⟨g1.symm,g2.symm,?_⟩;rw[(hw h).2];unfold M.cutL;rw[if_neg (by have:=W h;omega)];rfl
   ·have ba:p=22:=Classical.not_not.1 c2;have a1:V->s.data.toList.drop e=32::(M.digL u.a++(32::(M.digL u.b++(M.kidsL u.ks++41::r)))):=fun h=>by
     rw[(hw h).2];unfold M.cutL;rw[if_pos (by have:=W h;omega)];simp
    have z:V->0<=u.b/\u.b<=u.a/\u.a<4:=fun h=>M.cut_ab (q h).1.1 (q h).1.2.1 (by have:=W h;omega);rw[zY ya,yb (x:=(e:Int)+1) (by omega) (by omega)];refine l1Min_spec ?_;obtain⟨m,hm,av,ar⟩:=min_word L;rw[hm];have ap:V->s.data.toList.drop m=M.digL u.a++(32::(M.digL u.b++(M.kidsL u.ks++41::r))):=fun h=>by
     obtain⟨g1,g2,g3⟩:=drop_cons (a1 h);rw[ar g1,g3]
    refine l2Word_spec av hz fun x1 f h5 R h7 h8=>?_;simp only[zH,zG,jB];have a8:V->x1.data.toList=M.digL u.a/\s.data.toList.drop f=32::(M.digL u.b++(M.kidsL u.ks++41::r)):=fun h=>by
     obtain⟨g1,g2,g3⟩:=z h;obtain⟨g6,g7⟩:=M.dig_word (d:=u.a) (r:=32::(M.digL u.b++(M.kidsL u.ks++41::r))) (by omega) (by omega) (M.stop_cons (.inl rfl));rw[h7,h8,ap h,g6,g7];exact⟨rfl,rfl⟩
    rw[zY ya,yb (x:=(f:Int)+1) (by omega) (by omega)];refine l1Min_spec ?_;obtain⟨m2,au,a7,a6⟩:=min_word R;rw[au];refine l2Word_spec a7 hz fun x2 g h9 aj a0 ak=>?_;simp only[zH,zG];have a9:V->x2.data.toList=M.digL u.b/\s.data.toList.drop g=M.kidsL u.ks++41::r:=fun h=>by
     obtain⟨g1,g2,g3⟩:=z h;obtain⟨g6,g7⟩:=M.dig_word (d:=u.b) (r:=M.kidsL u.ks++41::r) (by omega) (by omega) M.kids_stop;obtain⟨i1,i2,i3⟩:=drop_cons (a8 h).2;rw[a0,ak,a6 i1,i3,g6,g7];exact⟨rfl,rfl⟩
    have aa:∀{y:ByteArray} {k:Nat},y.data.toList=M.wd (s.data.toList.drop k)->y.size<=2000000:=fun{y k} h=>by
     have h5:=yw y;rw[h] at h5;have R:=congrArg List.length (M.wd_rs (s.data.toList.drop k));rw[List.length_append,List.length_drop,yw] at R;omega
    refine l12Num_spec (V:=V) (d:=u.a) (fun h=>⟨(a8 h).1,by have:=z h;omega,by have:=z h;omega⟩) (aa h7) fun na b8 aw=>?_;simp only[zH,zG];refine A.st (i:=1) rfl rfl ZQ rfl fun w5 b2 bg T=>?_;refine l12Num_spec (V:=V) (d:=u.b) (fun h=>⟨(a9 h).1,by have:=z h;omega,by have:=z h;omega⟩) (aa a0) fun nb b9 ax=>?_;simp only[zH,zG];refine T.st (i:=2) rfl rfl ZQ rfl fun w6 b4 bh am=>?_;have z3:=a3.size;have z2:=j.size;have e6:Ext P w6:=Ext.then (Ext.then e4 b2 fun y O=>by subst O;omega) b4 fun y O=>by subst O;omega
    exact kids e6 am aj fun h=>⟨aw h,ax h,(a9 h).2⟩
end Go.Proofs.YtaemeijeaajoeaaGreatDoor
end
section
namespace Go.Proofs.YtaemeijeaajoeaaGreatDoor
open Go Go.Vc Go.Proofs
variable {w w':World} {K:Value→World→Prop} {F:Nat→Prop} {s:ByteArray} {dv:Value} {ds:List M.Dcl} {u t:M.Tm}
abbrev tm0:M.Tm:= .mk 0 0 0 M.nada []
def ZM (ds:List M.Dcl) (s:ByteArray) (u:M.Tm):Prop:=M.tsort ds u≠ -1∧s.data.toList=M.textL u
def ReadP (ds:List M.Dcl) (s:ByteArray) (t:M.Tm) (b:Bool):Prop:=(∀u,ZM ds s u→t=u∧b=true)∧((∀u,¬ZM ds s u)→t=tm0∧b=false)
theorem KI {u t:M.Tm} (h:ZM ds s u) (a:ZM ds s t):t=u:=by
 have b:=yO h.1;have c:=yO a.1;exact M.text_inj b.2.1 c.1 b.1 (a.2.symm.trans h.2)
theorem Qo (ds:List M.Dcl) (s:ByteArray):∃(V:Prop) (u:M.Tm),(V->ZM ds s u)/\(¬V->∀u,¬ZM ds s u)/\∀t b,(V->t=u/\b=true)->(¬V->t=tm0/\b=false)->ReadP ds s t b:=by
 by_cases h:∃u,ZM ds s u
 ·obtain⟨u,hu⟩:=h;exact⟨True,u,fun _=>hu,fun h=>absurd trivial h,fun t b a _=>⟨fun e c=>⟨by rw[(a trivial).1,KI hu c],(a trivial).2⟩,fun h=>absurd hu (h u)⟩⟩
 ·exact⟨False,tm0,fun h=>h.elim,fun _ u hu=>h ⟨u,hu⟩,fun t b _ d=>⟨fun u hu=>absurd ⟨u,hu⟩ h,fun _=>d id⟩⟩
theorem ReadP.eq {t g:M.Tm} {b e:Bool} (h:ReadP ds s t b) (f:ReadP ds s g e):g=t/\e=b:=by
 by_cases c:∃u,ZM ds s u
 ·obtain⟨u,hu⟩:=c;have a:=h.1 u hu;have d:=f.1 u hu;exact⟨by rw[a.1,d.1],by rw[a.2,d.2]⟩
 ·have a:=h.2 fun u hu=>c ⟨u,hu⟩;have d:=f.2 fun u hu=>c ⟨u,hu⟩;exact⟨by rw[a.1,d.1],by rw[a.2,d.2]⟩
theorem reads_size (h:ZM ds s u):s.size<=400:=by
 obtain⟨a,b,c,_⟩:=yO h.1;have:=text_len b u a;rw[<-h.2,yw] at this;omega
theorem kN (h:ZM ds s u):M.declOk ds=true/\M.sortM ds u≠ -1/\M.deepM u<=7:=by
 obtain⟨a,b,_,c,_⟩:=yO h.1;exact⟨b,a,c⟩
theorem VI (h:ZM ds s u):s≠⟨#[]⟩:=fun e=>by
 obtain⟨c,l,a,_⟩:=X7 (kN h).1 (kN h).2.1;have:=h.2;rw[a,e] at this;cases this
theorem X8 {x:ByteArray} (h:W2 ds u x) (hu:ZM ds s u):x=s:=str_ext (by rw[h.2 hu.1,hu.2])
theorem KF {x:ByteArray} (h:W2 ds t s) (a:s≠⟨#[]⟩):ZM ds s t:=by
 by_cases c:M.tsort ds t= -1
 ·exact absurd (h.1 c) a
 ·exact⟨c,h.2 c⟩
theorem spec_TermRead_spec (G:J6 ds) (hd:DclsR F w dv ds) (hz:s.size<=2000000) (W:∀w' tv t b,Ext w w'->TermR (fun x=>w.heap.size<=x) w' tv t->ReadP ds s t b->K (.tuple #[tv,.bool b]) w'):vcall PP qE #[dv,.string s] w K:=by
 apply Xu;unfold kx;obtain⟨V,u,z,E,X⟩:=Qo ds s;refine zx zy fun b1 Q Y n a0 C=>?_;have z1:=n.size;have fin:∀{d:World} {cs:List Value} {t:M.Tm} {b:Bool},Ext Q d->TmR (fun x=>Q.heap.size<=x) d cs t->(V->t=u/\b=true)->(¬V->t=tm0/\b=false)->zn PP za (.pointer (some ⟨b1,0,none⟩)) (.agg ⟨cs⟩) d fun _ p=>vlv PP za (.pointer (some ⟨b1,0,none⟩)) p fun r B=>K (.tuple #[r,.bool b]) B:=fun{d cs t b} a H R S=>by
  refine Yr (K:=fun v w'=>K (.tuple #[v,.bool b]) w') (C.ext a) rfl H (fun x i=>by omega) fun p J P I=>?_;exact W p _ _ b (Ext.then (n.trans a) J fun y O=>by subst O;omega) (I.weaken fun x i _=>by omega) (X t b R S)
 have bad:∀{d:World},Ext Q d->¬V->zq PP za [] d fun t d=>zn PP za (.pointer (some ⟨b1,0,none⟩)) t d fun _ p=>vlv PP za (.pointer (some ⟨b1,0,none⟩)) p fun r B=>K (.tuple #[r,.bool false]) B:=fun{d} a h=>by
  rw[Kr];exact fin a (Ki 0 0 0 ⟨#[]⟩) (fun hv=>absurd hv h) fun _=>⟨rfl,rfl⟩
 rw[zY ya];simp only[jA];refine zd (fun c=>bad (Same.refl _ _) fun h=>?_) (fun c=>?_)
 ·have:=reads_size (z h);omega
 refine l2Read_spec (V:=V) (ds:=ds) hz 7 (by omega) (k:=0) (u:=u) (r:=[]) (Nat.zero_le _) (fun h=>⟨kN (z h),fun c hc=>(by cases hc),by rw[List.drop_zero,List.append_nil];exact(z h).2⟩) fun d tv t e a H he f=>?_;obtain⟨cs,rfl,g⟩:=H.cells;simp only[zH,zG];refine zx zy fun b3 p Z A P D=>?_;refine stTerm D rfl (g.ext A) fun B L a1 q=>?_;have m:Ext d B:=Ext.then A L fun y O=>by subst O;omega
 have j:=a.trans m;have T:aggB PP za cs.length=true:=by rw[yr g];exact zo
 rw[zY ya];simp only[kJ];refine zd (fun c2=>bad j fun h=>c2 ?_) (fun c2=>?_)
 ·obtain⟨_,R,S,U⟩:=f h;have:=congrArg List.length U;rw[List.length_drop,yw] at this;simp only[List.length_nil] at this;omega
 rw[q.ldAgg (t:=za) T];refine spec_TermText_spec G (hd.ext (n.trans j)) (g.ext m).term fun w5 x o i=>?_;have l:=j.trans o;simp only[Qn,qs];refine zd (fun c3=>bad l fun h=>c3 ?_) (fun c3=>?_)
 ·rw[(f h).1] at i;exact X8 i (z h)
 have N:x=s:=Classical.not_not.1 c3;refine zd (fun c4=>bad l fun h=>VI (z h) c4) (fun c4=>?_);rw[(q.ext o).ldAgg (t:=za) T];rw[N] at i;have hr:=KF (x:=s) i c4;refine fin l ((g.ext (m.trans o)).weaken fun x i _=>i) (fun h=>⟨(f h).1,rfl⟩) fun h=>absurd hr (E h t)
end Go.Proofs.YtaemeijeaajoeaaGreatDoor
end
section
namespace Go.Proofs.YtaemeijeaajoeaaGreatDoor
open Go Go.Vc Go.Proofs
variable {w w':World} {K:Value→World→Prop} {s:ByteArray}
theorem kp (s:ByteArray) (i:Nat):s.data.toList.getD i 0=s.data.getD i 0:=by
 rw[Array.getD_eq_getD_getElem?,List.getD_eq_getElem?_getD,Array.getElem?_toList]
theorem decode_high {pos:Nat} (h:pos<s.size) (a:128<=(s.data.getD pos 0).toNat):128<=(Utf8.decode s pos).1/\(Utf8.decode s pos).1<1114112/\1<=(Utf8.decode s pos).2/\pos+(Utf8.decode s pos).2<=s.size/\∀j,j<(Utf8.decode s pos).2->128<=(s.data.getD (pos+j) 0).toNat:=by
 rw[Lib.decode_N,kp,kp,kp,kp,yw];have b:=(s.data.getD pos 0).toNat_lt;have d:=(s.data.getD (pos+1) 0).toNat_lt;have e:=(s.data.getD (pos+2) 0).toNat_lt;have f:=(s.data.getD (pos+3) 0).toNat_lt;have key:∀k:Nat,(k=1\/(k=2/\128<=(s.data.getD (pos+1) 0).toNat)\/(k=3/\128<=(s.data.getD (pos+1) 0).toNat/\128<=(s.data.getD (pos+2) 0).toNat)\/(k=4/\128<=(s.data.getD (pos+1) 0).toNat/\128<=(s.data.getD (pos+2) 0).toNat/\128<=(s.data.getD (pos+3) 0).toNat))->∀j,j<k->128<=(s.data.getD (pos+j) 0).toNat:=fun k q j p=>by
  rcases(by omega:j=0\/j=1\/j=2\/j=3) with rfl|rfl|rfl|rfl
  ·exact a
  ·omega
  ·omega
  ·omega
 generalize (s.data.getD pos 0).toNat=g at a b⊢;generalize m:(s.data.getD (pos+1) 0).toNat=b1 at d key⊢;generalize n:(s.data.getD (pos+2) 0).toNat=i at e key⊢;generalize o:(s.data.getD (pos+3) 0).toNat=l at f key⊢;unfold Lib.decodeN;rw[if_neg (by omega)];split
 ·next c=>
  split
  ·exact⟨by dsimp only;omega,by dsimp only;omega,by dsimp only;omega,by dsimp only;omega,key 2 (.inr (.inl ⟨rfl,by omega⟩))⟩
  ·exact⟨by dsimp only;omega,by dsimp only;omega,by dsimp only;omega,by dsimp only;omega,key 1 (.inl rfl)⟩
 split
 ·next c=>
  split
  ·exact⟨by dsimp only;omega,by dsimp only;omega,by dsimp only;omega,by dsimp only;omega,key 3 (.inr (.inr (.inl ⟨rfl,by omega,by omega⟩)))⟩
  ·exact⟨by dsimp only;omega,by dsimp only;omega,by dsimp only;omega,by dsimp only;omega,key 1 (.inl rfl)⟩
 split
 ·next c=>
  split
  ·exact⟨by dsimp only;omega,by dsimp only;omega,by dsimp only;omega,by dsimp only;omega,key 4 (.inr (.inr (.inr ⟨rfl,by omega,by omega,by omega⟩)))⟩
  ·exact⟨by dsimp only;omega,by dsimp only;omega,by dsimp only;omega,by dsimp only;omega,key 1 (.inl rfl)⟩
 ·exact⟨by dsimp only;omega,by dsimp only;omega,by dsimp only;omega,by dsimp only;omega,key 1 (.inl rfl)⟩
theorem encode_high {c:Int} (h:128<=c):2<=(Utf8.encode c).size/\(Utf8.encode c).size<=4/\128<=((Utf8.encode c).data.getD ((Utf8.encode c).size-1) 0).toNat:=by
 have last:∀x:Nat,128<=(UInt8.ofNat (128+x%64)).toNat:=fun x=>by
  have:(UInt8.ofNat (128+x%64)).toNat=128+x%64:=by simp[UInt8.toNat_ofNat];omega
  omega
 have a:128<=(if Utf8.valid c then c.toNat else Utf8.runeError):=by
  split
  ·omega
  ·decide
 unfold Utf8.encode;generalize (if Utf8.valid c then c.toNat else Utf8.runeError)=n at a⊢;simp only;rw[if_neg (by omega)];split
 ·exact⟨Nat.le_of_ble_eq_true rfl,Nat.le_of_ble_eq_true rfl,last _⟩
 split
 ·exact⟨Nat.le_of_ble_eq_true rfl,Nat.le_of_ble_eq_true rfl,last _⟩
 ·exact⟨Nat.le_of_ble_eq_true rfl,Nat.le_of_ble_eq_true rfl,last _⟩
theorem Zq {t:TypeId} (h:PP.underlying t=some .string) (a:∀k w',k=w.heap.size->Ext w w'->w'.heap.size=w.heap.size+1->w'.heap[k]?=some (.stringIter s 0)->K (.pointer (some ⟨k,0,none⟩)) w'):X5 PP t (.string s) w K:=
 ⟨_,_,run_range_string w t s h,a _ _ rfl (ext_push w _) (by show(w.heap.push (Obj.stringIter s 0)).size=_;simp) (World.iter_heap w s 0)⟩
theorem vnext_strG {k pos:Nat} {ty:TypeId} (b:w.heap[k]?=some (.stringIter s pos)) (a: ¬pos<s.size->K (.tuple #[.bool false]) w)
  (f:pos<s.size->∀w' (c:Int) (j:Nat),Same (· =k) w w'->w'.heap.size=w.heap.size->w'.heap[k]?=some (.stringIter s (pos+j))->((s.data.getD pos 0).toNat<128->c=((s.data.getD pos 0).toNat:Int)/\j=1)->(128<=(s.data.getD pos 0).toNat->128<=c/\c<1114112/\1<=j/\pos+j<=s.size/\∀i,i<j->128<=(s.data.getD (pos+i) 0).toNat)->K (.tuple #[.bool true,.int .i64 pos,.int .i32 c]) w'):JB PP (.pointer (some ⟨k,0,none⟩)) true ty w K:=by
 by_cases h:pos<s.size
 ·have g:pos<s.data.size:=h;have e:s[pos]'h=s.data.getD pos 0:=by rw[Array.getD_eq_getD_getElem?,Array.getElem?_eq_getElem g];rfl
  refine⟨_,_,Lib.run_next_any_at w k s pos ty b h,?_⟩;refine f h _ _ _ (Qx b) (by simp[World.iterAt]) (Lib.iterAt_heap w k s pos _ b) (fun d=>?_) (fun d=>?_)
  ·rw[decode_ascii s pos h (by rw[e];exact d),e];exact⟨rfl,rfl⟩
  ·obtain⟨o,p,l,m,n⟩:=decode_high h d;exact⟨by omega,by omega,l,m,n⟩
 ·exact⟨_,_,Lib.run_next_end_at w k s pos ty b h,a h⟩
theorem Qj {c:Int} (a:K (.int .i64 (Lib.indexByte s.data.toList c.toNat.toUInt8)) w):vcall PP xa #[.string s,.int .u8 c] w K:=by
 refine⟨by kernel_rfl,?_⟩;refine(Any.strings_IndexByte {YtaemeijeaajoeaaGreatDoor.anyL with} s c w).mono ?_;rintro e w' ⟨rfl,rfl⟩;exact a
theorem indexByte_off:∀(l:List UInt8) (c:UInt8),(∀x,x∈l->x≠c)->Lib.indexByte l c= -1
 |[],_,_=>rfl
 |b::l,c,h=>by
  have e:=indexByte_off l c fun x d=>h x (List.mem_cons_of_mem _ d);have a:(b==c)=false:=by rw[beq_eq_false_iff_ne];exact h b List.mem_cons_self
  rw[Lib.indexByte,e];simp[a]
abbrev W6:ByteArray:=⟨#[32,40,41]⟩
theorem seps_low:∀x,x∈W6.data.toList->x.toNat<128:=by decide+kernel
theorem Qi {c:Int} (a:∀b,K (.bool b) w):vcall PP yA #[.int .i32 c] w K:=by
 apply jq;unfold xk;simp only[Qu,yF];refine zd (fun _=>zd (fun _=>a _) fun _=>zd (fun _=>zd (fun _=>a _) fun _=>a _) fun _=>a _) fun _=>zd (fun _=>zd (fun _=>a _) fun _=>a _) fun _=>a _
theorem Kd {t d:TypeId} {c:Int} (a:PP.underlying t=some (.int .i32)) (h:PP.underlying d=some .string):qh PP t d (.int .i32 c) w K=K (.string (Utf8.encode c)) w:=by
 refine y6 ?_;simp[convert,run_underlying a,run_underlying h,Conv.intToString]
theorem rune_high {c:Int} (h:128<=c) (p:∀w',Ext w w'->K (.int .i64 (-1)) w'):vcall PP yi #[.string W6,.int .i32 c] w K:=by
 apply ZF;unfold qM;have I:W6.size=3:=by decide+kernel
 refine zL (fun u w'=>u=[.bool false]/\w'=w) (fun J r=>?_) ?_
 ·simp only[Qu,yF];refine zd (fun _=>?_) (fun _=>r _ _ ⟨rfl,rfl⟩);rw[decide_eq_false (by omega)];exact r _ _ ⟨rfl,rfl⟩
 rintro _ _ w ⟨rfl,rfl⟩;simp only[sl0];refine zE (fun c=>by cases c) (fun _=>?_);simp only[qT];refine zd (fun D=>?_) (fun _=>?_)
 ·refine Zq ya fun k T U f Q hit=>?_;refine vloop_up 3 (fun i u w'=>u=[]/\Ext w w'/\w'.heap[k]?=some (.stringIter W6 i)) ⟨rfl,f,hit⟩ ?_;rintro i _ _ B C N ⟨rfl,d,g⟩ L;refine vnext_strG g (fun _=>?_) fun m W x j z R l v M=>?_
  ·simp only[qg];exact zE (fun c=>by cases c) (fun _=>p B d)
  ·simp only[xm,qw,qv];refine zE (fun _=>?_) (fun c=>by cases c);have q:(W6.data.getD i 0).toNat<128:=seps_low _ (by
    have t:=xS (s:=W6) (i:=i) m;have:W6.data.getD i 0∈W6.data.toList.drop i:=by rw[t];exact List.mem_cons_self
    exact List.mem_of_mem_drop this)
   obtain⟨V,S⟩:=v q;subst S;simp only[qT];refine zd (fun e=>by omega) (fun _=>?_);exact L (by omega) _ _ ⟨rfl,Ext.then d z fun y P=>by subst P;omega,l⟩
 refine Qi fun b=>?_;simp only[jw];refine zE (fun _=>p w (Same.refl _ _)) (fun _=>?_);rw[Kd (by kernel_rfl) ya];obtain⟨F,G,H⟩:=encode_high h;generalize Utf8.encode c=e at F G H;rw[zY ya];simp only[JW];rw[yb (by omega) (by omega)];refine jz (fun n u w'=>n=0/\u=[.int .i64 ((e.size:Int)-1)]/\w'=w) 0 ⟨rfl,rfl,rfl⟩ ?_;rintro n _ _ w C ⟨rfl,rfl,rfl⟩ _;simp only[sl0];rw[zY ya];simp only[yF];refine zd (fun E=>?_) (fun _=>p w (Same.refl _ _));refine zL (fun _ _=>False) (fun J r=>?_) (fun _ _ _ h=>h.elim);refine zN fun T f _=>?_;rw[I] at E;have a:∀(w':World) (K:Value->World->Prop),yn PP zc (.string e) (.int .i64 ((e.size:Int)-1)) w' K=K (.int .u8 ((e.data.getD (e.size-1) 0).toNat:Int)) w':=fun w' K=>by
  rw[vindex_str ya (by omega) (by omega),show((e.size:Int)-1).toNat=e.size-1 by omega]
 have o:∀i,i<3->(W6.data.getD i 0).toNat<128:=fun i N=>seps_low _ (by
  have t:=xS (s:=W6) (i:=i) (by omega);have:W6.data.getD i 0∈W6.data.toList.drop i:=by rw[t];exact List.mem_cons_self
  exact List.mem_of_mem_drop this)
 rw[vindex_str ya (by omega) (by omega)];refine⟨rfl,?_⟩;rw[a];refine⟨rfl,?_⟩;simp only[kJ];refine⟨trivial,?_⟩;have O:=o ((e.size:Int)-1).toNat (by omega);refine zd (fun _=>?_) (fun c2=>absurd (show((W6.data.getD ((e.size:Int)-1).toNat 0).toNat:Int)≠((e.data.getD (e.size-1) 0).toNat:Int) by omega) c2);refine zN fun B d _=>?_;simp only[jB];rw[yb (by omega) (by omega)];refine⟨trivial,?_⟩;rw[Zp ya (by omega) (by omega)];refine⟨rfl,?_⟩;rw[a];refine⟨rfl,?_⟩;refine Qj ?_;rw[indexByte_off _ _ fun x q A=>?_]
 ·simp only[yF];refine zd (fun _=>p B (f.trans d)) (fun c=>absurd (by decide) c)
 ·rw[YZ] at q;have:=seps_low x (List.mem_of_mem_drop (List.mem_of_mem_take q));have m:=(e.data.getD (e.size-1) 0).toNat_lt;rw[A,Int.toNat_natCast] at this;have:((e.data.getD (e.size-1) 0).toNat.toUInt8).toNat=(e.data.getD (e.size-1) 0).toNat:=(by simp);omega
theorem rune_low {c:UInt8} (h:c.toNat<128) (a:K (.int .i64 (Lib.indexByte W6.data.toList c)) w):vcall PP yi #[.string W6,.int .i32 (c.toNat:Int)] w K:=by
 refine⟨by kernel_rfl,?_⟩;refine(Any.strings_IndexRune_ascii {YtaemeijeaajoeaaGreatDoor.anyL with} W6 (c.toNat:Int) w (by omega) (by omega)).mono ?_;rintro e w' ⟨rfl,rfl⟩;rw[show((c.toNat:Int)).toNat.toUInt8=c by simp];exact a
theorem JF {n:Int} (a:K (.bool (decide (8<n))) w):vcall PP yQ #[.int .i64 n] w K:=by
 refine⟨by kernel_rfl,?_⟩;refine(Any.strings_shouldUseASCIISet {YtaemeijeaajoeaaGreatDoor.anyL with} n w).mono ?_;rintro e w' ⟨rfl,rfl⟩;exact a
theorem noAny_more {L cs:List UInt8} {i j:Nat} (h:Lib.NoAny L cs i) (d:∀k,k<j->cs.contains (L.getD (i+k) 0)=false):Lib.NoAny L cs (i+j):=fun k b e a=>by
 by_cases c:k<i
 ·exact h k b c a
 ·have:=d (k-i) (by omega);rw[show i+(k-i)=k by omega,List.getD_eq_getElem?_getD,a] at this;exact this
theorem seps_high {b:UInt8} (h:128<=b.toNat):W6.data.toList.contains b=false:=by
 rw[Bool.eq_false_iff];intro e;have:=seps_low b (by simpa using e);omega
theorem IndexAny_any (hz:s.size<=2000000) (B:∀w',Ext w w'->K (.int .i64 (Lib.indexAny s.data.toList [32,40,41])) w'):vcall PP xn #[.string s,.string W6] w K:=by
 have g:(PP.info? ((YtaemeijeaajoeaaGreatDoor.anyL_ren).t 116)).map (fun i=>(i.zero,i.size))=some (some (.agg (Array.replicate 256 (.bool false))),256):=by kernel_rfl
 by_cases P:8<s.size
 ·refine⟨by kernel_rfl,?_⟩;refine(Any.strings_IndexAny_long YtaemeijeaajoeaaGreatDoor.anyL (zero_of_info g).1 (zero_of_info g).2 s W6 w (by decide+kernel) P (by omega) (by decide+kernel) (fun j b A=>seps_low b (List.mem_of_getElem? A))).mono ?_;rintro e w' ⟨rfl,rfl⟩;exact B _ ((ext_push w _).trans (ext_push _ _))
 apply ZX;unfold j0;have O:W6.size=3:=by decide+kernel
 simp only[qs];refine zd (fun c=>absurd c (by decide+kernel)) (fun _=>?_);rw[zY ya,O];simp only[qT];refine zd (fun c=>absurd c (by decide)) (fun _=>?_);refine zL (fun _ w'=>w'=w) (fun J Q=>?_) ?_
 ·rw[zY ya];refine JF ?_;exact zd (fun c=>absurd c (by omega)) (fun _=>Q _ _ rfl)
 rintro _ _ w ⟨rfl⟩;refine Zq ya fun k w1 Z D T hit=>?_;have hl:=yw s;refine jz (fun n u w'=> ∃i,n=s.size-i/\u=[]/\Ext w w'/\w'.heap[k]?=some (.stringIter s i)/\i<=s.size/\Lib.NoAny s.data.toList W6.data.toList i) s.size ⟨0,rfl,rfl,D,hit,Nat.zero_le _,Lib.NoAny.zero _ _⟩ ?_;rintro n _ _ X C ⟨i,rfl,rfl,p,v,Y,f⟩ I;refine vnext_strG v (fun L=>?_) fun F N c j G U d z r=>?_
 ·simp only[qg];refine zE (fun c=>by cases c) (fun _=>?_);have E:i=s.data.toList.length:=(by omega);rw[E] at f;have:=B X p;rw[show([32,40,41]:List UInt8)=W6.data.toList from rfl,Lib.indexAny_none f] at this;exact this
 simp only[xm,qw,qv];refine zE (fun _=>?_) (fun c=>by cases c);have l:Ext w N:=Ext.then p G fun y S=>by subst S;omega
 have R:=xS F;have o:s.data.toList[i]?=some (s.data.getD i 0):=by
  have:=congrArg List.head? R;rwa[List.head?_drop] at this
 generalize hx:s.data.getD i 0=x at o z r;by_cases A:x.toNat<128
 ·obtain⟨H,M⟩:=z A;subst M;subst H;refine rune_low A ?_;have a:=Lib.contains_iff_indexByte W6.data.toList x;simp only[ZR];refine zd (fun c=>?_) (fun c=>?_)
  ·rw[decide_eq_true c] at a;have:=B N l;rw[show([32,40,41]:List UInt8)=W6.data.toList from rfl,Lib.indexAny_hit f o a] at this;exact this
  ·rw[decide_eq_false c] at a;exact I (s.size-(i+1)) _ _ (by omega) ⟨i+1,rfl,rfl,l,d,by omega,f.succ o a⟩
 ·obtain⟨H,M,q3,V,W⟩:=r (by omega);refine rune_high H fun w4 q=>?_;simp only[ZR];refine zd (fun c=>absurd c (by decide)) (fun _=>?_);refine I (s.size-(i+j)) _ _ (by omega) ⟨i+j,rfl,rfl,l.trans q,?_,V,noAny_more f fun m hm=>?_⟩
  ·rw[q.block k (Array.getElem?_eq_some_iff.1 d).1 (fun h=>h)];exact d
  ·rw[kp];exact seps_high (W m hm)
end Go.Proofs.YtaemeijeaajoeaaGreatDoor
end
section
namespace Go.Proofs.YtaemeijeaajoeaaGreatDoor
open Go Go.Vc Go.Proofs
variable {w w' w0:World} {K:Value→World→Prop} {F:Nat→Prop} {s:ByteArray} {V:Prop} {dv:Value} {ds:List M.Dcl} {u t:M.Tm} {bp kb:Nat}
abbrev pE:PanicEntry:={v:= .iface zR (.agg #[]),recovered:=false}
abbrev zP (V:Prop) (w0:World) (bp:Nat):ZP:=⟨fun c w'=>c=[pE]∧¬V∧Same (· =bp) w0 w'⟩
theorem Yt {Z:ZP} {g:Nat} {args:Array Value} (h: @vcall zNone PP g args w K): @vcall Z PP g args w K:=
 ⟨h.1,Calls.mono h.2 fun e w' he=>by cases e with
  |returned v=>exact he
  |panicked c=>exact(show False from he).elim
  |outgrown=>exact he⟩
theorem Xg {Z:ZP} {r:Value} {name:String} {args:Array Value} (h: @vinvoke zNone PP r name args w K): @vinvoke Z PP r name args w K:=by
 cases r<;>try exact h.elim
 obtain⟨g,rcv,a,b⟩:=h;exact⟨g,rcv,a,Yt b⟩
theorem Kj {S:Nat->Prop} (h:KindsR w kb) (d:Same S w w') (c: ¬S kb):KindsR w' kb:=by
 obtain⟨f,a,b⟩:=h;exact⟨f,a.same d c,b⟩
theorem K4 (h:KindsR w kb):kb<w.heap.size:=by obtain⟨f,a,b⟩:=h;exact a.lt
theorem V1 (w : World) : Calls PP xc #[.bool true] w fun e w' => e = .panicked [pE] ∧ w' = w := by
  go_enter Tryz.func80, Tryz.ntmps80
  go_wp2
  exact ⟨rfl, rfl, rfl⟩
theorem kq {b:Bool} (d:Same (· =bp) w0 w) (c:b=true->¬V) (a:b=false->K (.tuple #[]) w): @vcall (zP V w0 bp) PP xc #[.bool b] w K:=by
 cases b with
 |false=>exact @JS (zP V w0 bp) _ _ _ (a rfl)
 |true=>exact⟨by kernel_rfl,Calls.mono (V1 w) fun e w' he=>by obtain⟨rfl,rfl⟩:=he;exact⟨rfl,c rfl,d⟩⟩
abbrev WN:Nat:=(YtaemeijeaajoeaaGreatDoor.atoiL_ren).g 15
abbrev WO:Nat:=(YtaemeijeaajoeaaGreatDoor.atoiL_ren).g 16
def SynR (w:World):Prop:=(∃te pe,w.cell? ⟨WN,0,none⟩=some (.iface te pe))∧∃te pe,w.cell? ⟨WO,0,none⟩=some (.iface te pe)
structure PS (w0:World) (w:World) (bp kb:Nat) (s:ByteArray):Prop where
 same:Same (· =bp) w0 w
 par:Blk w bp [.string s,.map (some kb)] zt
 sz:s.size≤2000000
 kinds0:KindsR w0 kb
 syn0:SynR w0
 kne:kb≠bp
 g1:WN≠bp
 g2:WO≠bp
 lt0:bp<w0.heap.size
section
variable {S:Nat→Prop} {c:UInt8} {p:ByteArray}
theorem PS.kinds (h:PS w0 w bp kb s):KindsR w kb:=Kj h.kinds0 h.same h.kne
theorem PS.syn (h:PS w0 w bp kb s):SynR w:=⟨by obtain⟨te,pe,a⟩:=h.syn0.1;exact⟨te,pe,h.same.cell h.g1 a⟩,by obtain⟨te,pe,a⟩:=h.syn0.2;exact⟨te,pe,h.same.cell h.g2 a⟩⟩
theorem PS.new (h:PS w0 w bp kb s) (a:Same S w w') (c:∀x,S x->w0.heap.size<=x):PS w0 w' bp kb s:=
 {h with
  same:=⟨a.os.trans h.same.os,a.tape.trans h.same.tape,a.output.trans h.same.output,Nat.le_trans h.same.size a.size,fun x d b=>by
   rw[a.block x (Nat.lt_of_lt_of_le d h.same.size) fun e=>by have:=c x e;omega];exact h.same.block x d b⟩
  par:=h.par.same a fun e=>by have:=c bp e;have:=h.lt0;omega}
theorem PS.ext (h:PS w0 w bp kb s) (a:Ext w w'):PS w0 w' bp kb s:=h.new a fun _ h=>h.elim
theorem PS.step {x:ByteArray} {l:List UInt8} (h:PS w0 w bp kb s) (d:Same (· =bp) w w') (b:Blk w' bp [.string x,.map (some kb)] zt) (c:s.data.toList=l++x.data.toList):PS w0 w' bp kb x:=
 {h with
  same:=h.same.trans d
  par:=b
  sz:=by
   have a:=yw s;have e:=yw x;have:=h.sz;rw[c,List.length_append] at a;omega}
theorem Ql (g:p.data.toList=[c]) (i:∀x b,(b=true->s.data.toList=c::x.data.toList)->(b=false->∀l,s.data.toList≠c::l)->K (.tuple #[.string x,.bool b]) w):vcall PP qB #[.string s,.string p] w K:=by
 refine⟨by kernel_rfl,?_⟩;refine(Any.strings_CutPrefix YtaemeijeaajoeaaGreatDoor.cutL s p w).mono ?_;rintro e w' ⟨rfl,rfl⟩;have f:Lib.hasPrefix s.data.toList p.data.toList=true↔ ∃l,s.data.toList=c::l:=by
  unfold Lib.hasPrefix;rw[g];cases s.data.toList with
  |nil=>simp
  |cons d l=>
   constructor
   ·intro h;have:c=d:=(by simpa[List.isPrefixOf] using h);subst this;exact⟨l,rfl⟩
   ·rintro⟨j,h⟩;cases h;simp[List.isPrefixOf]
 refine i _ _ (fun h=>?_) (fun h l a=>?_)
 ·obtain⟨l,a⟩:=f.1 h;unfold Lib.trimPrefix;rw[if_pos h,g,a];rfl
 ·rw[f.2 ⟨l,a⟩] at h;cases h
theorem Qk (i:p.data.toList=[c]) (f:∀b,(b=true->∃l,s.data.toList=c::l)->(b=false->∀l,s.data.toList≠c::l)->K (.bool b) w):vcall PP qA #[.string s,.string p] w K:=by
 refine⟨by kernel_rfl,?_⟩;refine(Any.strings_HasPrefix YtaemeijeaajoeaaGreatDoor.hasL s p w).mono ?_;rintro e w' ⟨rfl,rfl⟩;have a:Lib.hasPrefix s.data.toList p.data.toList=true↔ ∃l,s.data.toList=c::l:=by
  unfold Lib.hasPrefix;rw[i];cases s.data.toList with
  |nil=>simp
  |cons d l=>
   constructor
   ·intro h;have:c=d:=(by simpa[List.isPrefixOf] using h);subst this;exact⟨l,rfl⟩
   ·rintro⟨j,h⟩;cases h;simp[List.isPrefixOf]
 exact f _ (fun h=>a.1 h) fun h l g=>by rw[a.2 ⟨l,g⟩] at h;cases h
theorem U1 {x:ByteArray} (h:Blk w bp [.string s,.map (some kb)] zt) (a:∀w',Same (· =bp) w w'->w'.heap.size=w.heap.size->Blk w' bp [.string x,.map (some kb)] zt->K undef w'):zn PP zc (.pointer (some ⟨bp,0,none⟩)) (.string x) w K:=
 h.st (i:=0) rfl rfl kI rfl a
theorem ZT (h:PS w0 w bp kb s) (n:p.data.toList=[c]) (k:V->∃l,s.data.toList=c::l) (j:∀w' x,PS w0 w' bp kb x->Same (· =bp) w w'->s.data.toList=c::x.data.toList->K (.tuple #[]) w'): @vcall (zP V w0 bp) PP yq #[.pointer (some ⟨bp,0,none⟩),.string p] w K:=by
 refine @Y1 (zP V w0 bp) _ _ _ _ ?_;unfold j3;simp(disch:=first|(simp only[push_cast];done)|omega) only[push_cast,h.par.ld0];refine Yt (Ql n fun x b g i=>?_);simp only[push_cast];refine kq h.same (fun e o=>?_) fun e=>?_
 ·obtain⟨l,m⟩:=k o;exact i (by simpa using e) l m
 have f:=g (by simpa using e);refine U1 h.par fun r a q d=>?_;exact j r x (h.step (l:=[c]) a d f) a f
theorem index_word:∀(L:List UInt8),(Lib.indexAny L [32,40,41]= -1/\M.wd L=L/\M.rs L=[])\/ ∃k:Nat,Lib.indexAny L [32,40,41]=k/\k<=L.length/\M.wd L=L.take k/\M.rs L=L.drop k
 |[]=> .inl ⟨rfl,rfl,rfl⟩
 |b::l=>by
  have g:([32,40,41]:List UInt8).contains b= !M.okc b:=by
   simp only[M.okc,List.contains_cons,List.contains_nil,Bool.or_false,bne];cases b==32<;>cases b==40<;>cases b==41<;>rfl
  cases a:M.okc b with
  |false=>
   right;refine⟨0,?_,Nat.zero_le _,?_,?_⟩
   ·rw[Lib.indexAny,g,a];rfl
   ·simp[M.wd,a]
   ·simp[M.rs,a]
  |true=>
   have h:M.wd (b::l)=b::M.wd l:=(by simp[M.wd,a]);have i:M.rs (b::l)=M.rs l:=(by simp[M.rs,a]);rw[Lib.indexAny,g,a,h,i];rcases index_word l with⟨c,f,d⟩|⟨k,c,f,d,j⟩
   ·left;rw[c,f,d];exact⟨rfl,rfl,rfl⟩
   ·right;refine⟨k+1,?_,by simp;omega,by rw[d];rfl,by rw[j];rfl⟩;rw[c];have:((k:Int)== -1)=false:=by
     rw[Bool.eq_false_iff];intro e;have:=beq_iff_eq.1 e;omega
    rw[this];simp
theorem Kx {t:TypeId} {k:IntKind} {j:Int} (h:PP.underlying t=some .string) (a:0<=j) (b:j<=s.size):yJ PP t (.string s) none (some (.int k j)) none w K=K (.string (s.extract 0 j.toNat)) w:=by
 refine y6 ?_;rw[run_sliceAt_string w t _ _ _ _ h];exact run_slice_string_h (P:=PP) w t s h k j a b
theorem parser_word_spec (h:PS w0 w bp kb s) (p:∀w' x y,PS w0 w' bp kb y->Same (· =bp) w w'->x.data.toList=M.wd s.data.toList->y.data.toList=M.rs s.data.toList->x.size<=2000000->K (.string x) w'): @vcall (zP V w0 bp) PP yx #[.pointer (some ⟨bp,0,none⟩)] w K:=by
 refine @Y0 (zP V w0 bp) _ _ _ ?_;unfold j2;simp(disch:=first|(simp only[push_cast];done)|omega) only[push_cast,h.par.ld0];refine Yt (IndexAny_any h.sz fun m b=>?_);have a:=h.ext b;have A:=h.sz;have z:=yw s;refine zL (fun u w'=> ∃k:Nat,u=[.int .i64 k]/\w'=m/\k<=s.size/\M.wd s.data.toList=s.data.toList.take k/\M.rs s.data.toList=s.data.toList.drop k) (fun J l=>?_) ?_
 ·rcases index_word s.data.toList with⟨e,f,i⟩|⟨k,e,f,i,r⟩
  ·rw[e];simp only[yF];refine zd (fun _=>?_) (fun c=>absurd (by decide) c);simp(disch:=first|(simp only[push_cast];done)|omega) only[push_cast,a.par.ld0,zY ya];refine l _ _ ⟨s.size,rfl,rfl,Nat.le_refl _,?_,?_⟩
   ·rw[f,List.take_of_length_le (by omega)]
   ·rw[i,List.drop_eq_nil_of_le (by omega)]
  ·rw[e];simp only[yF];refine zd (fun c=>by omega) (fun _=>l _ _ ⟨k,rfl,rfl,by omega,i,r⟩)
 rintro _ _ m ⟨k,rfl,rfl,v,e,f⟩;simp(disch:=first|(simp only[push_cast];done)|omega) only[push_cast,a.par.ld0];rw[Kx ya (by omega) (by omega)];simp(disch:=first|(simp only[push_cast];done)|omega) only[push_cast,a.par.ld0];rw[Zp ya (by omega) (by omega),Int.toNat_natCast];refine U1 a.par fun t d q g=>?_;have n:(s.extract 0 k).data.toList=M.wd s.data.toList:=by rw[YZ,e,List.drop_zero,Nat.sub_zero]
 have j:(s.extract k s.size).data.toList=M.rs s.data.toList:=by rw[YZ,f,List.take_of_length_le (by rw[List.length_drop];omega)]
 have o:s.data.toList=M.wd s.data.toList++(s.extract k s.size).data.toList:=by rw[j,M.wd_rs]
 refine p t _ _ (a.step d g o) ((Same.of_ext b).trans d) n j ?_;rw[ByteArray.size_extract];omega
end
end Go.Proofs.YtaemeijeaajoeaaGreatDoor
end
section
namespace Go.Proofs.YtaemeijeaajoeaaGreatDoor
open Go Go.Vc Go.Proofs
variable {w:World} {K:Value→World→Prop} {F F' D G:Nat→Prop}
inductive TmO (w:World):(Nat→Prop)→List Value→M.Tm→Prop
 |mk {D:Nat→Prop} {kv:Value} {t:M.Tm} (css:List (List Value)) (Ds:Nat→Nat→Prop) (own:Own PP 0 5 ze w kv css) (hl:css.length=t.ks.length)
   (hb:∀b,kv.ownBlock=some b→D b∧∀i,i<t.ks.length→¬Ds i b) (hd:∀i j b,i<j→j<t.ks.length→Ds i b→¬Ds j b) (hs:∀i b,i<t.ks.length→Ds i b→D b)
   (hk:∀i,i<t.ks.length→TmO w (Ds i) (css.getD i []) (t.ks.getD i default)):TmO w D [.int .i64 t.op,.int .i64 t.a,.int .i64 t.b,.string t.s,kv] t
theorem Qv {cs:List Value} {t:M.Tm} (h:TmO w D cs t):∃(kv:Value) (css:List (List Value)) (Ds:Nat->Nat->Prop),cs=[.int .i64 t.op,.int .i64 t.a,.int .i64 t.b,.string t.s,kv]/\Own PP 0 5 ze w kv css/\css.length=t.ks.length/\
  (∀b,kv.ownBlock=some b->D b/\∀i,i<t.ks.length->¬Ds i b)/\(∀i j b,i<j->j<t.ks.length->Ds i b->¬Ds j b)/\(∀i b,i<t.ks.length->Ds i b->D b)/\∀i,i<t.ks.length->TmO w (Ds i) (css.getD i []) (t.ks.getD i default):=by
 cases h with
 |mk css Ds own f c d g e=>exact⟨_,css,Ds,rfl,own,f,c,d,g,e⟩
theorem YO:∀(t:M.Tm) {D:Nat->Prop} {cs:List Value},TmO w D cs t->TmR D w cs t:=by
 refine M.Tm.ind fun t j D cs h=>?_;obtain⟨kv,css,Ds,rfl,own,f,d,k,g,e⟩:=Qv h;exact TmR.of ⟨css,own.sl.weaken fun b a _=>(d b a).1,f,fun i c=>(j _ (M.getD_mem c _) (e i c)).weaken fun b a _=>g i b c a⟩
theorem xP {S:Nat->Prop} {w w':World} (hw:Same S w w'):∀(t:M.Tm) {D:Nat->Prop} {cs:List Value},TmO w D cs t->(∀b,D b->¬S b)->TmO w' D cs t:=by
 refine M.Tm.ind fun t m D cs h e=>?_;obtain⟨kv,css,Ds,rfl,own,l,d,j,f,k⟩:=Qv h;exact .mk css Ds (own.same hw fun b g=>e b (d b g).1) l d j f fun i c=>m _ (M.getD_mem c _) (k i c) fun b a=>e b (f i b c a)
theorem X6 {w':World} {cs:List Value} {t:M.Tm} (h:TmO w D cs t) (hw:Ext w w'):TmO w' D cs t:=xP hw t h fun _ _ h=>h
theorem yU {cs:List Value} {t:M.Tm} (h:TmO w D cs t) (a:∀b,D b->F b):TmO w F cs t:=by
 obtain⟨kv,css,Ds,rfl,own,g,c,d,j,f⟩:=Qv h;exact .mk css Ds own g (fun b h=>⟨a b (c b h).1,(c b h).2⟩) d (fun i b e h=>a b (j i b e h)) f
structure Grow (lo:Nat) (w:World) (kv:Value) (css:List (List Value)) (us:List M.Tm) (Ds:Nat→Nat→Prop):Prop where
 own:Own PP 0 5 ze w kv css
 len:css.length=us.length
 blk:∀b,kv.ownBlock=some b→lo≤b∧∀j,j<us.length→¬Ds j b
 dis:∀j k b,j<k→k<us.length→Ds j b→¬Ds k b
 sub:∀j b,j<us.length→Ds j b→lo≤b∧b<w.heap.size
 kid:∀j,j<us.length→TmO w (Ds j) (css.getD j []) (us.getD j default)
theorem VS (lo:Nat) (w:World):Grow lo w (.slice none 0 0) [] [] fun _ _=>False:=
 ⟨Own.nil PP _ _ _ _,rfl,fun b h=>(by cases h),fun j k b _ c=>absurd c (by simp),fun j b a=>absurd a (by simp),fun j a=>absurd a (by simp)⟩
theorem ko {S:Nat->Prop} {lo:Nat} {kv:Value} {w':World} {css:List (List Value)} {us:List M.Tm} {Ds:Nat->Nat->Prop} (h:Grow lo w kv css us Ds) (hw:Same S w w') (d:∀b,lo<=b->¬S b):Grow lo w' kv css us Ds:=
 ⟨h.own.same hw fun b a=>d b (h.blk b a).1,h.len,h.blk,h.dis,fun j b c a=>⟨(h.sub j b c a).1,Nat.lt_of_lt_of_le (h.sub j b c a).2 hw.size⟩,fun j c=>xP hw _ (h.kid j c) fun b a=>d b (h.sub j b c a).1⟩
theorem V0 {lo:Nat} {kv:Value} {css:List (List Value)} {t:M.Tm} {Ds:Nat->Nat->Prop} (h:Grow lo w kv css t.ks Ds):TmO w (fun b=>lo<=b/\b<w.heap.size) [.int .i64 t.op,.int .i64 t.a,.int .i64 t.b,.string t.s,kv] t:=
 .mk css Ds h.own h.len (fun b c=>⟨⟨(h.blk b c).1,(h.own.lt c).2⟩,(h.blk b c).2⟩) h.dis (fun i b d c=>h.sub i b d c) h.kid
theorem retO {b:Nat} {cs cs':List Value} {t:TypeId} {f:M.Tm} {K:Value->World->Prop} (h:Blk w b cs t) (j:cs.length=5) (d:TmO w G cs' f) (c:∀x,G x->x≠b) (i:∀w',Same (· =b) w w'->w'.heap.size=w.heap.size->TmO w' G cs' f->K (.agg ⟨cs'⟩) w'):
  zn PP za (.pointer (some ⟨b,0,none⟩)) (.agg ⟨cs'⟩) w fun _ l=>vlv PP za (.pointer (some ⟨b,0,none⟩)) l fun r m=>K r m:=
 Yr h j (YO _ d) c fun w' hw k _=>i w' hw k (xP hw _ d fun g a e=>c g a e)
theorem zeroO:TmO w D X2 (.mk 0 0 0 M.nada []):=
 TmO.mk (t:= .mk 0 0 0 M.nada []) [] (fun _ _=>False) (Own.nil PP _ _ _ _) rfl (fun b h=>(by cases h)) (fun i j b _ c=>absurd c (by show¬j<0;omega)) (fun i b a=>absurd a (by show¬i<0;omega)) (fun i a=>absurd a (by show¬i<0;omega))
theorem grow_push2 {lo n x:Nat} {kv:Value} {w p:World} {css:List (List Value)} {us:List M.Tm} {Ds:Nat->Nat->Prop} {cr:List Value} {u:M.Tm} (h:Grow lo w kv css us Ds) (r:∀b,kv.ownBlock=some b->b<n) (s:∀j b,j<us.length->Ds j b->b<n) (Q:lo<=n) (S:n<=w.heap.size)
  (I:TmO w (fun b=>n<=b/\b<w.heap.size) cr u) (t:Ext w p) (C:Blk p x cr za) (R:us.length<=1048576)
  (O:∀d g B,Grow lo g d (css++[cr]) (us++[u]) B->Same (fun b=>kv.ownBlock=some b) p g->d.cells= #[d]->d.oneCell'=true->K d g):
  vbi PP .append [ze,ze] ze [kv,.slice (some ⟨x,0,none⟩) 1 1] p K:=by
 have y:=YO _ I;have g10:=ko h t fun b _ h=>h;have J:=t.size;have H:=h.len;refine Own.app1k g10.own YD (by decide) C (yr y) (tmR_one y) (by omega) (by omega) fun d g q f A=>?_;have L:=f.size;have z:d.cells= #[d]/\d.oneCell'=true:=by
  obtain⟨a,c,rfl,_⟩:=q.sl.shape;exact⟨rfl,rfl⟩
 refine O d g (fun j b=>(j=us.length/\n<=b/\b<w.heap.size)\/(j<us.length/\Ds j b)) ⟨q,by simp[H],fun b o=>?_,fun j k b E P v F=>?_,fun j b v o=>?_,fun j v=>?_⟩ f z.1 z.2
 ·rcases A b o with e|e
  ·refine⟨(h.blk b e).1,fun j v D=>?_⟩;have:=r b e;rcases D with⟨_,i,_⟩|⟨i,m⟩
   ·omega
   ·exact(h.blk b e).2 j i m
  ·refine⟨by omega,fun j v D=>?_⟩;rcases D with⟨_,_,i⟩|⟨i,m⟩
   ·omega
   ·have:=s j b i m;omega
 ·rw[List.length_append,List.length_singleton] at P;rcases v with⟨i,m,N⟩|⟨i,m⟩
  ·omega
  ·rcases F with⟨g1,g2,g3⟩|⟨g1,g2⟩
   ·have:=s j b i m;omega
   ·exact h.dis j k b E g1 m g2
 ·rcases o with⟨i,m,N⟩|⟨i,m⟩
  ·omega
  ·have:=h.sub j b i m;omega
 ·rw[List.length_append,List.length_singleton] at v;by_cases e:j<us.length
  ·rw[List.getD_eq_getElem?_getD,List.getElem?_append_left (by omega),<-List.getD_eq_getElem?_getD,List.getD_eq_getElem?_getD (l:=us++[u]),List.getElem?_append_left e,<-List.getD_eq_getElem?_getD];refine yU (xP f _ (g10.kid j e) fun b o G=>(h.blk b G).2 j e o) fun b o=> .inr ⟨e,o⟩
  ·have:j=us.length:=(by omega);subst this;rw[List.getD_eq_getElem?_getD,List.getElem?_append_right (by omega),H,Nat.sub_self,List.getD_eq_getElem?_getD (l:=us++[u]),List.getElem?_append_right (Nat.le_refl _),Nat.sub_self];show TmO g _ cr u;refine yU (xP f _ (X6 I t) fun b o G=>by have:=r b G;omega) fun b o=> .inl ⟨rfl,o⟩
theorem leafO (o a b:Int) (s:ByteArray):TmO w D [.int .i64 o,.int .i64 a,.int .i64 b,.string s,.slice none 0 0] (.mk o a b s []):=
 TmO.mk (t:= .mk o a b s []) [] (fun _ _=>False) (Own.nil PP _ _ _ _) rfl (fun b h=>(by cases h)) (fun i j b _ d=>absurd d (by show¬j<0;omega)) (fun i b c=>absurd c (by show¬i<0;omega)) (fun i c=>absurd c (by show¬i<0;omega))
end Go.Proofs.YtaemeijeaajoeaaGreatDoor
end
section
namespace Go.Proofs.YtaemeijeaajoeaaGreatDoor
open Go Go.Vc Go.Proofs
variable {w w' w0:World} {K:Value→World→Prop} {F:Nat→Prop} {s:ByteArray} {V:Prop} {dv:Value} {ds:List M.Dcl} {u t:M.Tm} {bp kb:Nat} {r:List UInt8}
theorem dig_atoi:∀a:Fin 10,Lib.atoiAll (M.digL a.1)= .ok (a.1:Int):=by decide+kernel
def WK (ev:Value) (b:Bool):Prop:=∀(w':World) (K:Value→World→Prop),zj PP .neq Yx true ev .nilIface w' K=K (.bool b) w'
theorem WC:WK .nilIface false:=fun w' K=>yo (by kernel_rfl) (by kernel_rfl)
theorem V5 {N:Nat}:WK (.iface ((YtaemeijeaajoeaaGreatDoor.atoiL_ren).t 168) (.pointer (some ⟨N,0,none⟩))) true:=fun w' K=>yo (by kernel_rfl) (by kernel_rfl)
theorem Atoi_spec {d:Int} (l:SynR w) (r:s.size<=2000000) (m:V->s.data.toList=M.digL d/\0<=d/\d<10) (f:∀w' (n:Int) ev b,Ext w w'->WK ev b->(V->n=d/\b=false)->K (.tuple #[.int .i64 n,ev]) w'):vcall PP Z5 #[.string s] w K:=by
 refine⟨by kernel_rfl,?_⟩;obtain⟨⟨te,pe,i⟩,q,o,j⟩:=l;have a:V->Lib.atoiAll s.data.toList= .ok d:=fun h=>by
  obtain⟨p,u,x⟩:=m h;rw[p];obtain⟨k,rfl⟩:∃k:Nat,d=k:=⟨d.toNat,by omega⟩;exact dig_atoi ⟨k,by omega⟩
 cases h:Lib.atoiAll s.data.toList with
 |ok v=>
  refine(Any.strconv_Atoi_ok YtaemeijeaajoeaaGreatDoor.atoiL s (by omega) v h w).mono ?_;rintro e w' ⟨rfl,hw⟩;refine f w' v _ false ?_ WC fun c=>⟨?_,rfl⟩
  ·rcases hw with rfl|⟨t,rfl⟩
   ·exact Same.refl _ _
   ·exact kr (Lib.bytesWorld_below w _ t)
  ·have:=a c;rw[h] at this
   injection this
 |«syntax»=>
  refine(Any.strconv_Atoi_syntax YtaemeijeaajoeaaGreatDoor.atoiL s (by omega) h _ w i (.inr ⟨_,_,rfl⟩)).mono ?_;rintro e w' ⟨N,rfl,_,_,g⟩;refine f w' _ _ true (kr g) V5 fun c=>?_;have:=a c;rw[h] at this;cases this
 |range=>
  refine(Any.strconv_Atoi_range YtaemeijeaajoeaaGreatDoor.atoiL s (by omega) h _ w j (.inr ⟨_,_,rfl⟩)).mono ?_;rintro e w' ⟨N,rfl,_,_,g⟩;refine f w' _ _ true (kr g) V5 fun c=>?_;have:=a c;rw[h] at this;cases this
theorem Xd {d:Int} (h:PS w0 w bp kb s) (e:V->s.data.toList=32::(M.digL d++r)/\0<=d/\d<10/\M.Stop r) (t:∀w' (n:Int) y,PS w0 w' bp kb y->Same (· =bp) w w'->(V->n=d/\y.data.toList=r)->K (.int .i64 n) w'): @vcall (zP V w0 bp) PP yz #[.pointer (some ⟨bp,0,none⟩)] w K:=by
 refine @Z0 (zP V w0 bp) _ _ _ ?_;unfold qd;refine ZT h (c:=32) rfl (fun a=>⟨_,(e a).1⟩) fun H x q i v=>?_;refine parser_word_spec q fun I y z m j A B l=>?_;have k:V->x.data.toList=M.digL d++r:=fun a=>by
  have:=(e a).1;rw[v] at this;exact(List.cons.inj this).2
 have hw:V->y.data.toList=M.digL d/\z.data.toList=r:=fun a=>by
  obtain⟨G,C,D,E⟩:=e a;obtain⟨g1,g2⟩:=M.dig_word C D E;rw[A,B,k a,g1,g2];exact⟨rfl,rfl⟩
 refine Yt (Atoi_spec (V:=V) (d:=d) m.syn l (fun a=>⟨(hw a).1,(e a).2.1,(e a).2.2.1⟩) fun F n ev b f g p=>?_);simp only[push_cast];rw[g];have o:=m.ext f;refine kq o.same (fun u a=>?_) fun _=>?_
 ·have:=(p a).2;rw[u] at this;cases this
 exact t F n z o ((i.trans j).trans (Same.of_ext f)) fun a=>⟨(p a).1,(hw a).2⟩
theorem VecRead_spec {wd n:Nat} (E:V->s.data.toList=M.vecL wd n/\1<=wd/\wd<=4/\n<2^wd) (hz:s.size<=2000000) (hK:∀w' (a b:Int) (ok:Bool),Ext w w'->(ok=true->s.data.getD 0 0=35/\0<s.size)->(V->ok=true/\a=wd/\b=n)->K (.tuple #[Jy a b,.bool ok]) w'):vcall PP jl #[.string s] w K:=by
 apply Qa;unfold Zo;have hl:V->s.size=wd+1:=fun h=>by have:=yw s;rw[(E h).1,YW] at this;omega
 have hc:V->∀i,1<=i->i<=wd->s.data.getD i 0=Qb n (wd-i):=fun h i T F=>by rw[Jj (E h).1,vecL_get T F]
 have aa:V->s.data.getD 0 0=35:=fun h=>by rw[Jj (E h).1 0];rfl
 refine zx xH fun b1 w1 ai X an a6=>?_;refine zx xH fun b2 w2 aj H ao a7=>?_;refine Zq ya fun k D hk I ae hit=>?_;have fin:∀{f:World} {p q:Int} {ok:Bool} {x y:Value},Ext w f->Blk f b1 [x,y] zf->(ok=true->s.data.getD 0 0=35/\0<s.size)->(V->ok=true/\p=wd/\q=n)->zn PP zf (.pointer (some ⟨b1,0,none⟩)) (Jy p q) f fun _ D=>vlv PP zf (.pointer (some ⟨b1,0,none⟩)) D fun r f=>K (.tuple #[r,.bool ok]) f:=fun{w2 p q ok x y} he hB T F=>by
  refine stVec hB fun D ad ae a8=>?_;rw[a8.lv xM];exact hK D p q ok (Ext.then he ad fun y hy=>by subst hy;omega) T F
 have z1:=X.size;have bad:∀{f:World} {x y:Value},Ext w f->Blk f b1 [x,y] zf->¬V->zq PP zf [] f fun t D=>zn PP zf (.pointer (some ⟨b1,0,none⟩)) t D fun _ D=>vlv PP zf (.pointer (some ⟨b1,0,none⟩)) D fun r f=>K (.tuple #[r,.bool false]) f:=fun{w2 x y} he hB h=>by
  rw[Vb];exact fin he hB (fun h=>by cases h) fun hv=>absurd hv h
 refine vloop_up s.size (fun i u w'=> ∃(a m:Int),u=[]/\Ext w w'/\D.heap.size<=w'.heap.size/\Blk w' b1 [.int .i64 0,.int .i64 0] zf/\Blk w' b2 [.int .i64 a,.int .i64 m] zf/\w'.heap[k]?=some (.stringIter s i)/\(i=0->a=0/\m=0)/\(0<i->a=(i:Int)-1/\i<=5/\s.data.getD 0 0=35)/\(V->i<=wd+1/\(0<i->m=((n/2^(wd+1-i):Nat):Int))))
  ⟨0,0,rfl,(X.trans H).trans I,Nat.le_refl _,(a6.ext H).ext I,a7.ext I,hit,fun _=>⟨rfl,rfl⟩,fun h=>absurd h (Nat.lt_irrefl _),fun h=>⟨Nat.zero_le _,fun h=>absurd h (Nat.lt_irrefl _)⟩⟩ ?_
 rintro i _ _ f C hi ⟨a,m,rfl,e4,ap,p4,q4,a0,Z,A,hm⟩ hC;refine vnext_strG a0 (fun af=>?_) fun a2 U cr j N aq g l Y=>?_
 ·simp only[qg];refine zE (fun c=>by cases c) (fun _=>?_);rw[q4.ldAgg xM];refine VecOk_spec fun U v=>?_;simp only[jw];have S:=e4.trans v;refine zE (fun c=>bad S (p4.ext v) fun h=>?_) (fun c=>?_)
  ·have T:=hl h;have F:=E h;have h3:=A (by omega);have d:=(hm h).2 (by omega);have L:i=wd+1:=(by omega);rw[L,Nat.sub_self,Nat.pow_zero,Nat.div_one] at d;have O:M.vok a m=true:=by
    have h5:((2^wd:Nat):Int)=2^wd:=Qr _;have e1:a=(wd:Int):=(by omega);rw[e1,d];refine M.vok_iff.2 ⟨by omega,by omega,by omega,?_⟩;rw[Int.toNat_natCast];omega
   rw[O] at c;cases c
  ·rw[(q4.ext v).ldAgg xM];have O:M.vok a m=true:=(by simpa using c);have al:=(M.vok_iff.1 O).1;have a3:0<i:=by
    rcases Nat.eq_zero_or_pos i with h|h
    ·have:=(Z h).1;omega
    ·exact h
   refine fin S (p4.ext v) (fun _=>⟨(A a3).2.2,by omega⟩) fun h=>?_;have T:=hl h;have F:=E h;have h3:=A (by omega);have d:=(hm h).2 (by omega);have L:i=wd+1:=(by omega);rw[L,Nat.sub_self,Nat.pow_zero,Nat.div_one] at d;exact⟨rfl,by omega,d⟩
 simp only[xm,qw,qv];refine zE (fun _=>?_) (fun c=>by cases c);have ak:k≠b1/\k≠b2:=by omega
 have p5:=p4.same N (by omega);have q5:=q4.same N (by omega);have S:Ext w U:=Ext.then e4 N fun y hy=>by have:=H.size;subst hy;omega
 generalize hx:s.data.getD i 0=x at l Y;have am:x.toNat<256:=x.toNat_lt;have low:cr<128->cr=(x.toNat:Int)/\j=1:=fun h=>by
  by_cases e:x.toNat<128
  ·exact l e
  ·have:=(Y (by omega)).1;omega
 refine zL (fun u w'=>w'=U/\∃b:Bool,u=[.bool b]/\(b=true↔i=0/\cr=35)) (fun J G=>?_) ?_
 ·simp only[qT];refine zd (fun c=>G _ _ ⟨rfl,_,rfl,?_⟩) (fun c=>G _ _ ⟨rfl,_,rfl,?_⟩)
  ·rw[decide_eq_true_eq];exact⟨fun h=>⟨by omega,h⟩,fun h=>h.2⟩
  ·constructor
   ·intro h;cases h
   ·intro h;exact absurd h.1 (by omega)
 rintro _ _ U ⟨rfl,b,rfl,hb⟩;simp only[sl0];refine zE (fun c=>?_) (fun c=>?_)
 ·obtain⟨g1,ag⟩:=hb.1 c;obtain⟨g3,g4⟩:=Z g1;obtain⟨gx,gj⟩:=low (by omega);have g2:x=35:=u8_eq (n:=35) (by omega);subst g1;subst gj;rw[g3,g4] at q5;refine hC a2 _ _ ⟨0,0,rfl,S,by omega,p5,q5,g,fun h=>by omega,fun _=>⟨rfl,by omega,by rw[hx,g2]⟩,fun h=>⟨by omega,fun _=>?_⟩⟩;have d:=E h;rw[Nat.zero_add,Nat.add_sub_cancel,Nat.div_eq_of_lt d.2.2.2];rfl
 have ac: ¬(i=0/\cr=35):=fun h=>by rw[hb.2 h] at c;cases c
 refine zL (fun u w'=>w'=U/\∃b:Bool,u=[.bool b]/\(b=true↔0<i/\i<=4/\(cr=48\/cr=49))) (fun J G=>?_) ?_
 ·simp only[jA];refine zd (fun R=>?_) (fun R=>G _ _ ⟨rfl,_,rfl,⟨fun h=>(by cases h),fun h=>(by omega)⟩⟩);simp only[Qu];refine zd (fun c2=>?_) (fun c2=>G _ _ ⟨rfl,_,rfl,⟨fun h=>(by cases h),fun h=>(by omega)⟩⟩);simp only[qT];refine zd (fun c3=>G _ _ ⟨rfl,_,rfl,⟨fun _=>⟨by omega,by omega,.inl c3⟩,fun _=>rfl⟩⟩) (fun c3=>?_);refine G _ _ ⟨rfl,_,rfl,?_⟩;rw[decide_eq_true_eq];exact⟨fun h=>⟨by omega,by omega,.inr h⟩,fun h=>h.2.2.resolve_left c3⟩
 rintro _ _ U ⟨rfl,b',rfl,W⟩;simp only[sl0];refine zE (fun R=>?_) (fun R=>bad S p5 fun h=>?_)
 ·obtain⟨g1,g2,g3⟩:=W.1 R;obtain⟨g4,g5,g6⟩:=A g1;obtain⟨gx,gj⟩:=low (by omega);subst gj;rw[gx] at g3⊢;have Q:(x.toNat:Int)=48\/(x.toNat:Int)=49:=g3;simp(disch:=first|(simp only[push_cast];done)|omega) only[push_cast,q5.ld0,q5.ld1];have a4:IntKind.i32.wrap ((x.toNat:Int)-48)=(x.toNat:Int)-48:=by rcases Q with h|h<;>rw[h]<;>rfl
  rw[a4,jm VE K6,yb (x:=(x.toNat:Int)-48) (by omega) (by omega),yb (x:=a+1) (by omega) (by omega)];simp only[push_cast];refine stVec q5 fun w6 P ar a9=>?_;have a1:w6.heap[k]?=some (.stringIter s (i+1)):=by rw[P.block k (Array.getElem?_eq_some_iff.1 g).1 (by omega)];exact g
  refine hC a2 _ _ ⟨_,_,rfl,Ext.then S P fun y hy=>by subst hy;omega,by omega,p5.same P (by omega),a9,a1,fun h=>by omega,fun _=>⟨by omega,by omega,g6⟩,fun h=>?_⟩;obtain⟨T,F⟩:=hm h;have h3:=hl h;have d:=F g1;refine⟨by omega,fun _=>?_⟩;have o:=bitC_nat n (wd-i);rw[<-hc h i (by omega) (by omega),hx] at o;have B:=half_step (n:=n) (k:=wd-i);rw[show wd-i+1=wd+1-i by omega] at B;have ah:n<16:=by
   have d:=E h;have:(2:Nat)^wd<=2^4:=Nat.pow_le_pow_right (by omega) d.2.2.1;omega
  have:n/2^(wd+1-i)<=n:=Nat.div_le_self _ _;rw[show wd+1-(i+1)=wd-i by omega,d,o];rw[show(48:Int)+((n/2^(wd-i)%2:Nat):Int)-48=((n/2^(wd-i)%2:Nat):Int) by omega];have hq:n/2^(wd-i)%2<2:=Nat.mod_lt _ (by decide);generalize n/2^(wd-i)%2=q at B hq⊢;generalize n/2^(wd-i)=z at B⊢;generalize n/2^(wd+1-i)=y at B this⊢;rw[yb (x:=2*(y:Int)) (by omega) (by omega),yb (by omega) (by omega)];omega
 ·have h3:=hl h;rcases Nat.eq_zero_or_pos i with h0|h0
  ·subst h0;have a5:x=35:=by rw[<-hx];exact aa h
   subst a5;exact ac ⟨rfl,(l (by decide)).1⟩
  ·have d:=E h;have o:x=Qb n (wd-i):=by rw[<-hx];exact hc h i (by omega) (by omega)
   have Q:x=48\/x=49:=by
    rw[o];unfold Qb;split
    ·exact .inr rfl
    ·exact .inl rfl
   have ab:cr=48\/cr=49:=by
    rcases Q with e|e
    ·subst e;exact .inl (l (by decide)).1
    ·subst e;exact .inr (l (by decide)).1
   rw[W.2 ⟨h0,by omega,ab⟩] at R;cases R
theorem atom_spec (z:V->M.declOk ds=true/\M.sortM ds u≠ -1/\M.leafT u/\s.data.toList=M.textL u) (hz:s.size<=2000000) (U:∀w' cs t,Ext w w'->TmO w' (fun _=>False) cs t->(V->t=u)->K (.agg ⟨cs⟩) w'):vcall PP Zx #[.string s] w K:=by
 apply JT;unfold XH;refine zx zy fun b1 w1 W l a0 j=>?_;have A:V->_:=fun h=>leaf_name (z h).1 (z h).2.1 (z h).2.2.1 (z h).2.2.2;have fin:∀{g:World} {o a b:Int} {x:ByteArray},Ext w g->Blk g b1 X2 za->(V->u= .mk o a b x [])->zn PP za (.pointer (some ⟨b1,0,none⟩)) (.agg ⟨[.int .i64 o,.int .i64 a,.int .i64 b,.string x,.slice none 0 0]⟩) g fun _ B=>vlv PP za (.pointer (some ⟨b1,0,none⟩)) B fun r L=>K r L:=fun{g o a b x} he T h=>by
  refine retO T rfl (leafO (D:=fun _=>False) o a b x) (fun x hx=>hx.elim) fun B G J Y=>?_;exact U B _ _ (Ext.then he G fun y I=>by subst I;omega) Y fun Z=>(h Z).symm
 simp only[qs];refine zd (fun c=>?_) (fun c=>?_)
 ·rw[WI];refine fin l j fun h=>?_;rcases A h with h|h|h
  ·exact h.2.2
  ·exact absurd c h.2.2.1
  ·exact absurd c h.2.2.1
 have d:(V/\u.op=20)->s.data.toList=M.vecL u.a.toNat u.b.toNat/\1<=u.a.toNat/\u.a.toNat<=4/\u.b.toNat<2^u.a.toNat/\u.a=u.a.toNat/\u.b=u.b.toNat/\u= .mk 20 u.a u.b M.nada []:=fun h=>by
  rcases A h.1 with q|q|q
  ·omega
  ·obtain⟨wd,n,N,O,C⟩:=vok_nat q.2.2.2.2.1;have Q:u.a.toNat=wd:=(by omega);have v:u.b.toNat=n:=(by omega);refine⟨q.2.2.2.1,by omega,by omega,?_,by omega,by omega,q.2.2.2.2.2⟩;rw[Q,v];exact C.2.2
  ·omega
 refine VecRead_spec (V:=V/\u.op=20) (wd:=u.a.toNat) (n:=u.b.toNat) (fun h=>⟨(d h).1,(d h).2.1,(d h).2.2.1,(d h).2.2.2.1⟩) hz fun g a b ok m i e=>?_;have v:=l.trans m;simp only[zH,zG];refine zx xH fun b3 B X F J E=>?_;refine stVec E fun L H a1 k=>?_;have f:Ext g L:=Ext.then F H fun y I=>by subst I;omega
 have P:=(j.ext m).ext f;refine zE (fun c5=>?_) (fun c5=>?_)
 ·simp(disch:=first|(simp only[push_cast];done)|omega) only[push_cast,k.ld0,k.ld1];refine fin (v.trans f) P fun h=>?_;have p:u.op=20:=by
   rcases A h with q|q|q
   ·exact absurd q.2.1 c
   ·exact q.1
   ·exact absurd (i c5).1 (q.2.1 (i c5).2)
  obtain⟨_,N,O⟩:=e ⟨h,p⟩;obtain⟨_,_,_,_,C,R,S⟩:=d ⟨h,p⟩;rw[N,O,<-C,<-R];exact S
 ·rw[Ue];refine fin (v.trans f) P fun h=>?_;rcases A h with q|q|q
  ·exact absurd q.2.1 c
  ·have:=(e ⟨h,q.1⟩).1;rw[c5] at this;cases this
  ·exact q.2.2.2
end Go.Proofs.YtaemeijeaajoeaaGreatDoor
end
section
namespace Go.Proofs.YtaemeijeaajoeaaGreatDoor
open Go Go.Vc Go.Proofs
variable {w w' w0:World} {K:Value→World→Prop} {F:Nat→Prop} {s:ByteArray} {V:Prop} {dv:Value} {ds:List M.Dcl} {u t:M.Tm} {bp kb:Nat} {r:List UInt8}
theorem arity_range {o:Int} (h:0<=M.arity o):M.arity o<=3/\((1<=o/\o<=17)\/(20<=o/\o<=27))/\(0<M.arity o->((1<=o/\o<=17)\/(22<=o/\o<=27))/\o≠24):=by
 unfold M.arity at h⊢;split at h
 ·exact⟨by rw[if_pos (by assumption)];omega,by omega,fun h=>by rw[if_pos (by assumption)] at h;omega⟩
 ·next d=>
  rw[if_neg d];split at h
  ·next a=>rw[if_pos a];exact⟨by omega,by omega,fun _=>by omega⟩
  ·next a=>
   rw[if_neg a];split at h
   ·next b=>rw[if_pos b];exact⟨by omega,by omega,fun _=>by omega⟩
   ·next b=>
    rw[if_neg b];split at h
    ·next c=>rw[if_pos c];exact⟨by omega,by omega,fun _=>by omega⟩
    ·next c=>
     rw[if_neg c];split at h
     ·next e=>rw[if_pos e];exact⟨by omega,by omega,fun _=>by omega⟩
     ·omega
theorem word_all {o:Int} {v:Value} (p:KindR o v) (k:0<=M.arity o) (j:∀w' s,Ext w w'->(0<M.arity o->s.data.toList=M.wordL o)->K (.string s) w'):vinvoke PP v xL #[] w K:=by
 obtain⟨s,m,r,rfl,e,g,i⟩:=p.word;obtain⟨_,q,l⟩:=arity_range k;have n:0<M.arity o->s.data.toList=M.wordL o:=fun h=>by
  have:=l h;rcases i with h|h|h|h
  ·omega
  ·omega
  ·omega
  ·exact h
 have fin:∀{m:Value},vcall PP zD #[.agg ⟨[.string s,m]⟩] w K:=fun{m}=>k7 fun w' he=>j w' s he n;unfold kTy;by_cases c:24<=o
 ·obtain⟨f,rfl,_⟩:=g c
  repeat rw[if_neg (by omega)]
  exact zw (xW _ _ _) fin
 ·have:=e (by omega);subst this;by_cases a:o<=2
  ·rw[if_pos a];exact zw (qJ _ _) fin
  rw[if_neg a];by_cases c2:o<=13
  ·rw[if_pos c2];exact zw (qc _ _) fin
  rw[if_neg c2];by_cases c3:o=14
  ·rw[if_pos c3];exact zw (qb _ _) fin
  rw[if_neg c3];by_cases c4:o<=17
  ·rw[if_pos c4];exact zw (qa _ _) fin
  rw[if_neg c4];by_cases c5:o=20
  ·rw[if_pos c5];exact zw (kP _ _) fin
  rw[if_neg c5];by_cases b:o=21
  ·rw[if_pos b];exact zw (ki _ _) fin
  rw[if_neg b];by_cases d:o=22
  ·rw[if_pos d];exact zw (q8 _ _) fin
  rw[if_neg d,if_pos (by omega)];exact zw (qK _ _) fin
theorem Kk (h:KindsR w kb):∃ks:List Int,ISet w kb ks/\∀o,o∈ks↔0<=M.arity o:=by
 obtain⟨f,hm,j,l⟩:=h;obtain⟨es,cl,n,d,s,r⟩:=hm;have hex:∀f:List (Value×Value),(∀p,p∈f->∃o,p.1= .int .i64 o/\0<=M.arity o)->∃ks:List Int,f.map (·.1)=ks.map (fun k=>Value.int .i64 k)/\∀o,o∈ks->0<=M.arity o:=by
  intro f;induction f with
  |nil=>intro _;exact⟨[],rfl,fun o b=>by cases b⟩
  |cons p f u=>
   intro g;obtain⟨ks,e,c⟩:=u fun q a=>g q (List.mem_cons_of_mem _ a);obtain⟨o,b,m⟩:=g p List.mem_cons_self;refine⟨o::ks,by simp only[List.map_cons,b,e],fun q a=>?_⟩;rcases List.mem_cons.1 a with rfl|a
   ·exact m
   ·exact c q a
 obtain⟨ks,e,c⟩:=hex f l;refine⟨ks,⟨es,cl,n,d,?_⟩,fun o=>⟨c o,fun b=>?_⟩⟩
 ·rw[<-e,<-r,List.map_map];rfl
 ·obtain⟨v,t,_⟩:=j o b;have:Value.int .i64 o∈f.map (·.1):=List.mem_map.2 ⟨_,t,rfl⟩;rw[e] at this;obtain⟨q,a,i⟩:=List.mem_map.1 this;cases i;exact a
theorem KJ {f:List (Value×Value)} (h:(f.map (·.1)).Nodup) {k a b:Value} (i:(k,a)∈f) (j:(k,b)∈f):a=b:=by
 induction f with
 |nil=>cases i
 |cons p f l=>
  rw[List.map_cons,List.nodup_cons] at h;rcases List.mem_cons.1 i with e|d
  ·rcases List.mem_cons.1 j with g|c
   ·rw[<-e] at g;exact(Prod.mk.inj g).2.symm
   ·subst e;have:k∈f.map (·.1):=List.mem_map.2 ⟨(k,b),c,rfl⟩;exact absurd this h.1
  ·rcases List.mem_cons.1 j with g|c
   ·subst g;have:k∈f.map (·.1):=List.mem_map.2 ⟨(k,a),d,rfl⟩;exact absurd this h.1
   ·exact l h.2 d c
theorem JC {k:Nat} {ks done:List Int} {o:Int} (y:IterR w k kb ks (done++[o])) (z:KindsR w kb) (t:∀x,KindR o x->K (.tuple #[.int .i64 o,x]) w):KD PP (.pointer (some ⟨k,0,none⟩)) w K:=by
 obtain⟨es,clock,seen,m,i,A,hit,C,D,E,s⟩:=y;obtain⟨e,he,b,F,rfl⟩:=s _ _ rfl;obtain⟨f,hm,g1,g2⟩:=z;have h:=hm.nodup;obtain⟨r,q,a,p,n,u⟩:=hm;rw[m] at a;cases a;have c:(Value.int .i64 o,e.val)∈f:=by rw[<-u,<-b];exact List.mem_map.2 ⟨e,he,rfl⟩
 have d:0<=M.arity o:=by
  obtain⟨o',j,l⟩:=g2 _ c;cases j;exact l
 obtain⟨v,j,l⟩:=g1 o d;have B:=KJ h c j;refine⟨.tuple #[e.key,e.val],w,?_,b▸t e.val (B▸l)⟩;have g:es.find? (·.born==e.born)=some e:=by rw[<-Array.find?_toList];exact find_born e es.toList i.2.1 he
 simp only[Instr.entry,getObj,Sem.run_bind,Sem.run,hit,m,Result.andThen,Array.back?_push,bne_self_eq_false,Bool.false_eq_true,if_false,g];rfl
theorem word_kind {o p:Int} (c:0<M.arity o) (d:0<M.arity p) (h:M.wordL o=M.wordL p):o=p:=by
 obtain⟨_,_,a⟩:=arity_range (o:=o) (by omega);obtain⟨_,_,b⟩:=arity_range (o:=p) (by omega);obtain⟨e,a2⟩:=a c;obtain⟨b1,f⟩:=b d;obtain⟨k,rfl⟩:∃k:Nat,o=k:=⟨o.toNat,by omega⟩;obtain⟨j,rfl⟩:∃j:Nat,p=j:=⟨p.toNat,by omega⟩;have:=M.word_inj ⟨k,by omega⟩ ⟨j,by omega⟩ h (M.word_ne ⟨k,by omega⟩ (by show 1<=k;omega) (by show k<=17\/k=22\/k=23\/25<=k;omega));have:k=j:=congrArg Fin.val this;omega
theorem WZ:(⟨#[40]⟩:ByteArray).data.toList=[40]:=rfl
theorem parser_term_spec:∀(n:Nat),n<=7->∀{w:World} {K:Value->World->Prop} {s:ByteArray} {u:M.Tm} {r:List UInt8},PS w0 w bp kb s->(V->Good ds n u/\M.Stop r/\s.data.toList=M.textL u++r)->
  (∀w' cs t y,PS w0 w' bp kb y->Same (· =bp) w w'->TmO w' (fun x=>w.heap.size<=x/\x<w'.heap.size) cs t->(V->t=u/\y.data.toList=r)->K (.agg ⟨cs⟩) w')-> @vcall (zP V w0 bp) PP yL #[.pointer (some ⟨bp,0,none⟩),.int .i64 (8-(n:Int))] w K:=by
 intro n;induction n with
 |zero=>
  intro _ w K s u r h H hK;refine @qY (zP V w0 bp) _ _ _ _ ?_;unfold xA;refine zx zy fun b1 F c9 a4 cp ay=>?_;simp only[jA];have h1:=h.ext a4;refine kq h1.same (fun _ f=>?_) fun hb=>?_
  ·have:=M.deep_pos u;have:=(H f).1.2.2;omega
  ·exact absurd hb (by rw[decide_eq_true (by omega)];decide)
 |succ n ih=>
  intro hn w K s u r h H hK;have cq:=fun{w:World} {K:Value->World->Prop} {s:ByteArray} {u:M.Tm} {r:List UInt8}=>ih (by omega) (w:=w) (K:=K) (s:=s) (u:=u) (r:=r);refine @qY (zP V w0 bp) _ _ _ _ ?_;unfold xA;refine zx zy fun b1 F c9 a4 cp ay=>?_;simp only[jA];have h1:=h.ext a4;refine kq h1.same (fun hb f=>?_) fun _=>?_
  ·have:=of_decide_eq_true hb;omega
  have z0:=h.same.size;have lb:=h.lt0;have z1:=a4.size;simp(disch:=first|(simp only[push_cast];done)|omega) only[push_cast,h1.par.ld0];have b9:V->∃c l,M.textL u=c::l/\(c≠40->M.leafT u)/\(c=40->¬M.leafT u):=fun f=>X7 (H f).1.1 (H f).1.2.1;have fin:∀{w2:World} {cs:List Value} {t:M.Tm} {y:ByteArray},PS w0 w2 bp kb y->Same (fun x=>x=bp\/F.heap.size<=x) F w2->TmO w2 (fun x=>F.heap.size<=x/\x<w2.heap.size) cs t->(V->t=u/\y.data.toList=r)->zn PP za (.pointer (some ⟨b1,0,none⟩)) (.agg ⟨cs⟩) w2 fun _ w3=>vlv PP za (.pointer (some ⟨b1,0,none⟩)) w3 fun r w4=>K r w4:=fun{w2 cs t y} h2 Y ht f=>by
   have c5:=ay.same Y (by omega);refine retO c5 rfl ht (fun x g=>by omega) fun w3 bn da ck=>?_;have ap:Same (· =bp) w w3:=by
    have:=((Same.of_ext (S:=fun x=>x=bp\/w.heap.size<=x) a4).trans (Y.mono fun x _ g=>g.imp id fun h=>by omega)).trans (bn.mono fun x _ g=> .inr (by omega));exact this.mono fun x g h=>h.resolve_right (by omega)
   exact hK w3 _ _ y (h2.new bn fun x g=>by omega) ap (yU ck fun x g=>by omega) f
  refine Yt (Qk WZ fun b b6 ca=>?_);simp only[jw];refine zE (fun c=>?_) (fun c=>?_)
  ·
   have c8:b=false:=(by simpa using c);have bh:V->M.leafT u:=fun f=>by
    obtain⟨c',l,q1,q2,_⟩:=b9 f;refine q2 fun e=>ca c8 (l++r) ?_;rw[(H f).2.2,q1,e];rfl
   refine parser_word_spec h1 fun w2 x y h2 Y g hy co=>?_;have hw:V->x.data.toList=M.textL u/\y.data.toList=r:=fun f=>by
    obtain⟨⟨g1,g2,g3⟩,g4,g5⟩:=H f;obtain⟨g6,g7⟩:=M.leaf_word g1 g2 (bh f) g4;rw[g,hy,g5,g6,g7];exact⟨rfl,rfl⟩
   refine Yt (atom_spec (V:=V) (ds:=ds) (u:=u) (fun f=>⟨(H f).1.1,(H f).1.2.1,bh f,(hw f).1⟩) co fun w3 cs t b8 aa cl=>?_);exact fin (h2.ext b8) ((Y.mono fun x _ g=> .inl g).trans (Same.of_ext b8)) (yU aa fun x g=>g.elim) fun f=>⟨cl f,(hw f).2⟩
  ·
   have ah:b=true:=(by simpa using c);have a6:V->¬M.leafT u:=fun f=>by
    obtain⟨c',l,q1,_,q2⟩:=b9 f;obtain⟨l',q3⟩:=b6 ah;refine q2 ?_;have:=(H f).2.2;rw[q3,q1] at this;exact(List.cons.inj this).1.symm
   have X:V->_:=fun f=>M.node_arity' (H f).1.2.1 (a6 f);refine ZT (V:=V) h1 (c:=40) WZ (fun _=>b6 ah) fun w2 x h2 Y g=>?_;have cb:V->x.data.toList=M.wordL u.op++(M.cutL u++(M.kidsL u.ks++41::r)):=fun f=>by
    have g5:=(H f).2.2;rw[M.node_text (a6 f),List.cons_append,g] at g5;rw[(List.cons.inj g5).2];simp
   refine parser_word_spec h2 fun w3 wd y h3 ap cn hy d9=>?_;have hw:V->wd.data.toList=M.wordL u.op/\y.data.toList=M.cutL u++(M.kidsL u.ks++41::r):=fun f=>by
    obtain⟨⟨g1,g2,g3⟩,g4,g5⟩:=H f;obtain⟨g6,g7⟩:=M.node_word g1 g2 (a6 f);rw[cn,hy,cb f,g6,g7];exact⟨rfl,rfl⟩
   have bt:Same (fun x=>x=bp\/F.heap.size<=x) F w3:=(Y.trans ap).mono fun x _ g=> .inl g;refine zx zy fun b2 w4 cz am db c6=>?_;have h4:=h3.ext am;have z3:=bt.size;have cu:=bt.trans (Same.of_ext (S:=fun x=>x=bp\/F.heap.size<=x) am);simp(disch:=first|(simp only[push_cast];done)|omega) only[push_cast,h4.par.ld1];obtain⟨ks,bm,bc⟩:=Kk h4.kinds;refine Kc jU bm fun k w5 hk ce ab=>?_;have z4:=am.size;have z5:=ab.size;have d3:=K4 h3.kinds;refine vloop_up ks.length (fun i u w'=> ∃(done:List Int) (o:Int),u=[]/\done.length=i/\PS w0 w' bp kb y/\Same (fun x=>x=bp\/F.heap.size<=x) F w'/\w5.heap.size<=w'.heap.size/\Blk w' b2 [.int .i64 o,.int .i64 0,.int .i64 0,.string ⟨#[]⟩,.slice none 0 0] za/\IterR w' k kb ks done/\((o=0/\∀q,q∈done->¬(0<M.arity q/\M.wordL q=wd.data.toList))\/(0<M.arity o/\M.wordL o=wd.data.toList)))
    ⟨[],0,rfl,rfl,h4.ext ab,cu.trans (Same.of_ext ab),Nat.le_refl _,c6.ext ab,ce,.inl ⟨rfl,fun q hq=>by cases hq⟩⟩ ?_
   rintro i _ _ w6 C hi ⟨done,o,rfl,cc,h6,au,cw,a1,cf,Q⟩ hC;refine vnext_set cf (fun a3=>?_) fun q x w7 hq d4 an L dc=>?_
   ·
    simp only[qg];refine zE (fun c=>by cases c) (fun _=>?_);simp(disch:=first|(simp only[push_cast];done)|omega) only[push_cast,a1.ld0];refine kq h6.same (fun hb f=>?_) fun hb=>?_
    ·have:=of_decide_eq_true hb;have d8:=(X f).2.2.1;have cm:0<M.arity u.op:=by have:=(X f).2.2.2.2.1;have:=(X f).1;omega
     rcases Q with⟨_,Q⟩|⟨Q,_⟩
     ·exact Q u.op (a3 _ ((bc _).2 (by omega))) ⟨cm,(hw f).1.symm⟩
     ·rw[this] at Q;revert Q;decide
    have bk:0<M.arity o/\M.wordL o=wd.data.toList:=by
     rcases Q with⟨Q,_⟩|Q
     ·rw[Q] at hb;cases hb
     ·exact Q
    have Z:V->o=u.op:=fun f=>word_kind bk.1 (by have:=(X f).2.2.2.2.1;have:=(X f).1;omega) (by rw[bk.2,(hw f).1]);obtain⟨d5,d6,d7⟩:=arity_range (o:=o) (by omega);refine zL (fun _ w'=> ∃(a b:Int) (y2:ByteArray),PS w0 w' bp kb y2/\Same (fun x=>x=bp\/F.heap.size<=x) F w'/\w5.heap.size<=w'.heap.size/\Blk w' b2 [.int .i64 o,.int .i64 a,.int .i64 b,.string ⟨#[]⟩,.slice none 0 0] za/\(V->a=u.a/\b=u.b/\y2.data.toList=M.kidsL u.ks++41::r)) (fun J hJ=>?_) ?_
    ·simp(disch:=first|(simp only[push_cast];done)|omega) only[push_cast,a1.ld0];refine zd (fun bw=>?_) (fun bw=>hJ _ _ ⟨0,0,y,h6,au,cw,a1,fun f=>?_⟩)
     ·have b7:V->y.data.toList=32::(M.digL u.a++(32::(M.digL u.b++(M.kidsL u.ks++41::r)))):=fun f=>by
       rw[(hw f).2];unfold M.cutL;rw[if_pos (by have:=Z f;omega)];simp
      have a9:V->0<=u.b/\u.b<=u.a/\u.a<4:=fun f=>M.cut_ab (H f).1.1 (H f).1.2.1 (by have:=Z f;omega);refine Xd (V:=V) (d:=u.a) (r:=32::(M.digL u.b++(M.kidsL u.ks++41::r))) h6 (fun f=>⟨b7 f,by have:=a9 f;omega,by have:=a9 f;omega,M.stop_cons (.inl rfl)⟩) fun w7 na y7 h7 L bi=>?_;have a2:=a1.same L (by omega);refine a2.st (i:=1) rfl rfl ZQ rfl fun w8 bo dd N=>?_;have h8:=h7.new bo fun x g=>(by omega);refine Xd (V:=V) (d:=u.b) (r:=M.kidsL u.ks++41::r) h8 (fun f=>⟨(bi f).2,by have:=a9 f;omega,by have:=a9 f;omega,M.kids_stop⟩) fun U nb y9 h9 aq bj=>?_;have W:=N.same aq (by omega)
      try simp(disch:=first|(simp only[push_cast];done)|omega) only[push_cast]
      refine W.st (i:=2) rfl rfl ZQ rfl fun aw E bs B=>?_;have z7:=L.size;have z9:=aq.size;exact hJ _ _ ⟨na,nb,y9,h9.new E fun x g=>by omega,(((au.trans (L.mono fun x _ g=> .inl g)).trans (bo.mono fun x _ g=> .inr (by omega))).trans (aq.mono fun x _ g=> .inl g)).trans (E.mono fun x _ g=> .inr (by omega)),by omega,B,fun f=>⟨(bi f).1,(bj f).1,(bj f).2⟩⟩
     ·obtain⟨g1,g2⟩:=M.plain_zero (H f).1.2.1 (fun e=>a6 f (.inl e)) (by have:=Z f;omega);refine⟨g1.symm,g2.symm,?_⟩;rw[(hw f).2];unfold M.cutL;rw[if_neg (by have:=Z f;omega)];rfl
    rintro _ _ w7 ⟨a,b',y2,h7,av,dn,a2,ar⟩;refine zN fun w8 v _=>?_;have h8:=h7.ext v;have N:=a2.ext v;have ad:=av.trans (Same.of_ext (S:=fun x=>x=bp\/F.heap.size<=x) v);simp(disch:=first|(simp only[push_cast];done)|omega) only[push_cast,h8.par.ld1,N.ld0,true_and];refine Xe (ok:=false) h8.kinds (by omega) fun kv ci=>?_;simp only[Bool.false_eq_true,if_false,true_and];refine Xg (ci.kids _ _ fun U A=>?_);have h9:=h8.ext A;have W:=N.ext A;have ae:=ad.trans (Same.of_ext (S:=fun x=>x=bp\/F.heap.size<=x) A);have z8:=v.size;have z9:=A.size;obtain⟨m,hm⟩:∃m:Nat,M.arity o=m:=⟨(M.arity o).toNat,by omega⟩;rw[hm];refine vloop_up m (fun i u' w'=> ∃(kv:Value) (kl rest:List M.Tm) (css:List (List Value)) (Ds:Nat->Nat->Prop) (y3:ByteArray),u'=[.int .i64 i]/\kl.length=i/\PS w0 w' bp kb y3/\Same (fun x=>x=bp\/F.heap.size<=x) F w'/\U.heap.size<=w'.heap.size/\Blk w' b2 [.int .i64 o,.int .i64 a,.int .i64 b',.string M.nada,kv] za/\Grow U.heap.size w' kv css kl Ds/\(V->u.ks=kl++rest/\y3.data.toList=M.kidsL rest++41::r))
     ⟨_,[],u.ks,[],fun _ _=>False,y2,rfl,rfl,h9,ae,Nat.le_refl _,W,VS _ _,fun f=>⟨rfl,(ar f).2.2⟩⟩ ?_
    rintro i2 _ _ aw C2 d1 ⟨cr,kl,rest,css,Ds,y3,rfl,bb,ax,ak,di,B,ai,z⟩ c7;have hlen:V->u.ks.length=m:=fun f=>by have:=(X f).2.2.2.2.1;rw[<-Z f,hm] at this;omega
    simp(disch:=first|(simp only[push_cast];done)|omega) only[push_cast];refine zd (fun c3=>?_) (fun c3=>?_)
    ·
     have O:V->∃x l,rest=x::l/\y3.data.toList=32::(M.textL x++(M.kidsL l++41::r)):=fun f=>by
      obtain⟨q1,q2⟩:=z f;cases rest with
      |nil=>have:=congrArg List.length q1;rw[List.append_nil] at this;have:=hlen f;omega
      |cons x l=>exact⟨x,l,rfl,by rw[q2,M.kids_cons]⟩
     refine ZT (V:=V) ax (c:=32) rfl (fun f=>by obtain⟨x,l,_,q⟩:=O f;exact⟨_,q⟩) fun cv y4 al D ac=>?_;refine zN fun bu a5 _=>?_;have bx:=al.ext a5;have dj:=D.size;have z12:=a5.size;have G:Same (· =bp) aw bu:=D.trans (Same.of_ext a5);have af:=B.same G (by omega);have P:=ko ai G fun x g=>(by omega);simp(disch:=first|(simp only[push_cast];done)|omega) only[push_cast,af.ld4,true_and];rw[yb (x:=8-((n:Int)+1)+1) (by omega) (by omega),show 8-((n:Int)+1)+1=8-(n:Int) by omega];refine cq (u:=rest.headD default) (r:=M.kidsL rest.tail++41::r) bx (fun f=>?_) fun de cs t y5 bz R aa bl=>?_
     ·obtain⟨x,l,q1,q2⟩:=O f;subst q1;have aj:x∈u.ks:=by rw[(z f).1];exact List.mem_append_right _ List.mem_cons_self
      obtain⟨⟨g1,g2,g3⟩,_⟩:=H f;have cd:M.deepM x<=n:=by have:=M.kid_deep aj;omega
      refine⟨⟨g1,(M.sort_parts g2).2.1 x aj,cd⟩,M.kids_stop,?_⟩;rw[q2] at ac;exact(List.cons.inj ac).2.symm
     have ag:=af.same R (by omega);have be:=ko P R fun x g=>(by omega);simp(disch:=first|(simp only[push_cast];done)|omega) only[push_cast,ag.ld4,and_self,true_and];refine YX YB X3 zy rfl (yr (YO _ aa)) (by decide) fun b5 df d0 I cx b0=>?_;have a0:=ag.ext I;have dk:=R.size;simp(disch:=first|(simp only[push_cast];done)|omega) only[push_cast,a0.ld4,and_self,true_and];refine grow_push2 (n:=bu.heap.size) be (fun x g=>(P.own.lt g).2) (fun j x hj g=>(P.sub j x hj g).2) (by omega) (by omega) aa I b0 (by omega) fun ct dg bv bf T cg ch=>?_;have c0:=bz.ext I;have a7:∀x,cr.ownBlock=some x->U.heap.size<=x:=fun x g=>(P.blk x g).1;have c4:=c0.new T fun x g=>by have:=a7 x g;omega
     have b3:=a0.same T fun e=>by have:=a7 _ e;omega
     try simp(disch:=first|(simp only[push_cast];done)|omega) only[push_cast,true_and]
     refine b3.st (i:=4) cg ch Yz rfl fun dh a8 cy b4=>?_;have dm:=T.size;have dl:=I.size;have bg:=ko bf a8 fun x g=>(by omega);rw[inc64' (by omega)];refine c7 (by omega) _ _ ⟨ct,kl++[t],rest.tail,_,bv,y5,rfl,by simp[bb],c4.new a8 fun x g=>by omega,((((ak.trans (G.mono fun x _ g=> .inl g)).trans (R.mono fun x _ g=> .inl g)).trans (Same.of_ext I)).trans (T.mono fun x _ g=> .inr (by have:=a7 x g;omega))).trans (a8.mono fun x _ g=> .inr (by omega)),by omega,b4,bg,fun f=>?_⟩
     ·obtain⟨x,l,q1,q2⟩:=O f;obtain⟨g1,g2⟩:=bl f;subst q1;refine⟨?_,g2⟩;rw[(z f).1,g1];simp
    ·
     have ao:V->rest=[]:=fun f=>by
      have q:=congrArg List.length (z f).1;rw[List.length_append] at q;have:=hlen f;exact List.eq_nil_of_length_eq_zero (by omega)
     refine ZT (V:=V) ax (c:=41) rfl (fun f=>⟨r,by rw[(z f).2,ao f];rfl⟩) fun cv y4 al D ac=>?_;have az:=B.same D (by omega);have bd:=ko ai D fun x g=>(by omega);rw[az.ldAgg zo];refine fin al (ak.trans (D.mono fun x _ g=> .inl g)) (yU (V0 (t:= .mk o a b' M.nada kl) bd) fun x g=>by omega) fun f=>?_;have q1:=(z f).1;rw[ao f,List.append_nil] at q1;have q2:=(z f).2;rw[ao f,ac] at q2;refine⟨?_,(List.cons.inj q2).2⟩;have:=K3 (H f).1.2.1 (a6 f);rw[Z f,(ar f).1,(ar f).2.1,<-q1];exact this.symm
   ·
    simp only[xm];refine zE (fun _=>?_) (fun c=>by cases c);have d2: ¬kb=k:=(by omega);have h7:=h6.new L fun x g=>(by omega);refine JC an h7.kinds fun x' br=>?_;simp only[zH,zG];have cj:=(bc q).1 hq;have a2:=a1.same L (by omega);have av:=au.trans (L.mono (S':=fun x=>x=bp\/F.heap.size<=x) fun x _ g=> .inr (by omega));refine Xg (word_all br cj fun w8 wq v bq=>?_);have next:∀{U:World} {o':Int},Ext w8 U\/True->PS w0 U bp kb y->Same (fun x=>x=bp\/F.heap.size<=x) F U->w5.heap.size<=U.heap.size->Blk U b2 [.int .i64 o',.int .i64 0,.int .i64 0,.string ⟨#[]⟩,.slice none 0 0] za->IterR U k kb ks (done++[q])->((o'=o/\¬(0<M.arity q/\M.wordL q=wd.data.toList))\/(o'=q/\0<M.arity q/\M.wordL q=wd.data.toList))->C [] U:=fun{U o'} _ g1 g2 g3 g4 g5 g6=>by
     have hlen:done.length<ks.length:=by
      have:=g5.len;rw[List.length_append,List.length_singleton] at this;omega
     refine hC (by omega) _ _ ⟨done++[q],o',rfl,by simp[cc],g1,g2,g3,g4,g5,?_⟩;rcases g6 with⟨e,hn⟩|⟨e,h1,h2⟩
     ·rcases Q with⟨e0,a3⟩|Q
      ·refine .inl ⟨by omega,fun p hp=>?_⟩;rcases List.mem_append.1 hp with hp|hp
       ·exact a3 p hp
       ·rw[List.mem_singleton] at hp;subst hp;exact hn
      ·exact .inr (e▸Q)
     ·exact .inr (e▸⟨h1,h2⟩)
    have z7:=L.size;have z8:=v.size;have h8:=h7.ext v;have N:=a2.ext v;have ad:=av.trans (Same.of_ext (S:=fun x=>x=bp\/F.heap.size<=x) v);simp only[qs];refine zd (fun c1=>?_) (fun c1=>next (.inr trivial) h8 ad (by omega) N (an.ext v) (.inl ⟨rfl,fun h=>c1 (str_ext (by rw[bq h.1,h.2]))⟩));refine Xg (br.kids _ _ fun U A=>?_);have h9:=h8.ext A;have W:=N.ext A;have ae:=ad.trans (Same.of_ext (S:=fun x=>x=bp\/F.heap.size<=x) A);have z9:=A.size;have ba:=(an.ext v).ext A;simp only[jA];refine zd (fun c2=>?_) (fun c2=>next (.inr trivial) h9 ae (by omega) W ba (.inl ⟨rfl,fun h=>c2 h.1⟩))
    try simp(disch:=first|(simp only[push_cast];done)|omega) only[push_cast]
    refine W.st (i:=0) rfl rfl ZQ rfl fun aw E bs B=>?_;exact next (.inr trivial) (h9.new E fun x g=>by omega) (ae.trans (E.mono fun x _ g=> .inr (by omega))) (by omega) B (ba.same E (by omega) (by omega)) (.inr ⟨rfl,c2,by rw[<-bq c2,c1]⟩)
end Go.Proofs.YtaemeijeaajoeaaGreatDoor
end
