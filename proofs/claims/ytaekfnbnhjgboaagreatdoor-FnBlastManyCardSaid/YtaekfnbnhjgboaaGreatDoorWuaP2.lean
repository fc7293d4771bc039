import Derived.Test.YtaekfnbnhjgboaaGreatDoorWuaP1
import Derived.Laws.Strings2
import Derived.Laws.Concat
import Derived.Laws.StructEq
import Derived.Laws.Shifts
import Derived.Laws.Build
import Derived.RangeFuncRecord
import Derived.Below
import Derived.Test.YtaekfnbnhjgboaaGreatDoorProg
/- A part of the proof. -/
set_option linter.unusedVariables false
set_option linter.unusedSimpArgs false
set_option linter.unnecessarySimpa false
set_option linter.unusedSectionVars false
section
namespace Go.Vc
open Go Go.MapKept
def MapF (d:TypeDesc) (w:World) (b:Nat) (f:List (Value×Value)):Prop:=
 ∃es clock,w.heap[b]?=some (.map es clock)∧Stamped es clock∧(∀x∈es.toList,IsKey d x.key)∧es.toList.map (fun e=>(e.key,e.val))=f
def k10 (P:Program) (t:TypeId) (d:TypeDesc) (e:TypeId):Prop:= ∃kt,P.underlying t=some (.map kt e)∧P.underlying kt=some d
section
variable {P:Program} {t e:TypeId} {d:TypeDesc} {w w':World} {K:Value→World→Prop} {b:Nat} {f:List (Value×Value)} {S:Nat→Prop}
theorem MapF.lt (h:MapF d w b f):b<w.heap.size:=by
 obtain⟨es,cl,hb,_⟩:=h;exact(Array.getElem?_eq_some_iff.1 hb).1
theorem MapF.same (h:MapF d w b f) (hw:Same S w w') (hs: ¬S b):MapF d w' b f:=by
 have hlt:=h.lt
 obtain⟨es,cl,hb,r⟩:=h;exact⟨es,cl,(hw.block b hlt hs).trans hb,r⟩
theorem MapF.ext (h:MapF d w b f) (hw:Ext w w'):MapF d w' b f:=h.same hw id
theorem MapF.nodup (h:MapF d w b f):(f.map (·.1)).Nodup:=by
 obtain⟨es,cl,hb,hst,hks,rfl⟩:=h
 have:=hst.2.2
 rw[List.map_map]
 exact this
theorem qt0 {r:Option Value} {k:IntKind} {n:Nat} (hT:k10 P t d e) (hr:r=none∨r=some (.int k n)) (hK:∀b w',b=w.heap.size→MapF d w' b []→Ext w w'→w'.heap.size=w.heap.size+1→K (.map (some b)) w'):ku0 P t r w K:=by
 refine⟨.map (some w.heap.size),w.alloc (.map #[] 0),?_,hK _ _ rfl ⟨#[],0,(heap_alloc w _).1,stamped_empty 0,by simp,rfl⟩ ⟨rfl,rfl,rfl,by simp,fun k hk _=>(heap_alloc w _).2 k hk⟩ (by simp)⟩
 obtain⟨kt,hm,hd⟩:=hT
 rcases hr with rfl|rfl
 ·simp[Instr.makeMap,newObj,Sem.run]
 ·simp only[Instr.makeMap,Sem.run_bind,xL hm,Result.andThen_ok]
  simp[asInt,asIntOf,newObj,Sem.run,Result.andThen]
theorem xu0 (hT:k10 P t d e) (hK:∀b w',b=w.heap.size→MapF d w' b []→Ext w w'→w'.heap.size=w.heap.size+1→K (.map (some b)) w'):ku0 P t none w K:=qt0 (k:= .i64) (n:=0) hT (.inl rfl) hK
theorem qr0 {k x:Value} (hT:k10 P t d e) (h:MapF d w b f) (hk:IsKey d k) (hn:∀v,(k,v)∉f)
  (hK:∀w',MapF d w' b (f++[(k,x)])→Same (· =b) w w'→w'.heap.size=w.heap.size→K undef w'):ko P t (.map (some b)) k x w K:=by
 obtain⟨kt,hm,hd⟩:=hT
 obtain⟨es,cl,hb,hst,hks,rfl⟩:=h
 rcases findNow_spec hk es.toList 0 hks with⟨h1,h2⟩|⟨j,e,h1,h2,h3⟩
 ·refine⟨(),{w with heap:=w.heap.setIfInBounds b (.map (es.push {key:=k,val:=x,born:=cl}) (cl+1))},?_,hK _ ⟨_,_,(heap_set hb).1,stamped_push hst h2,fun y hy=>?_,by simp⟩ (Wo hb) (by simp)⟩
  ·simp[Instr.mapUpdate,run_underlying hm,MapKept.run_getObj_map hb,run_checkKey hd hk,run_findKey hd h1,run_setObj_map _ hb,Result.andThen]
  ·rw[Array.toList_push] at hy
   rcases List.mem_append.1 hy with hy|hy
   ·exact hks y hy
   ·rw[List.mem_singleton.1 hy];exact hk
 ·exact absurd (List.mem_map.2 ⟨e,List.mem_of_getElem? h2,by rw[h3]⟩) (hn e.val)
theorem zk0 {k v:Value} {ok:Bool} (hT:k10 P t d e) (h:MapF d w b f) (hk:IsKey d k) (hin:(k,v)∈f):
  Qe P t (.map (some b)) k ok w K=K (if ok then .tuple #[v,.bool true] else v) w:=by
 obtain⟨kt,hm,hd⟩:=hT
 have hnd:=h.nodup
 obtain⟨es,cl,hb,hst,hks,rfl⟩:=h
 rcases findNow_spec hk es.toList 0 hks with⟨h1,h2⟩|⟨j,e,h1,h2,h3⟩
 ·obtain⟨x,hx,e⟩:=List.mem_map.1 hin
  cases e;exact absurd rfl (h2 x hx)
 ·obtain⟨x,hx,e'⟩:=List.mem_map.1 hin
  have hxe:x=e:=by
   have hm2:e∈es.toList:=List.mem_of_getElem? h2
   have hp:=hst.2.2
   cases e'
   have hp':es.toList.Pairwise fun a b=>a.key≠b.key:=List.pairwise_map.1 hp
   by_cases hne:x=e
   ·exact hne
   ·obtain⟨i1,hi1,e1⟩:=List.getElem_of_mem hx
    obtain⟨i2,hi2,e2⟩:=List.getElem_of_mem hm2
    rcases Nat.lt_trichotomy i1 i2 with hlt|heq|hlt
    ·exact absurd (by rw[e1,e2];exact h3.symm) (List.pairwise_iff_getElem.1 hp' i1 i2 hi1 hi2 hlt)
    ·subst heq;exact absurd (e1.symm.trans e2) hne
    ·exact absurd (by rw[e1,e2];exact h3) (List.pairwise_iff_getElem.1 hp' i2 i1 hi2 hi1 hlt)
  subst hxe
  cases e'
  refine yy ?_
  cases ok<;>simp[Instr.lookup,run_underlying hm,MapKept.run_getObj_map hb,run_checkKey hd hk,run_findKey hd h1,Result.andThen]
theorem yl0 {k z:Value} {ok:Bool} (hT:k10 P t d e) (hz:yM P e z) (h:MapF d w b f) (hk:IsKey d k) (hn:∀v,(k,v)∉f):
  Qe P t (.map (some b)) k ok w K=K (if ok then .tuple #[z,.bool false] else z) w:=by
 obtain⟨kt,hm,hd⟩:=hT
 obtain⟨es,cl,hb,hst,hks,rfl⟩:=h
 rcases findNow_spec hk es.toList 0 hks with⟨h1,h2⟩|⟨j,e,h1,h2,h3⟩
 ·refine yy ?_
  cases ok<;>simp[Instr.lookup,run_underlying hm,MapKept.run_getObj_map hb,run_checkKey hd hk,run_findKey hd h1,Q9 hz,Result.andThen]
 ·exact absurd (List.mem_map.2 ⟨e,List.mem_of_getElem? h2,by rw[h3]⟩) (hn e.val)
theorem y1 {ty:TypeId} {v rcv:Value} {name:String} {args:Array Value} {g:Nat} (hm:∀w:World,(method (P.types.size+Made.depth) ty v name).run P w= .ok (g,rcv) w) (h:vcall P g ⟨rcv::args.toList⟩ w K):vinvoke P (.iface ty v) name args w K:=
 ⟨g,rcv,hm w,h⟩
def concB (P:Program) (t:TypeId):Bool:=match P.underlying t with|some (.interface _)=>false|some _=>true|none=>false
theorem ZQ (h:concB P t=true) (v:Value):QK P t v w K=K (.iface t v) w:=by
 refine yy ?_
 unfold concB at h
 cases hu:P.underlying t with
 |none=>rw[hu] at h;cases h
 |some x=>
  rw[hu] at h
  simp only[Instr.makeInterface,Sem.run_bind,xL hu,Result.andThen_ok]
  cases x<;>first|(cases h;done)|simp
theorem x60 (a b:ByteArray):(a.toList==b.toList)=decide (a=b):=by
 rw[←beq_toListBytes]
 by_cases h:a=b
 ·subst h;rw[decide_eq_true rfl];exact(MapKept.bytes_beq a a).2 rfl
 ·rw[decide_eq_false h,Bool.eq_false_iff];exact fun e=>h ((MapKept.bytes_beq a b).1 e)
@[push_cast] theorem Zj0 {c:Bool} (t:TypeId) (a b:ByteArray):zq P .eql t c (.string a) (.string b) w K=K (.bool (decide (a=b))) w:=
 yB rfl (by rw[binOp_string_eql,x60];rfl)
@[push_cast] theorem Zi0 {c:Bool} (t:TypeId) (a b:ByteArray):zq P .neq t c (.string a) (.string b) w K=K (.bool (decide (a≠b))) w:=
 yB rfl (by rw[binOp_string_neq,x60,decide_not];rfl)
theorem Wx {c:Bool} {t:TypeId} {a b:ByteArray} (h:a.size+b.size≤9223372036854775807):zq P .add t c (.string a) (.string b) w K=K (.string (a++b)) w:=
 yB rfl (by simp only[binOp_string_add];exact run_string_add_sum w a b h)
theorem zl0 {t ty:TypeId} {s:ByteArray} (h:P.underlying t=some .string):vbi P .len [t] ty [.string s] w K=K (.int .i64 s.size) w:=
 yy (run_len_string (P:=P) (w:=w) t ty s h)
theorem vindex_str {t:TypeId} {s:ByteArray} {k:IntKind} {i:Int} (h:P.underlying t=some .string) (h0:0≤i) (h1:i<s.size):z90 P t (.string s) (.int k i) w K=K (.int .u8 ((s.data.getD i.toNat 0).toNat:Int)) w:=by
 refine yy ?_
 rw[run_index_string (P:=P) (w:=w) t s k i h]
 have hlt:i.toNat<s.size:=by omega
 have hd:i.toNat<s.data.size:=hlt
 rw[dif_pos ⟨h0,h1⟩,Array.getD_eq_getD_getElem?,Array.getElem?_eq_getElem hd]
 rfl
theorem xP0 {t:TypeId} {s:ByteArray} {k k':IntKind} {i j:Int} (h:P.underlying t=some .string) (h0:0≤i) (h1:i≤j) (h2:j≤s.size):yq P t (.string s) (some (.int k i)) (some (.int k' j)) none w K=K (.string (s.extract i.toNat j.toNat)) w:=by
 refine yy ?_
 rw[run_sliceAt_string w t _ _ _ _ h]
 exact run_slice_string (P:=P) w t s k k' i j h h0 h1 h2
theorem zn0 {c:Bool} {t:TypeId} {k yk:IntKind} {x y:Int} (h:0≤y):zq P .shl t c (.int k x) (.int yk y) w K=K (.int k (k.wrap (x*2^min y.toNat k.bits))) w:=
 yB rfl (by simp[binOp,shift_shl_any,h])
theorem xv0 {c:Bool} {t:TypeId} {k yk:IntKind} {x y:Int} (h:0≤y):zq P .shr t c (.int k x) (.int yk y) w K=K (.int k (x/2^min y.toNat k.bits)) w:=
 yB rfl (by simp[binOp,shift_shr_any,h])
theorem wrapU {n:Nat} (h:n<18446744073709551616):IntKind.u64.wrap (n:Int)=n:=by
 simp only[IntKind.wrap,IntKind.bits,IntKind.signed,Bool.false_and,Bool.false_eq_true,if_false]
 omega
theorem wrapN {n:Nat} (h:n<9223372036854775808):IntKind.i64.wrap (n:Int)=n:=zA (by omega) (by omega)
theorem JX (n:Nat):BitVec.ofInt 64 (n:Int)=BitVec.ofNat 64 n:=by simp
theorem Xh {c:Bool} {t:TypeId} {a b:Nat} (ha:a<18446744073709551616) (hb:b<18446744073709551616):zq P .and t c (.int .u64 a) (.int .u64 b) w K=K (.int .u64 (a&&&b:Nat)) w:=
 yB rfl (by
  have h1:a&&&b<18446744073709551616:=Nat.lt_of_le_of_lt Nat.and_le_left ha
  have e:(BitVec.ofInt 64 (a:Int)&&&BitVec.ofInt 64 (b:Int)).toNat=a&&&b:=by
   rw[JX,JX,BitVec.toNat_and,BitVec.toNat_ofNat,BitVec.toNat_ofNat,Nat.mod_eq_of_lt ha,Nat.mod_eq_of_lt hb]
  simp only[binOp,ne_eq,not_true_eq_false,if_false,Op.intBits]
  show(pure (Value.int .u64 (IntKind.u64.wrap ((BitVec.ofInt 64 (a:Int)&&&BitVec.ofInt 64 (b:Int)).toNat:Int))):Sem Value).run P w=_
  rw[e,wrapU h1];rfl)
theorem xw0 {c:Bool} {t:TypeId} {a b:Nat} (ha:a<18446744073709551616) (hb:b<18446744073709551616):zq P .or t c (.int .u64 a) (.int .u64 b) w K=K (.int .u64 (a|||b:Nat)) w:=
 yB rfl (by
  have h1:a|||b<2^64:=Nat.or_lt_two_pow ha hb
  have e:(BitVec.ofInt 64 (a:Int)|||BitVec.ofInt 64 (b:Int)).toNat=a|||b:=by
   rw[JX,JX,BitVec.toNat_or,BitVec.toNat_ofNat,BitVec.toNat_ofNat,Nat.mod_eq_of_lt ha,Nat.mod_eq_of_lt hb]
  simp only[binOp,ne_eq,not_true_eq_false,if_false,Op.intBits]
  show(pure (Value.int .u64 (IntKind.u64.wrap ((BitVec.ofInt 64 (a:Int)|||BitVec.ofInt 64 (b:Int)).toNat:Int))):Sem Value).run P w=_
  rw[e,wrapU h1];rfl)
theorem qy0 {c:Bool} {t:TypeId} {a b:Nat} (ha:a<18446744073709551616) (hb:b<18446744073709551616):zq P .xor t c (.int .u64 a) (.int .u64 b) w K=K (.int .u64 (a^^^b:Nat)) w:=
 yB rfl (by
  have h1:a^^^b<2^64:=Nat.xor_lt_two_pow ha hb
  have e:(BitVec.ofInt 64 (a:Int)^^^BitVec.ofInt 64 (b:Int)).toNat=a^^^b:=by
   rw[JX,JX,BitVec.toNat_xor,BitVec.toNat_ofNat,BitVec.toNat_ofNat,Nat.mod_eq_of_lt ha,Nat.mod_eq_of_lt hb]
  simp only[binOp,ne_eq,not_true_eq_false,if_false,Op.intBits]
  show(pure (Value.int .u64 (IntKind.u64.wrap ((BitVec.ofInt 64 (a:Int)^^^BitVec.ofInt 64 (b:Int)).toNat:Int))):Sem Value).run P w=_
  rw[e,wrapU h1];rfl)
theorem vbin_orI {c:Bool} {t:TypeId} {a b:Nat} (ha:a<9223372036854775808) (hb:b<9223372036854775808):zq P .or t c (.int .i64 a) (.int .i64 b) w K=K (.int .i64 (a|||b:Nat)) w:=
 yB rfl (by
  have h1:a|||b<2^63:=Nat.or_lt_two_pow ha hb
  have e:(BitVec.ofInt 64 (a:Int)|||BitVec.ofInt 64 (b:Int)).toNat=a|||b:=by
   rw[JX,JX,BitVec.toNat_or,BitVec.toNat_ofNat,BitVec.toNat_ofNat,Nat.mod_eq_of_lt (by omega),Nat.mod_eq_of_lt (by omega)]
  simp only[binOp,ne_eq,not_true_eq_false,if_false,Op.intBits]
  show(pure (Value.int .i64 (IntKind.i64.wrap ((BitVec.ofInt 64 (a:Int)|||BitVec.ofInt 64 (b:Int)).toNat:Int))):Sem Value).run P w=_
  rw[e,wrapN h1];rfl)
theorem vun_xorU {a:Nat} (ha:a<18446744073709551616):vun P .xor (.int .u64 a) w K=K (.int .u64 (18446744073709551615-a:Nat)) w:=by
 refine yy ?_
 have e:(BitVec.ofInt 64 (18446744073709551615:Int)^^^BitVec.ofInt 64 (a:Int)).toNat=18446744073709551615-a:=by
  have e0:BitVec.ofInt 64 (18446744073709551615:Int)=BitVec.allOnes 64:=by decide
  rw[e0,JX,BitVec.allOnes_xor,BitVec.toNat_not,BitVec.toNat_ofNat,Nat.mod_eq_of_lt ha]
 show(pure (Value.int .u64 (IntKind.u64.wrap ((BitVec.ofInt 64 (18446744073709551615:Int)^^^BitVec.ofInt 64 (a:Int)).toNat:Int))):Sem Value).run P w=_
 rw[e,wrapU (by omega)];rfl
theorem vbin_shlU {c:Bool} {t:TypeId} {yk:IntKind} {x y:Nat} (hy:y<64) (h:x*2^y<18446744073709551616):zq P .shl t c (.int .u64 x) (.int yk y) w K=K (.int .u64 (x*2^y:Nat)) w:=by
 rw[zn0 (by omega)]
 have e:((x:Int)*2^min (y:Int).toNat IntKind.u64.bits)=((x*2^y:Nat):Int):=by
  have:min (y:Int).toNat IntKind.u64.bits=y:=by show min y 64=y;omega
  rw[this];simp
 rw[e,wrapU h]
theorem vbin_shlI {c:Bool} {t:TypeId} {yk:IntKind} {x y:Nat} (hy:y<64) (h:x*2^y<9223372036854775808):zq P .shl t c (.int .i64 x) (.int yk y) w K=K (.int .i64 (x*2^y:Nat)) w:=by
 rw[zn0 (by omega)]
 have e:((x:Int)*2^min (y:Int).toNat IntKind.i64.bits)=((x*2^y:Nat):Int):=by
  have:min (y:Int).toNat IntKind.i64.bits=y:=by show min y 64=y;omega
  rw[this];simp
 rw[e,wrapN h]
theorem vbin_shrU {c:Bool} {t:TypeId} {yk:IntKind} {x y:Nat} (hy:y<64):zq P .shr t c (.int .u64 x) (.int yk y) w K=K (.int .u64 (x/2^y:Nat)) w:=by
 rw[xv0 (by omega)]
 have:min (y:Int).toNat IntKind.u64.bits=y:=by show min y 64=y;omega
 rw[this];simp
theorem zx {t:TypeId} {cs:List Value} (h:∀b w',b=w.heap.size→Ext w w'→w'.heap.size=w.heap.size+1→Blk w' b cs t→K (.pointer (some ⟨b,0,none⟩)) w'):yD P t (.agg ⟨cs⟩) w K:=Zt h
theorem zD {t:TypeId} {cs:List Value} (hz:yM P t (.agg ⟨cs⟩)) (h:∀b w',b=w.heap.size→Ext w w'→w'.heap.size=w.heap.size+1→Blk w' b cs t→K (.pointer (some ⟨b,0,none⟩)) w'):zY P t w K:=V6 hz h
theorem yf {t:TypeId} {pl:List (Nat×Nat)} {ps:List (Nat×Value)} {us:List (List Value)} {zs cs:List Value} (h:strF P t=some (pl,zs)) (hv:ps.map (fun p=>p.2.cells)=us.map List.toArray)
  (hf:fillC pl zs (ps.map (·.1)) us=some cs):zE P t ps w K=K (.agg ⟨cs⟩) w:=by
 refine yy (run_build (P:=P) w t ⟨ps⟩ ⟨cs⟩ ?_)
 unfold strF at h
 split at h
 ·rename_i fs i hu hi
  split at h
  ·rename_i pl' z hp hz
   simp only[Option.some.injEq,Prod.mk.injEq] at h
   obtain⟨rfl,rfl⟩:=h
   simp only[Program.built,hu,hi,hz,hp]
   exact fill_eq hv hf
  ·cases h
 ·cases h
theorem K4 (s:ByteArray):IsKey .string (.string s):=by simp[IsKey]
theorem inc64' {i:Nat} (h:i<9223372036854775807):IntKind.i64.wrap ((i:Int)+1)=((i+1:Nat):Int):=by rw[zA (by omega) (by omega)];omega
end
end Go.Vc
end
section
namespace Go.Vc
open Go Go.RowKit
def hasR:Code→Bool
 | .rangeFunc _ _ _ _=>true
 | .seq a b=>hasR a||hasR b
 | .block _ b=>hasR b
 |_=>false
def ovrAt:List Nat→Fr→List Value→Fr
 |[],f,_=>f
 |p::r,f,args=>ovrAt r (put f (some p) (args.headD undef)) args.tail
def jmp (x:Nat) (Nn Nr Nx:World→Prop) (pe:Option Code) (w:World):Prop:=
 match pe with
 |none=>Nn w
 |some .ret=>Nr w
 |some (.exit i)=>i=x∧Nx w
 |_=>False
def Zw0 (P:Program) (gv:Value) (n x:Nat) (w:World) (B:List Value→(World→(World→Prop)→Prop)→(World→Prop)→(World→Prop)→(World→Prop)→World→Prop) (Nn Nr Nx:Nat→World→Prop):Prop:=
 ∃gf lb,gv= .func (.func gf) #[] lb∧∀(l D:Nat) (w1:World) (RR:LoopState→Option Code→World→Prop),D=w.heap.size→l=w.heap.size+1→Ext w w1→w1.heap.size=w.heap.size+2→w1.heap[D]?=some (.deferred (some []))→
  (∀st pe w' w'',RR st pe w'→w''.heap[l]?=w'.heap[l]?→RR st pe w'')→RR .ready none w1→
  (∀(args:List Value) (w':World) (K:Value→World→Prop),args.length=n→RR .ready none w'→
   B args (fun w1 k=>RR .ready none w1∧∀w2,Same (· =l) w1 w2→w2.heap.size=w1.heap.size→RR .busy none w2→k w2)
    (fun w3=>RR .busy none w3∧∀w4,Same (· =l) w3 w4→w4.heap.size=w3.heap.size→RR .ready none w4→K (.bool true) w4)
    (fun w3=>RR .busy none w3∧∀w4,Same (· =l) w3 w4→w4.heap.size=w3.heap.size→RR .done (some .ret) w4→K (.bool false) w4)
    (fun w3=>RR .busy none w3∧∀w4,Same (· =l) w3 w4→w4.heap.size=w3.heap.size→RR .done (some (.exit x)) w4→K (.bool false) w4) w'→
   vcallv P (.func (.yield l) #[] #[]) ⟨args⟩ w' K)→
  vcall P gf ⟨.func (.yield l) #[] #[]::lb.toList⟩ w1 fun _ w3=> ∃st pe,st≠ .busy∧RR st pe w3∧∀w4,Same (· =l) w3 w4→w4.heap.size=w3.heap.size→jmp x (Nn D) (Nr D) (Nx D) pe w4
def rndK (x:Nat) (kn kr kx:World→Prop) (e:Exit) (_:Fr) (w:World):Prop:=
 match e with
 | .normal=>kn w
 | .ret=>kr w
 | .exit i=>cond (Nat.beq i x) (kx w) False
 |_=>False
def vx (P:Program) (T:Ann) (x:Nat):Code→(Exit→Fr→World→Prop)→(Nat→Exit→Fr→World→Prop)→Fr→World→Prop
 | .rangeFunc g ps asg body,_,K1,f,w=>
  Zw0 P (ev f g) ps.size x w
   (fun args beg kn kr kx w'=>vc P T asg (seqK (fun f1 w1=>beg w1 fun w2=>vc P T body (rndK x kn kr kx) f1 w2) (fun _ _ _=>False)) (ovrAt ps.toList f args) w')
   (fun D w'=>K1 D .normal f w') (fun D w'=>K1 D .ret f w') (fun D w'=>K1 D (.exit x) f w')
 | .seq a b,K0,K1,f,w=>
  match hasR a with
  |true=>vx P T x a (seqK (fun f' w'=>vc P T b K0 f' w') K0) (fun D=>seqK (fun f' w'=>vc P T b (K1 D) f' w') (K1 D)) f w
  |false=>vc P T a (seqK (fun f' w'=>vx P T x b K0 K1 f' w') K0) f w
 | .block id c,K0,K1,f,w=>vx P T x c (blkK id K0) (fun D=>blkK id (K1 D)) f w
 |_,_,_,_,_=>False
def okX (n:Nat) (T:Ann):Code→Bool
 | .rangeFunc _ ps asg body=>okC n T asg&&(okC n T body&&ps.toList.all fun p=>Nat.blt p n)
 | .seq a b=>cond (hasR a) (okX n T a&&okC n T b) (okC n T a&&okX n T b)
 | .block _ c=>okX n T c
 |_=>false
def ZG0 (D:Nat):Deferred:={target:= .collected D,args:= #[]}
def ks0 (n:Nat) (K0:Exit→Fr→World→Prop) (K1:Nat→Exit→Fr→World→Prop) (e:Exit) (a:Act) (w:World):Prop:=
 (∃f',Sim [] n f' a∧K0 e f' w)∨ ∃D f',Sim [ZG0 D] n f' a∧K1 D e f' w
section
variable {P:Program} {T:Ann} {n x:Nat}
theorem kT0:∀(ps:List Nat) (f:Fr) (args:List Value) (tmps:Array Value),args.length=ps.length→ps.all (fun p=>Nat.blt p n)=true→tmps.size=n→(∀t,tmps.getD t undef=f t)→
  Sim [] n (ovrAt ps f args) {tmps:=(ps.zip args).foldl (fun t p=>t.setIfInBounds p.1 p.2) tmps,defers:=[]}:=by
 intro ps
 induction ps with
 |nil=>intro f args tmps _ _ hs ha;exact⟨hs,rfl,ha⟩
 |cons p r ih=>
  intro f args tmps hl hp hs ha
  cases args with
  |nil=>simp at hl
  |cons v args=>
   simp only[List.all_cons,Bool.and_eq_true] at hp
   have hpn:p<n:=by simpa[Nat.blt_eq] using hp.1
   refine ih (put f (some p) v) args (tmps.setIfInBounds p v) (by simpa using hl) hp.2 (by simpa using hs) fun t=>?_
   by_cases e:t=p
   ·subst e
    rw[Wp]
    simp[Array.getD_eq_getD_getElem?,hs,hpn]
   ·rw[zb0 _ _ _ _ e,←ha t]
    simp only[Array.getD_eq_getD_getElem?]
    rw[Array.getElem?_setIfInBounds_ne (Ne.symm e)]
theorem Q8 (w:World) (l:Nat) (o:Obj):Same (· =l) w (w.putObj l o):=
 ⟨rfl,rfl,rfl,by simp,fun _ _ hb=>World.putObj_heap_other hb⟩
theorem Qc {w:World} {l:Nat} {o:Obj} (h:w.heap[l]?=some o):l<w.heap.size:=(Array.getElem?_eq_some_iff.1 h).1
theorem range_sound (hm:P.follows .mixedOrders=true) {g:Operand} {ps:Array Tmp} {asg body:Code} {K0:Exit→Fr→World→Prop} {K1:Nat→Exit→Fr→World→Prop} {f:Fr} {a:Act} {w:World}
  (hok:okX n T (.rangeFunc g ps asg body)=true) (h:vx P T x (.rangeFunc g ps asg body) K0 K1 f w) (hs:Sim [] n f a):(Code.rangeFunc g ps asg body).wpIn (FR none) 0 P (ks0 n K0 K1) a w:=by
 simp only[okX,Bool.and_eq_true] at hok
 obtain⟨ho1,ho2,ho3⟩:=hok
 obtain⟨gf,lb,hg,H⟩:=h
 refine wpIn_rangeFunc fun fn _=>?_
 let rec0:LoopState→Option Code→Loop:=fun st pe=>{state:=st,pending:=pe,fn,tmps:=a.tmps,params:=ps,assign:=asg,body,defers:=w.heap.size}
 obtain⟨w1,hw1⟩:∃w1,(w.alloc (.deferred (some []))).alloc (.loop (rec0 .ready none))=w1:=⟨_,rfl⟩
 have hL1:w1.heap[w.heap.size+1]?=some (.loop (rec0 .ready none)):=by
  rw[←hw1];have:=World.alloc_heap_new (w.alloc (.deferred (some []))) (.loop (rec0 .ready none));rwa[World.size_alloc] at this
 have hD1:w1.heap[w.heap.size]?=some (.deferred (some [])):=by
  rw[←hw1];exact(Below.heap_alloc _ _ _ (by simp)).trans (World.alloc_heap_new w _)
 have hsz1:w1.heap.size=w.heap.size+2:=by rw[←hw1,World.size_alloc,World.size_alloc]
 have hE1:Ext w w1:=by
  rw[←hw1]
  exact⟨rfl,rfl,rfl,by rw[World.size_alloc,World.size_alloc];omega,fun b hb _=>(Below.heap_alloc _ _ b (by rw[World.size_alloc];omega)).trans (Below.heap_alloc w _ b hb)⟩
 have hc:=H (w.heap.size+1) w.heap.size w1 (fun st pe w'=>w'.heap[w.heap.size+1]?=some (.loop (rec0 st pe))) rfl rfl hE1 hsz1 hD1 (fun st pe w' w'' hr he=>he.trans hr) hL1 ?_
 ·obtain⟨hgf,hcall⟩:=hc
  refine⟨w.heap.size+1,[ZG0 w.heap.size],w1,{target:= .fn (.func gf) lb,args:= #[.func (.yield (w.heap.size+1)) #[] #[]]},w1,gf,
   #[.func (.yield (w.heap.size+1)) #[] #[]]++lb,w1,?_,?_,fun _ _=>trivial,?_,fun h=>(by cases h),?_⟩
  ·rw[←hw1];exact run_enterLoop_outer _ _ _ _ _
  ·simp only[resolve,hs.eval,hg]
   simp[go_sem,ev]
  ·simp[invoke,go_sem,callFunc_run hgf]
  ·have e:(#[.func (.yield (w.heap.size+1)) #[] #[]]++lb:Array Value)=⟨.func (.yield (w.heap.size+1)) #[] #[]::lb.toList⟩:=by apply Array.toList_inj.1;simp
   rw[e]
   refine callsIn_wide.2 (Calls.mono hcall fun e w3 he=>?_)
   cases e with
   |returned v=>
    obtain⟨st,pe,hst,hr,hN⟩:=he
    have hend:=run_endLoop (P:=P) hr (by exact hst)
    have hN':=hN _ (Q8 w3 _ (.loop {rec0 st pe with state:= .exhausted})) (by simp)
    have hs':Sim [ZG0 w.heap.size] n f {a with defers:=[ZG0 w.heap.size]++a.defers}:=⟨hs.size,by rw[hs.defers];rfl,hs.at_⟩
    refine⟨pe,_,hend,?_⟩
    cases pe with
    |none=>exact .inr ⟨_,f,hs',hN'⟩
    |some c=>
     cases c<;>simp only[jmp] at hN'<;>try exact hN'.elim
     case exit i=>
      obtain⟨rfl,hN'⟩:=hN'
      exact wpIn_exit (.inr ⟨_,f,hs',hN'⟩)
     case ret=>exact wpIn_ret (.inr ⟨_,f,hs',hN'⟩)
   |panicked c=>exact he.elim
   |outgrown=>exact he.elim
 ·intro args w' K hlen hr hB
  have hy:=run_yield (P:=P) (args:=(⟨args⟩:Array Value)) hr (by simpa[rec0] using hlen)
  refine⟨fn,_,asg,body,hy,roundIn_of_wpIn trivial ?_⟩
  have hsim:=kT0 (n:=n) ps.toList f args a.tmps (by simpa using hlen) ho3 hs.size hs.at_
  have ez:((rec0 .ready none).params.zip (⟨args⟩:Array Value)).foldl (fun tmps (t,a)=>tmps.setIfInBounds t a) (rec0 .ready none).tmps=(ps.toList.zip args).foldl (fun t p=>t.setIfInBounds p.1 p.2) a.tmps:=by
   rw[←Array.foldl_toList,Array.toList_zip]
  rw[ez]
  have h1:=vc_sound (ro:=some (w.heap.size+1)) hm asg _ _ _ w' ho1 hB hsim (fun l f w h=>h)
  refine wpIn_mono h1 ?_
  rintro e a2 w2 ⟨f2,hs2,_,hk⟩
  cases e<;>simp only[seqK] at hk<;>try exact hk.elim
  case normal=>
   obtain⟨hr2,hk⟩:=hk
   refine⟨_,run_beginRound hr2 rfl,?_⟩
   have hlt:=Qc hr2
   have hk2:=hk _ (Q8 w2 _ (.loop {rec0 .ready none with state:= .busy})) (by simp) (World.putObj_heap_same hlt)
   refine wpIn_mono (vc_sound (ro:=some (w.heap.size+1)) hm body _ _ _ _ ho2 hk2 hs2 (fun l f w h=>h)) ?_
   rintro e a3 w3 ⟨f3,hs3,_,hk3⟩
   cases e<;>simp only[rndK] at hk3<;>try exact hk3.elim
   case normal=>
    obtain⟨hr3,hk4⟩:=hk3
    exact⟨_,_,run_endRound none hr3,hk4 _ (Q8 w3 _ _) (by simp) (World.putObj_heap_same (Qc hr3))⟩
   case ret=>
    obtain⟨hr3,hk4⟩:=hk3
    exact⟨_,_,run_endRound (some .ret) hr3,hk4 _ (Q8 w3 _ _) (by simp) (World.putObj_heap_same (Qc hr3))⟩
   case exit i=>
    cases hi:Nat.beq i x
    ·rw[hi] at hk3;exact hk3.elim
    ·rw[hi] at hk3
     obtain rfl:=Nat.eq_of_beq_eq_true hi
     obtain⟨hr3,hk4⟩:=hk3
     exact⟨_,_,run_endRound (some (.exit i)) hr3,hk4 _ (Q8 w3 _ _) (by simp) (World.putObj_heap_same (Qc hr3))⟩
theorem jE0 (hm:P.follows .mixedOrders=true):∀(c:Code) (K0:Exit→Fr→World→Prop) (K1:Nat→Exit→Fr→World→Prop) (f:Fr) (a:Act) (w:World),okX n T c=true→vx P T x c K0 K1 f w→Sim [] n f a→
  (∀l f w,¬K0 (.goto l) f w)→(∀D l f w,¬K1 D (.goto l) f w)→c.wpIn (FR none) 0 P (ks0 n K0 K1) a w:=by
 intro c
 induction c with
 |rangeFunc g ps asg body _ _=>intro K0 K1 f a w hok h hs _ _;exact range_sound hm hok h hs
 |seq y z ihy ihz=>
  intro K0 K1 f a w hok h hs hg0 hg1
  refine wpIn_seq ?_
  simp only[okX] at hok
  simp only[vx] at h
  cases hy:hasR y with
  |true=>
   rw[hy] at hok h
   simp only[cond,Bool.and_eq_true] at hok
   simp only at h
   refine wpIn_mono (ihy _ _ f a w hok.1 h hs (fun l f w h=>hg0 l f w h) (fun D l f w h=>hg1 D l f w h)) ?_
   rintro e a' w' (⟨f',hs',hk⟩|⟨D,f',hs',hk⟩)
   ·cases e with
    |normal=>
     refine wpIn_mono (vc_sound hm z K0 f' a' w' hok.2 hk hs' hg0) ?_
     rintro e a'' w'' ⟨f'',hs'',_,hk'⟩
     exact .inl ⟨f'',hs'',hk'⟩
    |_=>exact .inl ⟨f',hs',hk⟩
   ·cases e with
    |normal=>
     refine wpIn_mono (vc_sound hm z (K1 D) f' a' w' hok.2 hk hs' (hg1 D)) ?_
     rintro e a'' w'' ⟨f'',hs'',_,hk'⟩
     exact .inr ⟨D,f'',hs'',hk'⟩
    |_=>exact .inr ⟨D,f',hs',hk⟩
  |false=>
   rw[hy] at hok h
   simp only[cond,Bool.and_eq_true] at hok
   simp only at h
   refine wpIn_mono (vc_sound hm y _ f a w hok.1 h hs (fun l f w h=>hg0 l f w h)) ?_
   rintro e a' w' ⟨f',hs',_,hk⟩
   cases e with
   |normal=>exact ihz K0 K1 f' a' w' hok.2 hk hs' hg0 hg1
   |_=>exact .inl ⟨f',hs',hk⟩
 |block id b ih=>
  intro K0 K1 f a w hok h hs hg0 hg1
  simp only[vx] at h
  refine wpIn_block (wpIn_mono (ih _ _ f a w hok h hs (fun l f w h=>hg0 l f w h) (fun D l f w h=>hg1 D l f w h)) ?_)
  have key:∀(K:Exit→Fr→World→Prop) (e:Exit) (f':Fr) (w':World),blkK id K e f' w'→∀(df:List Deferred) (a':Act),Sim df n f' a'→(∀e f w a,Sim df n f a→K e f w→ks0 n K0 K1 e a w)→Exit.inBlock id (ks0 n K0 K1) e a' w':=by
   intro K e f' w' hk df a' hs' hP
   cases e with
   |exit i=>
    simp only[blkK] at hk
    cases hi:Nat.beq i id
    ·rw[hi] at hk
     have hne:i≠id:=Nat.ne_of_beq_eq_false hi
     simp only[Exit.inBlock,hne,if_false]
     exact hP _ _ _ _ hs' hk
    ·rw[hi] at hk
     have:i=id:=Nat.eq_of_beq_eq_true hi
     subst this
     simp only[Exit.inBlock,if_true]
     exact hP _ _ _ _ hs' hk
   |_=>exact hP _ _ _ _ hs' hk
  rintro e a' w' (⟨f',hs',hk⟩|⟨D,f',hs',hk⟩)
  ·exact key K0 e f' w' hk [] a' hs' fun e f w a hs h=> .inl ⟨f,hs,h⟩
  ·exact key (K1 D) e f' w' hk [ZG0 D] a' hs' fun e f w a hs h=> .inr ⟨D,f,hs,h⟩
 |_=>intro K0 K1 f a w hok;exact absurd hok (by simp[okX])
def xQ0 (D:Nat) (w:World) (k:World→Prop):Prop:=w.heap[D]?=some (.deferred (some []))∧∀w',Same (· =D) w w'→w'.heap.size=w.heap.size→k w'
def retM (P:Program) (rs:List ResultVar) (K:Value→World→Prop) (D:Nat) (e:Exit) (f:Fr) (w:World):Prop:=
 match e with
 | .normal=>xQ0 D w fun w'=>Zg0 P rs f w' K
 | .ret=>xQ0 D w fun w'=>Zg0 P rs f w' K
 |_=>False
theorem yE0 {g:Nat} {fn:Func} {c:Code} {args:List Value} {w:World} {K:Value→World→Prop} (hm:P.follows .mixedOrders=true) (hf:P.funcs[g]?=some fn) (hb:fn.body=some c)
  (hn:fn.ntmps=n) (hg:okFn P g=true) (hok:okX n T c=true) (hlen:Nat.ble args.length n=true)
  (h:vx P T x c (retF P fn.results.toList K) (retM P fn.results.toList K) (nthV args) w):vcall P g args.toArray w K:=by
 refine⟨hg,callsIn_wide (n:=0).1 (callsIn_of_wp_marks hf hb trivial ?_)⟩
 rw[hn]
 refine wpIn_mono (jE0 (x:=x) hm c _ _ _ _ w hok h (sim_enter args n (Nat.le_of_ble_eq_true hlen)) (fun l f w h=>h) (fun D l f w h=>h)) ?_
 rintro e a' w' (⟨f',hs',hk⟩|⟨D,f',hs',hk⟩)
 ·cases e with
  |normal=>obtain⟨v,hr,hv⟩:=vres_sound hk hs';rw[bodyPostM,hs'.defers];exact⟨v,hr,hv⟩
  |ret=>obtain⟨v,hr,hv⟩:=vres_sound hk hs';rw[bodyPostM,hs'.defers];exact⟨v,hr,hv⟩
  |_=>exact hk.elim
 ·have fin:xQ0 D w' (fun w'=>Zg0 P fn.results.toList f' w' K)→LeavesInM (FR none) 0 P fn a'.tmps (retK K) a'.defers .returning w':=by
   rintro⟨h1,h2⟩
   rw[hs'.defers]
   obtain⟨v,hr,hv⟩:=vres_sound (h2 _ (Q8 w' D (.deferred none)) (by simp)) hs'
   exact⟨by simp,.inl ⟨_,_,rfl,run_takeDeferred h1,v,hr,hv⟩⟩
  cases e with
  |normal=>exact fin hk
  |ret=>exact fin hk
  |_=>exact hk.elim
end
end Go.Vc
end
section
namespace Go.M
inductive Tm where
 |mk (op a b:Int) (s:ByteArray) (ks:List Tm)
namespace Tm
def op:Tm→Int|mk o _ _ _ _=>o
def a:Tm→Int|mk _ a _ _ _=>a
def b:Tm→Int|mk _ _ b _ _=>b
def s:Tm→ByteArray|mk _ _ _ s _=>s
def ks:Tm→List Tm|mk _ _ _ _ ks=>ks
theorem ind {p:Tm→Prop} (h:∀t,(∀k,k∈t.ks→p k)→p t):∀t,p t
 |mk o a b s ks=>h _ fun k (hk:k∈ks)=>by
   have:=List.sizeOf_lt_of_mem hk
   exact ind h k
decreasing_by
 simp only[mk.sizeOf_spec]
 omega
variable {α:Type}
mutual
def fold (f:Tm→List α→α):Tm→α
 |mk o a b s ks=>f (mk o a b s ks) (foldL f ks)
def foldL (f:Tm→List α→α):List Tm→List α
 |[]=>[]
 |k::r=>fold f k::foldL f r
end
theorem foldL_eq (f:Tm→List α→α) (ks:List Tm):foldL f ks=ks.map (fold f):=by
 induction ks with
 |nil=>simp only[foldL,List.map_nil]
 |cons k r ih=>simp only[foldL,ih,List.map_cons]
theorem fold_eq (f:Tm→List α→α) (t:Tm):fold f t=f t (t.ks.map (fold f)):=by
 cases t with
 |mk o a b s ks=>simp only[fold,foldL_eq];rfl
end Tm
def nada:ByteArray:=⟨#[]⟩
instance:Inhabited Tm:=⟨.mk 0 0 0 nada []⟩
def vok (w n:Int):Bool:=decide (1≤w)&&decide (w≤4)&&decide (0≤n)&&decide (n<2^w.toNat)
theorem vok_iff {w n:Int}:vok w n=true↔1≤w∧w≤4∧0≤n∧n<2^w.toNat:=by simp[vok,and_assoc]
theorem two1:(2:Int)^(1:Int).toNat=2:=rfl
theorem two2:(2:Int)^(2:Int).toNat=4:=rfl
theorem two3:(2:Int)^(3:Int).toNat=8:=rfl
theorem two4:(2:Int)^(4:Int).toNat=16:=rfl
theorem four {w:Int} (h1:1≤w) (h2:w≤4):w=1∨w=2∨w=3∨w=4:=by omega
theorem vok_lt {w n:Int} (h:vok w n=true):1≤w∧w≤4∧0≤n∧n<16:=by
 obtain⟨h1,h2,h3,h4⟩:=vok_iff.1 h
 refine⟨h1,h2,h3,?_⟩
 rcases four h1 h2 with rfl|rfl|rfl|rfl<;>simp only[two1,two2,two3,two4] at h4<;>omega
def unM (op w a:Int):Int:=if op=1 then 2^w.toNat-1-a else(2^w.toNat-a)%2^w.toNat
def binN (op w a b:Nat):Nat:=
 if op=3 then a&&&b
 else if op=4 then a|||b
 else if op=5 then a^^^b
 else if op=6 then(a+b)%2^w
 else if op=7 then(a+2^w-b)%2^w
 else if op=8 then a*b%2^w
 else if op=9 then(if b=0 then 2^w-1 else a/b)
 else if op=10 then(if b=0 then a else a%b)
 else if op=11 then a*2^b%2^w
 else if op=12 then a/2^b
 else if a<2^(w-1) then a/2^b else 2^w-1-(2^w-1-a)/2^b
def binM (op w a b:Int):Int:=binN op.toNat w.toNat a.toNat b.toNat
def catM (v a b:Int):Int:=a*2^v.toNat+b
def sgn (w a:Int):Int:=if a<2^(w.toNat-1) then a else a-2^w.toNat
def cmpM (op w a b:Int):Bool:=if op=15 then decide (a=b) else if op=16 then decide (a<b) else decide (sgn w a<sgn w b)
def cutM (a hi lo:Int):Int:=a/2^lo.toNat%2^(hi-lo+1).toNat
def vecUn (op w n:Int):(Int×Int)×Bool:=if vok w n=true∧(op=1∨op=2) then((w,unM op w n),true) else((0,0),false)
def vecBin (op w n v m:Int):(Int×Int)×Bool:=
 if vok w n=true∧vok v m=true then
  if op=14 then(if w+v≤4 then((w+v,catM v n m),true) else((0,0),false))
  else if 3≤op∧op≤13∧w=v then((w,binM op w n m),true) else((0,0),false)
 else((0,0),false)
def vecCmp (op w n v m:Int):Bool×Bool:=
 if vok w n=true∧vok v m=true∧w=v∧15≤op∧op≤17 then(cmpM op w n m,true) else(false,false)
def vecCut (w n hi lo:Int):(Int×Int)×Bool:=if vok w n=true∧0≤lo∧lo≤hi∧hi<w then((hi-lo+1,cutM n hi lo),true) else((0,0),false)
theorem vok_nat {w n:Int} (h:vok w n=true):∃k a:Nat,w=k∧n=a∧1≤k∧k≤4∧a<2^k:=by
 obtain⟨h1,h2,h3,h4⟩:=vok_iff.1 h
 refine⟨w.toNat,n.toNat,by omega,by omega,by omega,by omega,?_⟩
 have:((2^w.toNat:Nat):Int)=2^w.toNat:=by simp
 omega
theorem unM_not {k a:Nat} (h1:1≤k) (h2:k≤4) (h:a<2^k):unM 1 k a=((18446744073709551615-a)%2^k:Nat):=by
 have hall:∀v:Fin 5,∀x:Fin 16,1≤v.1→x.1<2^v.1→unM 1 v.1 x.1=((18446744073709551615-x.1)%2^v.1:Nat):=by decide+kernel
 have:2^k≤2^4:=Nat.pow_le_pow_right (by omega) h2
 exact hall ⟨k,by omega⟩ ⟨a,by omega⟩ h1 h
theorem unM_neg {k a:Nat} (h1:1≤k) (h2:k≤4) (h:a<2^k):unM 2 k a=((if a=0 then 0 else 18446744073709551616-a)%2^k:Nat):=by
 have hall:∀v:Fin 5,∀x:Fin 16,1≤v.1→x.1<2^v.1→unM 2 v.1 x.1=((if x.1=0 then 0 else 18446744073709551616-x.1)%2^v.1:Nat):=by decide+kernel
 have:2^k≤2^4:=Nat.pow_le_pow_right (by omega) h2
 exact hall ⟨k,by omega⟩ ⟨a,by omega⟩ h1 h
theorem cat_or {k v a b:Nat} (h2:v≤4) (hk:k≤4) (ha:a<2^k) (hb:b<2^v):((a*2^v|||b:Nat):Int)=catM v a b:=by
 have hall:∀v:Fin 5,∀x y:Fin 16,y.1<2^v.1→x.1*2^v.1|||y.1=x.1*2^v.1+y.1:=by decide+kernel
 have h4:2^k≤2^4:=Nat.pow_le_pow_right (by omega) hk
 have h5:2^v≤2^4:=Nat.pow_le_pow_right (by omega) h2
 have:=hall ⟨v,by omega⟩ ⟨a,by omega⟩ ⟨b,by omega⟩ hb
 simp only at this
 rw[this]
 simp[catM]
end Go.M
end
section
namespace Go.M
open Go.Vc
abbrev Dcl:=ByteArray×Int
def findD (ds:List Dcl) (s:ByteArray):Int:=idxI ds.length fun i=>decide ((ds.getD i (nada,0)).1=s)
def tru:ByteArray:=⟨#[116,114,117,101]⟩
def nameOk (s:ByteArray):Bool:=decide (1≤s.size)&&decide (s.size≤4)&&decide (s≠tru)&&s.data.all fun c=>decide (97≤c.toNat)&&decide (c.toNat≤122)
def bits (ds:List Dcl):Int:=(ds.map (·.2)).sum
def dclOk (ds:List Dcl) (i:Nat):Bool:=nameOk (ds.getD i (nada,0)).1&&decide (1≤(ds.getD i (nada,0)).2)&&decide ((ds.getD i (nada,0)).2≤4)&&decide (findD (ds.take i) (ds.getD i (nada,0)).1<0)
def declOk (ds:List Dcl):Bool:=decide (ds.length≤4)&&((List.range ds.length).all fun i=>dclOk ds i)&&decide (bits ds≤8)
theorem findD_lt (ds:List Dcl) (s:ByteArray): -1≤findD ds s∧findD ds s<ds.length:=by
 unfold findD idxI
 split
 ·rename_i i h
  have:=List.mem_of_find?_eq_some h
  simp at this
  omega
 ·omega
theorem findD_neg {ds:List Dcl} {s:ByteArray} (h:findD ds s<0) {j:Nat} (hj:j<ds.length):(ds.getD j (nada,0)).1≠s:=by
 unfold findD idxI at h
 split at h
 ·omega
 ·rename_i hn
  rw[List.find?_eq_none] at hn
  have:=hn j (List.mem_range.2 hj)
  simpa using this
theorem findD_get {ds:List Dcl} {s:ByteArray} (h:0≤findD ds s):(ds.getD (findD ds s).toNat (nada,0)).1=s:=by
 unfold findD idxI at h⊢
 split at h
 ·rename_i i hi
  have:=List.find?_some hi
  simpa using this
 ·omega
theorem findD_of {ds:List Dcl} {s:ByteArray} {i:Nat} (hi:i<ds.length) (h:(ds.getD i (nada,0)).1=s) (hl:∀j,j<i→(ds.getD j (nada,0)).1≠s):findD ds s=i:=
 idxI_some hi (by simp only[h,decide_true]) fun j hj=>decide_eq_false (hl j hj)
theorem findD_none {ds:List Dcl} {s:ByteArray} (hl:∀j,j<ds.length→(ds.getD j (nada,0)).1≠s):findD ds s= -1:=
 WN fun j hj=>decide_eq_false (hl j hj)
theorem decl_iff {ds:List Dcl}:declOk ds=true↔ds.length≤4∧(∀i,i<ds.length→dclOk ds i=true)∧bits ds≤8:=by
 simp only[declOk,Bool.and_eq_true,List.all_eq_true,List.mem_range,decide_eq_true_eq,and_assoc]
theorem take_getD {α:Type} {l:List α} {i j:Nat} {d:α} (h:j<i):(l.take i).getD j d=l.getD j d:=by
 simp[List.getD_eq_getElem?_getD,List.getElem?_take,h]
theorem dcl_apart {ds:List Dcl} (h:declOk ds=true) {i j:Nat} (hi:i<ds.length) (hj:j<i):(ds.getD j (nada,0)).1≠(ds.getD i (nada,0)).1:=by
 have:=(decl_iff.1 h).2.1 i hi
 simp only[dclOk,Bool.and_eq_true,decide_eq_true_eq] at this
 have h2:=findD_neg this.2 (j:=j) (by rw[List.length_take];omega)
 rwa[take_getD hj] at h2
def bitT (ds:List Dcl) (i:Nat):Int:=((ds.take i).map (·.2)).sum
theorem bitT_succ {ds:List Dcl} {i:Nat} (h:i<ds.length):bitT ds (i+1)=bitT ds i+(ds.getD i (nada,0)).2:=by
 unfold bitT
 rw[List.take_add_one,List.getElem?_eq_getElem h,List.map_append,List.sum_append,List.getD_eq_getElem?_getD,List.getElem?_eq_getElem h]
 simp
theorem bitT_all (ds:List Dcl):bitT ds ds.length=bits ds:=by unfold bitT bits;rw[List.take_length]
theorem dcl_wide {ds:List Dcl} (h:declOk ds=true) {i:Nat} (hi:i<ds.length):1≤(ds.getD i (nada,0)).2∧(ds.getD i (nada,0)).2≤4:=by
 simp only[declOk,Bool.and_eq_true,List.all_eq_true,List.mem_range,dclOk,decide_eq_true_eq] at h
 obtain⟨⟨_,h2⟩,_⟩:=h
 exact⟨(h2 i hi).1.1.2,(h2 i hi).1.2⟩
def sizeM:Tm→Nat:=Tm.fold fun _ xs=>1+xs.sum
def deepM:Tm→Nat:=Tm.fold fun _ xs=>1+xs.foldl max 0
theorem sizeM_eq (t:Tm):sizeM t=1+(t.ks.map sizeM).sum:=Tm.fold_eq _ t
theorem kl0 (t:Tm):deepM t=1+(t.ks.map deepM).foldl max 0:=Tm.fold_eq _ t
def szT (ks:List Tm) (i:Nat):Nat:=((ks.take i).map sizeM).sum
def dpT (ks:List Tm) (i:Nat):Nat:=((ks.take i).map deepM).foldl max 0
theorem take_add {α:Type} {l:List α} {i:Nat} (h:i<l.length) (d:α):l.take (i+1)=l.take i++[l.getD i d]:=by
 rw[List.take_add_one,List.getElem?_eq_getElem h,List.getD_eq_getElem?_getD,List.getElem?_eq_getElem h];rfl
theorem szT_succ {ks:List Tm} {i:Nat} (h:i<ks.length):szT ks (i+1)=szT ks i+sizeM (ks.getD i default):=by
 unfold szT;rw[take_add h default,List.map_append,List.sum_append];simp
theorem dpT_succ {ks:List Tm} {i:Nat} (h:i<ks.length):dpT ks (i+1)=max (dpT ks i) (deepM (ks.getD i default)):=by
 unfold dpT;rw[take_add h default,List.map_append,List.foldl_append];rfl
theorem szT_all (t:Tm):sizeM t=1+szT t.ks t.ks.length:=by rw[sizeM_eq,szT,List.take_length]
theorem dpT_all (t:Tm):deepM t=1+dpT t.ks t.ks.length:=by rw[kl0,dpT,List.take_length]
theorem szT_mono {ks:List Tm} {i:Nat}:∀{j:Nat},i≤j→j≤ks.length→szT ks i≤szT ks j
 |0,h,_=>by
  have:i=0:=by omega
  subst this;exact Nat.le_refl _
 |j+1,h,hj=>by
  by_cases e:i=j+1
  ·subst e;exact Nat.le_refl _
  ·have:=szT_mono (ks:=ks) (i:=i) (j:=j) (by omega) (by omega)
   rw[szT_succ (by omega)];omega
theorem dpT_mono {ks:List Tm} {i:Nat}:∀{j:Nat},i≤j→j≤ks.length→dpT ks i≤dpT ks j
 |0,h,_=>by
  have:i=0:=by omega
  subst this;exact Nat.le_refl _
 |j+1,h,hj=>by
  by_cases e:i=j+1
  ·subst e;exact Nat.le_refl _
  ·have:=dpT_mono (ks:=ks) (i:=i) (j:=j) (by omega) (by omega)
   rw[dpT_succ (by omega)];omega
def fits (t:Tm):Bool:=decide (sizeM t≤20)&&decide (deepM t≤7)
theorem fits_iff {t:Tm}:fits t=true↔sizeM t≤20∧deepM t≤7:=by simp[fits]
def manyM (t:Tm):Nat:=if fits t then sizeM t else 21
def lvlM (t:Tm):Nat:=if fits t then deepM t else 8
def arity (o:Int):Int:=if o=20∨o=21∨o=24 then 0 else if o=1∨o=2∨o=22∨o=25 then 1 else if o=23 then 3 else if o=26∨o=27 then 2 else if 3≤o∧o≤17 then 2 else-1
def plainM (t:Tm):Bool:=(decide (t.op=20)||decide (t.op=22)||(decide (t.a=0)&&decide (t.b=0)))&&(decide (t.op=21)||decide (t.s=nada))
def sortK (ds:List Dcl) (t:Tm) (xs:List Int):Int:=
 if t.op=20 then(if vok t.a t.b then t.a else-1)
 else if t.op=21 then(if findD ds t.s<0 then-1 else(ds.getD (findD ds t.s).toNat (nada,0)).2)
 else if 24≤t.op then(if xs.any (fun x=>decide (x≠0)) then-1 else 0)
 else if t.op=23 then(if xs.getD 0 0=0∧xs.getD 1 0=xs.getD 2 0 then xs.getD 1 0 else-1)
 else if t.op=22 then(if 0≤t.b∧t.b≤t.a∧t.a<xs.getD 0 0 then t.a-t.b+1 else-1)
 else if t.op≤2 then(if 0<xs.getD 0 0 then xs.getD 0 0 else-1)
 else if t.op=14 then(if 0<xs.getD 0 0∧0<xs.getD 1 0∧xs.getD 0 0+xs.getD 1 0≤4 then xs.getD 0 0+xs.getD 1 0 else-1)
 else if 15≤t.op then(if 0<xs.getD 0 0∧xs.getD 0 0=xs.getD 1 0 then 0 else-1)
 else(if 0<xs.getD 0 0∧xs.getD 0 0=xs.getD 1 0 then xs.getD 0 0 else-1)
def formed (t:Tm):Bool:=decide (arity t.op=t.ks.length)&&plainM t
def sortF (ds:List Dcl) (t:Tm) (xs:List Int):Int:=if formed t=true∧¬(-1∈xs) then sortK ds t xs else-1
def sortM (ds:List Dcl):Tm→Int:=Tm.fold (sortF ds)
theorem sortM_eq (ds:List Dcl) (t:Tm):sortM ds t=sortF ds t (t.ks.map (sortM ds)):=Tm.fold_eq _ t
theorem arity_ops {o:Int} (h:0≤arity o):(1≤o∧o≤17)∨(20≤o∧o≤27):=by
 unfold arity at h
 repeat' (split at h)
 all_goals omega
theorem getD_map {α β:Type} (f:α→β) {l:List α} {i:Nat} (h:i<l.length) (d:β) (e:α):(l.map f).getD i d=f (l.getD i e):=by
 simp[List.getD_eq_getElem?_getD,h]
theorem getD_mem {α:Type} {l:List α} {i:Nat} (h:i<l.length) (d:α):l.getD i d∈l:=by
 rw[List.getD_eq_getElem?_getD,List.getElem?_eq_getElem h];exact List.getElem_mem h
theorem sort_parts {ds:List Dcl} {t:Tm} (h:sortM ds t≠ -1):formed t=true∧(∀k,k∈t.ks→sortM ds k≠ -1)∧sortM ds t=sortK ds t (t.ks.map (sortM ds)):=by
 rw[sortM_eq] at h⊢
 unfold sortF at h⊢
 split at h
 ·rename_i hf
  rw[if_pos hf]
  exact⟨hf.1,fun k hk e=>hf.2 (e▸List.mem_map_of_mem hk),rfl⟩
 ·exact absurd rfl h
theorem sort_range {ds:List Dcl} (hd:declOk ds=true):∀t,-1≤sortM ds t∧sortM ds t≤4:=by
 refine Tm.ind fun t ih=>?_
 rw[sortM_eq]
 unfold sortF
 split
 ·rename_i hf
  have hx:∀i,-1≤(t.ks.map (sortM ds)).getD i 0∧(t.ks.map (sortM ds)).getD i 0≤4:=fun i=>by
   by_cases h:i<t.ks.length
   ·rw[getD_map _ h 0 default];exact ih _ (getD_mem h _)
   ·rw[List.getD_eq_getElem?_getD,List.getElem?_eq_none (by simpa using h)];simp
  have h0:=hx 0
  have h1:=hx 1
  have h2:=hx 2
  have har:=arity_ops (o:=t.op) (by
   have:=hf.1
   simp only[formed,Bool.and_eq_true,decide_eq_true_eq] at this
   omega)
  unfold sortK
  split
  ·split
   ·rename_i hv;have:=vok_lt hv;omega
   ·omega
  ·split
   ·have hfd:=findD_lt ds t.s
    split
    ·omega
    ·have:=dcl_wide hd (i:=(findD ds t.s).toNat) (by omega)
     omega
   ·repeat' split
    all_goals omega
 ·omega
def tsort (ds:List Dcl) (t:Tm):Int:=if fits t=true∧declOk ds=true then sortM ds t else-1
def b2i (b:Bool):Int:=if b then 1 else 0
def valK (ds:List Dcl) (env:List Int) (t:Tm) (xs:List (Int×Int)):Int:=
 if t.op=20 then t.b
 else if t.op=21 then env.getD (findD ds t.s).toNat 0
 else if t.op=24 then 1
 else if t.op=25 then b2i (decide ((xs.getD 0 (0,0)).2=0))
 else if t.op=26 then b2i (decide ((xs.getD 0 (0,0)).2=1)&&decide ((xs.getD 1 (0,0)).2=1))
 else if t.op=27 then b2i (decide ((xs.getD 0 (0,0)).2=1)||decide ((xs.getD 1 (0,0)).2=1))
 else if t.op=23 then(if(xs.getD 0 (0,0)).2=1 then(xs.getD 1 (0,0)).2 else(xs.getD 2 (0,0)).2)
 else if t.op=22 then cutM (xs.getD 0 (0,0)).2 t.a t.b
 else if t.op≤2 then unM t.op (xs.getD 0 (0,0)).1 (xs.getD 0 (0,0)).2
 else if t.op=14 then catM (xs.getD 1 (0,0)).1 (xs.getD 0 (0,0)).2 (xs.getD 1 (0,0)).2
 else if 15≤t.op then b2i (cmpM t.op (xs.getD 0 (0,0)).1 (xs.getD 0 (0,0)).2 (xs.getD 1 (0,0)).2)
 else binM t.op (xs.getD 0 (0,0)).1 (xs.getD 0 (0,0)).2 (xs.getD 1 (0,0)).2
def inS (w n:Int):Prop:=(w=0∧(n=0∨n=1))∨vok w n=true
theorem inS_pos {w n:Int} (h:inS w n) (hw:0<w):vok w n=true:=by
 rcases h with h|h
 ·omega
 ·exact h
end Go.M
end
section
namespace Go.Vc
open Go Go.M
section
variable {P:Program} {F F' S:Nat→Prop} {w w':World} {K:Value→World→Prop} {k:Nat} {v:Value} {xs:List (List Value)}
theorem Sl.ldAgg (h:Sl F w k v xs) {t:TypeId} (ht:aggB P t k=true) {i:Nat} (hi:i<xs.length):ze P t (.pointer (some (eaddr v k i))) w K=K (.agg ⟨xs.getD i []⟩) w:=by
 have hl:(xs.getD i []).length=k:=h.wide _ (M.getD_mem hi _)
 exact Ww (by rw[hl];exact ht) (Sl.cells h hi)
theorem Sl.ldField (h:Sl F w k v xs) {t:TypeId} (ht:oneB P t=true) {i j:Nat} {x:Value} (hi:i<xs.length) (hx:(xs.getD i [])[j]?=some x):ze P t (.pointer (some ((eaddr v k i).add j))) w K=K x w:=
 xF ht (Sl.cells h hi j x hx)
theorem Sl.small (h:Sl F w k v xs):xs.length≤9223372036854775807:=by
 obtain⟨_,_,_,h1,h2,_⟩:=h.shape;omega
end
inductive TmR (F:Nat→Prop) (w:World):List Value→Tm→Prop
 |mk {o a b:Int} {s:ByteArray} {ks:List Tm} {kv:Value} {css:List (List Value)}:Sl F w 5 kv css→css.length=ks.length→(∀i,i<ks.length→TmR F w (css.getD i []) (ks.getD i default))→
  TmR F w [.int .i64 o,.int .i64 a,.int .i64 b,.string s,kv] (.mk o a b s ks)
def TmsR (F:Nat→Prop) (w:World) (kv:Value) (ks:List Tm):Prop:= ∃css:List (List Value),Sl F w 5 kv css∧css.length=ks.length∧∀i,i<ks.length→TmR F w (css.getD i []) (ks.getD i default)
def TermR (F:Nat→Prop) (w:World) (v:Value) (t:Tm):Prop:= ∃kv,v= .agg ⟨[.int .i64 t.op,.int .i64 t.a,.int .i64 t.b,.string t.s,kv]⟩∧TmsR F w kv t.ks
def DclsR (F:Nat→Prop) (w:World) (v:Value) (ds:List Dcl):Prop:=Sl F w 2 v (ds.map fun d=>[.string d.1,.int .i64 d.2])
section
variable {P:Program} {F F' S:Nat→Prop} {w w':World} {K:Value→World→Prop} {v:Value} {cs:List Value} {t:Tm} {ks:List Tm} {ds:List Dcl}
theorem TmR.same (h:TmR F w cs t) (hw:Same S w w') (hs:∀b,F b→b<w.heap.size→¬S b):TmR F w' cs t:=by
 induction h with
 |mk h1 h2 h3 ih=>exact .mk (h1.same hw hs) h2 ih
theorem TmR.ext (h:TmR F w cs t) (hw:Ext w w'):TmR F w' cs t:=h.same hw fun _ _ _ h=>h
theorem TmR.weaken (h:TmR F w cs t) (hf:∀b,F b→b<w.heap.size→F' b):TmR F' w cs t:=by
 induction h with
 |mk h1 h2 h3 ih=>exact .mk (h1.weaken hf) h2 ih
theorem TmR.inv (h:TmR F w cs t):∃kv,cs=[.int .i64 t.op,.int .i64 t.a,.int .i64 t.b,.string t.s,kv]∧TmsR F w kv t.ks:=by
 cases h with
 |mk h1 h2 h3=>exact⟨_,rfl,_,h1,h2,h3⟩
theorem TmR.of {kv:Value} (h:TmsR F w kv t.ks):TmR F w [.int .i64 t.op,.int .i64 t.a,.int .i64 t.b,.string t.s,kv] t:=by
 obtain⟨css,h1,h2,h3⟩:=h
 cases t with
 |mk o a b s ks=>exact .mk h1 h2 h3
theorem TmR.term (h:TmR F w cs t):TermR F w (.agg ⟨cs⟩) t:=by
 obtain⟨kv,rfl,hk⟩:=h.inv
 exact⟨kv,rfl,hk⟩
theorem TermR.cells (h:TermR F w v t):∃cs,v= .agg ⟨cs⟩∧TmR F w cs t:=by
 obtain⟨kv,rfl,hk⟩:=h
 exact⟨_,rfl,TmR.of hk⟩
theorem TmsR.same (h:TmsR F w v ks) (hw:Same S w w') (hs:∀b,F b→b<w.heap.size→¬S b):TmsR F w' v ks:=by
 obtain⟨css,h1,h2,h3⟩:=h;exact⟨css,h1.same hw hs,h2,fun i hi=>(h3 i hi).same hw hs⟩
theorem TmsR.ext (h:TmsR F w v ks) (hw:Ext w w'):TmsR F w' v ks:=h.same hw fun _ _ _ h=>h
theorem TmsR.weaken (h:TmsR F w v ks) (hf:∀b,F b→b<w.heap.size→F' b):TmsR F' w v ks:=by
 obtain⟨css,h1,h2,h3⟩:=h;exact⟨css,h1.weaken hf,h2,fun i hi=>(h3 i hi).weaken hf⟩
theorem TermR.same (h:TermR F w v t) (hw:Same S w w') (hs:∀b,F b→b<w.heap.size→¬S b):TermR F w' v t:=by
 obtain⟨kv,h1,h2⟩:=h;exact⟨kv,h1,h2.same hw hs⟩
theorem TermR.ext (h:TermR F w v t) (hw:Ext w w'):TermR F w' v t:=h.same hw fun _ _ _ h=>h
theorem TermR.weaken (h:TermR F w v t) (hf:∀b,F b→b<w.heap.size→F' b):TermR F' w v t:=by
 obtain⟨kv,h1,h2⟩:=h;exact⟨kv,h1,h2.weaken hf⟩
theorem TmsR.small (h:TmsR F w v ks):ks.length≤9223372036854775807:=by
 obtain⟨css,h1,h2,h3⟩:=h;rw[←h2];exact h1.small
theorem TmsR.len (h:TmsR F w v ks) {t:TypeId} (ht:isSl P t=true) (ty:TypeId):vbi P .len [t] ty [v] w' K=K (.int .i64 ks.length) w':=by
 obtain⟨css,h1,h2,h3⟩:=h
 have:=Sl.len (K:=K) (w':=w') h1 ht ty;rwa[h2] at this
theorem TmsR.iaddr (h:TmsR F w v ks) {t:TypeId} (ht:elB P t 5=true) {kd:IntKind} {i:Int} (h0:0≤i) (h1:i<ks.length):
  zl P t v (.int kd i) w' K=K (.pointer (some (eaddr v 5 i.toNat))) w':=by
 obtain⟨css,h1',h2,h3⟩:=h
 exact Sl.iaddr h1' ht h0 (by rw[h2];exact h1)
theorem TmsR.load (h:TmsR F w v ks) {t:TypeId} (ht:aggB P t 5=true) {i:Nat} (hi:i<ks.length) (hK:∀x,TermR F w x (ks.getD i default)→K x w):ze P t (.pointer (some (eaddr v 5 i))) w K:=by
 obtain⟨css,h1,h2,h3⟩:=h
 rw[h1.ldAgg ht (by omega)]
 exact hK _ (h3 i hi).term
theorem TmsR.nil:TmsR F w (.slice none 0 0) []:=⟨[],⟨⟨none,0,rfl,by simp,by simp,by simp⟩,by simp⟩,rfl,by simp⟩
theorem DclsR.same (h:DclsR F w v ds) (hw:Same S w w') (hs:∀b,F b→b<w.heap.size→¬S b):DclsR F w' v ds:=Sl.same h hw hs
theorem DclsR.ext (h:DclsR F w v ds) (hw:Ext w w'):DclsR F w' v ds:=Sl.ext h hw
theorem DclsR.weaken (h:DclsR F w v ds) (hf:∀b,F b→b<w.heap.size→F' b):DclsR F' w v ds:=Sl.weaken h hf
theorem DclsR.len (h:DclsR F w v ds) {t:TypeId} (ht:isSl P t=true) (ty:TypeId):vbi P .len [t] ty [v] w' K=K (.int .i64 ds.length) w':=by
 have:=Sl.len (K:=K) (w':=w') h ht ty;rwa[List.length_map] at this
theorem DclsR.iaddr (h:DclsR F w v ds) {t:TypeId} (ht:elB P t 2=true) {kd:IntKind} {i:Int} (h0:0≤i) (h1:i<ds.length):
  zl P t v (.int kd i) w' K=K (.pointer (some (eaddr v 2 i.toNat))) w':=Sl.iaddr h ht h0 (by rw[List.length_map];exact h1)
theorem Ws {i:Nat} (hi:i<ds.length):(ds.map fun d=>[Value.string d.1,Value.int .i64 d.2]).getD i []=[.string (ds.getD i (nada,0)).1,.int .i64 (ds.getD i (nada,0)).2]:=M.getD_map _ hi _ _
theorem DclsR.load (h:DclsR F w v ds) {t:TypeId} (ht:aggB P t 2=true) {i:Nat} (hi:i<ds.length):ze P t (.pointer (some (eaddr v 2 i))) w K=K (.agg ⟨[.string (ds.getD i (nada,0)).1,.int .i64 (ds.getD i (nada,0)).2]⟩) w:=by
 rw[Sl.ldAgg h ht (by rw[List.length_map];exact hi),Ws hi]
theorem DclsR.load0 (h:DclsR F w v ds) {t:TypeId} (ht:oneB P t=true) {i:Nat} (hi:i<ds.length):ze P t (.pointer (some ((eaddr v 2 i).add 0))) w K=K (.string (ds.getD i (nada,0)).1) w:=
 Sl.ldField h ht (by rw[List.length_map];exact hi) (by rw[Ws hi];rfl)
theorem DclsR.load1 (h:DclsR F w v ds) {t:TypeId} (ht:oneB P t=true) {i:Nat} (hi:i<ds.length):ze P t (.pointer (some ((eaddr v 2 i).add 1))) w K=K (.int .i64 (ds.getD i (nada,0)).2) w:=
 Sl.ldField h ht (by rw[List.length_map];exact hi) (by rw[Ws hi];rfl)
theorem DclsR.small (h:DclsR F w v ds):ds.length≤9223372036854775807:=by have:=Sl.small h;simpa using this
theorem Sl.base {k:Nat} {xs:List (List Value)} (h:Sl F w k v xs) (hne:xs≠[]):∀a l c,v= .slice (some a) l c→∃b o,a=⟨b,o,none⟩:=by
 intro a l c e
 obtain⟨a',c',rfl,_,_,hc⟩:=h.shape
 obtain⟨b,o,rfl,_⟩:=hc hne
 injection e with e1 e2 e3
 injection e1 with e1
 exact⟨b,o,e1.symm⟩
theorem Sl.taken {k:Nat} {xs:List (List Value)} (h:Sl F w k v xs) {n:Nat} (hn:n≤xs.length):Sl F w k (cutV v n) (xs.take n):=by
 obtain⟨a,c,rfl,h1,h2,hc⟩:=h.shape
 have hl:(xs.take n).length=n:=by rw[List.length_take];omega
 refine⟨⟨a,c,by rw[hl];rfl,by omega,h2,fun hne=>?_⟩,fun x hx=>h.wide x (List.mem_of_mem_take hx)⟩
 have hne':xs≠[]:=fun e=>hne (by rw[e,List.take_nil])
 obtain⟨b,o,e,hb,hlt,hcell⟩:=hc hne'
 refine⟨b,o,e,hb,hlt,fun i hi=>?_⟩
 rw[hl] at hi
 rw[M.take_getD hi]
 exact hcell i (by omega)
theorem DclsR.cut (h:DclsR F w v ds) (hne:ds≠[]) {t:TypeId} (ht:elB P t 2=true) {kd:IntKind} {n:Nat} (hn:n≤ds.length):yq P t v none (some (.int kd n)) none w' K=K (cutV v n) w':=
 Sl.cut h (Sl.base h (by simpa using hne)) ht (by rw[List.length_map];exact hn)
theorem DclsR.taken (h:DclsR F w v ds) {n:Nat} (hn:n≤ds.length):DclsR F w (cutV v n) (ds.take n):=by
 unfold DclsR;rw[List.map_take];exact Sl.taken h (by rw[List.length_map];exact hn)
theorem Blk.sl1k {b k:Nat} {cs:List Value} {e:TypeId} (h:Blk w b cs e) (hk:cs.length=k):Sl (· =b) w k (.slice (some ⟨b,0,none⟩) 1 1) [cs]:=by
 refine⟨⟨_,1,rfl,Nat.le_refl _,by decide,fun _=>⟨b,0,rfl,rfl,h.lt,fun i hi j v hj=>?_⟩⟩,by simp[hk]⟩
 have hi0:i=0:=by simpa using hi
 subst hi0
 rw[x7]
 simp only[Nat.zero_mul,Nat.zero_add,Nat.add_zero]
 exact h.cell hj
theorem Own.app1k {bs ty b k:Nat} {t e:TypeId} {xs:List (List Value)} {y:List Value} (h:Own P 0 k t w v xs) (hT:elZ P t k bs=true) (hk:0<k) (hb:Blk w b y e) (hy:y.length=k) (hone:∀c,c∈y→c.oneCell'=true)
  (h63:xs.length<9223372036854775807) (hlen:(xs.length+1)*bs≤140737488355328)
  (hK:∀v' w',Own P 0 k t w' v' (xs++[y])→Same (fun b=>v.ownBlock=some b) w w'→(∀b,v'.ownBlock=some b→v.ownBlock=some b∨w.heap.size≤b)→K v' w'):vbi P .append [t,t] ty [v,.slice (some ⟨b,0,none⟩) 1 1] w K:=
 vappend (F:=(· =b)) hT hk h (hb.sl1k hy) (by simpa using hone) (by omega) (by rw[List.length_singleton];omega) (by simpa using hlen) hK
theorem JR {t e k:Nat} {z x:Value} {y:List Value} (hu:P.underlying t=some (.slice e)) (hz:j0 P e k=true) (hzero:yM P e z) (hx:x.cells=⟨y⟩) (hy:y.length=k) (hk:k≤16777216)
  (hK:∀b w',b=w.heap.size→Ext w w'→w'.heap.size=w.heap.size+1→Blk w' b y e→K (.slice (some ⟨b,0,none⟩) 1 1) w'):vbuildS P t 1 [(0,x)] w K:=by
 refine vbuildS_row (xs:=[x]) (us:=[y]) hu hz hzero (by simp[hx]) (by simp[hy]) (by simpa using hk) fun b w' h1 h2 h3 h4=>hK b w' h1 h2 h3 (by simpa using h4)
theorem Blk.ownk {b k n:Nat} {t:TypeId} {css:List (List Value)} (h:Blk w b css.flatten (JP P t)) (hw:∀x,x∈css→x.length=k) (hn:n=css.length) (hm:n≤9223372036854775807):Own P 0 k t w (.slice (some ⟨b,0,none⟩) n n) css:=by
 subst hn
 have hl:=flatten_len hw
 refine⟨⟨by rw[hl],.inr ⟨b,css.length,⟨css.flatten⟩,by simp,Nat.zero_le _,h,Nat.le_refl _,by simpa[maxLen] using hm,by simpa using hl,?_⟩⟩,hw⟩
 show List.take (css.length*k) css.flatten=css.flatten
 rw[←hl,List.take_length]
theorem flatten_set {k:Nat}:∀{xs:List (List Value)} (_:∀x,x∈xs→x.length=k) {i j:Nat} (u:Value),i<xs.length→j<k→xs.flatten.set (i*k+j) u=(xs.set i ((xs.getD i []).set j u)).flatten
 |[],_,i,j,u,hi,_=>by simp at hi
 |x::r,h,i,j,u,hi,hj=>by
  have hx:=h x List.mem_cons_self
  cases i with
  |zero=>
   rw[Nat.zero_mul,Nat.zero_add]
   simp only[List.flatten_cons,List.set_cons_zero,List.getD_cons_zero]
   rw[List.set_append_left _ _ (by omega)]
  |succ i=>
   simp only[List.flatten_cons,List.set_cons_succ,List.getD_cons_succ]
   rw[List.set_append_right _ _ (by rw[Nat.add_mul];omega)]
   congr 1
   have e:(i+1)*k+j-x.length=i*k+j:=by rw[Nat.add_mul];omega
   rw[e,flatten_set (fun y hy=>h y (List.mem_cons_of_mem _ hy)) u (by simpa using hi) hj]
theorem Own.stCell {k:Nat} {t e:TypeId} {xs:List (List Value)} {x:Value} (h:Own P 0 k t w v xs) (hv:x.cells= #[x]) (h1:x.oneCell'=true) (hz:j0 P e 1=true) {i j:Nat} (hi:i<xs.length) (hj:j<k)
  (hK:∀w',Own P 0 k t w' v (xs.set i ((xs.getD i []).set j x))→Same (fun b=>v.ownBlock=some b) w w'→w'.heap.size=w.heap.size→K undef w'):zr P e (.pointer (some ((eaddr v k i).add j))) x w K:=by
 rcases h.row.2 with⟨rfl,hn⟩|⟨g,cap,cur,rfl,hbg,hg,hnc,hcm,hcs,htake⟩
 ·omega
 ·have hrow:=h.row
  have hij:i*k+j<xs.length*k:=by
   have:i*k+k≤xs.length*k:=by rw[←Nat.succ_mul];exact Nat.mul_le_mul_right _ hi
   omega
  have hc:=World.ownsRow.cellAt hrow (i*k+j) hij
  have hf:=World.ownsRow.frozenAt hrow (i*k+j)
  obtain⟨hs1,hs2⟩:=World.ownsRow.stored hrow (i*k+j) x
  have hlx:(xs.getD i []).length=k:=h.wide _ (M.getD_mem hi _)
  have hcell:w.cell? ⟨g,i*k+j,none⟩=some (xs.flatten.getD (i*k+j) undef):=by
   rw[hc]
   have:i*k+j<xs.flatten.length:=by rw[flatten_len h.wide];exact hij
   rw[List.getD_eq_getElem?_getD,List.getElem?_eq_getElem this];rfl
  have ha:(⟨g,i*k+j,none⟩:Addr).add 0=⟨g,i*k+j,none⟩:=rfl
  have he:(eaddr (.slice (some ⟨g,0,none⟩) xs.length cap) k i).add j=⟨g,i*k+j,none⟩:=by
   simp only[eaddr];rw[x7];simp
  rw[he]
  refine⟨(),w.setCell ⟨g,i*k+j,none⟩ x,?_,hK _ ?_ (Same.of_grown hs2) (by simp)⟩
  ·simp only[Instr.storeAt,Instr.sureAddr,Sem.run_bind,Sem.run_pure,Result.andThen_ok,storeVar,run_sizeOf hz,hv]
   cases x<;>first|(cases h1;done)|simp[storeCells,store,Sem.run,ha,hcell,hf]
  ·refine⟨?_,fun y hy=>?_⟩
   ·rw[←flatten_set h.wide x hi hj]
    simpa using hs1
   ·obtain⟨q,hq,rfl⟩:=List.getElem_of_mem hy
    rw[List.getElem_set]
    split
    ·rw[List.length_set];exact hlx
    ·exact h.wide _ (List.getElem_mem _)
def PairsR (F:Nat→Prop) (w:World) (v:Value) (xs:List (Int×Int)):Prop:=Sl F w 2 v (xs.map fun x=>[.int .i64 x.1,.int .i64 x.2])
def OwnP (P:Program) (t:TypeId) (w:World) (v:Value) (xs:List (Int×Int)):Prop:=Own P 0 2 t w v (xs.map fun x=>[.int .i64 x.1,.int .i64 x.2])
variable {xs:List (Int×Int)}
theorem PairsR.ext (h:PairsR F w v xs) (hw:Ext w w'):PairsR F w' v xs:=Sl.ext h hw
theorem PairsR.same (h:PairsR F w v xs) (hw:Same S w w') (hs:∀b,F b→b<w.heap.size→¬S b):PairsR F w' v xs:=Sl.same h hw hs
theorem PairsR.iaddr (h:PairsR F w v xs) {t:TypeId} (ht:elB P t 2=true) {kd:IntKind} {i:Int} (h0:0≤i) (h1:i<xs.length):
  zl P t v (.int kd i) w' K=K (.pointer (some (eaddr v 2 i.toNat))) w':=Sl.iaddr h ht h0 (by rw[List.length_map];exact h1)
theorem PairsR.len (h:PairsR F w v xs) {t:TypeId} (ht:isSl P t=true) (ty:TypeId):vbi P .len [t] ty [v] w' K=K (.int .i64 xs.length) w':=by
 have:=Sl.len (K:=K) (w':=w') h ht ty;rwa[List.length_map] at this
theorem PairsR.load (h:PairsR F w v xs) {t:TypeId} (ht:aggB P t 2=true) {i:Nat} (hi:i<xs.length):ze P t (.pointer (some (eaddr v 2 i))) w K=K (.agg ⟨[.int .i64 (xs.getD i (0,0)).1,.int .i64 (xs.getD i (0,0)).2]⟩) w:=by
 rw[Sl.ldAgg h ht (by rw[List.length_map];exact hi),M.getD_map _ hi _ (0,0)]
theorem PairsR.load1 (h:PairsR F w v xs) {t:TypeId} (ht:oneB P t=true) {i:Nat} (hi:i<xs.length):ze P t (.pointer (some ((eaddr v 2 i).add 1))) w K=K (.int .i64 (xs.getD i (0,0)).2) w:=
 Sl.ldField h ht (by rw[List.length_map];exact hi) (by rw[M.getD_map _ hi _ (0,0)];rfl)
theorem OwnP.ext {t:TypeId} (h:OwnP P t w v xs) (hw:Ext w w'):OwnP P t w' v xs:=Own.ext h hw
theorem OwnP.nil (t:TypeId):OwnP P t w (.slice none 0 0) []:=Own.nil P 0 2 t w
end
end Go.Vc
end
section
namespace Go.Proofs.YtaekfnbnhjgboaaGreatDoor
open Go Go.Vc Go.Proofs
noncomputable abbrev PP:Program:=Tryz.prog
theorem mixed:PP.follows .mixedOrders=true:=by kernel_rfl
abbrev Zx:Nat:=3
abbrev kq:Nat:=9
abbrev ZA:Nat:=10
abbrev Xw:Nat:=11
abbrev jp:Nat:=12
abbrev kR:Nat:=13
abbrev kz:Nat:=14
abbrev Y7:Nat:=15
abbrev jn:Nat:=40
abbrev Z5:Nat:=47
abbrev YH:Nat:=55
abbrev ZZ:Nat:=56
abbrev jR:Nat:=57
abbrev qb:Nat:=58
abbrev Jo:Nat:=59
abbrev Y1:Nat:=60
abbrev YC:Nat:=61
abbrev YB:Nat:=62
abbrev kQ:Nat:=63
abbrev YG:Nat:=64
abbrev jm:Nat:=65
abbrev xh:Nat:=66
abbrev qC:Nat:=67
abbrev ky:Nat:=68
abbrev YN:Nat:=69
abbrev jo:Nat:=84
abbrev qK:Nat:=85
abbrev YO:Nat:=86
abbrev ka:Nat:=91
abbrev qh:Nat:=93
abbrev Z6:Nat:=94
abbrev kU:Nat:=95
abbrev Y0:Nat:=96
abbrev jW:Nat:=108
abbrev YF:Nat:=109
abbrev yp:Nat:=110
abbrev ZW:Nat:=111
abbrev YJ:Nat:=112
abbrev YL:Nat:=113
abbrev kT:Nat:=114
abbrev j9:Nat:=115
abbrev ZV:Nat:=118
abbrev YA:Nat:=119
abbrev ZS:Nat:=120
abbrev Jn:Nat:=121
abbrev Xn:Nat:=122
abbrev Xo:Nat:=123
abbrev yn:Nat:=124
abbrev qc:Nat:=125
abbrev y8:Nat:=126
abbrev Xt:Nat:=132
abbrev ZX:Nat:=133
abbrev Xv:Nat:=134
abbrev Xr:Nat:=135
abbrev YI:Nat:=136
abbrev QN:Nat:=137
abbrev yz:Nat:=138
abbrev Xy:Nat:=139
abbrev Y5:Nat:=141
abbrev Y4:Nat:=142
abbrev Y3:Nat:=143
abbrev Y2:Nat:=144
abbrev Zy:Nat:=145
abbrev Xx:Nat:=146
abbrev yx:Nat:=147
abbrev xK:Nat:=148
abbrev zI:Nat:=149
abbrev Xs:Nat:=162
abbrev y6:Nat:=163
abbrev qg:Nat:=164
abbrev qw:Nat:=165
abbrev Y6:Nat:=166
abbrev qX:Nat:=167
abbrev QO:Nat:=168
abbrev qx:Nat:=169
abbrev qB:Nat:=170
abbrev y0:Nat:=171
abbrev qz:Nat:=172
abbrev jS:Nat:=173
abbrev qo:Nat:=174
abbrev ql:Nat:=175
abbrev kB:Nat:=176
abbrev Xl:Nat:=177
abbrev Yz:Nat:=178
abbrev xX:Nat:=179
abbrev xt:Nat:=180
abbrev jP:Nat:=181
abbrev Zv:Nat:=182
abbrev qu:Nat:=183
abbrev xY:Nat:=184
abbrev YD:Nat:=185
abbrev jl:Nat:=186
abbrev Xm:Nat:=187
abbrev Zw:Nat:=188
abbrev ZT:Nat:=189
abbrev ZU:Nat:=190
abbrev ZY:Nat:=194
abbrev xM:Nat:=195
abbrev yi:Nat:=203
abbrev YK:Nat:=208
abbrev zF:Nat:=209
abbrev jq:Nat:=210
abbrev yE:Nat:=214
abbrev yc:Nat:=215
abbrev j4:Nat:=216
abbrev jw:Nat:=217
abbrev yC:Nat:=218
abbrev qi:Nat:=219
abbrev xc:Nat:=220
abbrev yF:Nat:=221
abbrev yj:Nat:=222
abbrev xC:Nat:=223
abbrev xb:Nat:=224
abbrev jv:Nat:=225
abbrev xO:Nat:=226
abbrev xB:Nat:=227
abbrev j8:Nat:=228
abbrev xI:Nat:=229
abbrev qS:Nat:=230
abbrev Xu:Nat:=231
abbrev Xq:Nat:=232
abbrev k8:Nat:=233
abbrev qt:Nat:=234
abbrev YE:Nat:=235
abbrev qn:Nat:=248
abbrev Z2:Nat:=251
abbrev YX:Nat:=252
abbrev yI:Nat:=253
abbrev qa:Nat:=254
abbrev ju:Nat:=255
abbrev jt:Nat:=256
abbrev Z3:Nat:=257
abbrev xV:Nat:=258
abbrev jf:Nat:=259
abbrev Xp:Nat:=260
abbrev jg:Nat:=270
abbrev kS:Nat:=271
abbrev jQ:Nat:=272
abbrev ku:Nat:=273
abbrev Ye:Nat:=277
abbrev xZ:Nat:=278
abbrev xA:Nat:=279
abbrev xN:Nat:=280
abbrev jx:Nat:=312
abbrev yr:Nat:=313
abbrev yA:Nat:=314
abbrev jr:Nat:=315
abbrev j2:Nat:=316
abbrev yb:Nat:=317
abbrev Zz:Nat:=318
abbrev qY:Nat:=319
abbrev jX:Nat:=320
abbrev j7:Nat:=321
abbrev qR:Nat:=322
abbrev qL:Nat:=323
abbrev Z4:Nat:=324
abbrev x6:Nat:=325
abbrev x5:Nat:=326
abbrev yZ:Nat:=327
abbrev yY:Nat:=328
abbrev yX:Nat:=329
abbrev yW:Nat:=330
abbrev yV:Nat:=331
abbrev yU:Nat:=332
abbrev yT:Nat:=333
abbrev yL:Nat:=334
abbrev yK:Nat:=335
abbrev qV:Nat:=336
abbrev j6:Nat:=337
abbrev qQ:Nat:=338
abbrev YM:Nat:=339
abbrev kV:Nat:=340
abbrev qZ:Nat:=341
abbrev j1:Nat:=342
abbrev qN:Nat:=343
abbrev qO:Nat:=344
abbrev qy:Nat:=345
abbrev jG:Nat:=346
abbrev j5:Nat:=347
abbrev qP:Nat:=348
abbrev kW:Nat:=349
abbrev js:Nat:=350
abbrev j3:Nat:=351
abbrev qT:Nat:=352
abbrev qA:Nat:=353
abbrev xu:Nat:=354
abbrev jH:Nat:=355
abbrev xH:Nat:=356
abbrev ja:Nat:=357
abbrev qU:Nat:=358
abbrev qj:Nat:=0
abbrev yP:Nat:=2
abbrev JM:Nat:=2
abbrev zc:Nat:=3
abbrev jI:Nat:=4
abbrev qI:Nat:=5
abbrev zG:Nat:=9
abbrev zZ:Nat:=22
abbrev zu:Nat:=23
abbrev zn:Nat:=24
abbrev z7:Nat:=26
abbrev zk:Nat:=29
abbrev zf:Nat:=31
abbrev zh:Nat:=32
abbrev zz:Nat:=38
abbrev Y8:Nat:=42
abbrev ye:Nat:=61
abbrev za:Nat:=92
abbrev zO:Nat:=95
abbrev zB:Nat:=96
abbrev y4:Nat:=97
abbrev zL:Nat:=99
abbrev qe:Nat:=100
abbrev yJ:Nat:=102
abbrev zV:Nat:=104
abbrev zC:Nat:=105
abbrev zQ:Nat:=107
abbrev zd:Nat:=111
abbrev zb:Nat:=118
abbrev zm:Nat:=134
abbrev jB:Nat:=144
abbrev xe:Nat:=146
abbrev y9:Nat:=147
abbrev y2:Nat:=171
abbrev zw:Nat:=174
abbrev zo:Nat:=181
abbrev yd:Nat:=201
abbrev xQ:Nat:=203
abbrev y7:Nat:=206
abbrev zM:Nat:=208
abbrev zT:Nat:=209
abbrev zH:Nat:=210
abbrev zP:Nat:=211
abbrev zK:Nat:=212
abbrev zN:Nat:=213
abbrev zU:Nat:=214
abbrev jC:Nat:=215
abbrev zy:Nat:=217
abbrev ym:Nat:=218
abbrev zR:Nat:=219
abbrev QP:Nat:=314
abbrev ke:Nat:=328
abbrev xl:Nat:=358
abbrev zX:Nat:=385
theorem Zr:yM PP zc (.int .i64 0):=by unfold yM;kernel_rfl
@[push_cast] theorem q00:oneB PP zc=true:=by kernel_rfl
@[push_cast] theorem kO:j0 PP zc 1=true:=by kernel_rfl
theorem zf0:qn0 PP zc .i64:=by unfold qn0;kernel_rfl
theorem xA0:(PP.underlying zc).isSome=true:=by kernel_rfl
theorem kH0:yM PP jI (.bool false):=by unfold yM;kernel_rfl
@[push_cast] theorem ZC0:oneB PP jI=true:=by kernel_rfl
@[push_cast] theorem Zs0:j0 PP jI 1=true:=by kernel_rfl
@[push_cast] theorem o_uint8:oneB PP qI=true:=by kernel_rfl
theorem k50:qn0 PP qI .u8:=by unfold qn0;kernel_rfl
theorem xz0:(PP.underlying qI).isSome=true:=by kernel_rfl
theorem Y9:yM PP zG (.string ⟨#[]⟩):=by unfold yM;kernel_rfl
@[push_cast] theorem jZ0:oneB PP zG=true:=by kernel_rfl
@[push_cast] theorem zj0:j0 PP zG 1=true:=by kernel_rfl
theorem Yb:PP.underlying zG=some .string:=by kernel_rfl
@[push_cast] theorem o_Luint8:oneB PP zZ=true:=by kernel_rfl
@[push_cast] theorem k40:elZ PP zZ 1 1=true:=by kernel_rfl
theorem JT:PP.underlying zZ=some (.slice qI):=by kernel_rfl
theorem j80:JP PP zZ=qI:=by kernel_rfl
@[push_cast] theorem s_Luint8:isSl PP zZ=true:=by kernel_rfl
@[push_cast] theorem kk0:elB PP zZ 1=true:=by kernel_rfl
@[push_cast] theorem kB0:oneB PP zu=true:=by kernel_rfl
@[push_cast] theorem XJ:elZ PP zu 2 24=true:=by kernel_rfl
theorem jZ:PP.underlying zu=some (.slice zz):=by kernel_rfl
theorem K8:JP PP zu=zz:=by kernel_rfl
@[push_cast] theorem kx0:isSl PP zu=true:=by kernel_rfl
@[push_cast] theorem XM:elB PP zu 2=true:=by kernel_rfl
@[push_cast] theorem kz0:oneB PP zn=true:=by kernel_rfl
@[push_cast] theorem yk0:j0 PP zn 1=true:=by kernel_rfl
@[push_cast] theorem VI:elZ PP zn 5 64=true:=by kernel_rfl
theorem VG:PP.underlying zn=some (.slice z7):=by kernel_rfl
theorem K7:JP PP zn=z7:=by kernel_rfl
@[push_cast] theorem kw0:isSl PP zn=true:=by kernel_rfl
@[push_cast] theorem kG0:elB PP zn 5=true:=by kernel_rfl
theorem yw:yM PP z7 (.agg #[(.int .i64 0),(.int .i64 0),(.int .i64 0),(.string ⟨#[]⟩),(.slice none 0 0)]):=by unfold yM;kernel_rfl
theorem Zc:strF PP z7=some ([(0,1),(1,1),(2,1),(3,1),(4,1)],[(.int .i64 0),(.int .i64 0),(.int .i64 0),(.string ⟨#[]⟩),(.slice none 0 0)]):=by kernel_rfl
@[push_cast] theorem zJ:aggB PP z7 5=true:=by kernel_rfl
@[push_cast] theorem Wu:j0 PP z7 5=true:=by kernel_rfl
@[push_cast] theorem kA0:oneB PP zk=true:=by kernel_rfl
@[push_cast] theorem VF:j0 PP zk 1=true:=by kernel_rfl
@[push_cast] theorem qD:elZ PP zk 3 24=true:=by kernel_rfl
theorem je:PP.underlying zk=some (.slice zm):=by kernel_rfl
theorem YR:JP PP zk=zm:=by kernel_rfl
@[push_cast] theorem k7:isSl PP zk=true:=by kernel_rfl
@[push_cast] theorem VJ:elB PP zk 3=true:=by kernel_rfl
theorem xE:yM PP zf (.agg #[(.int .i64 0),(.slice none 0 0)]):=by unfold yM;kernel_rfl
theorem VB:strF PP zf=some ([(0,1),(1,1)],[(.int .i64 0),(.slice none 0 0)]):=by kernel_rfl
@[push_cast] theorem y5:aggB PP zf 2=true:=by kernel_rfl
theorem kI0:yM PP zh (.slice none 0 0):=by unfold yM;kernel_rfl
@[push_cast] theorem ZD0:oneB PP zh=true:=by kernel_rfl
@[push_cast] theorem kt0:j0 PP zh 1=true:=by kernel_rfl
@[push_cast] theorem Z8:elZ PP zh 1 8=true:=by kernel_rfl
theorem Zu:PP.underlying zh=some (.slice zc):=by kernel_rfl
theorem zK0:JP PP zh=zc:=by kernel_rfl
@[push_cast] theorem ZA0:isSl PP zh=true:=by kernel_rfl
@[push_cast] theorem Ka:elB PP zh 1=true:=by kernel_rfl
theorem xU:yM PP zz (.agg #[(.string ⟨#[]⟩),(.int .i64 0)]):=by unfold yM;kernel_rfl
theorem xs0:strF PP zz=some ([(0,1),(1,1)],[(.string ⟨#[]⟩),(.int .i64 0)]):=by kernel_rfl
@[push_cast] theorem Z40:aggB PP zz 2=true:=by kernel_rfl
@[push_cast] theorem Z0:j0 PP zz 2=true:=by kernel_rfl
theorem kP0:PP.underlying Y8=some (.slice jI):=by kernel_rfl
theorem ki0:JP PP Y8=jI:=by kernel_rfl
@[push_cast] theorem s_Lbool:isSl PP Y8=true:=by kernel_rfl
@[push_cast] theorem Z60:elB PP Y8 1=true:=by kernel_rfl
@[push_cast] theorem Z00:elZ PP ye 1 24=true:=by kernel_rfl
theorem qB0:PP.underlying ye=some (.slice zh):=by kernel_rfl
theorem kj0:JP PP ye=zh:=by kernel_rfl
@[push_cast] theorem kU0:isSl PP ye=true:=by kernel_rfl
@[push_cast] theorem Z70:elB PP ye 1=true:=by kernel_rfl
theorem ji:yM PP za (.slice none 0 0):=by unfold yM;kernel_rfl
@[push_cast] theorem Uk:oneB PP za=true:=by kernel_rfl
@[push_cast] theorem jV:j0 PP za 1=true:=by kernel_rfl
@[push_cast] theorem yO:elZ PP za 1 8=true:=by kernel_rfl
theorem yN:PP.underlying za=some (.slice zo):=by kernel_rfl
theorem xd:JP PP za=zo:=by kernel_rfl
@[push_cast] theorem xp:isSl PP za=true:=by kernel_rfl
@[push_cast] theorem x8:elB PP za 1=true:=by kernel_rfl
@[push_cast] theorem qk0:oneB PP zO=true:=by kernel_rfl
@[push_cast] theorem yq0:oneB PP zB=true:=by kernel_rfl
theorem YQ:PP.underlying zB=some (.map 3 203):=by kernel_rfl
@[push_cast] theorem WG:oneB PP y4=true:=by kernel_rfl
theorem kA:PP.underlying y4=some (.map 9 92):=by kernel_rfl
theorem z50:strF PP zL=some ([(0,1),(1,1),(2,1),(3,1)],[(.pointer none),(.slice none 0 0),(.map none),(.map none)]):=by kernel_rfl
@[push_cast] theorem qj0:oneB PP qe=true:=by kernel_rfl
@[push_cast] theorem Xj:oneB PP yJ=true:=by kernel_rfl
@[push_cast] theorem kJ0:j0 PP yJ 1=true:=by kernel_rfl
theorem z40:strF PP zV=some ([(0,1),(1,1)],[(.pointer none),.nilIface]):=by kernel_rfl
@[push_cast] theorem yr0:oneB PP zC=true:=by kernel_rfl
theorem jy:PP.underlying zC=some (.map 134 3):=by kernel_rfl
theorem z10:strF PP zQ=some ([(0,2),(2,1)],[(.int .i64 0),(.slice none 0 0),(.map none)]):=by kernel_rfl
theorem xS:yM PP zd (.agg #[(.int .i64 0),(.slice none 0 0),(.bool false)]):=by unfold yM;kernel_rfl
theorem xr0:strF PP zd=some ([(0,2),(2,1)],[(.int .i64 0),(.slice none 0 0),(.bool false)]):=by kernel_rfl
@[push_cast] theorem Jw:aggB PP zd 3=true:=by kernel_rfl
theorem xm:yM PP zb (.agg #[(.int .i64 0),(.int .i64 0)]):=by unfold yM;kernel_rfl
theorem VA:strF PP zb=some ([(0,1),(1,1)],[(.int .i64 0),(.int .i64 0)]):=by kernel_rfl
@[push_cast] theorem zS:aggB PP zb 2=true:=by kernel_rfl
theorem Xe:yM PP zm (.agg #[(.bool false),(.int .i64 0),(.int .i64 0)]):=by unfold yM;kernel_rfl
theorem YU:strF PP zm=some ([(0,1),(1,1),(2,1)],[(.bool false),(.int .i64 0),(.int .i64 0)]):=by kernel_rfl
@[push_cast] theorem jT:aggB PP zm 3=true:=by kernel_rfl
@[push_cast] theorem Yx:j0 PP zm 3=true:=by kernel_rfl
theorem Qv:PP.underlying jB=some (.map 9 3):=by kernel_rfl
theorem xk0:qn0 PP y9 .u64:=by unfold qn0;kernel_rfl
theorem Wz:(PP.underlying y9).isSome=true:=by kernel_rfl
theorem x80:strF PP y2=some ([(0,1),(1,1)],[(.slice none 0 0),(.int .i64 0)]):=by kernel_rfl
@[push_cast] theorem WL:elZ PP zw 1 24=true:=by kernel_rfl
theorem Xi:PP.underlying zw=some (.slice za):=by kernel_rfl
@[push_cast] theorem qG0:isSl PP zw=true:=by kernel_rfl
@[push_cast] theorem WY:elB PP zw 1=true:=by kernel_rfl
theorem yu:yM PP zo (.int .i64 0):=by unfold yM;kernel_rfl
@[push_cast] theorem k00:oneB PP zo=true:=by kernel_rfl
@[push_cast] theorem yg:j0 PP zo 1=true:=by kernel_rfl
@[push_cast] theorem Z50:elB PP yd 2=true:=by kernel_rfl
theorem x90:strF PP y7=some ([(0,1),(1,1)],[(.string ⟨#[]⟩),(.int .i64 0)]):=by kernel_rfl
theorem qW:yM PP zM (.agg #[(.string ⟨#[]⟩),(.int .i64 0)]):=by unfold yM;kernel_rfl
theorem yi0:strF PP zM=some ([(0,2)],[(.string ⟨#[]⟩),(.int .i64 0)]):=by kernel_rfl
@[push_cast] theorem zB0:aggB PP zM 2=true:=by kernel_rfl
theorem kY:yM PP zT (.agg #[(.string ⟨#[]⟩),(.int .i64 0)]):=by unfold yM;kernel_rfl
theorem z30:strF PP zT=some ([(0,2)],[(.string ⟨#[]⟩),(.int .i64 0)]):=by kernel_rfl
theorem Xd:yM PP zH (.agg #[(.string ⟨#[]⟩),(.int .i64 0)]):=by unfold yM;kernel_rfl
theorem z00:strF PP zH=some ([(0,2)],[(.string ⟨#[]⟩),(.int .i64 0)]):=by kernel_rfl
@[push_cast] theorem Un:aggB PP zH 2=true:=by kernel_rfl
theorem xa:yM PP zP (.agg #[(.string ⟨#[]⟩),(.int .i64 0)]):=by unfold yM;kernel_rfl
theorem UY:strF PP zP=some ([(0,2)],[(.string ⟨#[]⟩),(.int .i64 0)]):=by kernel_rfl
@[push_cast] theorem Ul:aggB PP zP 2=true:=by kernel_rfl
theorem xg:yM PP zK (.agg #[(.string ⟨#[]⟩),(.int .i64 0)]):=by unfold yM;kernel_rfl
theorem Ue:strF PP zK=some ([(0,2)],[(.string ⟨#[]⟩),(.int .i64 0)]):=by kernel_rfl
@[push_cast] theorem WO:aggB PP zK 2=true:=by kernel_rfl
theorem xD:yM PP zN (.agg #[(.string ⟨#[]⟩),(.int .i64 0)]):=by unfold yM;kernel_rfl
theorem UZ:strF PP zN=some ([(0,2)],[(.string ⟨#[]⟩),(.int .i64 0)]):=by kernel_rfl
@[push_cast] theorem Um:aggB PP zN 2=true:=by kernel_rfl
theorem qf:yM PP zU (.agg #[(.string ⟨#[]⟩),(.int .i64 0)]):=by unfold yM;kernel_rfl
theorem yj0:strF PP zU=some ([(0,2)],[(.string ⟨#[]⟩),(.int .i64 0)]):=by kernel_rfl
@[push_cast] theorem zC0:aggB PP zU 2=true:=by kernel_rfl
@[push_cast] theorem zw0:oneB PP jC=true:=by kernel_rfl
theorem Wd:yM PP zy (.agg #[(.string ⟨#[]⟩),(.int .i64 0),.nilFunc]):=by unfold yM;kernel_rfl
theorem Uf:strF PP zy=some ([(0,2),(2,1)],[(.string ⟨#[]⟩),(.int .i64 0),.nilFunc]):=by kernel_rfl
@[push_cast] theorem XK:aggB PP zy 3=true:=by kernel_rfl
@[push_cast] theorem yv0:elZ PP ym 1 16=true:=by kernel_rfl
theorem Ya:PP.underlying ym=some (.slice zG):=by kernel_rfl
theorem qc0:JP PP ym=zG:=by kernel_rfl
@[push_cast] theorem Zz0:isSl PP ym=true:=by kernel_rfl
theorem kZ:yM PP zR (.agg #[(.string ⟨#[]⟩),(.int .i64 0)]):=by unfold yM;kernel_rfl
theorem z60:strF PP zR=some ([(0,2)],[(.string ⟨#[]⟩),(.int .i64 0)]):=by kernel_rfl
theorem j00:qn0 PP QP .u64:=by unfold qn0;kernel_rfl
theorem kR0:(PP.underlying QP).isSome=true:=by kernel_rfl
theorem Uu:fieldB PP z7 0 0=true:=by kernel_rfl
@[push_cast] theorem jw0 {w:World} {K:Value→World→Prop} (a:Addr):zi PP z7 (.pointer (some a)) 0 w K=K (.pointer (some (a.add 0))) w:=yh Uu a
theorem Ut:fieldB PP z7 1 1=true:=by kernel_rfl
@[push_cast] theorem jv0 {w:World} {K:Value→World→Prop} (a:Addr):zi PP z7 (.pointer (some a)) 1 w K=K (.pointer (some (a.add 1))) w:=yh Ut a
theorem Us:fieldB PP z7 2 2=true:=by kernel_rfl
@[push_cast] theorem ju0 {w:World} {K:Value→World→Prop} (a:Addr):zi PP z7 (.pointer (some a)) 2 w K=K (.pointer (some (a.add 2))) w:=yh Us a
theorem Ur:fieldB PP z7 3 3=true:=by kernel_rfl
@[push_cast] theorem jt0 {w:World} {K:Value→World→Prop} (a:Addr):zi PP z7 (.pointer (some a)) 3 w K=K (.pointer (some (a.add 3))) w:=yh Ur a
theorem Uq:fieldB PP z7 4 4=true:=by kernel_rfl
@[push_cast] theorem js0 {w:World} {K:Value→World→Prop} (a:Addr):zi PP z7 (.pointer (some a)) 4 w K=K (.pointer (some (a.add 4))) w:=yh Uq a
theorem zI0:fieldB PP zf 0 0=true:=by kernel_rfl
@[push_cast] theorem kg0 {w:World} {K:Value→World→Prop} (a:Addr):zi PP zf (.pointer (some a)) 0 w K=K (.pointer (some (a.add 0))) w:=yh zI0 a
theorem zH0:fieldB PP zf 1 1=true:=by kernel_rfl
@[push_cast] theorem kf0 {w:World} {K:Value→World→Prop} (a:Addr):zi PP zf (.pointer (some a)) 1 w K=K (.pointer (some (a.add 1))) w:=yh zH0 a
theorem Uz:fieldB PP zz 0 0=true:=by kernel_rfl
@[push_cast] theorem jB0 {w:World} {K:Value→World→Prop} (a:Addr):zi PP zz (.pointer (some a)) 0 w K=K (.pointer (some (a.add 0))) w:=yh Uz a
theorem Uy:fieldB PP zz 1 1=true:=by kernel_rfl
@[push_cast] theorem jA0 {w:World} {K:Value→World→Prop} (a:Addr):zi PP zz (.pointer (some a)) 1 w K=K (.pointer (some (a.add 1))) w:=yh Uy a
theorem Vj:fieldB PP zL 0 0=true:=by kernel_rfl
@[push_cast] theorem qa0 {w:World} {K:Value→World→Prop} (a:Addr):zi PP zL (.pointer (some a)) 0 w K=K (.pointer (some (a.add 0))) w:=yh Vj a
theorem Vi:fieldB PP zL 1 1=true:=by kernel_rfl
@[push_cast] theorem q90 {w:World} {K:Value→World→Prop} (a:Addr):zi PP zL (.pointer (some a)) 1 w K=K (.pointer (some (a.add 1))) w:=yh Vi a
theorem Vh:fieldB PP zL 2 2=true:=by kernel_rfl
@[push_cast] theorem q80 {w:World} {K:Value→World→Prop} (a:Addr):zi PP zL (.pointer (some a)) 2 w K=K (.pointer (some (a.add 2))) w:=yh Vh a
theorem Vg:fieldB PP zL 3 3=true:=by kernel_rfl
@[push_cast] theorem q70 {w:World} {K:Value→World→Prop} (a:Addr):zi PP zL (.pointer (some a)) 3 w K=K (.pointer (some (a.add 3))) w:=yh Vg a
theorem Vf:fieldB PP zV 0 0=true:=by kernel_rfl
@[push_cast] theorem q60 {w:World} {K:Value→World→Prop} (a:Addr):zi PP zV (.pointer (some a)) 0 w K=K (.pointer (some (a.add 0))) w:=yh Vf a
theorem Ve:fieldB PP zV 1 1=true:=by kernel_rfl
@[push_cast] theorem q50 {w:World} {K:Value→World→Prop} (a:Addr):zi PP zV (.pointer (some a)) 1 w K=K (.pointer (some (a.add 1))) w:=yh Ve a
theorem Vd:fieldB PP zQ 0 0=true:=by kernel_rfl
@[push_cast] theorem q40 {w:World} {K:Value→World→Prop} (a:Addr):zi PP zQ (.pointer (some a)) 0 w K=K (.pointer (some (a.add 0))) w:=yh Vd a
theorem Vb:fieldB PP zQ 1 2=true:=by kernel_rfl
@[push_cast] theorem q30 {w:World} {K:Value→World→Prop} (a:Addr):zi PP zQ (.pointer (some a)) 1 w K=K (.pointer (some (a.add 2))) w:=yh Vb a
theorem Up:fieldB PP zd 0 0=true:=by kernel_rfl
@[push_cast] theorem jr0 {w:World} {K:Value→World→Prop} (a:Addr):zi PP zd (.pointer (some a)) 0 w K=K (.pointer (some (a.add 0))) w:=yh Up a
theorem Uo:fieldB PP zd 1 2=true:=by kernel_rfl
@[push_cast] theorem jq0 {w:World} {K:Value→World→Prop} (a:Addr):zi PP zd (.pointer (some a)) 1 w K=K (.pointer (some (a.add 2))) w:=yh Uo a
theorem zG0:fieldB PP zb 0 0=true:=by kernel_rfl
@[push_cast] theorem ke0 {w:World} {K:Value→World→Prop} (a:Addr):zi PP zb (.pointer (some a)) 0 w K=K (.pointer (some (a.add 0))) w:=yh zG0 a
theorem zF0:fieldB PP zb 1 1=true:=by kernel_rfl
@[push_cast] theorem kd0 {w:World} {K:Value→World→Prop} (a:Addr):zi PP zb (.pointer (some a)) 1 w K=K (.pointer (some (a.add 1))) w:=yh zF0 a
theorem Ux:fieldB PP zm 0 0=true:=by kernel_rfl
@[push_cast] theorem jz0 {w:World} {K:Value→World→Prop} (a:Addr):zi PP zm (.pointer (some a)) 0 w K=K (.pointer (some (a.add 0))) w:=yh Ux a
theorem Uw:fieldB PP zm 1 1=true:=by kernel_rfl
@[push_cast] theorem jy0 {w:World} {K:Value→World→Prop} (a:Addr):zi PP zm (.pointer (some a)) 1 w K=K (.pointer (some (a.add 1))) w:=yh Uw a
theorem Uv:fieldB PP zm 2 2=true:=by kernel_rfl
@[push_cast] theorem jx0 {w:World} {K:Value→World→Prop} (a:Addr):zi PP zm (.pointer (some a)) 2 w K=K (.pointer (some (a.add 2))) w:=yh Uv a
theorem WR:fieldB PP y2 0 0=true:=by kernel_rfl
@[push_cast] theorem XL {w:World} {K:Value→World→Prop} (a:Addr):zi PP y2 (.pointer (some a)) 0 w K=K (.pointer (some (a.add 0))) w:=yh WR a
theorem WQ:fieldB PP y2 1 1=true:=by kernel_rfl
@[push_cast] theorem WV {w:World} {K:Value→World→Prop} (a:Addr):zi PP y2 (.pointer (some a)) 1 w K=K (.pointer (some (a.add 1))) w:=yh WQ a
theorem WT:fieldB PP y7 0 0=true:=by kernel_rfl
@[push_cast] theorem j60 {w:World} {K:Value→World→Prop} (a:Addr):zi PP y7 (.pointer (some a)) 0 w K=K (.pointer (some (a.add 0))) w:=yh WT a
theorem WS:fieldB PP y7 1 1=true:=by kernel_rfl
@[push_cast] theorem j50 {w:World} {K:Value→World→Prop} (a:Addr):zi PP y7 (.pointer (some a)) 1 w K=K (.pointer (some (a.add 1))) w:=yh WS a
theorem K6:fieldB PP zy 1 2=true:=by kernel_rfl
@[push_cast] theorem xH0 {w:World} {K:Value→World→Prop} (a:Addr):zi PP zy (.pointer (some a)) 1 w K=K (.pointer (some (a.add 2))) w:=yh K6 a
noncomputable def mn_kids:String:=match PP.info? 208 with|some i=>(match i.methods[0]? with|some m=>m.name|none=>default)|none=>default
noncomputable def Z7:String:=match PP.info? 208 with|some i=>(match i.methods[1]? with|some m=>m.name|none=>default)|none=>default
noncomputable def jY:String:=match PP.info? 208 with|some i=>(match i.methods[2]? with|some m=>m.name|none=>default)|none=>default
noncomputable def YP:String:=match PP.info? 208 with|some i=>(match i.methods[3]? with|some m=>m.name|none=>default)|none=>default
theorem jc0:concB PP zG=true:=by kernel_rfl
@[push_cast] theorem ZF0 {w:World} {K:Value→World→Prop} (v:Value):QK PP zG v w K=K (.iface zG v) w:=ZQ jc0 v
theorem qk:concB PP zM=true:=by kernel_rfl
@[push_cast] theorem jn0 {w:World} {K:Value→World→Prop} (v:Value):QK PP zM v w K=K (.iface zM v) w:=ZQ qk v
theorem Jr (x0 x1:Value) (w:World):(method (PP.types.size+Made.depth) zM (.agg ⟨[x0,x1]⟩) mn_kids).run PP w= .ok (yr,.agg ⟨[x0,x1]⟩) w:=by kernel_rfl
theorem Jq (x0 x1:Value) (w:World):(method (PP.types.size+Made.depth) zM (.agg ⟨[x0,x1]⟩) Z7).run PP w= .ok (jr,.agg ⟨[x0,x1]⟩) w:=by kernel_rfl
theorem Qh (x0 x1:Value) (w:World):(method (PP.types.size+Made.depth) zM (.agg ⟨[x0,x1]⟩) jY).run PP w= .ok (j2,.agg ⟨[x0,x1]⟩) w:=by kernel_rfl
theorem Jp (x0 x1:Value) (w:World):(method (PP.types.size+Made.depth) zM (.agg ⟨[x0,x1]⟩) YP).run PP w= .ok (yA,.agg ⟨[x0,x1]⟩) w:=by kernel_rfl
theorem qE:concB PP zT=true:=by kernel_rfl
@[push_cast] theorem qO0 {w:World} {K:Value→World→Prop} (v:Value):QK PP zT v w K=K (.iface zT v) w:=ZQ qE v
theorem Qr (x0 x1:Value) (w:World):(method (PP.types.size+Made.depth) zT (.agg ⟨[x0,x1]⟩) mn_kids).run PP w= .ok (yr,.agg ⟨[x0,x1]⟩) w:=by kernel_rfl
theorem Qq (x0 x1:Value) (w:World):(method (PP.types.size+Made.depth) zT (.agg ⟨[x0,x1]⟩) Z7).run PP w= .ok (j7,.agg ⟨[x0,x1]⟩) w:=by kernel_rfl
theorem XE (x0 x1:Value) (w:World):(method (PP.types.size+Made.depth) zT (.agg ⟨[x0,x1]⟩) jY).run PP w= .ok (qR,.agg ⟨[x0,x1]⟩) w:=by kernel_rfl
theorem Qp (x0 x1:Value) (w:World):(method (PP.types.size+Made.depth) zT (.agg ⟨[x0,x1]⟩) YP).run PP w= .ok (yA,.agg ⟨[x0,x1]⟩) w:=by kernel_rfl
theorem Z9:concB PP zH=true:=by kernel_rfl
@[push_cast] theorem qN0 {w:World} {K:Value→World→Prop} (v:Value):QK PP zH v w K=K (.iface zH v) w:=ZQ Z9 v
theorem Qo (x0 x1:Value) (w:World):(method (PP.types.size+Made.depth) zH (.agg ⟨[x0,x1]⟩) mn_kids).run PP w= .ok (yr,.agg ⟨[x0,x1]⟩) w:=by kernel_rfl
theorem Qn (x0 x1:Value) (w:World):(method (PP.types.size+Made.depth) zH (.agg ⟨[x0,x1]⟩) Z7).run PP w= .ok (j6,.agg ⟨[x0,x1]⟩) w:=by kernel_rfl
theorem XD (x0 x1:Value) (w:World):(method (PP.types.size+Made.depth) zH (.agg ⟨[x0,x1]⟩) jY).run PP w= .ok (qQ,.agg ⟨[x0,x1]⟩) w:=by kernel_rfl
theorem Qm (x0 x1:Value) (w:World):(method (PP.types.size+Made.depth) zH (.agg ⟨[x0,x1]⟩) YP).run PP w= .ok (yA,.agg ⟨[x0,x1]⟩) w:=by kernel_rfl
theorem yQ:concB PP zP=true:=by kernel_rfl
@[push_cast] theorem qL0 {w:World} {K:Value→World→Prop} (v:Value):QK PP zP v w K=K (.iface zP v) w:=ZQ yQ v
theorem Qg (x0 x1:Value) (w:World):(method (PP.types.size+Made.depth) zP (.agg ⟨[x0,x1]⟩) mn_kids).run PP w= .ok (yr,.agg ⟨[x0,x1]⟩) w:=by kernel_rfl
theorem Qf (x0 x1:Value) (w:World):(method (PP.types.size+Made.depth) zP (.agg ⟨[x0,x1]⟩) Z7).run PP w= .ok (j1,.agg ⟨[x0,x1]⟩) w:=by kernel_rfl
theorem Xz (x0 x1:Value) (w:World):(method (PP.types.size+Made.depth) zP (.agg ⟨[x0,x1]⟩) jY).run PP w= .ok (qN,.agg ⟨[x0,x1]⟩) w:=by kernel_rfl
theorem yR:concB PP zK=true:=by kernel_rfl
@[push_cast] theorem ql0 {w:World} {K:Value→World→Prop} (v:Value):QK PP zK v w K=K (.iface zK v) w:=ZQ yR v
theorem XB (x0 x1:Value) (w:World):(method (PP.types.size+Made.depth) zK (.agg ⟨[x0,x1]⟩) mn_kids).run PP w= .ok (yr,.agg ⟨[x0,x1]⟩) w:=by kernel_rfl
theorem XA (x0 x1:Value) (w:World):(method (PP.types.size+Made.depth) zK (.agg ⟨[x0,x1]⟩) Z7).run PP w= .ok (qO,.agg ⟨[x0,x1]⟩) w:=by kernel_rfl
theorem X8 (x0 x1:Value) (w:World):(method (PP.types.size+Made.depth) zK (.agg ⟨[x0,x1]⟩) jY).run PP w= .ok (qy,.agg ⟨[x0,x1]⟩) w:=by kernel_rfl
theorem xw:concB PP zN=true:=by kernel_rfl
@[push_cast] theorem qM0 {w:World} {K:Value→World→Prop} (v:Value):QK PP zN v w K=K (.iface zN v) w:=ZQ xw v
theorem Ql (x0 x1:Value) (w:World):(method (PP.types.size+Made.depth) zN (.agg ⟨[x0,x1]⟩) mn_kids).run PP w= .ok (yr,.agg ⟨[x0,x1]⟩) w:=by kernel_rfl
theorem Qk (x0 x1:Value) (w:World):(method (PP.types.size+Made.depth) zN (.agg ⟨[x0,x1]⟩) Z7).run PP w= .ok (j5,.agg ⟨[x0,x1]⟩) w:=by kernel_rfl
theorem XC (x0 x1:Value) (w:World):(method (PP.types.size+Made.depth) zN (.agg ⟨[x0,x1]⟩) jY).run PP w= .ok (qP,.agg ⟨[x0,x1]⟩) w:=by kernel_rfl
theorem Qj (x0 x1:Value) (w:World):(method (PP.types.size+Made.depth) zN (.agg ⟨[x0,x1]⟩) YP).run PP w= .ok (yA,.agg ⟨[x0,x1]⟩) w:=by kernel_rfl
theorem xP:concB PP zU=true:=by kernel_rfl
@[push_cast] theorem jo0 {w:World} {K:Value→World→Prop} (v:Value):QK PP zU v w K=K (.iface zU v) w:=ZQ xP v
theorem Ju (x0 x1:Value) (w:World):(method (PP.types.size+Made.depth) zU (.agg ⟨[x0,x1]⟩) mn_kids).run PP w= .ok (yr,.agg ⟨[x0,x1]⟩) w:=by kernel_rfl
theorem Jt (x0 x1:Value) (w:World):(method (PP.types.size+Made.depth) zU (.agg ⟨[x0,x1]⟩) Z7).run PP w= .ok (js,.agg ⟨[x0,x1]⟩) w:=by kernel_rfl
theorem Qi (x0 x1:Value) (w:World):(method (PP.types.size+Made.depth) zU (.agg ⟨[x0,x1]⟩) jY).run PP w= .ok (j3,.agg ⟨[x0,x1]⟩) w:=by kernel_rfl
theorem Js (x0 x1:Value) (w:World):(method (PP.types.size+Made.depth) zU (.agg ⟨[x0,x1]⟩) YP).run PP w= .ok (yA,.agg ⟨[x0,x1]⟩) w:=by kernel_rfl
theorem YY:concB PP zy=true:=by kernel_rfl
@[push_cast] theorem qm0 {w:World} {K:Value→World→Prop} (v:Value):QK PP zy v w K=K (.iface zy v) w:=ZQ YY v
theorem XH (x0 x1 x2:Value) (w:World):(method (PP.types.size+Made.depth) zy (.agg ⟨[x0,x1,x2]⟩) mn_kids).run PP w= .ok (yr,.agg ⟨[x0,x1]⟩) w:=by kernel_rfl
theorem XG (x0 x1 x2:Value) (w:World):(method (PP.types.size+Made.depth) zy (.agg ⟨[x0,x1,x2]⟩) Z7).run PP w= .ok (qT,.agg ⟨[x0,x1,x2]⟩) w:=by kernel_rfl
theorem X9 (x0 x1 x2:Value) (w:World):(method (PP.types.size+Made.depth) zy (.agg ⟨[x0,x1,x2]⟩) jY).run PP w= .ok (qA,.agg ⟨[x0,x1,x2]⟩) w:=by kernel_rfl
theorem XF (x0 x1 x2:Value) (w:World):(method (PP.types.size+Made.depth) zy (.agg ⟨[x0,x1,x2]⟩) YP).run PP w= .ok (yA,.agg ⟨[x0,x1]⟩) w:=by kernel_rfl
theorem qF:concB PP zR=true:=by kernel_rfl
@[push_cast] theorem qP0 {w:World} {K:Value→World→Prop} (v:Value):QK PP zR v w K=K (.iface zR v) w:=ZQ qF v
theorem Qu (x0 x1:Value) (w:World):(method (PP.types.size+Made.depth) zR (.agg ⟨[x0,x1]⟩) mn_kids).run PP w= .ok (yr,.agg ⟨[x0,x1]⟩) w:=by kernel_rfl
theorem Qt (x0 x1:Value) (w:World):(method (PP.types.size+Made.depth) zR (.agg ⟨[x0,x1]⟩) Z7).run PP w= .ok (ja,.agg ⟨[x0,x1]⟩) w:=by kernel_rfl
theorem XI (x0 x1:Value) (w:World):(method (PP.types.size+Made.depth) zR (.agg ⟨[x0,x1]⟩) jY).run PP w= .ok (qU,.agg ⟨[x0,x1]⟩) w:=by kernel_rfl
theorem Qs (x0 x1:Value) (w:World):(method (PP.types.size+Made.depth) zR (.agg ⟨[x0,x1]⟩) YP).run PP w= .ok (yA,.agg ⟨[x0,x1]⟩) w:=by kernel_rfl
end Go.Proofs.YtaekfnbnhjgboaaGreatDoor
end
section
namespace Go.Proofs.YtaekfnbnhjgboaaGreatDoor
open Go Go.Vc Go.Proofs
def ZC (P:Program) (v0:Value) (w:World) (R:Value→World→Prop):Prop:=vbi P .len [zZ] zc [v0] w fun a b=>zq P .gtr zc true a (.int .i64 1048576) b fun a b=>vif a (R (.bool true) b) (vcall P kq #[v0] b fun a b=>zj P a 0 b fun b c=>zj P a 1 c fun a c=>zY P z7 c fun c d=>zr P z7 c a d fun _ a=>ze P z7 c a fun a d=>vcall P ZA #[b,a] d fun a d=>zj P a 0 d fun d e=>zj P a 1 e fun a e=>zY P zf e fun e f=>zr P zf e d f fun _ d=>ze P z7 c d fun d f=>vcall P Xw #[b,d] f fun d f=>zj P d 0 f fun f g=>zj P d 1 g fun d g=>zY P zf g fun g h=>zr P zf g f h fun _ f=>xf (fun g=>vcall P jp #[a,d] f fun f h=>vun P .not f h fun f h=>vif f (vcall P jp #[a,d] h fun f i=>R f i) (vcall P kR #[b] h fun f h=>vun P .not f h fun f h=>vif f (vcall P jp #[a,d] h fun d f=>R d f) (g [] h))) (fun _ _ d=>yS [(.int .i64 0),(.int .i64 0)] d fun d f _ g=>vbi P .len [zu] zc [b] g fun g h=>zq P .lss zc false (sl 1 f) g h fun g h=>vif g (zl P zu b (sl 1 f) h fun g i=>zi P zz g 0 i fun g i=>ze P zG g i fun g i=>zE P z7 [(0,(.int .i64 21)),(3,g)] i fun g i=>vcall P ZA #[b,g] i fun g i=>zj P g 0 i fun i j=>zj P g 1 j fun g j=>zY P zf j fun j k=>zr P zf j i k fun _ i=>yS [(.int .i64 0)] i fun i k _ l=>zl P zu b (sl 1 f) l fun l m=>zi P zz l 1 m fun l m=>ze P zc l m fun l m=>zq P .lss zc false (sl 0 k) l m fun l m=>vif l (y3 m fun l=>zl P zh g (sl 0 k) l fun n o=>o=l∧ze P zc n l fun n o=>o=l∧zq P .add zc true (.int .i64 1) (sl 0 f) l fun o p=>p=l∧zl P zu b (sl 1 f) l fun p q=>q=l∧zi P zz p 1 l fun p q=>q=l∧ze P zc p l fun p q=>q=l∧zq P .add zc false o p l fun o p=>p=l∧zq P .sub zc false o (sl 0 k) l fun o p=>p=l∧zq P .neq zc false n o l fun n o=>o=l∧vif n (R (.bool false) l) (zq P .add zc true (sl 0 k) (.int .i64 1) l fun k l=>i [k] l)) (zl P zu b (sl 1 f) m fun i k=>zi P zz i 1 k fun i k=>ze P zc i k fun i k=>zq P .add zc false (sl 0 f) i k fun i k=>zi P zf j 1 k fun j k=>ze P zk j k fun j k=>vbi P .len [zk] zc [j] k fun j k=>zq P .neq zc true j (.int .i64 0) k fun j k=>vif j (R (.bool false) k) (vbi P .len [zh] zc [g] k fun g j=>zl P zu b (sl 1 f) j fun b j=>zi P zz b 1 j fun b j=>ze P zc b j fun b j=>zq P .neq zc false g b j fun b g=>vif b (R (.bool false) g) (zq P .add zc true (sl 1 f) (.int .i64 1) g fun b g=>d [i,b] g)))) (ze P z7 c h fun b c=>vcall P kz #[b] c fun b c=>zj P b 0 c fun c d=>zj P b 1 d fun b d=>xf (fun g=>vif b (vbi P .len [zh] zc [a] d fun b h=>zq P .gtr zc true b (.int .i64 0) h fun b h=>g [b] h) (g [(.bool false)] d)) (fun b _ d=>vif (sl 0 b) (zi P zf e 1 d fun b g=>ze P zk b g fun b g=>vbi P .len [zk] zc [b] g fun b g=>zq P .eql zc true b (.int .i64 0) g fun b g=>vif b (vbuildS P Y8 1 [(0,(.bool true))] g fun b h=>vcall P Y7 #[b,a] h fun b h=>zq P .eql zc false b c h fun b c=>R b c) (R (.bool false) g)) (vbi P .len [zh] zc [a] d fun a b=>zq P .eql zc true a (.int .i64 0) b fun a b=>vif a (R (.bool true) b) (zi P zf e 0 b fun a b=>ze P zc a b fun a b=>zq P .eql zc false a (sl 0 f) b fun a b=>R a b))))))
theorem Kb {v0 w R} (h:ZC PP v0 w R):vcall PP Zx #[v0] w R:=zp {ord:=[(16,[0,1,2,3,4,5,6,7,8,9,10,11,12,13,14],[(0,[2,3,14]),(1,[2,3,14]),(2,[3,14]),(3,[14]),(4,[5,11,13,14]),(5,[11,13,14]),(6,[8,9,10,11,13,14]),(7,[8,9,10,11,13,14]),(8,[9,10,11,13,14]),(9,[10,11,13,14]),(10,[11,13,14]),(11,[13,14]),(12,[13,14]),(13,[14])])],loops:=[(10,[9,10]),(14,[13])],cuts:=[(28680,[]),(94231,[120])]} Tryz.func3 (by kernel_rfl) (by kernel_rfl) h
def X1 (P:Program) (v0:Value) (w:World) (R:Value→World→Prop):Prop:=zY P z7 w fun a b=>vcall P ZZ #[v0] b fun b c=>vcall P YH #[b] c fun b c=>zj P b 0 c fun c d=>zj P b 1 d fun b d=>zr P z7 a b d fun _ b=>vlv P z7 a b fun a b=>R (.tuple #[c,a]) b
theorem Wg {v0 w R} (h:X1 PP v0 w R):vcall PP kq #[v0] w R:=zp {} Tryz.func9 (by kernel_rfl) (by kernel_rfl) h
def Wc (P:Program) (v0 v1:Value) (w:World) (R:Value→World→Prop):Prop:=yD P z7 v1 w fun a b=>zY P zf b fun b c=>ze P z7 a c fun c d=>vcall P Z5 #[v0,c] d fun c d=>zq P .eql zc true c (.int .i64 (-1)) d fun c d=>vif c (zE P zf [] d fun c e=>zr P zf b c e fun _ c=>vlv P zf b c fun c e=>R (.tuple #[c,(.slice none 0 0)]) e) (vcall P jR #[v0] d fun c d=>ze P z7 a d fun a d=>vcall P qb #[c,a] d fun a d=>y3 d fun d=>vnil P c d fun e f=>f=d∧zi P zL e 0 d fun e f=>f=d∧ze P zO e d fun e f=>f=d∧vnil P e d fun e f=>f=d∧zi P zV e 1 d fun e f=>f=d∧ze P yJ e d fun e f=>f=d∧ze P yJ (.pointer (some ⟨qj,0,none⟩)) d fun f g=>g=d∧vcall P Jo #[e,f] d fun d e=>vif d (zE P zf [] e fun d f=>zr P zf b d f fun _ d=>vlv P zf b d fun d f=>R (.tuple #[d,(.slice none 0 0)]) f) (y3 e fun d=>vnil P c d fun e f=>f=d∧zi P zL e 0 d fun f g=>g=d∧ze P zO f d fun g h=>h=d∧vnil P g d fun h i=>i=d∧zi P zV h 0 d fun i j=>j=d∧ze P qe i d fun j k=>k=d∧vnil P j d fun k l=>l=d∧zi P zQ k 0 d fun l m=>m=d∧ze P zf l d fun m n=>n=d∧vcall P Y1 #[a] d fun a d=>(ze P zf l d fun n o=>n=m∧o=d)∧(zi P zQ k 0 d fun n o=>n=l∧o=d)∧(vnil P j d fun n o=>n=k∧o=d)∧(ze P qe i d fun n o=>n=j∧o=d)∧(zi P zV h 0 d fun n o=>n=i∧o=d)∧(vnil P g d fun n o=>n=h∧o=d)∧(ze P zO f d fun n o=>n=g∧o=d)∧(zi P zL e 0 d fun n o=>n=f∧o=d)∧(vnil P c d fun n o=>n=e∧o=d)∧zr P zf b m d fun _ c=>vlv P zf b c fun b c=>R (.tuple #[b,a]) c))
theorem x50 {v0 v1 w R} (h:Wc PP v0 v1 w R):vcall PP ZA #[v0,v1] w R:=zp {ord:=[(5,[0,1,2,3,4,5,6,7,8],[(0,[1,2,3,4,5,6,8]),(1,[2,3,4,5,6,8]),(2,[3,4,5,6,8]),(3,[4,5,6,8]),(4,[5,6,8]),(5,[6,8]),(6,[8]),(7,[8])]),(7,[0,1,2,3,4,5,6,7,8,9,10,11,12,13],[(0,[1,2,3,4,5,6,7,8,9,12,13]),(1,[2,3,4,5,6,7,8,9,12,13]),(2,[3,4,5,6,7,8,9,12,13]),(3,[4,5,6,7,8,9,12,13]),(4,[5,6,7,8,9,12,13]),(5,[6,7,8,9,12,13]),(6,[7,8,9,12,13]),(7,[8,9,12,13]),(8,[9,12,13]),(9,[12,13]),(10,[11,12,13]),(11,[12,13]),(12,[13])])]} Tryz.func10 (by kernel_rfl) (by kernel_rfl) h
def W6 (P:Program) (v0 v1:Value) (w:World) (R:Value→World→Prop):Prop:=yD P z7 v1 w fun a b=>zY P zf b fun b c=>ze P z7 a c fun c d=>vcall P jn #[v0,c] d fun c d=>zq P .lss zc true c (.int .i64 0) d fun c d=>vif c (zE P zf [] d fun c e=>vbuildS P zh 0 [] e fun e f=>zr P zf b c f fun _ c=>vlv P zf b c fun c f=>R (.tuple #[c,e]) f) (y3 d fun c=>ze P z7 a c fun d e=>e=c∧vcall P kQ #[v0] c fun c e=>(ze P z7 a e fun a f=>a=d∧f=e)∧zE P zf [(0,c)] e fun a c=>c=e∧zE P zd [(0,a),(1,(.bool true))] e fun a c=>c=e∧vcall P YB #[a,v0,d] e fun a c=>zj P a 0 c fun d e=>e=c∧zj P a 1 c fun a e=>e=c∧vcall P YC #[d,a] c fun a c=>zj P a 0 c fun d e=>e=c∧zj P a 1 c fun a e=>e=c∧zr P zf b d c fun _ c=>vlv P zf b c fun b c=>R (.tuple #[b,a]) c)
theorem yZ0 {v0 v1 w R} (h:W6 PP v0 v1 w R):vcall PP Xw #[v0,v1] w R:=zp {ord:=[(3,[0,4,5,1,2,3,6,7,8,9,10,11,12,13],[(0,[1,2,3,6,7,8,9,10,11,12,13]),(4,[6,7,8,9,10,11,12,13]),(5,[6,7,8,9,10,11,12,13]),(1,[2,3,6,7,8,9,10,11,12,13]),(2,[3,6,7,8,9,10,11,12,13]),(3,[6,7,8,9,10,11,12,13]),(6,[7,8,9,10,11,12,13]),(7,[9,10,11,12,13]),(8,[9,10,11,12,13]),(9,[10,11,12,13]),(10,[12,13]),(11,[12,13]),(12,[13])])]} Tryz.func11 (by kernel_rfl) (by kernel_rfl) h
def KP (P:Program) (v0 v1:Value) (w:World) (R:Value→World→Prop):Prop:=vbi P .len [zh] zc [v0] w fun a b=>vbi P .len [zh] zc [v1] b fun b c=>zq P .neq zc false a b c fun a b=>vif a (R (.bool false) b) (yS [(.int .i64 0)] b fun a b _ c=>vbi P .len [zh] zc [v0] c fun c d=>zq P .lss zc false (sl 0 b) c d fun c d=>vif c (y3 d fun c=>zl P zh v0 (sl 0 b) c fun e f=>f=c∧ze P zc e c fun e f=>f=c∧zl P zh v1 (sl 0 b) c fun f g=>g=c∧ze P zc f c fun f g=>g=c∧zq P .neq zc false e f c fun e f=>f=c∧vif e (R (.bool false) c) (zq P .add zc true (sl 0 b) (.int .i64 1) c fun b c=>a [b] c)) (R (.bool true) d))
theorem y60 {v0 v1 w R} (h:KP PP v0 v1 w R):vcall PP jp #[v0,v1] w R:=zp {ord:=[(6,[0,1,2,3,4,5,6,7,8],[(0,[2,3,8]),(1,[2,3,8]),(2,[3,8]),(3,[8]),(4,[6,7,8]),(5,[6,7,8]),(6,[7,8]),(7,[8])])],loops:=[(4,[5])]} Tryz.func12 (by kernel_rfl) (by kernel_rfl) h
def KO (P:Program) (v0:Value) (w:World) (R:Value→World→Prop):Prop:=vbi P .len [zu] zc [v0] w fun a b=>zq P .gtr zc true a (.int .i64 4) b fun a b=>vif a (R (.bool false) b) (yS [(.int .i64 0),(.int .i64 0)] b fun a b _ c=>vbi P .len [zu] zc [v0] c fun c d=>zq P .lss zc false (sl 1 b) c d fun c d=>vif c (y3 d fun c=>zl P zu v0 (sl 1 b) c fun e f=>f=c∧zi P zz e 0 c fun e f=>f=c∧ze P zG e c fun e f=>f=c∧vcall P YG #[e] c fun c e=>vun P .not c e fun c f=>f=e∧vif c (R (.bool false) e) (zl P zu v0 (sl 1 b) e fun c f=>f=e∧zi P zz c 1 e fun c f=>f=e∧ze P zc c e fun c f=>f=e∧zq P .lss zc true c (.int .i64 1) e fun c f=>f=e∧vif c (R (.bool false) e) (zl P zu v0 (sl 1 b) e fun c f=>f=e∧zi P zz c 1 e fun c f=>f=e∧ze P zc c e fun c f=>f=e∧zq P .gtr zc true c (.int .i64 4) e fun c f=>f=e∧vif c (R (.bool false) e) (yq P zu v0 none (some (sl 1 b)) none e fun c f=>f=e∧zl P zu v0 (sl 1 b) e fun f g=>g=e∧zi P zz f 0 e fun f g=>g=e∧ze P zG f e fun f g=>g=e∧vcall P jm #[c,f] e fun c e=>zq P .geq zc true c (.int .i64 0) e fun c f=>f=e∧vif c (R (.bool false) e) (zl P zu v0 (sl 1 b) e fun c e=>zi P zz c 1 e fun c e=>ze P zc c e fun c e=>zq P .add zc false (sl 0 b) c e fun c e=>zq P .add zc true (sl 1 b) (.int .i64 1) e fun e f=>a [c,e] f))))) (zq P .leq zc true (sl 0 b) (.int .i64 8) d fun a b=>R a b))
theorem y50 {v0 w R} (h:KO PP v0 w R):vcall PP kR #[v0] w R:=zp {ord:=[(7,[0,1,2,3,4,5,6,7,8,9,10,11,12,13,14,15,16,17,18,19,20,21,22,23,24,25,26,27,28,29,30,31,32,33,34],[(0,[2,3,4,5,6,7,8,9,10,11,12,13,14,15,16,17,18,19,20,21,22,23,24,25,26,27,28,29,30,31,32,33,34]),(1,[2,3,4,5,6,7,8,9,10,11,12,13,14,15,16,17,18,19,20,21,22,23,24,25,26,27,28,29,30,31,32,33,34]),(2,[3,4,5,6,7,8,9,10,11,12,13,14,15,16,17,18,19,20,21,22,23,24,25,26,27,28,29,30,31,32,33,34]),(3,[4,5,6,7,8,9,10,11,12,13,14,15,16,17,18,19,20,21,22,23,24,25,26,27,28,29,30,31,32,33,34]),(4,[5,6,7,8,9,10,11,12,13,14,15,16,17,18,19,20,21,22,23,24,25,26,27,28,29,30,31,32,33,34]),(5,[6,7,8,9,10,11,12,13,14,15,16,17,18,19,20,21,22,23,24,25,26,27,28,29,30,31,32,33,34]),(6,[7,8,9,10,11,12,13,14,15,16,17,18,19,20,21,22,23,24,25,26,27,28,29,30,31,32,33,34]),(7,[8,9,10,11,12,13,14,15,16,17,18,19,20,21,22,23,24,25,26,27,28,29,30,31,32,33,34]),(8,[10,11,12,13,14,15,16,17,18,19,20,21,22,23,24,25,26,27,28,29,30,31,32,33,34]),(9,[10,11,12,13,14,15,16,17,18,19,20,21,22,23,24,25,26,27,28,29,30,31,32,33,34]),(10,[11,12,13,14,15,16,17,18,19,20,21,22,23,24,25,26,27,28,29,30,31,32,33,34]),(11,[12,13,14,15,16,17,18,19,20,21,22,23,24,25,26,27,28,29,30,31,32,33,34]),(12,[13,14,15,16,17,18,19,20,21,22,23,24,25,26,27,28,29,30,31,32,33,34]),(13,[14,15,16,17,18,19,20,21,22,23,24,25,26,27,28,29,30,31,32,33,34]),(14,[15,16,17,18,19,20,21,22,23,24,25,26,27,28,29,30,31,32,33,34]),(15,[16,17,18,19,20,21,22,23,24,25,26,27,28,29,30,31,32,33,34]),(16,[18,19,20,21,22,23,24,25,26,27,28,29,30,31,32,33,34]),(17,[18,19,20,21,22,23,24,25,26,27,28,29,30,31,32,33,34]),(18,[19,20,21,22,23,24,25,26,27,28,29,30,31,32,33,34]),(19,[20,21,22,23,24,25,26,27,28,29,30,31,32,33,34]),(20,[21,22,23,24,25,26,27,28,29,30,31,32,33,34]),(21,[22,23,24,25,26,27,28,29,30,31,32,33,34]),(22,[23,24,25,26,27,28,29,30,31,32,33,34]),(23,[24,25,26,27,28,29,30,31,32,33,34]),(24,[26,32,33,34]),(25,[26,32,33,34]),(26,[32,33,34]),(27,[29,30,31,32,33,34]),(28,[29,30,31,32,33,34]),(29,[30,31,32,33,34]),(30,[31,32,33,34]),(31,[32,33,34]),(32,[33,34]),(33,[34])])],loops:=[(5,[3,4])]} Tryz.func13 (by kernel_rfl) (by kernel_rfl) h
def X6 (P:Program) (v0:Value) (w:World) (R:Value→World→Prop):Prop:=yD P z7 v0 w fun a b=>zi P z7 a 3 b fun b c=>ze P zG b c fun b c=>zq P .neq zG true b (.string {data:= #[]}) c fun b c=>vif b (R (.tuple #[(.int .i64 0),(.bool false)]) c) (xf (fun b=>zi P z7 a 0 c fun c d=>ze P zc c d fun c d=>zq P .eql zc true c (.int .i64 20) d fun c d=>vif c (zi P z7 a 4 d fun c e=>ze P zn c e fun c e=>vbi P .len [zn] zc [c] e fun c e=>zq P .eql zc true c (.int .i64 0) e fun c e=>vif c (zi P z7 a 1 e fun c f=>ze P zc c f fun c f=>zi P z7 a 2 f fun f g=>ze P zc f g fun f g=>zE P zb [(0,c),(1,f)] g fun c f=>vcall P xh #[c] f fun c f=>b [c] f) (b [(.bool false)] e)) (b [(.bool false)] d)) (fun b _ c=>vif (sl 0 b) (zi P z7 a 2 c fun b d=>ze P zc b d fun b d=>R (.tuple #[b,(.bool true)]) d) (ze P z7 a c fun b c=>zE P z7 [(0,(.int .i64 24))] c fun c d=>vcall P qC #[b,c] d fun b c=>vif b (R (.tuple #[(.int .i64 1),(.bool true)]) c) (y3 c fun b=>zi P z7 a 0 b fun c d=>d=b∧ze P zc c b fun c d=>d=b∧zq P .eql zc true c (.int .i64 25) b fun c d=>d=b∧vif c (ze P z7 a b fun c d=>d=b∧vcall P ky #[] b fun d e=>(ze P z7 a e fun a f=>a=c∧f=e)∧vcall P qC #[c,d] e fun a c=>vif a (R (.tuple #[(.int .i64 0),(.bool true)]) c) (R (.tuple #[(.int .i64 0),(.bool false)]) c)) (R (.tuple #[(.int .i64 0),(.bool false)]) b)))))
theorem Wl {v0 w R} (h:X6 PP v0 w R):vcall PP kz #[v0] w R:=zp {ord:=[(7,[0,1,2,3,4,5,6,7,8],[(0,[1,2,3,4,5,6,7,8]),(1,[2,3,4,5,6,7,8]),(2,[3,4,5,6,7,8]),(3,[4,5,6,7,8]),(4,[6,7,8]),(5,[6,7,8]),(6,[7,8]),(7,[8])])],cuts:=[(16388,[8])]} Tryz.func14 (by kernel_rfl) (by kernel_rfl) h
def Jf (P:Program) (v0 v1:Value) (w:World) (R:Value→World→Prop):Prop:=vbi P .len [zh] zc [v1] w fun a b=>zq P .gtr zc true a (.int .i64 4) b fun a b=>vif a (R (.int .i64 0) b) (vbi P .len [zh] zc [v1] b fun a b=>yS [(.int .i64 0),(.int .i64 0)] b fun b c _ d=>zq P .lss zc false (sl 1 c) a d fun a d=>vif a (zl P zh v1 (sl 1 c) d fun a e=>ze P zc a e fun a e=>vcall P YN #[v0,a] e fun a e=>vif a (zq P .shl zc true (.int .i64 1) (sl 1 c) e fun a f=>zq P .or zc false (sl 0 c) a f fun a f=>zq P .add zc true (sl 1 c) (.int .i64 1) f fun f g=>b [a,f] g) (zq P .add zc true (sl 1 c) (.int .i64 1) e fun a e=>b [(sl 0 c),a] e)) (R (sl 0 c) d))
theorem UX {v0 v1 w R} (h:Jf PP v0 v1 w R):vcall PP Y7 #[v0,v1] w R:=zp {loops:=[(5,[5,13])]} Tryz.func15 (by kernel_rfl) (by kernel_rfl) h
def XV (P:Program) (v0 v1:Value) (w:World) (R:Value→World→Prop):Prop:=yD P z7 v1 w fun a b=>ze P z7 a b fun b c=>vcall P jo #[b] c fun b c=>zj P b 0 c fun c d=>zj P b 1 d fun b d=>vcall P kR #[v0] d fun d e=>vun P .not d e fun d e=>vif d (R (.int .i64 (-1)) e) (zq P .gtr zc true c (.int .i64 20) e fun c d=>vif c (R (.int .i64 (-1)) d) (zq P .gtr zc true b (.int .i64 7) d fun b c=>vif b (R (.int .i64 (-1)) c) (ze P z7 a c fun a b=>vcall P qK #[v0,a] b fun a b=>R a b)))
theorem U4 {v0 v1 w R} (h:XV PP v0 v1 w R):vcall PP jn #[v0,v1] w R:=zp {} Tryz.func40 (by kernel_rfl) (by kernel_rfl) h
end Go.Proofs.YtaekfnbnhjgboaaGreatDoor
end
