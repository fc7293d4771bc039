import Derived.Test.YtaekfnbnhjgboaaGreatDoorWubP1
import Derived.Laws.Strings2
import Derived.Laws.Concat
import Derived.Laws.StructEq
import Derived.Laws.Shifts
import Derived.Laws.Build
import Derived.RangeFuncRecord
import Derived.Below
import Derived.Test.YtaekfnbnhjgboaaGreatDoorProg
/- A part of the proof. -/
set_option linter.unusedVariables false
set_option linter.unusedSimpArgs false
set_option linter.unnecessarySimpa false
set_option linter.unusedSectionVars false
section
namespace Go.Vc
open Go Go.MapKept
def MapF (d:TypeDesc) (w:World) (b:Nat) (f:List (Value×Value)):Prop:=
 ∃es clock,w.heap[b]?=some (.map es clock)∧Stamped es clock∧(∀x∈es.toList,IsKey d x.key)∧es.toList.map (fun e=>(e.key,e.val))=f
def Zc0 (P:Program) (t:TypeId) (d:TypeDesc) (e:TypeId):Prop:= ∃kt,P.underlying t=some (.map kt e)∧P.underlying kt=some d
section
variable {P:Program} {t e:TypeId} {d:TypeDesc} {w w':World} {K:Value→World→Prop} {b:Nat} {f:List (Value×Value)} {S:Nat→Prop}
theorem MapF.lt (h:MapF d w b f):b<w.heap.size:=by
 obtain⟨es,cl,hb,_⟩:=h;exact(Array.getElem?_eq_some_iff.1 hb).1
theorem MapF.same (h:MapF d w b f) (hw:Same S w w') (hs: ¬S b):MapF d w' b f:=by
 have hlt:=h.lt
 obtain⟨es,cl,hb,r⟩:=h;exact⟨es,cl,(hw.block b hlt hs).trans hb,r⟩
theorem MapF.ext (h:MapF d w b f) (hw:Ext w w'):MapF d w' b f:=h.same hw id
theorem MapF.nodup (h:MapF d w b f):(f.map (·.1)).Nodup:=by
 obtain⟨es,cl,hb,hst,hks,rfl⟩:=h
 have:=hst.2.2
 rw[List.map_map]
 exact this
theorem jr0 {r:Option Value} {k:IntKind} {n:Nat} (hT:Zc0 P t d e) (hr:r=none∨r=some (.int k n)) (hK:∀b w',b=w.heap.size→MapF d w' b []→Ext w w'→w'.heap.size=w.heap.size+1→K (.map (some b)) w'):ZE0 P t r w K:=by
 refine⟨.map (some w.heap.size),w.alloc (.map #[] 0),?_,hK _ _ rfl ⟨#[],0,(heap_alloc w _).1,stamped_empty 0,by simp,rfl⟩ ⟨rfl,rfl,rfl,by simp,fun k hk _=>(heap_alloc w _).2 k hk⟩ (by simp)⟩
 obtain⟨kt,hm,hd⟩:=hT
 rcases hr with rfl|rfl
 ·simp[Instr.makeMap,newObj,Sem.run]
 ·simp only[Instr.makeMap,Sem.run_bind,xP hm,Result.andThen_ok]
  simp[asInt,asIntOf,newObj,Sem.run,Result.andThen]
theorem qp0 (hT:Zc0 P t d e) (hK:∀b w',b=w.heap.size→MapF d w' b []→Ext w w'→w'.heap.size=w.heap.size+1→K (.map (some b)) w'):ZE0 P t none w K:=jr0 (k:= .i64) (n:=0) hT (.inl rfl) hK
theorem jp0 {k x:Value} (hT:Zc0 P t d e) (h:MapF d w b f) (hk:IsKey d k) (hn:∀v,(k,v)∉f)
  (hK:∀w',MapF d w' b (f++[(k,x)])→Same (· =b) w w'→w'.heap.size=w.heap.size→K undef w'):kF P t (.map (some b)) k x w K:=by
 obtain⟨kt,hm,hd⟩:=hT
 obtain⟨es,cl,hb,hst,hks,rfl⟩:=h
 rcases findNow_spec hk es.toList 0 hks with⟨h1,h2⟩|⟨j,e,h1,h2,h3⟩
 ·refine⟨(),{w with heap:=w.heap.setIfInBounds b (.map (es.push {key:=k,val:=x,born:=cl}) (cl+1))},?_,hK _ ⟨_,_,(heap_set hb).1,stamped_push hst h2,fun y hy=>?_,by simp⟩ (U3 hb) (by simp)⟩
  ·simp[Instr.mapUpdate,run_underlying hm,MapKept.run_getObj_map hb,run_checkKey hd hk,run_findKey hd h1,run_setObj_map _ hb,Result.andThen]
  ·rw[Array.toList_push] at hy
   rcases List.mem_append.1 hy with hy|hy
   ·exact hks y hy
   ·rw[List.mem_singleton.1 hy];exact hk
 ·exact absurd (List.mem_map.2 ⟨e,List.mem_of_getElem? h2,by rw[h3]⟩) (hn e.val)
theorem y60 {k v:Value} {ok:Bool} (hT:Zc0 P t d e) (h:MapF d w b f) (hk:IsKey d k) (hin:(k,v)∈f):
  QD P t (.map (some b)) k ok w K=K (if ok then .tuple #[v,.bool true] else v) w:=by
 obtain⟨kt,hm,hd⟩:=hT
 have hnd:=h.nodup
 obtain⟨es,cl,hb,hst,hks,rfl⟩:=h
 rcases findNow_spec hk es.toList 0 hks with⟨h1,h2⟩|⟨j,e,h1,h2,h3⟩
 ·obtain⟨x,hx,e⟩:=List.mem_map.1 hin
  cases e;exact absurd rfl (h2 x hx)
 ·obtain⟨x,hx,e'⟩:=List.mem_map.1 hin
  have hxe:x=e:=by
   have hm2:e∈es.toList:=List.mem_of_getElem? h2
   have hp:=hst.2.2
   cases e'
   have hp':es.toList.Pairwise fun a b=>a.key≠b.key:=List.pairwise_map.1 hp
   by_cases hne:x=e
   ·exact hne
   ·obtain⟨i1,hi1,e1⟩:=List.getElem_of_mem hx
    obtain⟨i2,hi2,e2⟩:=List.getElem_of_mem hm2
    rcases Nat.lt_trichotomy i1 i2 with hlt|heq|hlt
    ·exact absurd (by rw[e1,e2];exact h3.symm) (List.pairwise_iff_getElem.1 hp' i1 i2 hi1 hi2 hlt)
    ·subst heq;exact absurd (e1.symm.trans e2) hne
    ·exact absurd (by rw[e1,e2];exact h3) (List.pairwise_iff_getElem.1 hp' i2 i1 hi2 hi1 hlt)
  subst hxe
  cases e'
  refine yr ?_
  cases ok<;>simp[Instr.lookup,run_underlying hm,MapKept.run_getObj_map hb,run_checkKey hd hk,run_findKey hd h1,Result.andThen]
theorem x80 {k z:Value} {ok:Bool} (hT:Zc0 P t d e) (hz:yK P e z) (h:MapF d w b f) (hk:IsKey d k) (hn:∀v,(k,v)∉f):
  QD P t (.map (some b)) k ok w K=K (if ok then .tuple #[z,.bool false] else z) w:=by
 obtain⟨kt,hm,hd⟩:=hT
 obtain⟨es,cl,hb,hst,hks,rfl⟩:=h
 rcases findNow_spec hk es.toList 0 hks with⟨h1,h2⟩|⟨j,e,h1,h2,h3⟩
 ·refine yr ?_
  cases ok<;>simp[Instr.lookup,run_underlying hm,MapKept.run_getObj_map hb,run_checkKey hd hk,run_findKey hd h1,Qu hz,Result.andThen]
 ·exact absurd (List.mem_map.2 ⟨e,List.mem_of_getElem? h2,by rw[h3]⟩) (hn e.val)
theorem y5 {ty:TypeId} {v rcv:Value} {name:String} {args:Array Value} {g:Nat} (hm:∀w:World,(method (P.types.size+Made.depth) ty v name).run P w= .ok (g,rcv) w) (h:vcall P g ⟨rcv::args.toList⟩ w K):vinvoke P (.iface ty v) name args w K:=
 ⟨g,rcv,hm w,h⟩
def concB (P:Program) (t:TypeId):Bool:=match P.underlying t with|some (.interface _)=>false|some _=>true|none=>false
theorem Y2 (h:concB P t=true) (v:Value):Jd P t v w K=K (.iface t v) w:=by
 refine yr ?_
 unfold concB at h
 cases hu:P.underlying t with
 |none=>rw[hu] at h;cases h
 |some x=>
  rw[hu] at h
  simp only[Instr.makeInterface,Sem.run_bind,xP hu,Result.andThen_ok]
  cases x<;>first|(cases h;done)|simp
theorem q20 (a b:ByteArray):(a.toList==b.toList)=decide (a=b):=by
 rw[←beq_toListBytes]
 by_cases h:a=b
 ·subst h;rw[decide_eq_true rfl];exact(MapKept.bytes_beq a a).2 rfl
 ·rw[decide_eq_false h,Bool.eq_false_iff];exact fun e=>h ((MapKept.bytes_beq a b).1 e)
@[push_cast] theorem YG0 {c:Bool} (t:TypeId) (a b:ByteArray):zp P .eql t c (.string a) (.string b) w K=K (.bool (decide (a=b))) w:=
 yH rfl (by rw[binOp_string_eql,q20];rfl)
@[push_cast] theorem YF0 {c:Bool} (t:TypeId) (a b:ByteArray):zp P .neq t c (.string a) (.string b) w K=K (.bool (decide (a≠b))) w:=
 yH rfl (by rw[binOp_string_neq,q20,decide_not];rfl)
theorem YN {c:Bool} {t:TypeId} {a b:ByteArray} (h:a.size+b.size≤9223372036854775807):zp P .add t c (.string a) (.string b) w K=K (.string (a++b)) w:=
 yH rfl (by simp only[binOp_string_add];exact run_string_add_sum w a b h)
theorem Ku {t ty:TypeId} {s:ByteArray} (h:P.underlying t=some .string):vbi P .len [t] ty [.string s] w K=K (.int .i64 s.size) w:=
 yr (run_len_string (P:=P) (w:=w) t ty s h)
theorem vindex_str {t:TypeId} {s:ByteArray} {k:IntKind} {i:Int} (h:P.underlying t=some .string) (h0:0≤i) (h1:i<s.size):zX0 P t (.string s) (.int k i) w K=K (.int .u8 ((s.data.getD i.toNat 0).toNat:Int)) w:=by
 refine yr ?_
 rw[run_index_string (P:=P) (w:=w) t s k i h]
 have hlt:i.toNat<s.size:=by omega
 have hd:i.toNat<s.data.size:=hlt
 rw[dif_pos ⟨h0,h1⟩,Array.getD_eq_getD_getElem?,Array.getElem?_eq_getElem hd]
 rfl
theorem qO0 {t:TypeId} {s:ByteArray} {k k':IntKind} {i j:Int} (h:P.underlying t=some .string) (h0:0≤i) (h1:i≤j) (h2:j≤s.size):yq P t (.string s) (some (.int k i)) (some (.int k' j)) none w K=K (.string (s.extract i.toNat j.toNat)) w:=by
 refine yr ?_
 rw[run_sliceAt_string w t _ _ _ _ h]
 exact run_slice_string (P:=P) w t s k k' i j h h0 h1 h2
theorem qr0 {c:Bool} {t:TypeId} {k yk:IntKind} {x y:Int} (h:0≤y):zp P .shl t c (.int k x) (.int yk y) w K=K (.int k (k.wrap (x*2^min y.toNat k.bits))) w:=
 yH rfl (by simp[binOp,shift_shl_any,h])
theorem qq0 {c:Bool} {t:TypeId} {k yk:IntKind} {x y:Int} (h:0≤y):zp P .shr t c (.int k x) (.int yk y) w K=K (.int k (x/2^min y.toNat k.bits)) w:=
 yH rfl (by simp[binOp,shift_shr_any,h])
theorem wrapU {n:Nat} (h:n<18446744073709551616):IntKind.u64.wrap (n:Int)=n:=by
 simp only[IntKind.wrap,IntKind.bits,IntKind.signed,Bool.false_and,Bool.false_eq_true,if_false]
 omega
theorem wrapN {n:Nat} (h:n<9223372036854775808):IntKind.i64.wrap (n:Int)=n:=zF (by omega) (by omega)
theorem KD (n:Nat):BitVec.ofInt 64 (n:Int)=BitVec.ofNat 64 n:=by simp
theorem XA {c:Bool} {t:TypeId} {a b:Nat} (ha:a<18446744073709551616) (hb:b<18446744073709551616):zp P .and t c (.int .u64 a) (.int .u64 b) w K=K (.int .u64 (a&&&b:Nat)) w:=
 yH rfl (by
  have h1:a&&&b<18446744073709551616:=Nat.lt_of_le_of_lt Nat.and_le_left ha
  have e:(BitVec.ofInt 64 (a:Int)&&&BitVec.ofInt 64 (b:Int)).toNat=a&&&b:=by
   rw[KD,KD,BitVec.toNat_and,BitVec.toNat_ofNat,BitVec.toNat_ofNat,Nat.mod_eq_of_lt ha,Nat.mod_eq_of_lt hb]
  simp only[binOp,ne_eq,not_true_eq_false,if_false,Op.intBits]
  show(pure (Value.int .u64 (IntKind.u64.wrap ((BitVec.ofInt 64 (a:Int)&&&BitVec.ofInt 64 (b:Int)).toNat:Int))):Sem Value).run P w=_
  rw[e,wrapU h1];rfl)
theorem qs0 {c:Bool} {t:TypeId} {a b:Nat} (ha:a<18446744073709551616) (hb:b<18446744073709551616):zp P .or t c (.int .u64 a) (.int .u64 b) w K=K (.int .u64 (a|||b:Nat)) w:=
 yH rfl (by
  have h1:a|||b<2^64:=Nat.or_lt_two_pow ha hb
  have e:(BitVec.ofInt 64 (a:Int)|||BitVec.ofInt 64 (b:Int)).toNat=a|||b:=by
   rw[KD,KD,BitVec.toNat_or,BitVec.toNat_ofNat,BitVec.toNat_ofNat,Nat.mod_eq_of_lt ha,Nat.mod_eq_of_lt hb]
  simp only[binOp,ne_eq,not_true_eq_false,if_false,Op.intBits]
  show(pure (Value.int .u64 (IntKind.u64.wrap ((BitVec.ofInt 64 (a:Int)|||BitVec.ofInt 64 (b:Int)).toNat:Int))):Sem Value).run P w=_
  rw[e,wrapU h1];rfl)
theorem jy0 {c:Bool} {t:TypeId} {a b:Nat} (ha:a<18446744073709551616) (hb:b<18446744073709551616):zp P .xor t c (.int .u64 a) (.int .u64 b) w K=K (.int .u64 (a^^^b:Nat)) w:=
 yH rfl (by
  have h1:a^^^b<2^64:=Nat.xor_lt_two_pow ha hb
  have e:(BitVec.ofInt 64 (a:Int)^^^BitVec.ofInt 64 (b:Int)).toNat=a^^^b:=by
   rw[KD,KD,BitVec.toNat_xor,BitVec.toNat_ofNat,BitVec.toNat_ofNat,Nat.mod_eq_of_lt ha,Nat.mod_eq_of_lt hb]
  simp only[binOp,ne_eq,not_true_eq_false,if_false,Op.intBits]
  show(pure (Value.int .u64 (IntKind.u64.wrap ((BitVec.ofInt 64 (a:Int)^^^BitVec.ofInt 64 (b:Int)).toNat:Int))):Sem Value).run P w=_
  rw[e,wrapU h1];rfl)
theorem vbin_orI {c:Bool} {t:TypeId} {a b:Nat} (ha:a<9223372036854775808) (hb:b<9223372036854775808):zp P .or t c (.int .i64 a) (.int .i64 b) w K=K (.int .i64 (a|||b:Nat)) w:=
 yH rfl (by
  have h1:a|||b<2^63:=Nat.or_lt_two_pow ha hb
  have e:(BitVec.ofInt 64 (a:Int)|||BitVec.ofInt 64 (b:Int)).toNat=a|||b:=by
   rw[KD,KD,BitVec.toNat_or,BitVec.toNat_ofNat,BitVec.toNat_ofNat,Nat.mod_eq_of_lt (by omega),Nat.mod_eq_of_lt (by omega)]
  simp only[binOp,ne_eq,not_true_eq_false,if_false,Op.intBits]
  show(pure (Value.int .i64 (IntKind.i64.wrap ((BitVec.ofInt 64 (a:Int)|||BitVec.ofInt 64 (b:Int)).toNat:Int))):Sem Value).run P w=_
  rw[e,wrapN h1];rfl)
theorem vun_xorU {a:Nat} (ha:a<18446744073709551616):vun P .xor (.int .u64 a) w K=K (.int .u64 (18446744073709551615-a:Nat)) w:=by
 refine yr ?_
 have e:(BitVec.ofInt 64 (18446744073709551615:Int)^^^BitVec.ofInt 64 (a:Int)).toNat=18446744073709551615-a:=by
  have e0:BitVec.ofInt 64 (18446744073709551615:Int)=BitVec.allOnes 64:=by decide
  rw[e0,KD,BitVec.allOnes_xor,BitVec.toNat_not,BitVec.toNat_ofNat,Nat.mod_eq_of_lt ha]
 show(pure (Value.int .u64 (IntKind.u64.wrap ((BitVec.ofInt 64 (18446744073709551615:Int)^^^BitVec.ofInt 64 (a:Int)).toNat:Int))):Sem Value).run P w=_
 rw[e,wrapU (by omega)];rfl
theorem vbin_shlU {c:Bool} {t:TypeId} {yk:IntKind} {x y:Nat} (hy:y<64) (h:x*2^y<18446744073709551616):zp P .shl t c (.int .u64 x) (.int yk y) w K=K (.int .u64 (x*2^y:Nat)) w:=by
 rw[qr0 (by omega)]
 have e:((x:Int)*2^min (y:Int).toNat IntKind.u64.bits)=((x*2^y:Nat):Int):=by
  have:min (y:Int).toNat IntKind.u64.bits=y:=by show min y 64=y;omega
  rw[this];simp
 rw[e,wrapU h]
theorem vbin_shlI {c:Bool} {t:TypeId} {yk:IntKind} {x y:Nat} (hy:y<64) (h:x*2^y<9223372036854775808):zp P .shl t c (.int .i64 x) (.int yk y) w K=K (.int .i64 (x*2^y:Nat)) w:=by
 rw[qr0 (by omega)]
 have e:((x:Int)*2^min (y:Int).toNat IntKind.i64.bits)=((x*2^y:Nat):Int):=by
  have:min (y:Int).toNat IntKind.i64.bits=y:=by show min y 64=y;omega
  rw[this];simp
 rw[e,wrapN h]
theorem vbin_shrU {c:Bool} {t:TypeId} {yk:IntKind} {x y:Nat} (hy:y<64):zp P .shr t c (.int .u64 x) (.int yk y) w K=K (.int .u64 (x/2^y:Nat)) w:=by
 rw[qq0 (by omega)]
 have:min (y:Int).toNat IntKind.u64.bits=y:=by show min y 64=y;omega
 rw[this];simp
theorem zu {t:TypeId} {cs:List Value} (h:∀b w',b=w.heap.size→Ext w w'→w'.heap.size=w.heap.size+1→Blk w' b cs t→K (.pointer (some ⟨b,0,none⟩)) w'):yy P t (.agg ⟨cs⟩) w K:=YM h
theorem zE {t:TypeId} {cs:List Value} (hz:yK P t (.agg ⟨cs⟩)) (h:∀b w',b=w.heap.size→Ext w w'→w'.heap.size=w.heap.size+1→Blk w' b cs t→K (.pointer (some ⟨b,0,none⟩)) w'):zY P t w K:=VJ hz h
theorem yB {t:TypeId} {pl:List (Nat×Nat)} {ps:List (Nat×Value)} {us:List (List Value)} {zs cs:List Value} (h:strF P t=some (pl,zs)) (hv:ps.map (fun p=>p.2.cells)=us.map List.toArray)
  (hf:fillC pl zs (ps.map (·.1)) us=some cs):zU P t ps w K=K (.agg ⟨cs⟩) w:=by
 refine yr (run_build (P:=P) w t ⟨ps⟩ ⟨cs⟩ ?_)
 unfold strF at h
 split at h
 ·rename_i fs i hu hi
  split at h
  ·rename_i pl' z hp hz
   simp only[Option.some.injEq,Prod.mk.injEq] at h
   obtain⟨rfl,rfl⟩:=h
   simp only[Program.built,hu,hi,hz,hp]
   exact fill_eq hv hf
  ·cases h
 ·cases h
theorem KH (s:ByteArray):IsKey .string (.string s):=by simp[IsKey]
theorem inc64' {i:Nat} (h:i<9223372036854775807):IntKind.i64.wrap ((i:Int)+1)=((i+1:Nat):Int):=by rw[zF (by omega) (by omega)];omega
end
end Go.Vc
end
section
namespace Go.Vc
open Go Go.RowKit
def hasR:Code→Bool
 | .rangeFunc _ _ _ _=>true
 | .seq a b=>hasR a||hasR b
 | .block _ b=>hasR b
 |_=>false
def ovrAt:List Nat→Fr→List Value→Fr
 |[],f,_=>f
 |p::r,f,args=>ovrAt r (put f (some p) (args.headD undef)) args.tail
def jmp (x:Nat) (Nn Nr Nx:World→Prop) (pe:Option Code) (w:World):Prop:=
 match pe with
 |none=>Nn w
 |some .ret=>Nr w
 |some (.exit i)=>i=x∧Nx w
 |_=>False
def YU0 (P:Program) (gv:Value) (n x:Nat) (w:World) (B:List Value→(World→(World→Prop)→Prop)→(World→Prop)→(World→Prop)→(World→Prop)→World→Prop) (Nn Nr Nx:Nat→World→Prop):Prop:=
 ∃gf lb,gv= .func (.func gf) #[] lb∧∀(l D:Nat) (w1:World) (RR:LoopState→Option Code→World→Prop),D=w.heap.size→l=w.heap.size+1→Ext w w1→w1.heap.size=w.heap.size+2→w1.heap[D]?=some (.deferred (some []))→
  (∀st pe w' w'',RR st pe w'→w''.heap[l]?=w'.heap[l]?→RR st pe w'')→RR .ready none w1→
  (∀(args:List Value) (w':World) (K:Value→World→Prop),args.length=n→RR .ready none w'→
   B args (fun w1 k=>RR .ready none w1∧∀w2,Same (· =l) w1 w2→w2.heap.size=w1.heap.size→RR .busy none w2→k w2)
    (fun w3=>RR .busy none w3∧∀w4,Same (· =l) w3 w4→w4.heap.size=w3.heap.size→RR .ready none w4→K (.bool true) w4)
    (fun w3=>RR .busy none w3∧∀w4,Same (· =l) w3 w4→w4.heap.size=w3.heap.size→RR .done (some .ret) w4→K (.bool false) w4)
    (fun w3=>RR .busy none w3∧∀w4,Same (· =l) w3 w4→w4.heap.size=w3.heap.size→RR .done (some (.exit x)) w4→K (.bool false) w4) w'→
   vcallv P (.func (.yield l) #[] #[]) ⟨args⟩ w' K)→
  vcall P gf ⟨.func (.yield l) #[] #[]::lb.toList⟩ w1 fun _ w3=> ∃st pe,st≠ .busy∧RR st pe w3∧∀w4,Same (· =l) w3 w4→w4.heap.size=w3.heap.size→jmp x (Nn D) (Nr D) (Nx D) pe w4
def rndK (x:Nat) (kn kr kx:World→Prop) (e:Exit) (_:Fr) (w:World):Prop:=
 match e with
 | .normal=>kn w
 | .ret=>kr w
 | .exit i=>cond (Nat.beq i x) (kx w) False
 |_=>False
def vx (P:Program) (T:Ann) (x:Nat):Code→(Exit→Fr→World→Prop)→(Nat→Exit→Fr→World→Prop)→Fr→World→Prop
 | .rangeFunc g ps asg body,_,K1,f,w=>
  YU0 P (ev f g) ps.size x w
   (fun args beg kn kr kx w'=>vc P T asg (seqK (fun f1 w1=>beg w1 fun w2=>vc P T body (rndK x kn kr kx) f1 w2) (fun _ _ _=>False)) (ovrAt ps.toList f args) w')
   (fun D w'=>K1 D .normal f w') (fun D w'=>K1 D .ret f w') (fun D w'=>K1 D (.exit x) f w')
 | .seq a b,K0,K1,f,w=>
  match hasR a with
  |true=>vx P T x a (seqK (fun f' w'=>vc P T b K0 f' w') K0) (fun D=>seqK (fun f' w'=>vc P T b (K1 D) f' w') (K1 D)) f w
  |false=>vc P T a (seqK (fun f' w'=>vx P T x b K0 K1 f' w') K0) f w
 | .block id c,K0,K1,f,w=>vx P T x c (blkK id K0) (fun D=>blkK id (K1 D)) f w
 |_,_,_,_,_=>False
def okX (n:Nat) (T:Ann):Code→Bool
 | .rangeFunc _ ps asg body=>okC n T asg&&(okC n T body&&ps.toList.all fun p=>Nat.blt p n)
 | .seq a b=>cond (hasR a) (okX n T a&&okC n T b) (okC n T a&&okX n T b)
 | .block _ c=>okX n T c
 |_=>false
def X60 (D:Nat):Deferred:={target:= .collected D,args:= #[]}
def ZB0 (n:Nat) (K0:Exit→Fr→World→Prop) (K1:Nat→Exit→Fr→World→Prop) (e:Exit) (a:Act) (w:World):Prop:=
 (∃f',Sim [] n f' a∧K0 e f' w)∨ ∃D f',Sim [X60 D] n f' a∧K1 D e f' w
section
variable {P:Program} {T:Ann} {n x:Nat}
theorem Yc0:∀(ps:List Nat) (f:Fr) (args:List Value) (tmps:Array Value),args.length=ps.length→ps.all (fun p=>Nat.blt p n)=true→tmps.size=n→(∀t,tmps.getD t undef=f t)→
  Sim [] n (ovrAt ps f args) {tmps:=(ps.zip args).foldl (fun t p=>t.setIfInBounds p.1 p.2) tmps,defers:=[]}:=by
 intro ps
 induction ps with
 |nil=>intro f args tmps _ _ hs ha;exact⟨hs,rfl,ha⟩
 |cons p r ih=>
  intro f args tmps hl hp hs ha
  cases args with
  |nil=>simp at hl
  |cons v args=>
   simp only[List.all_cons,Bool.and_eq_true] at hp
   have hpn:p<n:=by simpa[Nat.blt_eq] using hp.1
   refine ih (put f (some p) v) args (tmps.setIfInBounds p v) (by simpa using hl) hp.2 (by simpa using hs) fun t=>?_
   by_cases e:t=p
   ·subst e
    rw[U4]
    simp[Array.getD_eq_getD_getElem?,hs,hpn]
   ·rw[zZ0 _ _ _ _ e,←ha t]
    simp only[Array.getD_eq_getD_getElem?]
    rw[Array.getElem?_setIfInBounds_ne (Ne.symm e)]
theorem Qt (w:World) (l:Nat) (o:Obj):Same (· =l) w (w.putObj l o):=
 ⟨rfl,rfl,rfl,by simp,fun _ _ hb=>World.putObj_heap_other hb⟩
theorem Qx {w:World} {l:Nat} {o:Obj} (h:w.heap[l]?=some o):l<w.heap.size:=(Array.getElem?_eq_some_iff.1 h).1
theorem range_sound (hm:P.follows .mixedOrders=true) {g:Operand} {ps:Array Tmp} {asg body:Code} {K0:Exit→Fr→World→Prop} {K1:Nat→Exit→Fr→World→Prop} {f:Fr} {a:Act} {w:World}
  (hok:okX n T (.rangeFunc g ps asg body)=true) (h:vx P T x (.rangeFunc g ps asg body) K0 K1 f w) (hs:Sim [] n f a):(Code.rangeFunc g ps asg body).wpIn (FR none) 0 P (ZB0 n K0 K1) a w:=by
 simp only[okX,Bool.and_eq_true] at hok
 obtain⟨ho1,ho2,ho3⟩:=hok
 obtain⟨gf,lb,hg,H⟩:=h
 refine wpIn_rangeFunc fun fn _=>?_
 let rec0:LoopState→Option Code→Loop:=fun st pe=>{state:=st,pending:=pe,fn,tmps:=a.tmps,params:=ps,assign:=asg,body,defers:=w.heap.size}
 obtain⟨w1,hw1⟩:∃w1,(w.alloc (.deferred (some []))).alloc (.loop (rec0 .ready none))=w1:=⟨_,rfl⟩
 have hL1:w1.heap[w.heap.size+1]?=some (.loop (rec0 .ready none)):=by
  rw[←hw1];have:=World.alloc_heap_new (w.alloc (.deferred (some []))) (.loop (rec0 .ready none));rwa[World.size_alloc] at this
 have hD1:w1.heap[w.heap.size]?=some (.deferred (some [])):=by
  rw[←hw1];exact(Below.heap_alloc _ _ _ (by simp)).trans (World.alloc_heap_new w _)
 have hsz1:w1.heap.size=w.heap.size+2:=by rw[←hw1,World.size_alloc,World.size_alloc]
 have hE1:Ext w w1:=by
  rw[←hw1]
  exact⟨rfl,rfl,rfl,by rw[World.size_alloc,World.size_alloc];omega,fun b hb _=>(Below.heap_alloc _ _ b (by rw[World.size_alloc];omega)).trans (Below.heap_alloc w _ b hb)⟩
 have hc:=H (w.heap.size+1) w.heap.size w1 (fun st pe w'=>w'.heap[w.heap.size+1]?=some (.loop (rec0 st pe))) rfl rfl hE1 hsz1 hD1 (fun st pe w' w'' hr he=>he.trans hr) hL1 ?_
 ·obtain⟨hgf,hcall⟩:=hc
  refine⟨w.heap.size+1,[X60 w.heap.size],w1,{target:= .fn (.func gf) lb,args:= #[.func (.yield (w.heap.size+1)) #[] #[]]},w1,gf,
   #[.func (.yield (w.heap.size+1)) #[] #[]]++lb,w1,?_,?_,fun _ _=>trivial,?_,fun h=>(by cases h),?_⟩
  ·rw[←hw1];exact run_enterLoop_outer _ _ _ _ _
  ·simp only[resolve,hs.eval,hg]
   simp[go_sem,ev]
  ·simp[invoke,go_sem,callFunc_run hgf]
  ·have e:(#[.func (.yield (w.heap.size+1)) #[] #[]]++lb:Array Value)=⟨.func (.yield (w.heap.size+1)) #[] #[]::lb.toList⟩:=by apply Array.toList_inj.1;simp
   rw[e]
   refine callsIn_wide.2 (Calls.mono hcall fun e w3 he=>?_)
   cases e with
   |returned v=>
    obtain⟨st,pe,hst,hr,hN⟩:=he
    have hend:=run_endLoop (P:=P) hr (by exact hst)
    have hN':=hN _ (Qt w3 _ (.loop {rec0 st pe with state:= .exhausted})) (by simp)
    have hs':Sim [X60 w.heap.size] n f {a with defers:=[X60 w.heap.size]++a.defers}:=⟨hs.size,by rw[hs.defers];rfl,hs.at_⟩
    refine⟨pe,_,hend,?_⟩
    cases pe with
    |none=>exact .inr ⟨_,f,hs',hN'⟩
    |some c=>
     cases c<;>simp only[jmp] at hN'<;>try exact hN'.elim
     case exit i=>
      obtain⟨rfl,hN'⟩:=hN'
      exact wpIn_exit (.inr ⟨_,f,hs',hN'⟩)
     case ret=>exact wpIn_ret (.inr ⟨_,f,hs',hN'⟩)
   |panicked c=>exact he.elim
   |outgrown=>exact he.elim
 ·intro args w' K hlen hr hB
  have hy:=run_yield (P:=P) (args:=(⟨args⟩:Array Value)) hr (by simpa[rec0] using hlen)
  refine⟨fn,_,asg,body,hy,roundIn_of_wpIn trivial ?_⟩
  have hsim:=Yc0 (n:=n) ps.toList f args a.tmps (by simpa using hlen) ho3 hs.size hs.at_
  have ez:((rec0 .ready none).params.zip (⟨args⟩:Array Value)).foldl (fun tmps (t,a)=>tmps.setIfInBounds t a) (rec0 .ready none).tmps=(ps.toList.zip args).foldl (fun t p=>t.setIfInBounds p.1 p.2) a.tmps:=by
   rw[←Array.foldl_toList,Array.toList_zip]
  rw[ez]
  have h1:=vc_sound (ro:=some (w.heap.size+1)) hm asg _ _ _ w' ho1 hB hsim (fun l f w h=>h)
  refine wpIn_mono h1 ?_
  rintro e a2 w2 ⟨f2,hs2,_,hk⟩
  cases e<;>simp only[seqK] at hk<;>try exact hk.elim
  case normal=>
   obtain⟨hr2,hk⟩:=hk
   refine⟨_,run_beginRound hr2 rfl,?_⟩
   have hlt:=Qx hr2
   have hk2:=hk _ (Qt w2 _ (.loop {rec0 .ready none with state:= .busy})) (by simp) (World.putObj_heap_same hlt)
   refine wpIn_mono (vc_sound (ro:=some (w.heap.size+1)) hm body _ _ _ _ ho2 hk2 hs2 (fun l f w h=>h)) ?_
   rintro e a3 w3 ⟨f3,hs3,_,hk3⟩
   cases e<;>simp only[rndK] at hk3<;>try exact hk3.elim
   case normal=>
    obtain⟨hr3,hk4⟩:=hk3
    exact⟨_,_,run_endRound none hr3,hk4 _ (Qt w3 _ _) (by simp) (World.putObj_heap_same (Qx hr3))⟩
   case ret=>
    obtain⟨hr3,hk4⟩:=hk3
    exact⟨_,_,run_endRound (some .ret) hr3,hk4 _ (Qt w3 _ _) (by simp) (World.putObj_heap_same (Qx hr3))⟩
   case exit i=>
    cases hi:Nat.beq i x
    ·rw[hi] at hk3;exact hk3.elim
    ·rw[hi] at hk3
     obtain rfl:=Nat.eq_of_beq_eq_true hi
     obtain⟨hr3,hk4⟩:=hk3
     exact⟨_,_,run_endRound (some (.exit i)) hr3,hk4 _ (Qt w3 _ _) (by simp) (World.putObj_heap_same (Qx hr3))⟩
theorem kL0 (hm:P.follows .mixedOrders=true):∀(c:Code) (K0:Exit→Fr→World→Prop) (K1:Nat→Exit→Fr→World→Prop) (f:Fr) (a:Act) (w:World),okX n T c=true→vx P T x c K0 K1 f w→Sim [] n f a→
  (∀l f w,¬K0 (.goto l) f w)→(∀D l f w,¬K1 D (.goto l) f w)→c.wpIn (FR none) 0 P (ZB0 n K0 K1) a w:=by
 intro c
 induction c with
 |rangeFunc g ps asg body _ _=>intro K0 K1 f a w hok h hs _ _;exact range_sound hm hok h hs
 |seq y z ihy ihz=>
  intro K0 K1 f a w hok h hs hg0 hg1
  refine wpIn_seq ?_
  simp only[okX] at hok
  simp only[vx] at h
  cases hy:hasR y with
  |true=>
   rw[hy] at hok h
   simp only[cond,Bool.and_eq_true] at hok
   simp only at h
   refine wpIn_mono (ihy _ _ f a w hok.1 h hs (fun l f w h=>hg0 l f w h) (fun D l f w h=>hg1 D l f w h)) ?_
   rintro e a' w' (⟨f',hs',hk⟩|⟨D,f',hs',hk⟩)
   ·cases e with
    |normal=>
     refine wpIn_mono (vc_sound hm z K0 f' a' w' hok.2 hk hs' hg0) ?_
     rintro e a'' w'' ⟨f'',hs'',_,hk'⟩
     exact .inl ⟨f'',hs'',hk'⟩
    |_=>exact .inl ⟨f',hs',hk⟩
   ·cases e with
    |normal=>
     refine wpIn_mono (vc_sound hm z (K1 D) f' a' w' hok.2 hk hs' (hg1 D)) ?_
     rintro e a'' w'' ⟨f'',hs'',_,hk'⟩
     exact .inr ⟨D,f'',hs'',hk'⟩
    |_=>exact .inr ⟨D,f',hs',hk⟩
  |false=>
   rw[hy] at hok h
   simp only[cond,Bool.and_eq_true] at hok
   simp only at h
   refine wpIn_mono (vc_sound hm y _ f a w hok.1 h hs (fun l f w h=>hg0 l f w h)) ?_
   rintro e a' w' ⟨f',hs',_,hk⟩
   cases e with
   |normal=>exact ihz K0 K1 f' a' w' hok.2 hk hs' hg0 hg1
   |_=>exact .inl ⟨f',hs',hk⟩
 |block id b ih=>
  intro K0 K1 f a w hok h hs hg0 hg1
  simp only[vx] at h
  refine wpIn_block (wpIn_mono (ih _ _ f a w hok h hs (fun l f w h=>hg0 l f w h) (fun D l f w h=>hg1 D l f w h)) ?_)
  have key:∀(K:Exit→Fr→World→Prop) (e:Exit) (f':Fr) (w':World),blkK id K e f' w'→∀(df:List Deferred) (a':Act),Sim df n f' a'→(∀e f w a,Sim df n f a→K e f w→ZB0 n K0 K1 e a w)→Exit.inBlock id (ZB0 n K0 K1) e a' w':=by
   intro K e f' w' hk df a' hs' hP
   cases e with
   |exit i=>
    simp only[blkK] at hk
    cases hi:Nat.beq i id
    ·rw[hi] at hk
     have hne:i≠id:=Nat.ne_of_beq_eq_false hi
     simp only[Exit.inBlock,hne,if_false]
     exact hP _ _ _ _ hs' hk
    ·rw[hi] at hk
     have:i=id:=Nat.eq_of_beq_eq_true hi
     subst this
     simp only[Exit.inBlock,if_true]
     exact hP _ _ _ _ hs' hk
   |_=>exact hP _ _ _ _ hs' hk
  rintro e a' w' (⟨f',hs',hk⟩|⟨D,f',hs',hk⟩)
  ·exact key K0 e f' w' hk [] a' hs' fun e f w a hs h=> .inl ⟨f,hs,h⟩
  ·exact key (K1 D) e f' w' hk [X60 D] a' hs' fun e f w a hs h=> .inr ⟨D,f,hs,h⟩
 |_=>intro K0 K1 f a w hok;exact absurd hok (by simp[okX])
def qP0 (D:Nat) (w:World) (k:World→Prop):Prop:=w.heap[D]?=some (.deferred (some []))∧∀w',Same (· =D) w w'→w'.heap.size=w.heap.size→k w'
def retM (P:Program) (rs:List ResultVar) (K:Value→World→Prop) (D:Nat) (e:Exit) (f:Fr) (w:World):Prop:=
 match e with
 | .normal=>qP0 D w fun w'=>YE0 P rs f w' K
 | .ret=>qP0 D w fun w'=>YE0 P rs f w' K
 |_=>False
theorem xz0 {g:Nat} {fn:Func} {c:Code} {args:List Value} {w:World} {K:Value→World→Prop} (hm:P.follows .mixedOrders=true) (hf:P.funcs[g]?=some fn) (hb:fn.body=some c)
  (hn:fn.ntmps=n) (hg:okFn P g=true) (hok:okX n T c=true) (hlen:Nat.ble args.length n=true)
  (h:vx P T x c (retF P fn.results.toList K) (retM P fn.results.toList K) (nthV args) w):vcall P g args.toArray w K:=by
 refine⟨hg,callsIn_wide (n:=0).1 (callsIn_of_wp_marks hf hb trivial ?_)⟩
 rw[hn]
 refine wpIn_mono (kL0 (x:=x) hm c _ _ _ _ w hok h (sim_enter args n (Nat.le_of_ble_eq_true hlen)) (fun l f w h=>h) (fun D l f w h=>h)) ?_
 rintro e a' w' (⟨f',hs',hk⟩|⟨D,f',hs',hk⟩)
 ·cases e with
  |normal=>obtain⟨v,hr,hv⟩:=vres_sound hk hs';rw[bodyPostM,hs'.defers];exact⟨v,hr,hv⟩
  |ret=>obtain⟨v,hr,hv⟩:=vres_sound hk hs';rw[bodyPostM,hs'.defers];exact⟨v,hr,hv⟩
  |_=>exact hk.elim
 ·have fin:qP0 D w' (fun w'=>YE0 P fn.results.toList f' w' K)→LeavesInM (FR none) 0 P fn a'.tmps (retK K) a'.defers .returning w':=by
   rintro⟨h1,h2⟩
   rw[hs'.defers]
   obtain⟨v,hr,hv⟩:=vres_sound (h2 _ (Qt w' D (.deferred none)) (by simp)) hs'
   exact⟨by simp,.inl ⟨_,_,rfl,run_takeDeferred h1,v,hr,hv⟩⟩
  cases e with
  |normal=>exact fin hk
  |ret=>exact fin hk
  |_=>exact hk.elim
end
end Go.Vc
end
section
namespace Go.M
inductive Tm where
 |mk (op a b:Int) (s:ByteArray) (ks:List Tm)
namespace Tm
def op:Tm→Int|mk o _ _ _ _=>o
def a:Tm→Int|mk _ a _ _ _=>a
def b:Tm→Int|mk _ _ b _ _=>b
def s:Tm→ByteArray|mk _ _ _ s _=>s
def ks:Tm→List Tm|mk _ _ _ _ ks=>ks
theorem ind {p:Tm→Prop} (h:∀t,(∀k,k∈t.ks→p k)→p t):∀t,p t
 |mk o a b s ks=>h _ fun k (hk:k∈ks)=>by
   have:=List.sizeOf_lt_of_mem hk
   exact ind h k
decreasing_by
 simp only[mk.sizeOf_spec]
 omega
variable {α:Type}
mutual
def fold (f:Tm→List α→α):Tm→α
 |mk o a b s ks=>f (mk o a b s ks) (foldL f ks)
def foldL (f:Tm→List α→α):List Tm→List α
 |[]=>[]
 |k::r=>fold f k::foldL f r
end
theorem foldL_eq (f:Tm→List α→α) (ks:List Tm):foldL f ks=ks.map (fold f):=by
 induction ks with
 |nil=>simp only[foldL,List.map_nil]
 |cons k r ih=>simp only[foldL,ih,List.map_cons]
theorem fold_eq (f:Tm→List α→α) (t:Tm):fold f t=f t (t.ks.map (fold f)):=by
 cases t with
 |mk o a b s ks=>simp only[fold,foldL_eq];rfl
end Tm
def nada:ByteArray:=⟨#[]⟩
instance:Inhabited Tm:=⟨.mk 0 0 0 nada []⟩
def vok (w n:Int):Bool:=decide (1≤w)&&decide (w≤4)&&decide (0≤n)&&decide (n<2^w.toNat)
theorem vok_iff {w n:Int}:vok w n=true↔1≤w∧w≤4∧0≤n∧n<2^w.toNat:=by simp[vok,and_assoc]
theorem two1:(2:Int)^(1:Int).toNat=2:=rfl
theorem two2:(2:Int)^(2:Int).toNat=4:=rfl
theorem two3:(2:Int)^(3:Int).toNat=8:=rfl
theorem two4:(2:Int)^(4:Int).toNat=16:=rfl
theorem four {w:Int} (h1:1≤w) (h2:w≤4):w=1∨w=2∨w=3∨w=4:=by omega
theorem vok_lt {w n:Int} (h:vok w n=true):1≤w∧w≤4∧0≤n∧n<16:=by
 obtain⟨h1,h2,h3,h4⟩:=vok_iff.1 h
 refine⟨h1,h2,h3,?_⟩
 rcases four h1 h2 with rfl|rfl|rfl|rfl<;>simp only[two1,two2,two3,two4] at h4<;>omega
theorem small1 {p:Nat→Nat→Prop} [∀w n,Decidable (p w n)] (h:∀w:Fin 5,∀n:Fin 16,1≤w.1→n.1<2^w.1→p w n) {w n:Int} (hv:vok w n=true):p w.toNat n.toNat:=by
 obtain⟨h1,h2,h3,h4⟩:=vok_lt hv
 obtain⟨_,_,_,h5⟩:=vok_iff.1 hv
 refine h ⟨w.toNat,by omega⟩ ⟨n.toNat,by omega⟩ (by show 1≤w.toNat;omega) ?_
 show n.toNat<2^w.toNat
 have:((2^w.toNat:Nat):Int)=2^w.toNat:=by simp
 omega
def unM (op w a:Int):Int:=if op=1 then 2^w.toNat-1-a else(2^w.toNat-a)%2^w.toNat
def binN (op w a b:Nat):Nat:=
 if op=3 then a&&&b
 else if op=4 then a|||b
 else if op=5 then a^^^b
 else if op=6 then(a+b)%2^w
 else if op=7 then(a+2^w-b)%2^w
 else if op=8 then a*b%2^w
 else if op=9 then(if b=0 then 2^w-1 else a/b)
 else if op=10 then(if b=0 then a else a%b)
 else if op=11 then a*2^b%2^w
 else if op=12 then a/2^b
 else if a<2^(w-1) then a/2^b else 2^w-1-(2^w-1-a)/2^b
def Yx0 (op w a b:Int):Int:=binN op.toNat w.toNat a.toNat b.toNat
def ZY0 (v a b:Int):Int:=a*2^v.toNat+b
def sgn (w a:Int):Int:=if a<2^(w.toNat-1) then a else a-2^w.toNat
def cmpM (op w a b:Int):Bool:=if op=15 then decide (a=b) else if op=16 then decide (a<b) else decide (sgn w a<sgn w b)
def cutM (a hi lo:Int):Int:=a/2^lo.toNat%2^(hi-lo+1).toNat
theorem unM_ok {op w a:Int} (h:vok w a=true):vok w (unM op w a)=true:=by
 obtain⟨h1,h2,h3,h4⟩:=vok_iff.1 h
 refine vok_iff.2 ⟨h1,h2,?_⟩
 unfold unM
 rcases four h1 h2 with rfl|rfl|rfl|rfl<;>simp only[two1,two2,two3,two4] at h4⊢ <;>split<;>omega
def Xj0 (op w:Nat):Bool:=(List.range 16).all fun a=>(List.range 16).all fun b=> !(decide (a<2^w)&&decide (b<2^w))||decide (binN op w a b<2^w)
theorem binN_lt {op w a b:Nat} (h3:3≤op) (h:op≤13) (hw:1≤w) (hw':w≤4) (ha:a<2^w) (hb:b<2^w):binN op w a b<2^w:=by
 have hall:∀o:Fin 14,∀v:Fin 5,3≤o.1→1≤v.1→Xj0 o v=true:=by decide+kernel
 have h16:2^w≤2^4:=Nat.pow_le_pow_right (by omega) hw'
 have:=hall ⟨op,by omega⟩ ⟨w,by omega⟩ h3 hw
 simp only[Xj0,List.all_eq_true,List.mem_range,Bool.or_eq_true,Bool.not_eq_true',Bool.and_eq_false_iff,decide_eq_false_iff_not,decide_eq_true_eq] at this
 rcases this a (by omega) b (by omega) with(h|h)|h
 ·exact absurd ha h
 ·exact absurd hb h
 ·exact h
theorem binM_ok {op w a b:Int} (h3:3≤op) (h13:op≤13) (ha:vok w a=true) (hb:vok w b=true):vok w (Yx0 op w a b)=true:=by
 obtain⟨h1,h2,h4,h5⟩:=vok_iff.1 ha
 obtain⟨_,_,h4',h5'⟩:=vok_iff.1 hb
 have e:((2^w.toNat:Nat):Int)=2^w.toNat:=by simp
 have:=binN_lt (op:=op.toNat) (w:=w.toNat) (a:=a.toNat) (b:=b.toNat) (by omega) (by omega) (by omega) (by omega) (by omega) (by omega)
 refine vok_iff.2 ⟨h1,h2,by unfold Yx0;omega,?_⟩
 unfold Yx0;omega
theorem cat_ok {v w a b:Int} (ha:vok w a=true) (hb:vok v b=true) (hs:w+v≤4):vok (w+v) (ZY0 v a b)=true:=by
 obtain⟨h1,h2,h3,h4⟩:=vok_iff.1 ha
 obtain⟨k1,k2,k3,k4⟩:=vok_iff.1 hb
 refine vok_iff.2 ⟨by omega,hs,?_⟩
 unfold ZY0
 have e:(w+v).toNat=w.toNat+v.toNat:=by omega
 rw[e,Int.pow_add]
 rcases four h1 h2 with rfl|rfl|rfl|rfl<;>rcases four k1 k2 with rfl|rfl|rfl|rfl<;>simp only[two1,two2,two3,two4] at h4 k4⊢ <;>omega
theorem cut_ok {w a hi lo:Int} (ha:vok w a=true) (hlo:0≤lo) (hh:lo≤hi) (hw:hi<w):vok (hi-lo+1) (cutM a hi lo)=true:=by
 obtain⟨h1,h2,h3,h4⟩:=vok_iff.1 ha
 refine vok_iff.2 ⟨by omega,by omega,?_⟩
 unfold cutM
 have:(0:Int)<2^(hi-lo+1).toNat:=Int.pow_pos (by omega)
 exact⟨Int.emod_nonneg _ (by omega),Int.emod_lt_of_pos _ this⟩
def vecUn (op w n:Int):(Int×Int)×Bool:=if vok w n=true∧(op=1∨op=2) then((w,unM op w n),true) else((0,0),false)
def vecBin (op w n v m:Int):(Int×Int)×Bool:=
 if vok w n=true∧vok v m=true then
  if op=14 then(if w+v≤4 then((w+v,ZY0 v n m),true) else((0,0),false))
  else if 3≤op∧op≤13∧w=v then((w,Yx0 op w n m),true) else((0,0),false)
 else((0,0),false)
def vecCmp (op w n v m:Int):Bool×Bool:=
 if vok w n=true∧vok v m=true∧w=v∧15≤op∧op≤17 then(cmpM op w n m,true) else(false,false)
def vecCut (w n hi lo:Int):(Int×Int)×Bool:=if vok w n=true∧0≤lo∧lo≤hi∧hi<w then((hi-lo+1,cutM n hi lo),true) else((0,0),false)
theorem vok_nat {w n:Int} (h:vok w n=true):∃k a:Nat,w=k∧n=a∧1≤k∧k≤4∧a<2^k:=by
 obtain⟨h1,h2,h3,h4⟩:=vok_iff.1 h
 refine⟨w.toNat,n.toNat,by omega,by omega,by omega,by omega,?_⟩
 have:((2^w.toNat:Nat):Int)=2^w.toNat:=by simp
 omega
theorem unM_not {k a:Nat} (h1:1≤k) (h2:k≤4) (h:a<2^k):unM 1 k a=((18446744073709551615-a)%2^k:Nat):=by
 have hall:∀v:Fin 5,∀x:Fin 16,1≤v.1→x.1<2^v.1→unM 1 v.1 x.1=((18446744073709551615-x.1)%2^v.1:Nat):=by decide+kernel
 have:2^k≤2^4:=Nat.pow_le_pow_right (by omega) h2
 exact hall ⟨k,by omega⟩ ⟨a,by omega⟩ h1 h
theorem unM_neg {k a:Nat} (h1:1≤k) (h2:k≤4) (h:a<2^k):unM 2 k a=((if a=0 then 0 else 18446744073709551616-a)%2^k:Nat):=by
 have hall:∀v:Fin 5,∀x:Fin 16,1≤v.1→x.1<2^v.1→unM 2 v.1 x.1=((if x.1=0 then 0 else 18446744073709551616-x.1)%2^v.1:Nat):=by decide+kernel
 have:2^k≤2^4:=Nat.pow_le_pow_right (by omega) h2
 exact hall ⟨k,by omega⟩ ⟨a,by omega⟩ h1 h
theorem cat_or {k v a b:Nat} (h2:v≤4) (hk:k≤4) (ha:a<2^k) (hb:b<2^v):((a*2^v|||b:Nat):Int)=ZY0 v a b:=by
 have hall:∀v:Fin 5,∀x y:Fin 16,y.1<2^v.1→x.1*2^v.1|||y.1=x.1*2^v.1+y.1:=by decide+kernel
 have h4:2^k≤2^4:=Nat.pow_le_pow_right (by omega) hk
 have h5:2^v≤2^4:=Nat.pow_le_pow_right (by omega) h2
 have:=hall ⟨v,by omega⟩ ⟨a,by omega⟩ ⟨b,by omega⟩ hb
 simp only at this
 rw[this]
 simp[ZY0]
end Go.M
end
section
namespace Go.M
open Go.Vc
abbrev Dcl:=ByteArray×Int
def findD (ds:List Dcl) (s:ByteArray):Int:=idxI ds.length fun i=>decide ((ds.getD i (nada,0)).1=s)
def tru:ByteArray:=⟨#[116,114,117,101]⟩
def nameOk (s:ByteArray):Bool:=decide (1≤s.size)&&decide (s.size≤4)&&decide (s≠tru)&&s.data.all fun c=>decide (97≤c.toNat)&&decide (c.toNat≤122)
def bits (ds:List Dcl):Int:=(ds.map (·.2)).sum
def dclOk (ds:List Dcl) (i:Nat):Bool:=nameOk (ds.getD i (nada,0)).1&&decide (1≤(ds.getD i (nada,0)).2)&&decide ((ds.getD i (nada,0)).2≤4)&&decide (findD (ds.take i) (ds.getD i (nada,0)).1<0)
def declOk (ds:List Dcl):Bool:=decide (ds.length≤4)&&((List.range ds.length).all fun i=>dclOk ds i)&&decide (bits ds≤8)
def W0 (ds:List Dcl) (env:List Int):Bool:=declOk ds&&decide (env.length=ds.length)&&(List.range ds.length).all fun i=>vok (ds.getD i (nada,0)).2 (env.getD i 0)
theorem findD_lt (ds:List Dcl) (s:ByteArray): -1≤findD ds s∧findD ds s<ds.length:=by
 unfold findD idxI
 split
 ·rename_i i h
  have:=List.mem_of_find?_eq_some h
  simp at this
  omega
 ·omega
theorem findD_neg {ds:List Dcl} {s:ByteArray} (h:findD ds s<0) {j:Nat} (hj:j<ds.length):(ds.getD j (nada,0)).1≠s:=by
 unfold findD idxI at h
 split at h
 ·omega
 ·rename_i hn
  rw[List.find?_eq_none] at hn
  have:=hn j (List.mem_range.2 hj)
  simpa using this
theorem findD_get {ds:List Dcl} {s:ByteArray} (h:0≤findD ds s):(ds.getD (findD ds s).toNat (nada,0)).1=s:=by
 unfold findD idxI at h⊢
 split at h
 ·rename_i i hi
  have:=List.find?_some hi
  simpa using this
 ·omega
theorem findD_of {ds:List Dcl} {s:ByteArray} {i:Nat} (hi:i<ds.length) (h:(ds.getD i (nada,0)).1=s) (hl:∀j,j<i→(ds.getD j (nada,0)).1≠s):findD ds s=i:=
 idxI_some hi (by simp only[h,decide_true]) fun j hj=>decide_eq_false (hl j hj)
theorem findD_none {ds:List Dcl} {s:ByteArray} (hl:∀j,j<ds.length→(ds.getD j (nada,0)).1≠s):findD ds s= -1:=
 Uu fun j hj=>decide_eq_false (hl j hj)
theorem decl_iff {ds:List Dcl}:declOk ds=true↔ds.length≤4∧(∀i,i<ds.length→dclOk ds i=true)∧bits ds≤8:=by
 simp only[declOk,Bool.and_eq_true,List.all_eq_true,List.mem_range,decide_eq_true_eq,and_assoc]
theorem take_getD {α:Type} {l:List α} {i j:Nat} {d:α} (h:j<i):(l.take i).getD j d=l.getD j d:=by
 simp[List.getD_eq_getElem?_getD,List.getElem?_take,h]
theorem dcl_apart {ds:List Dcl} (h:declOk ds=true) {i j:Nat} (hi:i<ds.length) (hj:j<i):(ds.getD j (nada,0)).1≠(ds.getD i (nada,0)).1:=by
 have:=(decl_iff.1 h).2.1 i hi
 simp only[dclOk,Bool.and_eq_true,decide_eq_true_eq] at this
 have h2:=findD_neg this.2 (j:=j) (by rw[List.length_take];omega)
 rwa[take_getD hj] at h2
def bitT (ds:List Dcl) (i:Nat):Int:=((ds.take i).map (·.2)).sum
theorem bitT_succ {ds:List Dcl} {i:Nat} (h:i<ds.length):bitT ds (i+1)=bitT ds i+(ds.getD i (nada,0)).2:=by
 unfold bitT
 rw[List.take_add_one,List.getElem?_eq_getElem h,List.map_append,List.sum_append,List.getD_eq_getElem?_getD,List.getElem?_eq_getElem h]
 simp
theorem bitT_all (ds:List Dcl):bitT ds ds.length=bits ds:=by unfold bitT bits;rw[List.take_length]
theorem dcl_wide {ds:List Dcl} (h:declOk ds=true) {i:Nat} (hi:i<ds.length):1≤(ds.getD i (nada,0)).2∧(ds.getD i (nada,0)).2≤4:=by
 simp only[declOk,Bool.and_eq_true,List.all_eq_true,List.mem_range,dclOk,decide_eq_true_eq] at h
 obtain⟨⟨_,h2⟩,_⟩:=h
 exact⟨(h2 i hi).1.1.2,(h2 i hi).1.2⟩
theorem env_ok {ds:List Dcl} {env:List Int} (h:W0 ds env=true):declOk ds=true∧env.length=ds.length∧∀i,i<ds.length→vok (ds.getD i (nada,0)).2 (env.getD i 0)=true:=by
 simp only[W0,Bool.and_eq_true,List.all_eq_true,List.mem_range,decide_eq_true_eq] at h
 exact⟨h.1.1,h.1.2,h.2⟩
def sizeM:Tm→Nat:=Tm.fold fun _ xs=>1+xs.sum
def deepM:Tm→Nat:=Tm.fold fun _ xs=>1+xs.foldl max 0
theorem sizeM_eq (t:Tm):sizeM t=1+(t.ks.map sizeM).sum:=Tm.fold_eq _ t
theorem qJ0 (t:Tm):deepM t=1+(t.ks.map deepM).foldl max 0:=Tm.fold_eq _ t
def szT (ks:List Tm) (i:Nat):Nat:=((ks.take i).map sizeM).sum
def dpT (ks:List Tm) (i:Nat):Nat:=((ks.take i).map deepM).foldl max 0
theorem take_add {α:Type} {l:List α} {i:Nat} (h:i<l.length) (d:α):l.take (i+1)=l.take i++[l.getD i d]:=by
 rw[List.take_add_one,List.getElem?_eq_getElem h,List.getD_eq_getElem?_getD,List.getElem?_eq_getElem h];rfl
theorem szT_succ {ks:List Tm} {i:Nat} (h:i<ks.length):szT ks (i+1)=szT ks i+sizeM (ks.getD i default):=by
 unfold szT;rw[take_add h default,List.map_append,List.sum_append];simp
theorem dpT_succ {ks:List Tm} {i:Nat} (h:i<ks.length):dpT ks (i+1)=max (dpT ks i) (deepM (ks.getD i default)):=by
 unfold dpT;rw[take_add h default,List.map_append,List.foldl_append];rfl
theorem szT_all (t:Tm):sizeM t=1+szT t.ks t.ks.length:=by rw[sizeM_eq,szT,List.take_length]
theorem dpT_all (t:Tm):deepM t=1+dpT t.ks t.ks.length:=by rw[qJ0,dpT,List.take_length]
theorem szT_mono {ks:List Tm} {i:Nat}:∀{j:Nat},i≤j→j≤ks.length→szT ks i≤szT ks j
 |0,h,_=>by
  have:i=0:=by omega
  subst this;exact Nat.le_refl _
 |j+1,h,hj=>by
  by_cases e:i=j+1
  ·subst e;exact Nat.le_refl _
  ·have:=szT_mono (ks:=ks) (i:=i) (j:=j) (by omega) (by omega)
   rw[szT_succ (by omega)];omega
theorem dpT_mono {ks:List Tm} {i:Nat}:∀{j:Nat},i≤j→j≤ks.length→dpT ks i≤dpT ks j
 |0,h,_=>by
  have:i=0:=by omega
  subst this;exact Nat.le_refl _
 |j+1,h,hj=>by
  by_cases e:i=j+1
  ·subst e;exact Nat.le_refl _
  ·have:=dpT_mono (ks:=ks) (i:=i) (j:=j) (by omega) (by omega)
   rw[dpT_succ (by omega)];omega
def fits (t:Tm):Bool:=decide (sizeM t≤20)&&decide (deepM t≤7)
theorem fits_iff {t:Tm}:fits t=true↔sizeM t≤20∧deepM t≤7:=by simp[fits]
def manyM (t:Tm):Nat:=if fits t then sizeM t else 21
def lvlM (t:Tm):Nat:=if fits t then deepM t else 8
def arity (o:Int):Int:=if o=20∨o=21∨o=24 then 0 else if o=1∨o=2∨o=22∨o=25 then 1 else if o=23 then 3 else if o=26∨o=27 then 2 else if 3≤o∧o≤17 then 2 else-1
def plainM (t:Tm):Bool:=(decide (t.op=20)||decide (t.op=22)||(decide (t.a=0)&&decide (t.b=0)))&&(decide (t.op=21)||decide (t.s=nada))
def sortK (ds:List Dcl) (t:Tm) (xs:List Int):Int:=
 if t.op=20 then(if vok t.a t.b then t.a else-1)
 else if t.op=21 then(if findD ds t.s<0 then-1 else(ds.getD (findD ds t.s).toNat (nada,0)).2)
 else if 24≤t.op then(if xs.any (fun x=>decide (x≠0)) then-1 else 0)
 else if t.op=23 then(if xs.getD 0 0=0∧xs.getD 1 0=xs.getD 2 0 then xs.getD 1 0 else-1)
 else if t.op=22 then(if 0≤t.b∧t.b≤t.a∧t.a<xs.getD 0 0 then t.a-t.b+1 else-1)
 else if t.op≤2 then(if 0<xs.getD 0 0 then xs.getD 0 0 else-1)
 else if t.op=14 then(if 0<xs.getD 0 0∧0<xs.getD 1 0∧xs.getD 0 0+xs.getD 1 0≤4 then xs.getD 0 0+xs.getD 1 0 else-1)
 else if 15≤t.op then(if 0<xs.getD 0 0∧xs.getD 0 0=xs.getD 1 0 then 0 else-1)
 else(if 0<xs.getD 0 0∧xs.getD 0 0=xs.getD 1 0 then xs.getD 0 0 else-1)
def formed (t:Tm):Bool:=decide (arity t.op=t.ks.length)&&plainM t
def sortF (ds:List Dcl) (t:Tm) (xs:List Int):Int:=if formed t=true∧¬(-1∈xs) then sortK ds t xs else-1
def sortM (ds:List Dcl):Tm→Int:=Tm.fold (sortF ds)
theorem sortM_eq (ds:List Dcl) (t:Tm):sortM ds t=sortF ds t (t.ks.map (sortM ds)):=Tm.fold_eq _ t
theorem arity_ops {o:Int} (h:0≤arity o):(1≤o∧o≤17)∨(20≤o∧o≤27):=by
 unfold arity at h
 repeat' (split at h)
 all_goals omega
theorem getD_map {α β:Type} (f:α→β) {l:List α} {i:Nat} (h:i<l.length) (d:β) (e:α):(l.map f).getD i d=f (l.getD i e):=by
 simp[List.getD_eq_getElem?_getD,h]
theorem getD_mem {α:Type} {l:List α} {i:Nat} (h:i<l.length) (d:α):l.getD i d∈l:=by
 rw[List.getD_eq_getElem?_getD,List.getElem?_eq_getElem h];exact List.getElem_mem h
theorem sort_parts {ds:List Dcl} {t:Tm} (h:sortM ds t≠ -1):formed t=true∧(∀k,k∈t.ks→sortM ds k≠ -1)∧sortM ds t=sortK ds t (t.ks.map (sortM ds)):=by
 rw[sortM_eq] at h⊢
 unfold sortF at h⊢
 split at h
 ·rename_i hf
  rw[if_pos hf]
  exact⟨hf.1,fun k hk e=>hf.2 (e▸List.mem_map_of_mem hk),rfl⟩
 ·exact absurd rfl h
theorem sort_range {ds:List Dcl} (hd:declOk ds=true):∀t,-1≤sortM ds t∧sortM ds t≤4:=by
 refine Tm.ind fun t ih=>?_
 rw[sortM_eq]
 unfold sortF
 split
 ·rename_i hf
  have hx:∀i,-1≤(t.ks.map (sortM ds)).getD i 0∧(t.ks.map (sortM ds)).getD i 0≤4:=fun i=>by
   by_cases h:i<t.ks.length
   ·rw[getD_map _ h 0 default];exact ih _ (getD_mem h _)
   ·rw[List.getD_eq_getElem?_getD,List.getElem?_eq_none (by simpa using h)];simp
  have h0:=hx 0
  have h1:=hx 1
  have h2:=hx 2
  have har:=arity_ops (o:=t.op) (by
   have:=hf.1
   simp only[formed,Bool.and_eq_true,decide_eq_true_eq] at this
   omega)
  unfold sortK
  split
  ·split
   ·rename_i hv;have:=vok_lt hv;omega
   ·omega
  ·split
   ·have hfd:=findD_lt ds t.s
    split
    ·omega
    ·have:=dcl_wide hd (i:=(findD ds t.s).toNat) (by omega)
     omega
   ·repeat' split
    all_goals omega
 ·omega
def tsort (ds:List Dcl) (t:Tm):Int:=if fits t=true∧declOk ds=true then sortM ds t else-1
def b2i (b:Bool):Int:=if b then 1 else 0
def valK (ds:List Dcl) (env:List Int) (t:Tm) (xs:List (Int×Int)):Int:=
 if t.op=20 then t.b
 else if t.op=21 then env.getD (findD ds t.s).toNat 0
 else if t.op=24 then 1
 else if t.op=25 then b2i (decide ((xs.getD 0 (0,0)).2=0))
 else if t.op=26 then b2i (decide ((xs.getD 0 (0,0)).2=1)&&decide ((xs.getD 1 (0,0)).2=1))
 else if t.op=27 then b2i (decide ((xs.getD 0 (0,0)).2=1)||decide ((xs.getD 1 (0,0)).2=1))
 else if t.op=23 then(if(xs.getD 0 (0,0)).2=1 then(xs.getD 1 (0,0)).2 else(xs.getD 2 (0,0)).2)
 else if t.op=22 then cutM (xs.getD 0 (0,0)).2 t.a t.b
 else if t.op≤2 then unM t.op (xs.getD 0 (0,0)).1 (xs.getD 0 (0,0)).2
 else if t.op=14 then ZY0 (xs.getD 1 (0,0)).1 (xs.getD 0 (0,0)).2 (xs.getD 1 (0,0)).2
 else if 15≤t.op then b2i (cmpM t.op (xs.getD 0 (0,0)).1 (xs.getD 0 (0,0)).2 (xs.getD 1 (0,0)).2)
 else Yx0 t.op (xs.getD 0 (0,0)).1 (xs.getD 0 (0,0)).2 (xs.getD 1 (0,0)).2
def vecF (ds:List Dcl) (env:List Int) (t:Tm) (xs:List (Int×Int)):Int×Int:=(sortF ds t (xs.map (·.1)),valK ds env t xs)
def ZF0 (ds:List Dcl) (env:List Int):Tm→Int×Int:=Tm.fold (vecF ds env)
def k7 (ds:List Dcl) (env:List Int) (t:Tm):Int:=(ZF0 ds env t).2
theorem jw0 (ds:List Dcl) (env:List Int) (t:Tm):ZF0 ds env t=vecF ds env t (t.ks.map (ZF0 ds env)):=Tm.fold_eq _ t
theorem jv0 (ds:List Dcl) (env:List Int):∀t,(ZF0 ds env t).1=sortM ds t:=by
 refine Tm.ind fun t ih=>?_
 rw[jw0,sortM_eq]
 show sortF ds t _=_
 rw[List.map_map]
 congr 1
 exact List.map_congr_left fun k hk=>ih k hk
theorem x90 (ds:List Dcl) (env:List Int) (t:Tm):ZF0 ds env t=(sortM ds t,k7 ds env t):=by rw[←jv0 ds env t];rfl
theorem qG0 (ds:List Dcl) (env:List Int) (t:Tm):k7 ds env t=valK ds env t (t.ks.map (ZF0 ds env)):=by
 unfold k7;rw[jw0];rfl
def inS (w n:Int):Prop:=(w=0∧(n=0∨n=1))∨vok w n=true
theorem Zi0 {b:Bool}:inS 0 (b2i b):=by left;cases b<;>simp[b2i]
theorem inS_zero {n:Int} (h:inS 0 n):n=0∨n=1:=by
 rcases h with h|h
 ·exact h.2
 ·exact absurd (vok_lt h).1 (by omega)
theorem inS_pos {w n:Int} (h:inS w n) (hw:0<w):vok w n=true:=by
 rcases h with h|h
 ·omega
 ·exact h
theorem eval_in {ds:List Dcl} {env:List Int} (he:W0 ds env=true):∀t,sortM ds t≠ -1→inS (sortM ds t) (k7 ds env t):=by
 obtain⟨hd,hl,hv⟩:=env_ok he
 refine Tm.ind fun t ih h=>?_
 obtain⟨hf,hk,hs⟩:=sort_parts h
 rw[hs] at h
 rw[hs,qG0]
 simp only[formed,Bool.and_eq_true,decide_eq_true_eq] at hf
 obtain⟨har,hpl⟩:=hf
 have hops:=arity_ops (o:=t.op) (by omega)
 have hx:∀i,i<t.ks.length→(t.ks.map (sortM ds)).getD i 0=sortM ds (t.ks.getD i default):=fun i hi=>getD_map _ hi _ _
 have hy:∀i,i<t.ks.length→(t.ks.map (ZF0 ds env)).getD i (0,0)=(sortM ds (t.ks.getD i default),k7 ds env (t.ks.getD i default)):=fun i hi=>by
  rw[getD_map _ hi _ default,x90]
 have hin:∀i,i<t.ks.length→inS (sortM ds (t.ks.getD i default)) (k7 ds env (t.ks.getD i default)):=fun i hi=>ih _ (getD_mem hi _) (hk _ (getD_mem hi _))
 unfold sortK at h⊢
 unfold valK
 by_cases h20:t.op=20
 ·simp only[h20,if_true] at h⊢
  split
  ·right;assumption
  ·rename_i hn;rw[if_neg hn] at h;exact absurd rfl h
 simp only[if_neg h20] at h⊢
 by_cases h21:t.op=21
 ·simp only[h21,if_true] at h⊢
  have hfd:=findD_lt ds t.s
  split
  ·rename_i hn;rw[if_pos hn] at h;exact absurd rfl h
  ·right;exact hv _ (by omega)
 simp only[if_neg h21] at h⊢
 by_cases h24:24≤t.op
 ·simp only[if_pos h24] at h⊢
  split
  ·rename_i hn;rw[if_pos hn] at h;exact absurd rfl h
  ·rcases(by omega:t.op=24∨t.op=25∨t.op=26∨t.op=27) with e|e|e|e
   ·left;simp[e]
   ·simp only[e];exact Zi0
   ·simp only[e];exact Zi0
   ·simp only[e];exact Zi0
 simp only[if_neg h24,if_neg (show¬t.op=24 by omega),if_neg (show¬t.op=25 by omega),if_neg (show¬t.op=26 by omega),if_neg (show¬t.op=27 by omega)] at h⊢
 by_cases h23:t.op=23
 ·simp only[h23,if_true] at h⊢
  have h3:t.ks.length=3:=by rw[h23] at har;simp[arity] at har;omega
  rw[hx 0 (by omega),hx 1 (by omega),hx 2 (by omega)] at h⊢
  rw[hy 0 (by omega),hy 1 (by omega),hy 2 (by omega)]
  split
  ·rename_i hc
   simp only
   split
   ·exact hin 1 (by omega)
   ·rw[hc.2];exact hin 2 (by omega)
  ·rename_i hc;rw[if_neg hc] at h;exact absurd rfl h
 simp only[if_neg h23] at h⊢
 by_cases h22:t.op=22
 ·simp only[h22,if_true] at h⊢
  have h3:t.ks.length=1:=by rw[h22] at har;simp[arity] at har;omega
  rw[hx 0 (by omega)] at h⊢
  rw[hy 0 (by omega)]
  split
  ·rename_i hc
   right
   exact cut_ok (inS_pos (hin 0 (by omega)) (by omega)) hc.1 hc.2.1 hc.2.2
  ·rename_i hc;rw[if_neg hc] at h;exact absurd rfl h
 simp only[if_neg h22] at h⊢
 by_cases h2:t.op≤2
 ·simp only[if_pos h2] at h⊢
  have h3:t.ks.length=1:=by
   have:t.op=1∨t.op=2:=by omega
   rcases this with e|e<;>rw[e] at har<;>simp[arity] at har<;>omega
  rw[hx 0 (by omega)] at h⊢
  rw[hy 0 (by omega)]
  split
  ·rename_i hc
   right
   exact unM_ok (inS_pos (hin 0 (by omega)) (by omega))
  ·rename_i hc;rw[if_neg hc] at h;exact absurd rfl h
 simp only[if_neg h2] at h⊢
 have h3:t.ks.length=2:=by
  unfold arity at har
  rw[if_neg (by omega),if_neg (by omega),if_neg (by omega),if_neg (by omega),if_pos (by omega)] at har
  omega
 have e0:=hx 0 (by omega)
 have e1:=hx 1 (by omega)
 rw[e0,e1] at h⊢
 rw[hy 0 (by omega),hy 1 (by omega)]
 have i0:=hin 0 (by omega)
 have i1:=hin 1 (by omega)
 by_cases h14:t.op=14
 ·simp only[h14,if_true] at h⊢
  split
  ·rename_i hc
   right
   exact cat_ok (inS_pos i0 hc.1) (inS_pos i1 hc.2.1) hc.2.2
  ·rename_i hc;rw[if_neg hc] at h;exact absurd rfl h
 simp only[if_neg h14] at h⊢
 by_cases h15:15≤t.op
 ·simp only[if_pos h15] at h⊢
  split
  ·exact Zi0
  ·rename_i hc;rw[if_neg hc] at h;exact absurd rfl h
 simp only[if_neg h15] at h⊢
 split
 ·rename_i hc
  right
  refine binM_ok (by omega) (by omega) (inS_pos i0 hc.1) ?_
  rw[hc.2];exact inS_pos i1 (by omega)
 ·rename_i hc;rw[if_neg hc] at h;exact absurd rfl h
end Go.M
end
section
namespace Go.Vc
open Go Go.M
section
variable {P:Program} {F F' S:Nat→Prop} {w w':World} {K:Value→World→Prop} {k:Nat} {v:Value} {xs:List (List Value)}
theorem Sl.ldAgg (h:Sl F w k v xs) {t:TypeId} (ht:aggB P t k=true) {i:Nat} (hi:i<xs.length):ze P t (.pointer (some (eaddr v k i))) w K=K (.agg ⟨xs.getD i []⟩) w:=by
 have hl:(xs.getD i []).length=k:=h.wide _ (M.getD_mem hi _)
 exact Ub (by rw[hl];exact ht) (Sl.cells h hi)
theorem Sl.ldField (h:Sl F w k v xs) {t:TypeId} (ht:oneB P t=true) {i j:Nat} {x:Value} (hi:i<xs.length) (hx:(xs.getD i [])[j]?=some x):ze P t (.pointer (some ((eaddr v k i).add j))) w K=K x w:=
 xJ ht (Sl.cells h hi j x hx)
theorem Sl.small (h:Sl F w k v xs):xs.length≤9223372036854775807:=by
 obtain⟨_,_,_,h1,h2,_⟩:=h.shape;omega
end
inductive TmR (F:Nat→Prop) (w:World):List Value→Tm→Prop
 |mk {o a b:Int} {s:ByteArray} {ks:List Tm} {kv:Value} {css:List (List Value)}:Sl F w 5 kv css→css.length=ks.length→(∀i,i<ks.length→TmR F w (css.getD i []) (ks.getD i default))→
  TmR F w [.int .i64 o,.int .i64 a,.int .i64 b,.string s,kv] (.mk o a b s ks)
def TmsR (F:Nat→Prop) (w:World) (kv:Value) (ks:List Tm):Prop:= ∃css:List (List Value),Sl F w 5 kv css∧css.length=ks.length∧∀i,i<ks.length→TmR F w (css.getD i []) (ks.getD i default)
def TermR (F:Nat→Prop) (w:World) (v:Value) (t:Tm):Prop:= ∃kv,v= .agg ⟨[.int .i64 t.op,.int .i64 t.a,.int .i64 t.b,.string t.s,kv]⟩∧TmsR F w kv t.ks
def DclsR (F:Nat→Prop) (w:World) (v:Value) (ds:List Dcl):Prop:=Sl F w 2 v (ds.map fun d=>[.string d.1,.int .i64 d.2])
section
variable {P:Program} {F F' S:Nat→Prop} {w w':World} {K:Value→World→Prop} {v:Value} {cs:List Value} {t:Tm} {ks:List Tm} {ds:List Dcl}
theorem TmR.same (h:TmR F w cs t) (hw:Same S w w') (hs:∀b,F b→b<w.heap.size→¬S b):TmR F w' cs t:=by
 induction h with
 |mk h1 h2 h3 ih=>exact .mk (h1.same hw hs) h2 ih
theorem TmR.ext (h:TmR F w cs t) (hw:Ext w w'):TmR F w' cs t:=h.same hw fun _ _ _ h=>h
theorem TmR.weaken (h:TmR F w cs t) (hf:∀b,F b→b<w.heap.size→F' b):TmR F' w cs t:=by
 induction h with
 |mk h1 h2 h3 ih=>exact .mk (h1.weaken hf) h2 ih
theorem TmR.inv (h:TmR F w cs t):∃kv,cs=[.int .i64 t.op,.int .i64 t.a,.int .i64 t.b,.string t.s,kv]∧TmsR F w kv t.ks:=by
 cases h with
 |mk h1 h2 h3=>exact⟨_,rfl,_,h1,h2,h3⟩
theorem TmR.of {kv:Value} (h:TmsR F w kv t.ks):TmR F w [.int .i64 t.op,.int .i64 t.a,.int .i64 t.b,.string t.s,kv] t:=by
 obtain⟨css,h1,h2,h3⟩:=h
 cases t with
 |mk o a b s ks=>exact .mk h1 h2 h3
theorem TmR.term (h:TmR F w cs t):TermR F w (.agg ⟨cs⟩) t:=by
 obtain⟨kv,rfl,hk⟩:=h.inv
 exact⟨kv,rfl,hk⟩
theorem TermR.cells (h:TermR F w v t):∃cs,v= .agg ⟨cs⟩∧TmR F w cs t:=by
 obtain⟨kv,rfl,hk⟩:=h
 exact⟨_,rfl,TmR.of hk⟩
theorem TmsR.same (h:TmsR F w v ks) (hw:Same S w w') (hs:∀b,F b→b<w.heap.size→¬S b):TmsR F w' v ks:=by
 obtain⟨css,h1,h2,h3⟩:=h;exact⟨css,h1.same hw hs,h2,fun i hi=>(h3 i hi).same hw hs⟩
theorem TmsR.ext (h:TmsR F w v ks) (hw:Ext w w'):TmsR F w' v ks:=h.same hw fun _ _ _ h=>h
theorem TmsR.weaken (h:TmsR F w v ks) (hf:∀b,F b→b<w.heap.size→F' b):TmsR F' w v ks:=by
 obtain⟨css,h1,h2,h3⟩:=h;exact⟨css,h1.weaken hf,h2,fun i hi=>(h3 i hi).weaken hf⟩
theorem TermR.same (h:TermR F w v t) (hw:Same S w w') (hs:∀b,F b→b<w.heap.size→¬S b):TermR F w' v t:=by
 obtain⟨kv,h1,h2⟩:=h;exact⟨kv,h1,h2.same hw hs⟩
theorem TermR.ext (h:TermR F w v t) (hw:Ext w w'):TermR F w' v t:=h.same hw fun _ _ _ h=>h
theorem TermR.weaken (h:TermR F w v t) (hf:∀b,F b→b<w.heap.size→F' b):TermR F' w v t:=by
 obtain⟨kv,h1,h2⟩:=h;exact⟨kv,h1,h2.weaken hf⟩
theorem TmsR.small (h:TmsR F w v ks):ks.length≤9223372036854775807:=by
 obtain⟨css,h1,h2,h3⟩:=h;rw[←h2];exact h1.small
theorem TmsR.len (h:TmsR F w v ks) {t:TypeId} (ht:isSl P t=true) (ty:TypeId):vbi P .len [t] ty [v] w' K=K (.int .i64 ks.length) w':=by
 obtain⟨css,h1,h2,h3⟩:=h
 have:=Sl.len (K:=K) (w':=w') h1 ht ty;rwa[h2] at this
theorem TmsR.iaddr (h:TmsR F w v ks) {t:TypeId} (ht:elB P t 5=true) {kd:IntKind} {i:Int} (h0:0≤i) (h1:i<ks.length):
  zm P t v (.int kd i) w' K=K (.pointer (some (eaddr v 5 i.toNat))) w':=by
 obtain⟨css,h1',h2,h3⟩:=h
 exact Sl.iaddr h1' ht h0 (by rw[h2];exact h1)
theorem TmsR.load (h:TmsR F w v ks) {t:TypeId} (ht:aggB P t 5=true) {i:Nat} (hi:i<ks.length) (hK:∀x,TermR F w x (ks.getD i default)→K x w):ze P t (.pointer (some (eaddr v 5 i))) w K:=by
 obtain⟨css,h1,h2,h3⟩:=h
 rw[h1.ldAgg ht (by omega)]
 exact hK _ (h3 i hi).term
theorem TmsR.nil:TmsR F w (.slice none 0 0) []:=⟨[],⟨⟨none,0,rfl,by simp,by simp,by simp⟩,by simp⟩,rfl,by simp⟩
theorem DclsR.ext (h:DclsR F w v ds) (hw:Ext w w'):DclsR F w' v ds:=Sl.ext h hw
theorem DclsR.len (h:DclsR F w v ds) {t:TypeId} (ht:isSl P t=true) (ty:TypeId):vbi P .len [t] ty [v] w' K=K (.int .i64 ds.length) w':=by
 have:=Sl.len (K:=K) (w':=w') h ht ty;rwa[List.length_map] at this
theorem DclsR.iaddr (h:DclsR F w v ds) {t:TypeId} (ht:elB P t 2=true) {kd:IntKind} {i:Int} (h0:0≤i) (h1:i<ds.length):
  zm P t v (.int kd i) w' K=K (.pointer (some (eaddr v 2 i.toNat))) w':=Sl.iaddr h ht h0 (by rw[List.length_map];exact h1)
theorem yz0 {i:Nat} (hi:i<ds.length):(ds.map fun d=>[Value.string d.1,Value.int .i64 d.2]).getD i []=[.string (ds.getD i (nada,0)).1,.int .i64 (ds.getD i (nada,0)).2]:=M.getD_map _ hi _ _
theorem DclsR.load (h:DclsR F w v ds) {t:TypeId} (ht:aggB P t 2=true) {i:Nat} (hi:i<ds.length):ze P t (.pointer (some (eaddr v 2 i))) w K=K (.agg ⟨[.string (ds.getD i (nada,0)).1,.int .i64 (ds.getD i (nada,0)).2]⟩) w:=by
 rw[Sl.ldAgg h ht (by rw[List.length_map];exact hi),yz0 hi]
theorem DclsR.load0 (h:DclsR F w v ds) {t:TypeId} (ht:oneB P t=true) {i:Nat} (hi:i<ds.length):ze P t (.pointer (some ((eaddr v 2 i).add 0))) w K=K (.string (ds.getD i (nada,0)).1) w:=
 Sl.ldField h ht (by rw[List.length_map];exact hi) (by rw[yz0 hi];rfl)
theorem DclsR.load1 (h:DclsR F w v ds) {t:TypeId} (ht:oneB P t=true) {i:Nat} (hi:i<ds.length):ze P t (.pointer (some ((eaddr v 2 i).add 1))) w K=K (.int .i64 (ds.getD i (nada,0)).2) w:=
 Sl.ldField h ht (by rw[List.length_map];exact hi) (by rw[yz0 hi];rfl)
theorem DclsR.small (h:DclsR F w v ds):ds.length≤9223372036854775807:=by have:=Sl.small h;simpa using this
theorem Sl.base {k:Nat} {xs:List (List Value)} (h:Sl F w k v xs) (hne:xs≠[]):∀a l c,v= .slice (some a) l c→∃b o,a=⟨b,o,none⟩:=by
 intro a l c e
 obtain⟨a',c',rfl,_,_,hc⟩:=h.shape
 obtain⟨b,o,rfl,_⟩:=hc hne
 injection e with e1 e2 e3
 injection e1 with e1
 exact⟨b,o,e1.symm⟩
theorem Sl.taken {k:Nat} {xs:List (List Value)} (h:Sl F w k v xs) {n:Nat} (hn:n≤xs.length):Sl F w k (cutV v n) (xs.take n):=by
 obtain⟨a,c,rfl,h1,h2,hc⟩:=h.shape
 have hl:(xs.take n).length=n:=by rw[List.length_take];omega
 refine⟨⟨a,c,by rw[hl];rfl,by omega,h2,fun hne=>?_⟩,fun x hx=>h.wide x (List.mem_of_mem_take hx)⟩
 have hne':xs≠[]:=fun e=>hne (by rw[e,List.take_nil])
 obtain⟨b,o,e,hb,hlt,hcell⟩:=hc hne'
 refine⟨b,o,e,hb,hlt,fun i hi=>?_⟩
 rw[hl] at hi
 rw[M.take_getD hi]
 exact hcell i (by omega)
theorem DclsR.cut (h:DclsR F w v ds) (hne:ds≠[]) {t:TypeId} (ht:elB P t 2=true) {kd:IntKind} {n:Nat} (hn:n≤ds.length):yq P t v none (some (.int kd n)) none w' K=K (cutV v n) w':=
 Sl.cut h (Sl.base h (by simpa using hne)) ht (by rw[List.length_map];exact hn)
theorem DclsR.taken (h:DclsR F w v ds) {n:Nat} (hn:n≤ds.length):DclsR F w (cutV v n) (ds.take n):=by
 unfold DclsR;rw[List.map_take];exact Sl.taken h (by rw[List.length_map];exact hn)
theorem Blk.sl1k {b k:Nat} {cs:List Value} {e:TypeId} (h:Blk w b cs e) (hk:cs.length=k):Sl (· =b) w k (.slice (some ⟨b,0,none⟩) 1 1) [cs]:=by
 refine⟨⟨_,1,rfl,Nat.le_refl _,by decide,fun _=>⟨b,0,rfl,rfl,h.lt,fun i hi j v hj=>?_⟩⟩,by simp[hk]⟩
 have hi0:i=0:=by simpa using hi
 subst hi0
 rw[xh]
 simp only[Nat.zero_mul,Nat.zero_add,Nat.add_zero]
 exact h.cell hj
theorem Own.app1k {bs ty b k:Nat} {t e:TypeId} {xs:List (List Value)} {y:List Value} (h:Own P 0 k t w v xs) (hT:elZ P t k bs=true) (hk:0<k) (hb:Blk w b y e) (hy:y.length=k) (hone:∀c,c∈y→c.oneCell'=true)
  (h63:xs.length<9223372036854775807) (hlen:(xs.length+1)*bs≤140737488355328)
  (hK:∀v' w',Own P 0 k t w' v' (xs++[y])→Same (fun b=>v.ownBlock=some b) w w'→(∀b,v'.ownBlock=some b→v.ownBlock=some b∨w.heap.size≤b)→K v' w'):vbi P .append [t,t] ty [v,.slice (some ⟨b,0,none⟩) 1 1] w K:=
 vappend (F:=(· =b)) hT hk h (hb.sl1k hy) (by simpa using hone) (by omega) (by rw[List.length_singleton];omega) (by simpa using hlen) hK
theorem U0 {t e k:Nat} {z x:Value} {y:List Value} (hu:P.underlying t=some (.slice e)) (hz:jU P e k=true) (hzero:yK P e z) (hx:x.cells=⟨y⟩) (hy:y.length=k) (hk:k≤16777216)
  (hK:∀b w',b=w.heap.size→Ext w w'→w'.heap.size=w.heap.size+1→Blk w' b y e→K (.slice (some ⟨b,0,none⟩) 1 1) w'):vbuildS P t 1 [(0,x)] w K:=by
 refine vbuildS_row (xs:=[x]) (us:=[y]) hu hz hzero (by simp[hx]) (by simp[hy]) (by simpa using hk) fun b w' h1 h2 h3 h4=>hK b w' h1 h2 h3 (by simpa using h4)
theorem Blk.ownk {b k n:Nat} {t:TypeId} {css:List (List Value)} (h:Blk w b css.flatten (Jh P t)) (hw:∀x,x∈css→x.length=k) (hn:n=css.length) (hm:n≤9223372036854775807):Own P 0 k t w (.slice (some ⟨b,0,none⟩) n n) css:=by
 subst hn
 have hl:=flatten_len hw
 refine⟨⟨by rw[hl],.inr ⟨b,css.length,⟨css.flatten⟩,by simp,Nat.zero_le _,h,Nat.le_refl _,by simpa[maxLen] using hm,by simpa using hl,?_⟩⟩,hw⟩
 show List.take (css.length*k) css.flatten=css.flatten
 rw[←hl,List.take_length]
theorem flatten_set {k:Nat}:∀{xs:List (List Value)} (_:∀x,x∈xs→x.length=k) {i j:Nat} (u:Value),i<xs.length→j<k→xs.flatten.set (i*k+j) u=(xs.set i ((xs.getD i []).set j u)).flatten
 |[],_,i,j,u,hi,_=>by simp at hi
 |x::r,h,i,j,u,hi,hj=>by
  have hx:=h x List.mem_cons_self
  cases i with
  |zero=>
   rw[Nat.zero_mul,Nat.zero_add]
   simp only[List.flatten_cons,List.set_cons_zero,List.getD_cons_zero]
   rw[List.set_append_left _ _ (by omega)]
  |succ i=>
   simp only[List.flatten_cons,List.set_cons_succ,List.getD_cons_succ]
   rw[List.set_append_right _ _ (by rw[Nat.add_mul];omega)]
   congr 1
   have e:(i+1)*k+j-x.length=i*k+j:=by rw[Nat.add_mul];omega
   rw[e,flatten_set (fun y hy=>h y (List.mem_cons_of_mem _ hy)) u (by simpa using hi) hj]
theorem Own.stCell {k:Nat} {t e:TypeId} {xs:List (List Value)} {x:Value} (h:Own P 0 k t w v xs) (hv:x.cells= #[x]) (h1:x.oneCell'=true) (hz:jU P e 1=true) {i j:Nat} (hi:i<xs.length) (hj:j<k)
  (hK:∀w',Own P 0 k t w' v (xs.set i ((xs.getD i []).set j x))→Same (fun b=>v.ownBlock=some b) w w'→w'.heap.size=w.heap.size→K undef w'):zq P e (.pointer (some ((eaddr v k i).add j))) x w K:=by
 rcases h.row.2 with⟨rfl,hn⟩|⟨g,cap,cur,rfl,hbg,hg,hnc,hcm,hcs,htake⟩
 ·omega
 ·have hrow:=h.row
  have hij:i*k+j<xs.length*k:=by
   have:i*k+k≤xs.length*k:=by rw[←Nat.succ_mul];exact Nat.mul_le_mul_right _ hi
   omega
  have hc:=World.ownsRow.cellAt hrow (i*k+j) hij
  have hf:=World.ownsRow.frozenAt hrow (i*k+j)
  obtain⟨hs1,hs2⟩:=World.ownsRow.stored hrow (i*k+j) x
  have hlx:(xs.getD i []).length=k:=h.wide _ (M.getD_mem hi _)
  have hcell:w.cell? ⟨g,i*k+j,none⟩=some (xs.flatten.getD (i*k+j) undef):=by
   rw[hc]
   have:i*k+j<xs.flatten.length:=by rw[flatten_len h.wide];exact hij
   rw[List.getD_eq_getElem?_getD,List.getElem?_eq_getElem this];rfl
  have ha:(⟨g,i*k+j,none⟩:Addr).add 0=⟨g,i*k+j,none⟩:=rfl
  have he:(eaddr (.slice (some ⟨g,0,none⟩) xs.length cap) k i).add j=⟨g,i*k+j,none⟩:=by
   simp only[eaddr];rw[xh];simp
  rw[he]
  refine⟨(),w.setCell ⟨g,i*k+j,none⟩ x,?_,hK _ ?_ (Same.of_grown hs2) (by simp)⟩
  ·simp only[Instr.storeAt,Instr.sureAddr,Sem.run_bind,Sem.run_pure,Result.andThen_ok,storeVar,run_sizeOf hz,hv]
   cases x<;>first|(cases h1;done)|simp[storeCells,store,Sem.run,ha,hcell,hf]
  ·refine⟨?_,fun y hy=>?_⟩
   ·rw[←flatten_set h.wide x hi hj]
    simpa using hs1
   ·obtain⟨q,hq,rfl⟩:=List.getElem_of_mem hy
    rw[List.getElem_set]
    split
    ·rw[List.length_set];exact hlx
    ·exact h.wide _ (List.getElem_mem _)
def PairsR (F:Nat→Prop) (w:World) (v:Value) (xs:List (Int×Int)):Prop:=Sl F w 2 v (xs.map fun x=>[.int .i64 x.1,.int .i64 x.2])
variable {xs:List (Int×Int)}
theorem PairsR.ext (h:PairsR F w v xs) (hw:Ext w w'):PairsR F w' v xs:=Sl.ext h hw
theorem PairsR.iaddr (h:PairsR F w v xs) {t:TypeId} (ht:elB P t 2=true) {kd:IntKind} {i:Int} (h0:0≤i) (h1:i<xs.length):
  zm P t v (.int kd i) w' K=K (.pointer (some (eaddr v 2 i.toNat))) w':=Sl.iaddr h ht h0 (by rw[List.length_map];exact h1)
theorem PairsR.load (h:PairsR F w v xs) {t:TypeId} (ht:aggB P t 2=true) {i:Nat} (hi:i<xs.length):ze P t (.pointer (some (eaddr v 2 i))) w K=K (.agg ⟨[.int .i64 (xs.getD i (0,0)).1,.int .i64 (xs.getD i (0,0)).2]⟩) w:=by
 rw[Sl.ldAgg h ht (by rw[List.length_map];exact hi),M.getD_map _ hi _ (0,0)]
theorem PairsR.load1 (h:PairsR F w v xs) {t:TypeId} (ht:oneB P t=true) {i:Nat} (hi:i<xs.length):ze P t (.pointer (some ((eaddr v 2 i).add 1))) w K=K (.int .i64 (xs.getD i (0,0)).2) w:=
 Sl.ldField h ht (by rw[List.length_map];exact hi) (by rw[M.getD_map _ hi _ (0,0)];rfl)
end
end Go.Vc
end
section
namespace Go.Proofs.YtaekfnbnhjgboaaGreatDoor
open Go Go.Vc Go.Proofs
noncomputable abbrev PP:Program:=Tryz.prog
theorem mixed:PP.follows .mixedOrders=true:=by kernel_rfl
abbrev Zg:Nat:=4
abbrev xY:Nat:=10
abbrev qy:Nat:=11
abbrev YZ:Nat:=13
abbrev Yc:Nat:=16
abbrev Z1:Nat:=17
abbrev yP:Nat:=18
abbrev yw:Nat:=19
abbrev jm:Nat:=20
abbrev qN:Nat:=21
abbrev Yg:Nat:=22
abbrev Z2:Nat:=23
abbrev kI:Nat:=24
abbrev Ze:Nat:=25
abbrev Yd:Nat:=26
abbrev Zf:Nat:=27
abbrev kg:Nat:=28
abbrev jv:Nat:=29
abbrev Yb:Nat:=30
abbrev kf:Nat:=32
abbrev Ye:Nat:=35
abbrev j2:Nat:=36
abbrev Zc:Nat:=40
abbrev Zj:Nat:=47
abbrev jY:Nat:=57
abbrev qd:Nat:=58
abbrev JS:Nat:=59
abbrev Yi:Nat:=60
abbrev YU:Nat:=61
abbrev YT:Nat:=62
abbrev Z0:Nat:=63
abbrev YX:Nat:=64
abbrev jt:Nat:=65
abbrev xA:Nat:=66
abbrev X2:Nat:=70
abbrev X1:Nat:=71
abbrev Yf:Nat:=72
abbrev X4:Nat:=73
abbrev qz:Nat:=74
abbrev kH:Nat:=75
abbrev kJ:Nat:=76
abbrev ju:Nat:=84
abbrev qM:Nat:=85
abbrev X7:Nat:=86
abbrev kp:Nat:=91
abbrev qh:Nat:=93
abbrev Zk:Nat:=94
abbrev Z5:Nat:=95
abbrev Yh:Nat:=96
abbrev X5:Nat:=113
abbrev Z4:Nat:=114
abbrev je:Nat:=115
abbrev Y8:Nat:=118
abbrev YS:Nat:=119
abbrev Y5:Nat:=120
abbrev JR:Nat:=121
abbrev XJ:Nat:=122
abbrev XK:Nat:=123
abbrev j3:Nat:=125
abbrev ye:Nat:=126
abbrev X3:Nat:=127
abbrev XO:Nat:=132
abbrev Y9:Nat:=133
abbrev XQ:Nat:=134
abbrev XN:Nat:=135
abbrev YY:Nat:=136
abbrev Jf:Nat:=137
abbrev yz:Nat:=138
abbrev XS:Nat:=139
abbrev Ym:Nat:=141
abbrev Yl:Nat:=142
abbrev Yk:Nat:=143
abbrev Yj:Nat:=144
abbrev ZL:Nat:=145
abbrev XR:Nat:=146
abbrev yu:Nat:=147
abbrev xN:Nat:=148
abbrev Yn:Nat:=166
abbrev j0:Nat:=167
abbrev Jg:Nat:=168
abbrev qA:Nat:=169
abbrev qE:Nat:=170
abbrev zZ:Nat:=171
abbrev qC:Nat:=172
abbrev jZ:Nat:=173
abbrev qo:Nat:=174
abbrev ql:Nat:=175
abbrev kM:Nat:=176
abbrev XH:Nat:=177
abbrev YR:Nat:=178
abbrev q8:Nat:=179
abbrev xy:Nat:=180
abbrev jW:Nat:=181
abbrev ZJ:Nat:=182
abbrev qx:Nat:=183
abbrev qa:Nat:=184
abbrev YV:Nat:=185
abbrev js:Nat:=186
abbrev XI:Nat:=187
abbrev ZK:Nat:=188
abbrev Y6:Nat:=189
abbrev Y7:Nat:=190
abbrev Ya:Nat:=194
abbrev jl:Nat:=195
abbrev yl:Nat:=203
abbrev zG:Nat:=209
abbrev jw:Nat:=210
abbrev yD:Nat:=214
abbrev yf:Nat:=215
abbrev j8:Nat:=216
abbrev jC:Nat:=217
abbrev yC:Nat:=218
abbrev qi:Nat:=219
abbrev xf:Nat:=220
abbrev yE:Nat:=221
abbrev ym:Nat:=222
abbrev xH:Nat:=223
abbrev xe:Nat:=224
abbrev jB:Nat:=225
abbrev xR:Nat:=226
abbrev xG:Nat:=227
abbrev jd:Nat:=228
abbrev xL:Nat:=229
abbrev qV:Nat:=230
abbrev XP:Nat:=231
abbrev XM:Nat:=232
abbrev ko:Nat:=233
abbrev qw:Nat:=234
abbrev YW:Nat:=235
abbrev qn:Nat:=248
abbrev Zd:Nat:=251
abbrev Xg:Nat:=252
abbrev yI:Nat:=253
abbrev qc:Nat:=254
abbrev jA:Nat:=255
abbrev jz:Nat:=256
abbrev Zh:Nat:=257
abbrev xX:Nat:=258
abbrev jk:Nat:=259
abbrev XL:Nat:=260
abbrev jn:Nat:=270
abbrev Z3:Nat:=271
abbrev jX:Nat:=272
abbrev kK:Nat:=273
abbrev Ys:Nat:=277
abbrev qb:Nat:=278
abbrev xF:Nat:=279
abbrev xQ:Nat:=280
abbrev jD:Nat:=312
abbrev yo:Nat:=313
abbrev yA:Nat:=314
abbrev jx:Nat:=315
abbrev j6:Nat:=316
abbrev yd:Nat:=317
abbrev ZM:Nat:=318
abbrev j1:Nat:=319
abbrev ki:Nat:=320
abbrev jc:Nat:=321
abbrev qU:Nat:=322
abbrev qO:Nat:=323
abbrev Zi:Nat:=324
abbrev xa:Nat:=325
abbrev x8:Nat:=326
abbrev x7:Nat:=327
abbrev x6:Nat:=328
abbrev x5:Nat:=329
abbrev yZ:Nat:=330
abbrev yY:Nat:=331
abbrev yX:Nat:=332
abbrev yW:Nat:=333
abbrev yN:Nat:=334
abbrev yM:Nat:=335
abbrev qY:Nat:=336
abbrev ja:Nat:=337
abbrev qT:Nat:=338
abbrev X6:Nat:=339
abbrev Z6:Nat:=340
abbrev j4:Nat:=341
abbrev j5:Nat:=342
abbrev qQ:Nat:=343
abbrev qR:Nat:=344
abbrev qB:Nat:=345
abbrev jN:Nat:=346
abbrev j9:Nat:=347
abbrev qS:Nat:=348
abbrev Z7:Nat:=349
abbrev jy:Nat:=350
abbrev j7:Nat:=351
abbrev qW:Nat:=352
abbrev qD:Nat:=353
abbrev xz:Nat:=354
abbrev jO:Nat:=355
abbrev xK:Nat:=356
abbrev jf:Nat:=357
abbrev qX:Nat:=358
abbrev qj:Nat:=0
abbrev yR:Nat:=2
abbrev Kq:Nat:=2
abbrev zd:Nat:=3
abbrev jH:Nat:=4
abbrev kc:Nat:=5
abbrev zB:Nat:=9
abbrev yx:Nat:=22
abbrev zC:Nat:=23
abbrev zt:Nat:=24
abbrev zb:Nat:=26
abbrev zk:Nat:=29
abbrev zf:Nat:=31
abbrev zg:Nat:=32
abbrev zx:Nat:=38
abbrev xb:Nat:=44
abbrev yF:Nat:=45
abbrev zA:Nat:=47
abbrev yh:Nat:=61
abbrev z7:Nat:=92
abbrev zM:Nat:=95
abbrev zz:Nat:=96
abbrev y7:Nat:=97
abbrev zJ:Nat:=99
abbrev qf:Nat:=100
abbrev yJ:Nat:=102
abbrev zV:Nat:=104
abbrev zD:Nat:=105
abbrev zO:Nat:=107
abbrev zc:Nat:=111
abbrev za:Nat:=118
abbrev yL:Nat:=122
abbrev zl:Nat:=134
abbrev jI:Nat:=144
abbrev xi:Nat:=146
abbrev yb:Nat:=147
abbrev zw:Nat:=174
abbrev zo:Nat:=181
abbrev yg:Nat:=201
abbrev xU:Nat:=203
abbrev y9:Nat:=206
abbrev zK:Nat:=208
abbrev zS:Nat:=209
abbrev zH:Nat:=210
abbrev zN:Nat:=211
abbrev zI:Nat:=212
abbrev zL:Nat:=213
abbrev zT:Nat:=214
abbrev jJ:Nat:=215
abbrev zy:Nat:=217
abbrev yT:Nat:=218
abbrev zP:Nat:=219
abbrev Jj:Nat:=314
abbrev ky:Nat:=328
abbrev xn:Nat:=358
abbrev zW:Nat:=385
theorem Xv:yK PP zd (.int .i64 0):=by unfold yK;kernel_rfl
@[push_cast] theorem xh0:oneB PP zd=true:=by kernel_rfl
@[push_cast] theorem jp:jU PP zd 1=true:=by kernel_rfl
theorem Wp:jj0 PP zd .i64:=by unfold jj0;kernel_rfl
theorem xc0:(PP.underlying zd).isSome=true:=by kernel_rfl
@[push_cast] theorem X30:oneB PP jH=true:=by kernel_rfl
@[push_cast] theorem YQ0:jU PP jH 1=true:=by kernel_rfl
theorem kK0:yK PP kc (.int .u8 0):=by unfold yK;kernel_rfl
@[push_cast] theorem Y30:jU PP kc 1=true:=by kernel_rfl
theorem Zj0:jj0 PP kc .u8:=by unfold jj0;kernel_rfl
theorem Kt:yK PP zB (.string ⟨#[]⟩):=by unfold yK;kernel_rfl
@[push_cast] theorem Za0:oneB PP zB=true:=by kernel_rfl
@[push_cast] theorem Qr:jU PP zB 1=true:=by kernel_rfl
theorem Yp:PP.underlying zB=some .string:=by kernel_rfl
@[push_cast] theorem Zh0:elZ PP yx 1 1=true:=by kernel_rfl
theorem Ky:PP.underlying yx=some (.slice kc):=by kernel_rfl
theorem k70:Jh PP yx=kc:=by kernel_rfl
@[push_cast] theorem ZP0:oneB PP zC=true:=by kernel_rfl
@[push_cast] theorem xo0:elZ PP zC 2 24=true:=by kernel_rfl
theorem yy0:Jh PP zC=zx:=by kernel_rfl
@[push_cast] theorem ZK0:isSl PP zC=true:=by kernel_rfl
@[push_cast] theorem Q6:elB PP zC 2=true:=by kernel_rfl
@[push_cast] theorem xk0:oneB PP zt=true:=by kernel_rfl
@[push_cast] theorem Wk:jU PP zt 1=true:=by kernel_rfl
@[push_cast] theorem Wo:elZ PP zt 5 64=true:=by kernel_rfl
theorem KM:Jh PP zt=zb:=by kernel_rfl
@[push_cast] theorem ZJ0:isSl PP zt=true:=by kernel_rfl
@[push_cast] theorem ZX0:elB PP zt 5=true:=by kernel_rfl
theorem xu:yK PP zb (.agg #[(.int .i64 0),(.int .i64 0),(.int .i64 0),(.string ⟨#[]⟩),(.slice none 0 0)]):=by unfold yK;kernel_rfl
@[push_cast] theorem zQ:aggB PP zb 5=true:=by kernel_rfl
@[push_cast] theorem ZO0:oneB PP zk=true:=by kernel_rfl
@[push_cast] theorem Wl:jU PP zk 1=true:=by kernel_rfl
@[push_cast] theorem qF:elZ PP zk 3 24=true:=by kernel_rfl
theorem jj:PP.underlying zk=some (.slice zl):=by kernel_rfl
theorem Xa:Jh PP zk=zl:=by kernel_rfl
@[push_cast] theorem xO:isSl PP zk=true:=by kernel_rfl
@[push_cast] theorem ZO:elB PP zk 3=true:=by kernel_rfl
theorem yV:yK PP zf (.agg #[(.int .i64 0),(.slice none 0 0)]):=by unfold yK;kernel_rfl
theorem Wh:strF PP zf=some ([(0,1),(1,1)],[(.int .i64 0),(.slice none 0 0)]):=by kernel_rfl
@[push_cast] theorem y8:aggB PP zf 2=true:=by kernel_rfl
theorem Y10:yK PP zg (.slice none 0 0):=by unfold yK;kernel_rfl
@[push_cast] theorem X40:oneB PP zg=true:=by kernel_rfl
@[push_cast] theorem ZD0:jU PP zg 1=true:=by kernel_rfl
@[push_cast] theorem Zn:elZ PP zg 1 8=true:=by kernel_rfl
theorem XC:PP.underlying zg=some (.slice zd):=by kernel_rfl
theorem yx0:Jh PP zg=zd:=by kernel_rfl
@[push_cast] theorem X10:isSl PP zg=true:=by kernel_rfl
@[push_cast] theorem KO:elB PP zg 1=true:=by kernel_rfl
theorem ji:yK PP zx (.agg #[(.string ⟨#[]⟩),(.int .i64 0)]):=by unfold yK;kernel_rfl
@[push_cast] theorem K6:aggB PP zx 2=true:=by kernel_rfl
theorem Wm:PP.underlying xb=some (.slice yL):=by kernel_rfl
@[push_cast] theorem ZI0:isSl PP xb=true:=by kernel_rfl
@[push_cast] theorem ZW0:elB PP xb 2=true:=by kernel_rfl
@[push_cast] theorem ZN0:oneB PP yF=true:=by kernel_rfl
theorem xa0:PP.underlying yF=some (.slice zA):=by kernel_rfl
@[push_cast] theorem ZH0:isSl PP yF=true:=by kernel_rfl
@[push_cast] theorem ZV0:elB PP yF 5=true:=by kernel_rfl
@[push_cast] theorem Zp:aggB PP zA 5=true:=by kernel_rfl
@[push_cast] theorem Yk0:elZ PP yh 1 24=true:=by kernel_rfl
theorem jA0:PP.underlying yh=some (.slice zg):=by kernel_rfl
theorem Zu0:Jh PP yh=zg:=by kernel_rfl
@[push_cast] theorem Yd0:isSl PP yh=true:=by kernel_rfl
@[push_cast] theorem Yt0:elB PP yh 1=true:=by kernel_rfl
theorem jr:yK PP z7 (.slice none 0 0):=by unfold yK;kernel_rfl
@[push_cast] theorem UZ:oneB PP z7=true:=by kernel_rfl
@[push_cast] theorem ke:jU PP z7 1=true:=by kernel_rfl
@[push_cast] theorem yQ:elZ PP z7 1 8=true:=by kernel_rfl
theorem yO:PP.underlying z7=some (.slice zo):=by kernel_rfl
theorem xg:Jh PP z7=zo:=by kernel_rfl
@[push_cast] theorem xr:isSl PP z7=true:=by kernel_rfl
@[push_cast] theorem xc:elB PP z7 1=true:=by kernel_rfl
@[push_cast] theorem jg0:oneB PP zM=true:=by kernel_rfl
@[push_cast] theorem xi0:oneB PP zz=true:=by kernel_rfl
theorem X9:PP.underlying zz=some (.map 3 203):=by kernel_rfl
@[push_cast] theorem Ul:oneB PP y7=true:=by kernel_rfl
theorem kL:PP.underlying y7=some (.map 9 92):=by kernel_rfl
theorem zV0:strF PP zJ=some ([(0,1),(1,1),(2,1),(3,1)],[(.pointer none),(.slice none 0 0),(.map none),(.map none)]):=by kernel_rfl
@[push_cast] theorem jf0:oneB PP qf=true:=by kernel_rfl
@[push_cast] theorem XF:oneB PP yJ=true:=by kernel_rfl
@[push_cast] theorem Y40:jU PP yJ 1=true:=by kernel_rfl
theorem zU0:strF PP zV=some ([(0,1),(1,1)],[(.pointer none),.nilIface]):=by kernel_rfl
@[push_cast] theorem xj0:oneB PP zD=true:=by kernel_rfl
theorem jE:PP.underlying zD=some (.map 134 3):=by kernel_rfl
theorem zS0:strF PP zO=some ([(0,2),(2,1)],[(.int .i64 0),(.slice none 0 0),(.map none)]):=by kernel_rfl
theorem xW:yK PP zc (.agg #[(.int .i64 0),(.slice none 0 0),(.bool false)]):=by unfold yK;kernel_rfl
theorem qn0:strF PP zc=some ([(0,2),(2,1)],[(.int .i64 0),(.slice none 0 0),(.bool false)]):=by kernel_rfl
@[push_cast] theorem K5:aggB PP zc 3=true:=by kernel_rfl
theorem xo:yK PP za (.agg #[(.int .i64 0),(.int .i64 0)]):=by unfold yK;kernel_rfl
theorem Wg:strF PP za=some ([(0,1),(1,1)],[(.int .i64 0),(.int .i64 0)]):=by kernel_rfl
@[push_cast] theorem zR:aggB PP za 2=true:=by kernel_rfl
@[push_cast] theorem Yo0:aggB PP yL 2=true:=by kernel_rfl
theorem Xx:yK PP zl (.agg #[(.bool false),(.int .i64 0),(.int .i64 0)]):=by unfold yK;kernel_rfl
theorem Xd:strF PP zl=some ([(0,1),(1,1),(2,1)],[(.bool false),(.int .i64 0),(.int .i64 0)]):=by kernel_rfl
@[push_cast] theorem qG:aggB PP zl 3=true:=by kernel_rfl
@[push_cast] theorem YK:jU PP zl 3=true:=by kernel_rfl
theorem QW:PP.underlying jI=some (.map 9 3):=by kernel_rfl
theorem qf0:jj0 PP yb .u64:=by unfold jj0;kernel_rfl
theorem Uf:(PP.underlying yb).isSome=true:=by kernel_rfl
@[push_cast] theorem Us:elZ PP zw 1 24=true:=by kernel_rfl
theorem XD:PP.underlying zw=some (.slice z7):=by kernel_rfl
@[push_cast] theorem jG0:isSl PP zw=true:=by kernel_rfl
@[push_cast] theorem UC:elB PP zw 1=true:=by kernel_rfl
theorem yp:yK PP zo (.int .i64 0):=by unfold yK;kernel_rfl
@[push_cast] theorem Zb0:oneB PP zo=true:=by kernel_rfl
@[push_cast] theorem yj:jU PP zo 1=true:=by kernel_rfl
@[push_cast] theorem Ys0:elB PP yg 2=true:=by kernel_rfl
theorem q40:strF PP y9=some ([(0,1),(1,1)],[(.string ⟨#[]⟩),(.int .i64 0)]):=by kernel_rfl
theorem qZ:yK PP zK (.agg #[(.string ⟨#[]⟩),(.int .i64 0)]):=by unfold yK;kernel_rfl
theorem x60:strF PP zK=some ([(0,2)],[(.string ⟨#[]⟩),(.int .i64 0)]):=by kernel_rfl
@[push_cast] theorem yo0:aggB PP zK 2=true:=by kernel_rfl
theorem Z9:yK PP zS (.agg #[(.string ⟨#[]⟩),(.int .i64 0)]):=by unfold yK;kernel_rfl
theorem zT0:strF PP zS=some ([(0,2)],[(.string ⟨#[]⟩),(.int .i64 0)]):=by kernel_rfl
theorem Xw:yK PP zH (.agg #[(.string ⟨#[]⟩),(.int .i64 0)]):=by unfold yK;kernel_rfl
theorem zR0:strF PP zH=some ([(0,2)],[(.string ⟨#[]⟩),(.int .i64 0)]):=by kernel_rfl
@[push_cast] theorem z30:aggB PP zH 2=true:=by kernel_rfl
theorem xd:yK PP zN (.agg #[(.string ⟨#[]⟩),(.int .i64 0)]):=by unfold yK;kernel_rfl
theorem zP0:strF PP zN=some ([(0,2)],[(.string ⟨#[]⟩),(.int .i64 0)]):=by kernel_rfl
@[push_cast] theorem z00:aggB PP zN 2=true:=by kernel_rfl
theorem xj:yK PP zI (.agg #[(.string ⟨#[]⟩),(.int .i64 0)]):=by unfold yK;kernel_rfl
theorem UT:strF PP zI=some ([(0,2)],[(.string ⟨#[]⟩),(.int .i64 0)]):=by kernel_rfl
@[push_cast] theorem Uw:aggB PP zI 2=true:=by kernel_rfl
theorem xI:yK PP zL (.agg #[(.string ⟨#[]⟩),(.int .i64 0)]):=by unfold yK;kernel_rfl
theorem zQ0:strF PP zL=some ([(0,2)],[(.string ⟨#[]⟩),(.int .i64 0)]):=by kernel_rfl
@[push_cast] theorem z10:aggB PP zL 2=true:=by kernel_rfl
theorem qg:yK PP zT (.agg #[(.string ⟨#[]⟩),(.int .i64 0)]):=by unfold yK;kernel_rfl
theorem x70:strF PP zT=some ([(0,2)],[(.string ⟨#[]⟩),(.int .i64 0)]):=by kernel_rfl
@[push_cast] theorem yp0:aggB PP zT 2=true:=by kernel_rfl
@[push_cast] theorem yi0:oneB PP jJ=true:=by kernel_rfl
theorem WR:yK PP zy (.agg #[(.string ⟨#[]⟩),(.int .i64 0),.nilFunc]):=by unfold yK;kernel_rfl
theorem UU:strF PP zy=some ([(0,2),(2,1)],[(.string ⟨#[]⟩),(.int .i64 0),.nilFunc]):=by kernel_rfl
@[push_cast] theorem Q5:aggB PP zy 3=true:=by kernel_rfl
@[push_cast] theorem xn0:elZ PP yT 1 16=true:=by kernel_rfl
theorem Kz:PP.underlying yT=some (.slice zB):=by kernel_rfl
theorem j80:Jh PP yT=zB:=by kernel_rfl
@[push_cast] theorem X00:isSl PP yT=true:=by kernel_rfl
theorem Za:yK PP zP (.agg #[(.string ⟨#[]⟩),(.int .i64 0)]):=by unfold yK;kernel_rfl
theorem zW0:strF PP zP=some ([(0,2)],[(.string ⟨#[]⟩),(.int .i64 0)]):=by kernel_rfl
theorem jZ0:jj0 PP Jj .u64:=by unfold jj0;kernel_rfl
theorem Ya0:(PP.underlying Jj).isSome=true:=by kernel_rfl
theorem zi0:fieldB PP zb 0 0=true:=by kernel_rfl
@[push_cast] theorem kD0 {w:World} {K:Value→World→Prop} (a:Addr):zj PP zb (.pointer (some a)) 0 w K=K (.pointer (some (a.add 0))) w:=ya zi0 a
theorem zh0:fieldB PP zb 1 1=true:=by kernel_rfl
@[push_cast] theorem kC0 {w:World} {K:Value→World→Prop} (a:Addr):zj PP zb (.pointer (some a)) 1 w K=K (.pointer (some (a.add 1))) w:=ya zh0 a
theorem zg0:fieldB PP zb 2 2=true:=by kernel_rfl
@[push_cast] theorem kB0 {w:World} {K:Value→World→Prop} (a:Addr):zj PP zb (.pointer (some a)) 2 w K=K (.pointer (some (a.add 2))) w:=ya zg0 a
theorem zf0:fieldB PP zb 3 3=true:=by kernel_rfl
@[push_cast] theorem kA0 {w:World} {K:Value→World→Prop} (a:Addr):zj PP zb (.pointer (some a)) 3 w K=K (.pointer (some (a.add 3))) w:=ya zf0 a
theorem ze0:fieldB PP zb 4 4=true:=by kernel_rfl
@[push_cast] theorem kz0 {w:World} {K:Value→World→Prop} (a:Addr):zj PP zb (.pointer (some a)) 4 w K=K (.pointer (some (a.add 4))) w:=ya ze0 a
theorem yv0:fieldB PP zf 0 0=true:=by kernel_rfl
@[push_cast] theorem Zr0 {w:World} {K:Value→World→Prop} (a:Addr):zj PP zf (.pointer (some a)) 0 w K=K (.pointer (some (a.add 0))) w:=ya yv0 a
theorem yu0:fieldB PP zf 1 1=true:=by kernel_rfl
@[push_cast] theorem Zq0 {w:World} {K:Value→World→Prop} (a:Addr):zj PP zf (.pointer (some a)) 1 w K=K (.pointer (some (a.add 1))) w:=ya yu0 a
theorem zn0:fieldB PP zx 0 0=true:=by kernel_rfl
@[push_cast] theorem kI0 {w:World} {K:Value→World→Prop} (a:Addr):zj PP zx (.pointer (some a)) 0 w K=K (.pointer (some (a.add 0))) w:=ya zn0 a
theorem zm0:fieldB PP zx 1 1=true:=by kernel_rfl
@[push_cast] theorem kH0 {w:World} {K:Value→World→Prop} (a:Addr):zj PP zx (.pointer (some a)) 1 w K=K (.pointer (some (a.add 1))) w:=ya zm0 a
theorem zb0:fieldB PP zA 0 0=true:=by kernel_rfl
@[push_cast] theorem kw0 {w:World} {K:Value→World→Prop} (a:Addr):zj PP zA (.pointer (some a)) 0 w K=K (.pointer (some (a.add 0))) w:=ya zb0 a
theorem za0:fieldB PP zA 1 1=true:=by kernel_rfl
@[push_cast] theorem kv0 {w:World} {K:Value→World→Prop} (a:Addr):zj PP zA (.pointer (some a)) 1 w K=K (.pointer (some (a.add 1))) w:=ya za0 a
theorem z90:fieldB PP zA 2 2=true:=by kernel_rfl
@[push_cast] theorem ku0 {w:World} {K:Value→World→Prop} (a:Addr):zj PP zA (.pointer (some a)) 2 w K=K (.pointer (some (a.add 2))) w:=ya z90 a
theorem z80:fieldB PP zA 3 3=true:=by kernel_rfl
@[push_cast] theorem kt0 {w:World} {K:Value→World→Prop} (a:Addr):zj PP zA (.pointer (some a)) 3 w K=K (.pointer (some (a.add 3))) w:=ya z80 a
theorem z60:fieldB PP zA 4 4=true:=by kernel_rfl
@[push_cast] theorem ks0 {w:World} {K:Value→World→Prop} (a:Addr):zj PP zA (.pointer (some a)) 4 w K=K (.pointer (some (a.add 4))) w:=ya z60 a
theorem VZ:fieldB PP zJ 0 0=true:=by kernel_rfl
@[push_cast] theorem j50 {w:World} {K:Value→World→Prop} (a:Addr):zj PP zJ (.pointer (some a)) 0 w K=K (.pointer (some (a.add 0))) w:=ya VZ a
theorem VY:fieldB PP zJ 1 1=true:=by kernel_rfl
@[push_cast] theorem j40 {w:World} {K:Value→World→Prop} (a:Addr):zj PP zJ (.pointer (some a)) 1 w K=K (.pointer (some (a.add 1))) w:=ya VY a
theorem VX:fieldB PP zJ 2 2=true:=by kernel_rfl
@[push_cast] theorem j30 {w:World} {K:Value→World→Prop} (a:Addr):zj PP zJ (.pointer (some a)) 2 w K=K (.pointer (some (a.add 2))) w:=ya VX a
theorem VW:fieldB PP zJ 3 3=true:=by kernel_rfl
@[push_cast] theorem j20 {w:World} {K:Value→World→Prop} (a:Addr):zj PP zJ (.pointer (some a)) 3 w K=K (.pointer (some (a.add 3))) w:=ya VW a
theorem VV:fieldB PP zV 0 0=true:=by kernel_rfl
@[push_cast] theorem j10 {w:World} {K:Value→World→Prop} (a:Addr):zj PP zV (.pointer (some a)) 0 w K=K (.pointer (some (a.add 0))) w:=ya VV a
theorem VU:fieldB PP zV 1 1=true:=by kernel_rfl
@[push_cast] theorem j00 {w:World} {K:Value→World→Prop} (a:Addr):zj PP zV (.pointer (some a)) 1 w K=K (.pointer (some (a.add 1))) w:=ya VU a
theorem VS:fieldB PP zO 0 0=true:=by kernel_rfl
@[push_cast] theorem qZ0 {w:World} {K:Value→World→Prop} (a:Addr):zj PP zO (.pointer (some a)) 0 w K=K (.pointer (some (a.add 0))) w:=ya VS a
theorem VR:fieldB PP zO 1 2=true:=by kernel_rfl
@[push_cast] theorem qY0 {w:World} {K:Value→World→Prop} (a:Addr):zj PP zO (.pointer (some a)) 1 w K=K (.pointer (some (a.add 2))) w:=ya VR a
theorem z50:fieldB PP zc 0 0=true:=by kernel_rfl
@[push_cast] theorem kr0 {w:World} {K:Value→World→Prop} (a:Addr):zj PP zc (.pointer (some a)) 0 w K=K (.pointer (some (a.add 0))) w:=ya z50 a
theorem z40:fieldB PP zc 1 2=true:=by kernel_rfl
@[push_cast] theorem kq0 {w:World} {K:Value→World→Prop} (a:Addr):zj PP zc (.pointer (some a)) 1 w K=K (.pointer (some (a.add 2))) w:=ya z40 a
theorem yt0:fieldB PP za 0 0=true:=by kernel_rfl
@[push_cast] theorem Zp0 {w:World} {K:Value→World→Prop} (a:Addr):zj PP za (.pointer (some a)) 0 w K=K (.pointer (some (a.add 0))) w:=ya yt0 a
theorem ys0:fieldB PP za 1 1=true:=by kernel_rfl
@[push_cast] theorem Zo0 {w:World} {K:Value→World→Prop} (a:Addr):zj PP za (.pointer (some a)) 1 w K=K (.pointer (some (a.add 1))) w:=ya ys0 a
theorem zd0:fieldB PP yL 0 0=true:=by kernel_rfl
@[push_cast] theorem ky0 {w:World} {K:Value→World→Prop} (a:Addr):zj PP yL (.pointer (some a)) 0 w K=K (.pointer (some (a.add 0))) w:=ya zd0 a
theorem zc0:fieldB PP yL 1 1=true:=by kernel_rfl
@[push_cast] theorem kx0 {w:World} {K:Value→World→Prop} (a:Addr):zj PP yL (.pointer (some a)) 1 w K=K (.pointer (some (a.add 1))) w:=ya zc0 a
theorem zl0:fieldB PP zl 0 0=true:=by kernel_rfl
@[push_cast] theorem kG0 {w:World} {K:Value→World→Prop} (a:Addr):zj PP zl (.pointer (some a)) 0 w K=K (.pointer (some (a.add 0))) w:=ya zl0 a
theorem zk0:fieldB PP zl 1 1=true:=by kernel_rfl
@[push_cast] theorem kF0 {w:World} {K:Value→World→Prop} (a:Addr):zj PP zl (.pointer (some a)) 1 w K=K (.pointer (some (a.add 1))) w:=ya zk0 a
theorem zj0:fieldB PP zl 2 2=true:=by kernel_rfl
@[push_cast] theorem kE0 {w:World} {K:Value→World→Prop} (a:Addr):zj PP zl (.pointer (some a)) 2 w K=K (.pointer (some (a.add 2))) w:=ya zj0 a
theorem Uy:fieldB PP y9 0 0=true:=by kernel_rfl
@[push_cast] theorem k50 {w:World} {K:Value→World→Prop} (a:Addr):zj PP y9 (.pointer (some a)) 0 w K=K (.pointer (some (a.add 0))) w:=ya Uy a
theorem Ux:fieldB PP y9 1 1=true:=by kernel_rfl
@[push_cast] theorem k40 {w:World} {K:Value→World→Prop} (a:Addr):zj PP y9 (.pointer (some a)) 1 w K=K (.pointer (some (a.add 1))) w:=ya Ux a
theorem KL:fieldB PP zy 1 2=true:=by kernel_rfl
@[push_cast] theorem qF0 {w:World} {K:Value→World→Prop} (a:Addr):zj PP zy (.pointer (some a)) 1 w K=K (.pointer (some (a.add 2))) w:=ya KL a
noncomputable def mn_kids:String:=match PP.info? 208 with|some i=>(match i.methods[0]? with|some m=>m.name|none=>default)|none=>default
noncomputable def Zl:String:=match PP.info? 208 with|some i=>(match i.methods[1]? with|some m=>m.name|none=>default)|none=>default
noncomputable def kj:String:=match PP.info? 208 with|some i=>(match i.methods[2]? with|some m=>m.name|none=>default)|none=>default
noncomputable def X8:String:=match PP.info? 208 with|some i=>(match i.methods[3]? with|some m=>m.name|none=>default)|none=>default
theorem ka0:concB PP zB=true:=by kernel_rfl
@[push_cast] theorem X50 {w:World} {K:Value→World→Prop} (v:Value):Jd PP zB v w K=K (.iface zB v) w:=Y2 ka0 v
theorem qk:concB PP zK=true:=by kernel_rfl
@[push_cast] theorem ko0 {w:World} {K:Value→World→Prop} (v:Value):Jd PP zK v w K=K (.iface zK v) w:=Y2 qk v
theorem JV (x0 x1:Value) (w:World):(method (PP.types.size+Made.depth) zK (.agg ⟨[x0,x1]⟩) mn_kids).run PP w= .ok (yo,.agg ⟨[x0,x1]⟩) w:=by kernel_rfl
theorem JU (x0 x1:Value) (w:World):(method (PP.types.size+Made.depth) zK (.agg ⟨[x0,x1]⟩) Zl).run PP w= .ok (jx,.agg ⟨[x0,x1]⟩) w:=by kernel_rfl
theorem QG (x0 x1:Value) (w:World):(method (PP.types.size+Made.depth) zK (.agg ⟨[x0,x1]⟩) kj).run PP w= .ok (j6,.agg ⟨[x0,x1]⟩) w:=by kernel_rfl
theorem JT (x0 x1:Value) (w:World):(method (PP.types.size+Made.depth) zK (.agg ⟨[x0,x1]⟩) X8).run PP w= .ok (yA,.agg ⟨[x0,x1]⟩) w:=by kernel_rfl
theorem qH:concB PP zS=true:=by kernel_rfl
@[push_cast] theorem jN0 {w:World} {K:Value→World→Prop} (v:Value):Jd PP zS v w K=K (.iface zS v) w:=Y2 qH v
theorem QS (x0 x1:Value) (w:World):(method (PP.types.size+Made.depth) zS (.agg ⟨[x0,x1]⟩) mn_kids).run PP w= .ok (yo,.agg ⟨[x0,x1]⟩) w:=by kernel_rfl
theorem QR (x0 x1:Value) (w:World):(method (PP.types.size+Made.depth) zS (.agg ⟨[x0,x1]⟩) Zl).run PP w= .ok (jc,.agg ⟨[x0,x1]⟩) w:=by kernel_rfl
theorem XY (x0 x1:Value) (w:World):(method (PP.types.size+Made.depth) zS (.agg ⟨[x0,x1]⟩) kj).run PP w= .ok (qU,.agg ⟨[x0,x1]⟩) w:=by kernel_rfl
theorem QQ (x0 x1:Value) (w:World):(method (PP.types.size+Made.depth) zS (.agg ⟨[x0,x1]⟩) X8).run PP w= .ok (yA,.agg ⟨[x0,x1]⟩) w:=by kernel_rfl
theorem Zq:concB PP zH=true:=by kernel_rfl
@[push_cast] theorem jM0 {w:World} {K:Value→World→Prop} (v:Value):Jd PP zH v w K=K (.iface zH v) w:=Y2 Zq v
theorem QO (x0 x1:Value) (w:World):(method (PP.types.size+Made.depth) zH (.agg ⟨[x0,x1]⟩) mn_kids).run PP w= .ok (yo,.agg ⟨[x0,x1]⟩) w:=by kernel_rfl
theorem QN (x0 x1:Value) (w:World):(method (PP.types.size+Made.depth) zH (.agg ⟨[x0,x1]⟩) Zl).run PP w= .ok (ja,.agg ⟨[x0,x1]⟩) w:=by kernel_rfl
theorem XX (x0 x1:Value) (w:World):(method (PP.types.size+Made.depth) zH (.agg ⟨[x0,x1]⟩) kj).run PP w= .ok (qT,.agg ⟨[x0,x1]⟩) w:=by kernel_rfl
theorem QM (x0 x1:Value) (w:World):(method (PP.types.size+Made.depth) zH (.agg ⟨[x0,x1]⟩) X8).run PP w= .ok (yA,.agg ⟨[x0,x1]⟩) w:=by kernel_rfl
theorem yS:concB PP zN=true:=by kernel_rfl
@[push_cast] theorem jK0 {w:World} {K:Value→World→Prop} (v:Value):Jd PP zN v w K=K (.iface zN v) w:=Y2 yS v
theorem QF (x0 x1:Value) (w:World):(method (PP.types.size+Made.depth) zN (.agg ⟨[x0,x1]⟩) mn_kids).run PP w= .ok (yo,.agg ⟨[x0,x1]⟩) w:=by kernel_rfl
theorem QE (x0 x1:Value) (w:World):(method (PP.types.size+Made.depth) zN (.agg ⟨[x0,x1]⟩) Zl).run PP w= .ok (j5,.agg ⟨[x0,x1]⟩) w:=by kernel_rfl
theorem XT (x0 x1:Value) (w:World):(method (PP.types.size+Made.depth) zN (.agg ⟨[x0,x1]⟩) kj).run PP w= .ok (qQ,.agg ⟨[x0,x1]⟩) w:=by kernel_rfl
theorem yU:concB PP zI=true:=by kernel_rfl
@[push_cast] theorem jh0 {w:World} {K:Value→World→Prop} (v:Value):Jd PP zI v w K=K (.iface zI v) w:=Y2 yU v
theorem XV (x0 x1:Value) (w:World):(method (PP.types.size+Made.depth) zI (.agg ⟨[x0,x1]⟩) mn_kids).run PP w= .ok (yo,.agg ⟨[x0,x1]⟩) w:=by kernel_rfl
theorem XU (x0 x1:Value) (w:World):(method (PP.types.size+Made.depth) zI (.agg ⟨[x0,x1]⟩) Zl).run PP w= .ok (qR,.agg ⟨[x0,x1]⟩) w:=by kernel_rfl
theorem Xq (x0 x1:Value) (w:World):(method (PP.types.size+Made.depth) zI (.agg ⟨[x0,x1]⟩) kj).run PP w= .ok (qB,.agg ⟨[x0,x1]⟩) w:=by kernel_rfl
theorem xB:concB PP zL=true:=by kernel_rfl
@[push_cast] theorem jL0 {w:World} {K:Value→World→Prop} (v:Value):Jd PP zL v w K=K (.iface zL v) w:=Y2 xB v
theorem QK (x0 x1:Value) (w:World):(method (PP.types.size+Made.depth) zL (.agg ⟨[x0,x1]⟩) mn_kids).run PP w= .ok (yo,.agg ⟨[x0,x1]⟩) w:=by kernel_rfl
theorem QJ (x0 x1:Value) (w:World):(method (PP.types.size+Made.depth) zL (.agg ⟨[x0,x1]⟩) Zl).run PP w= .ok (j9,.agg ⟨[x0,x1]⟩) w:=by kernel_rfl
theorem XW (x0 x1:Value) (w:World):(method (PP.types.size+Made.depth) zL (.agg ⟨[x0,x1]⟩) kj).run PP w= .ok (qS,.agg ⟨[x0,x1]⟩) w:=by kernel_rfl
theorem QI (x0 x1:Value) (w:World):(method (PP.types.size+Made.depth) zL (.agg ⟨[x0,x1]⟩) X8).run PP w= .ok (yA,.agg ⟨[x0,x1]⟩) w:=by kernel_rfl
theorem xS:concB PP zT=true:=by kernel_rfl
@[push_cast] theorem kp0 {w:World} {K:Value→World→Prop} (v:Value):Jd PP zT v w K=K (.iface zT v) w:=Y2 xS v
theorem JY (x0 x1:Value) (w:World):(method (PP.types.size+Made.depth) zT (.agg ⟨[x0,x1]⟩) mn_kids).run PP w= .ok (yo,.agg ⟨[x0,x1]⟩) w:=by kernel_rfl
theorem JX (x0 x1:Value) (w:World):(method (PP.types.size+Made.depth) zT (.agg ⟨[x0,x1]⟩) Zl).run PP w= .ok (jy,.agg ⟨[x0,x1]⟩) w:=by kernel_rfl
theorem QH (x0 x1:Value) (w:World):(method (PP.types.size+Made.depth) zT (.agg ⟨[x0,x1]⟩) kj).run PP w= .ok (j7,.agg ⟨[x0,x1]⟩) w:=by kernel_rfl
theorem JW (x0 x1:Value) (w:World):(method (PP.types.size+Made.depth) zT (.agg ⟨[x0,x1]⟩) X8).run PP w= .ok (yA,.agg ⟨[x0,x1]⟩) w:=by kernel_rfl
theorem Xh:concB PP zy=true:=by kernel_rfl
@[push_cast] theorem ji0 {w:World} {K:Value→World→Prop} (v:Value):Jd PP zy v w K=K (.iface zy v) w:=Y2 Xh v
theorem Q2 (x0 x1 x2:Value) (w:World):(method (PP.types.size+Made.depth) zy (.agg ⟨[x0,x1,x2]⟩) mn_kids).run PP w= .ok (yo,.agg ⟨[x0,x1]⟩) w:=by kernel_rfl
theorem Q0 (x0 x1 x2:Value) (w:World):(method (PP.types.size+Made.depth) zy (.agg ⟨[x0,x1,x2]⟩) Zl).run PP w= .ok (qW,.agg ⟨[x0,x1,x2]⟩) w:=by kernel_rfl
theorem Xr (x0 x1 x2:Value) (w:World):(method (PP.types.size+Made.depth) zy (.agg ⟨[x0,x1,x2]⟩) kj).run PP w= .ok (qD,.agg ⟨[x0,x1,x2]⟩) w:=by kernel_rfl
theorem XZ (x0 x1 x2:Value) (w:World):(method (PP.types.size+Made.depth) zy (.agg ⟨[x0,x1,x2]⟩) X8).run PP w= .ok (yA,.agg ⟨[x0,x1]⟩) w:=by kernel_rfl
theorem qI:concB PP zP=true:=by kernel_rfl
@[push_cast] theorem jO0 {w:World} {K:Value→World→Prop} (v:Value):Jd PP zP v w K=K (.iface zP v) w:=Y2 qI v
theorem QV (x0 x1:Value) (w:World):(method (PP.types.size+Made.depth) zP (.agg ⟨[x0,x1]⟩) mn_kids).run PP w= .ok (yo,.agg ⟨[x0,x1]⟩) w:=by kernel_rfl
theorem QU (x0 x1:Value) (w:World):(method (PP.types.size+Made.depth) zP (.agg ⟨[x0,x1]⟩) Zl).run PP w= .ok (jf,.agg ⟨[x0,x1]⟩) w:=by kernel_rfl
theorem Q3 (x0 x1:Value) (w:World):(method (PP.types.size+Made.depth) zP (.agg ⟨[x0,x1]⟩) kj).run PP w= .ok (qX,.agg ⟨[x0,x1]⟩) w:=by kernel_rfl
theorem QT (x0 x1:Value) (w:World):(method (PP.types.size+Made.depth) zP (.agg ⟨[x0,x1]⟩) X8).run PP w= .ok (yA,.agg ⟨[x0,x1]⟩) w:=by kernel_rfl
end Go.Proofs.YtaekfnbnhjgboaaGreatDoor
end
