/- slices.SortFunc of the clause that is learned. -/
import Derived.Test.YtpihgpfebhegmaaLh
import Derived.Test.YtpihgpfebhegmaaM6
import Derived.Test.YtpihgpfebhegmaaSh
set_option linter.unusedVariables false
set_option linter.unusedSimpArgs false
set_option linter.unnecessarySimpa false
set_option linter.unusedSectionVars false
namespace Go.Proofs.Ytpihgpfebhegmaa
open Go Go.Vc Go.Proofs Go.M
variable {w : World} {K : Value → World → Prop} {F Fr : Nat → Prop}
/-- A literal. -/
abbrev LitT := { x : Int // x.natAbs ≤ 700 }
instance : Inhabited LitT := ⟨⟨0, by decide⟩⟩
def litV (x : LitT) : Value := .int .i64 x.1
def litC (x y : LitT) : Int := cmpI x.1.natAbs y.1.natAbs
theorem litC_lt (x y : LitT) : ltOf litC x y = decide (x.1.natAbs < y.1.natAbs) := by
  unfold ltOf litC cmpI
  refine decide_eq_decide.2 ?_
  split <;> (try split) <;> omega
theorem litC_swo : Go.Sort.SWO (ltOf litC) where
  irrefl x := by rw [litC_lt]; simp
  trans x y z h1 h2 := by rw [litC_lt] at *; simp at *; omega
  ntrans x y z h1 h2 := by rw [litC_lt] at *; simp at *; omega
theorem learn_2_enters (args : Array Value) (w : World) : (callFunc n_impl_search_learn_2 args).run PP w = .ok (.enter n_impl_search_learn_2 args) w := callFunc_run (by kernel_rfl)
theorem learn_2_reads (blk off size : Nat) (w : World) : CmpReads PP n_impl_search_learn_2 #[] litV litC blk off size w := by
  intro m os dk _ x y
  have h := learn_2_spec (K := fun v w' => v = .int .i64 (litC x y) ∧ ∃ q, w' = (sortWorld litV w blk off m dk os).drewN q) (w := sortWorld litV w blk off m dk os) x.2 y.2 ⟨rfl, 0, rfl⟩
  refine Calls.mono h.2 fun e w' he => ?_
  cases e with
  | returned v => exact ⟨by rw [he.1], he.2⟩
  | panicked c => exact he.elim
  | outgrown => exact he.elim
theorem SortFunc_learn {v : Value} {xs : List Int} (hv : OwnI PP T_Lint w v xs) (hne : xs ≠ []) (hb : ∀ x, x ∈ xs → x.natAbs ≤ 700) (hnd : (xs.map Int.natAbs).Nodup)
    (hK : ∀ w' ys, OwnI PP T_Lint w' v ys → Srt ys → (∀ k, k ∈ ys ↔ k ∈ xs) → Same (fun b => v.ownBlock = some b) w w' → K (.tuple #[]) w') :
    vcall PP n_slices_SortFunc_Lint_int #[v, .func (.func n_impl_search_learn_2) #[] #[]] w K := by
  refine ⟨by kernel_rfl, ?_⟩
  have hsm := hv.small
  have hlen : xs.length ≤ 1401 := few_ints (by
    unfold List.Nodup at hnd ⊢
    rw [List.pairwise_map] at hnd
    exact hnd.imp fun h e => h (by rw [e])) hb
  have hrow := Own.row hv
  rcases hrow.2 with ⟨rfl, hn⟩ | ⟨g, cap, cur, rfl, hbg, hg, hnc, hcm, hcs, htake⟩
  · simp at hn; exact absurd hn hne
  let L : List LitT := xs.attach.map fun x => ⟨x.1, hb x.1 x.2⟩
  have hL : L.map (·.1) = xs := by
    simp [L]
  let d : Array LitT := L.toArray
  have hds : d.size = xs.length := by simp [d, L]
  have hdj : ∀ j, j < xs.length → litV d[j]! = .int .i64 (xs.getD j 0) := fun j hj => by
    have h1 : (L.map (·.1)).getD j 0 = xs.getD j 0 := by rw [hL]
    simp only [litV]
    rw [← h1, getElem!_pos d j (by omega)]
    have : j < L.length := by simp [L]; exact hj
    simp [d, List.getD_eq_getElem?_getD, this]
  have hH : Go.Sort.Holds litV w g 0 d := by
    intro j hj
    rw [hds] at hj
    have hi' : j < ((xs.map fun x => Value.int .i64 x).map fun x => [x]).length * 1 := by simpa using hj
    have hc := World.ownsRow.cellAt hrow j hi'
    have hf := World.ownsRow.frozenAt hrow j
    rw [Nat.zero_add]
    refine ⟨?_, hf⟩
    rw [hc, flat1, hdj j hj]
    simp [List.getD_eq_getElem?_getD, hj]
  have hcon := Any.slices_SortFunc Ytpihgpfebhegmaa.sortL litV (fun _ => rfl) litC litC_swo n_impl_search_learn_2 #[] g 0 cap d w learn_2_enters (learn_2_reads g 0 d.size w).lays hH (Array.getElem?_eq_some_iff.1 hg).1 (by omega)
  have hsz : ((xs.map fun x => Value.int .i64 x).map fun x => [x]).length = d.size := by simp [hds]
  rw [hsz]
  refine Calls.mono hcon ?_
  rintro e w' ⟨rfl, d', n, os, hp, hs, rfl⟩
  show K _ _
  obtain ⟨hp1, hp2, hp3⟩ := hp
  have hex : d'.toList.Perm L := by
    have e1 : d'.extract 0 d.size = d' := by rw [← hp1]; simp
    have e2 : d.extract 0 d.size = d := by simp
    rw [e1, e2] at hp3
    exact hp3
  have hmap : (d'.toList.map (·.1)).Perm xs := by rw [← hL]; exact hex.map _
  have hgl := (Array.getElem?_eq_some_iff.1 hg).1
  have hcells : (sortWorld litV w g 0 n d' os).heap[g]? = some (.cells (Go.Sort.putCells litV 0 d' cur) (elOf PP T_Lint) (0, 0)) := by
    unfold sortWorld Go.Sort.grow Go.Sort.putRow Go.Sort.mapBlock Go.Sort.ahead
    simp only
    rw [Array.getElem?_append_left (by simpa using hgl)]
    simp [Array.getElem?_modify, hg, Go.Sort.onCells]
  have hlen' : d'.toList.length = xs.length := by simpa [L] using hex.length_eq
  refine hK _ (d'.toList.map (·.1)) ⟨⟨by rw [flat1]; simp only [List.length_map, Nat.mul_one], .inr ⟨g, cap, _, by simp only [List.length_map, hds, hlen'], hbg, hcells, ?_, hcm, ?_, ?_⟩⟩, fun y hy => by obtain ⟨u, _, rfl⟩ := List.mem_map.1 hy; rfl⟩ ?_ (fun k => hmap.mem_iff) ?_
  · simp only [List.length_map] at hnc ⊢; simp at hlen' ⊢; omega
  · simpa [Go.Sort.putCells] using hcs
  · rw [flat1]
    simp only [List.length_map, Nat.mul_one, hlen']
    refine List.ext_getElem? fun i => ?_
    rw [List.getElem?_take]
    split
    · rename_i hi
      have hic : i < cur.size := by simp at hnc; omega
      have hid : i < d'.size := by omega
      simp [Go.Sort.putCells, Array.getElem?_mapIdx, hic, hid, litV]
    · rename_i hi
      symm
      rw [List.getElem?_eq_none]
      simp at hlen' ⊢; omega
  · unfold Srt
    rw [List.pairwise_map, List.pairwise_iff_getElem]
    intro i j hi hj hij
    have h1 := hs i j (Nat.zero_le _) hij (by simp at hj; omega)
    rw [litC_lt] at h1
    simp only [decide_eq_false_iff_not, Nat.not_lt] at h1
    simp only [Array.length_toList] at hi hj
    rw [getElem!_pos d' i hi, getElem!_pos d' j hj] at h1
    simp only [Array.getElem_toList]
    refine Nat.lt_of_le_of_ne h1 fun e => ?_
    have hnd2 : ((d'.toList.map (·.1)).map Int.natAbs).Nodup := (hmap.map _).nodup_iff.2 hnd
    unfold List.Nodup at hnd2
    rw [List.map_map, List.pairwise_map, List.pairwise_iff_getElem] at hnd2
    have := hnd2 i j (by simpa using hi) (by simpa using hj) hij
    simp at this
    exact this e
  · refine ⟨rfl, rfl, rfl, by simp [sortWorld, Go.Sort.grow, Go.Sort.putRow, Go.Sort.mapBlock, Go.Sort.ahead], fun b hb' hne' => ?_⟩
    have hbg' : g ≠ b := fun e => hne' (by rw [e]; rfl)
    unfold sortWorld Go.Sort.grow Go.Sort.putRow Go.Sort.mapBlock Go.Sort.ahead
    simp only
    rw [Array.getElem?_append_left (by simpa using hb'), Array.getElem?_modify, if_neg hbg']
end Go.Proofs.Ytpihgpfebhegmaa
