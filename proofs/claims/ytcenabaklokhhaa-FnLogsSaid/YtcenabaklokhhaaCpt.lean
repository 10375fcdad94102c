/- slices.Compact at []int64: a row that a call owns, without repetitions. -/
import Derived.Test.YtcenabaklokhhaaInt
import Derived.Test.YtcenabaklokhhaaSrt
import Derived.Shelf.SlicesG.CompactI
import Derived.Sort.OwnSortedInts
namespace Go.Proofs.Ytcenabaklokhhaa
set_option linter.unusedSimpArgs false
set_option linter.unusedVariables false
open Go.RowKit

def Try.mCompact_ren : Go.Shelf.Ren := ⟨fun | 43 => 153 | n => n, fun | 22 => 23 | 23 => 2 | 3 => 3 | 4 => 4 | 0 => 0 | n => n, fun | n => n⟩
theorem Try.mCompact : Go.Proofs.SlLaysN.n43 Try.prog Try.mCompact_ren := {
  mixed := by kernel_rfl
  f43 := ⟨Try.f153.name, by decide, Try.func153.trans (congrArg some (by kernel_rfl))⟩
  t0 := Try.underlying0
  a0 := Try.isAgg0
  z0 := Try.sizeOf0
  v0 := Try.zeroValue0
  t3 := Try.underlying3
  a3 := Try.isAgg3
  z3 := Try.sizeOf3
  v3 := Try.zeroValue3
  t4 := Try.underlying4
  a4 := Try.isAgg4
  z4 := Try.sizeOf4
  v4 := Try.zeroValue4
  t22 := Try.underlying23
  a22 := Try.isAgg23
  z22 := Try.sizeOf23
  v22 := Try.zeroValue23
  t23 := Try.underlying2
  a23 := Try.isAgg2
  z23 := Try.sizeOf2
  v23 := Try.zeroValue2
  i23 := by kernel_rfl
  }

theorem grow_none (w : World) : Go.Sort.grow w #[] = w := by simp [Go.Sort.grow]
theorem Compact_c {B : Nat} {w0 w : World} {L : List Ent} (hS : St B w0 w L) (i : Nat) {v : Value} {xs : List Int} (hi : L[i]? = some (row 2 v (iv xs))) (hl : xs.length < 4611686018427387904) :
    Calls Try.prog 153 #[v] w fun e w' => ∃ v', e = .returned v' ∧ St B w0 w' (L.set i (row 2 v' (iv (Go.Lib.compact xs)))) := by
  have hx := hS.ok _ (List.mem_of_getElem? hi)
  rcases hx with ⟨hp, _⟩ | ⟨_, hv, hu⟩ | ⟨_, g, cap, cur, hv, hB, hh, h1, h2, h3, h4⟩
  · simp [row] at hp
  · simp only [row] at hv hu
    have hx : xs = [] := by cases xs with
      | nil => rfl
      | cons a r => simp [iv] at hu
    subst hx
    subst hv
    have hc := AnyG.slices_Compact_int_empty Try.mCompact none 0 w
    refine Calls.mono hc ?_
    rintro e w' ⟨rfl, rfl⟩
    refine ⟨_, rfl, ?_⟩
    have : L.set i (row 2 (.slice none 0 0) (iv (Go.Lib.compact []))) = L := by
      obtain ⟨hlt, heq⟩ := List.getElem?_eq_some_iff.1 hi
      have e : Go.Lib.compact ([] : List Int) = [] := by simp [Go.Lib.compact, Go.Lib.compactUpTo]
      rw [e, ← heq, List.set_getElem_self]
    rw [this]; exact hS
  · simp only [row] at hv h1 h4 hh
    rw [iv_len] at hv h1 h4
    have hblk : g < w.heap.size := (Array.getElem?_eq_some_iff.1 hh).1
    have hH : Go.Sort.Holds (Value.int .i64) w g 0 xs.toArray := holds_of_blockI hh h4
    have hc := AnyG.slices_Compact_int Try.mCompact g 0 cap xs w hH (by omega) h1
    have hle : (Go.Lib.compact xs).length ≤ xs.length := by
      unfold Go.Lib.compact Go.Lib.compactUpTo
      rw [List.length_map]
      have := List.length_filter_le (Go.Lib.keeps xs.toArray) (List.range xs.length)
      simpa using this
    subst hv
    refine Calls.mono hc ?_
    rintro e w' ⟨rfl, q, rfl⟩
    refine ⟨_, rfl, ?_⟩
    have key : ∀ (W : World) (L' : List Ent), St B w0 (Go.Sort.grow W #[]) L' → St B w0 W L' := fun W L' h => by rwa [grow_none] at h
    refine key _ _ ?_
    clear key
    generalize Go.Lib.compact xs = ys at *
    have hlen : (ys ++ List.replicate (xs.length - ys.length) (0 : Int)).length = xs.length := by simp; omega
    refine hS.put i hi ?_ (row 2 (.slice (some ⟨g, 0, none⟩) ys.length cap) (iv ys)) (.inr (.inr ⟨rfl, g, cap, _, ?_, hB, heap_sortedI _ hh, ?_, h2, ?_, ?_⟩)) (.inl rfl)
    · exact grownBy_sortedI _
    · simp [row, iv_len]
    · simp [row, iv_len]; omega
    · simp [Go.Sort.putCells, h3]
    · have := take_putCellsI cur (ys ++ List.replicate (xs.length - ys.length) (0 : Int)) (by omega)
      rw [hlen] at this
      have h5 := congrArg (List.take ys.length) this
      have e5 : List.take ys.length (List.map (Value.int .i64) (ys ++ List.replicate (xs.length - ys.length) (0 : Int))) = List.map (Value.int .i64) ys := by rw [List.map_append, List.take_left' (by simp)]
      rw [List.take_take, Nat.min_eq_left hle, e5] at h5
      simpa [row, iv] using h5
/-! ### what it leaves, of a list in rising order -/
theorem gb_nth (xs : List Int) {j : Nat} (hj : j < xs.length) : xs.toArray[j]! = nth xs j := by
  simp [nth, hj]
theorem mem_compact {xs : List Int} {x : Int} : x ∈ Go.Lib.compact xs ↔ x ∈ xs := by
  unfold Go.Lib.compact Go.Lib.compactUpTo
  rw [List.mem_map]
  constructor
  · rintro ⟨j, hj, rfl⟩
    have := List.mem_range.1 (List.mem_filter.1 hj).1
    rw [gb_nth xs this]; exact nth_mem this
  · intro hx
    obtain ⟨j, hj, rfl⟩ := List.getElem_of_mem hx
    have key : ∀ j (hj : j < xs.length), ∃ i, i ∈ (List.range xs.length).filter (Go.Lib.keeps xs.toArray) ∧ xs.toArray[i]! = nth xs j := by
      intro j
      induction j with
      | zero => exact fun hj => ⟨0, List.mem_filter.2 ⟨List.mem_range.2 hj, by simp [Go.Lib.keeps]⟩, gb_nth xs hj⟩
      | succ j ih =>
        intro hj
        by_cases e : xs.toArray[j + 1]! = xs.toArray[j]!
        · obtain ⟨i, hi, e2⟩ := ih (by omega)
          exact ⟨i, hi, by rw [e2, ← gb_nth xs (by omega : j < xs.length), ← e, gb_nth xs hj]⟩
        · exact ⟨j + 1, List.mem_filter.2 ⟨List.mem_range.2 hj, by simp only [Go.Lib.keeps, decide_eq_true_eq]; exact .inr e⟩, gb_nth xs hj⟩
    obtain ⟨i, hi, e⟩ := key j hj
    exact ⟨i, hi, by rw [e, nth_eq hj]⟩
theorem compact_nodup {xs : List Int} (h : xs.Pairwise (· ≤ ·)) : (Go.Lib.compact xs).Nodup := by
  unfold Go.Lib.compact Go.Lib.compactUpTo
  have hs : ∀ i j, i ≤ j → j < xs.length → nth xs i ≤ nth xs j := fun i j hij hj => by
    rcases Nat.lt_or_eq_of_le hij with hlt | rfl
    · have := List.pairwise_iff_getElem.1 h i j (by omega) hj hlt
      rw [nth_eq (by omega), nth_eq hj]; exact this
    · exact Int.le_refl _
  rw [List.nodup_iff_pairwise_ne, List.pairwise_map]
  have hp : ((List.range xs.length).filter (Go.Lib.keeps xs.toArray)).Pairwise (· < ·) := List.Pairwise.filter _ (List.pairwise_lt_range)
  refine hp.imp_of_mem fun {a b} ha hb hab e => ?_
  have hb1 := List.mem_range.1 (List.mem_filter.1 hb).1
  have hk := (List.mem_filter.1 hb).2
  simp only [Go.Lib.keeps, decide_eq_true_eq] at hk
  rcases hk with h0 | hne
  · omega
  · rw [gb_nth xs hb1, gb_nth xs (by omega)] at hne
    rw [gb_nth xs (by omega), gb_nth xs hb1] at e
    have := hs a (b - 1) (by omega) (by omega)
    have := hs (b - 1) b (by omega) hb1
    omega
theorem msort_up (xs : List Int) : (srt xs).Pairwise (· ≤ ·) := by
  have := List.pairwise_mergeSort (le := fun x y : Int => decide (x ≤ y)) (fun a b c h1 h2 => by simp at *; omega) (fun a b => by simp; omega) xs
  exact this.imp fun h => by simpa using h
end Go.Proofs.Ytcenabaklokhhaa
