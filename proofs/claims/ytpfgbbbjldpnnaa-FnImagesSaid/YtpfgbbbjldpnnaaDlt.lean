/- slices.Delete at []int64: a row that a call owns, without one of its numbers. -/
import Derived.Test.YtpfgbbbjldpnnaaInt
import Derived.Shelf.SlicesG.Delete
import Derived.Sort.OwnSortedInts
namespace Go.Proofs.Ytpfgbbbjldpnnaa
set_option linter.unusedSimpArgs false
set_option linter.unusedVariables false
open Go.RowKit

def Try.mDelete_ren : Go.Shelf.Ren := ⟨fun | 45 => 69 | n => n, fun | 22 => 24 | 23 => 2 | 3 => 3 | 4 => 4 | 0 => 0 | n => n, fun | n => n⟩
theorem Try.mDelete : Go.Proofs.SlLaysN.n45 Try.prog Try.mDelete_ren := {
  mixed := by kernel_rfl
  f45 := ⟨Try.f69.name, by decide, Try.func69.trans (congrArg some (by kernel_rfl))⟩
  t0 := Try.underlying0
  a0 := Try.isAgg0
  z0 := Try.sizeOf0
  v0 := Try.zeroValue0
  t3 := Try.underlying3
  a3 := Try.isAgg3
  z3 := Try.sizeOf3
  v3 := Try.zeroValue3
  t4 := Try.underlying4
  a4 := Try.isAgg4
  z4 := Try.sizeOf4
  v4 := Try.zeroValue4
  t22 := Try.underlying24
  a22 := Try.isAgg24
  z22 := Try.sizeOf24
  v22 := Try.zeroValue24
  t23 := Try.underlying2
  a23 := Try.isAgg2
  z23 := Try.sizeOf2
  v23 := Try.zeroValue2
  i23 := by kernel_rfl
  }

theorem dl_grow (w : World) : Go.Sort.grow w #[] = w := by simp [Go.Sort.grow]
theorem Delete_c {B : Nat} {w0 w : World} {L : List Ent} (hS : St B w0 w L) (i : Nat) {v : Value} {xs : List Int} (hi : L[i]? = some (row 2 v (iv xs))) (hl : xs.length < 4611686018427387904) (k : Nat) (hk : k < xs.length) :
    Calls Try.prog 69 #[v, .int .i64 k, .int .i64 ((k : Int) + 1)] w fun e w' => ∃ v', e = .returned v' ∧ St B w0 w' (L.set i (row 2 v' (iv (xs.take k ++ xs.drop (k + 1))))) := by
  have hx := hS.ok _ (List.mem_of_getElem? hi)
  rcases hx with ⟨hp, _⟩ | ⟨_, hv, hu⟩ | ⟨_, g, cap, cur, hv, hB, hh, h1, h2, h3, h4⟩
  · simp [row] at hp
  · simp only [row] at hv hu
    have hx : xs = [] := by cases xs with
      | nil => rfl
      | cons a r => simp [iv] at hu
    rw [hx] at hk; simp at hk
  · simp only [row] at hv h1 h4 hh
    rw [iv_len] at hv h1 h4
    have hblk : g < w.heap.size := (Array.getElem?_eq_some_iff.1 hh).1
    have hH : Go.Sort.Holds (Value.int .i64) w g 0 xs.toArray := holds_of_blockI hh h4
    have hc := AnyG.slices_Delete_int Try.mDelete g 0 cap k (k + 1) xs w hH (by omega) (by unfold maxLen at h2; omega) (by omega) (by omega)
    rw [show ((k + 1 : Nat) : Int) = (k : Int) + 1 by omega, show k + 1 - k = 1 by omega] at hc
    subst hv
    refine Calls.mono hc ?_
    rintro e w' ⟨rfl, q, rfl⟩
    refine ⟨_, rfl, ?_⟩
    have key : ∀ (W : World) (L' : List Ent), St B w0 (Go.Sort.grow W #[]) L' → St B w0 W L' := fun W L' h => by rwa [dl_grow] at h
    refine key _ _ ?_
    clear key
    obtain ⟨ys, hys⟩ : ∃ ys, ys = xs.take k ++ xs.drop (k + 1) := ⟨_, rfl⟩
    have hyl : ys.length + 1 = xs.length := by rw [hys]; simp; omega
    rw [← hys]
    have hrep : List.replicate 1 (0 : Int) = [0] := rfl
    rw [hrep, show xs.length - 1 = ys.length by omega]
    have hlen : (ys ++ [(0 : Int)]).length = xs.length := by simp; omega
    refine hS.put i hi ?_ (row 2 (.slice (some ⟨g, 0, none⟩) ys.length cap) (iv ys)) (.inr (.inr ⟨rfl, g, cap, _, ?_, hB, heap_sortedI _ hh, ?_, h2, ?_, ?_⟩)) (.inl rfl)
    · exact grownBy_sortedI _
    · simp [row, iv_len]
    · simp [row, iv_len]; omega
    · simp [Go.Sort.putCells, h3]
    · have := take_putCellsI cur (ys ++ [(0 : Int)]) (by omega)
      rw [hlen] at this
      have h5 := congrArg (List.take ys.length) this
      have e5 : List.take ys.length (List.map (Value.int .i64) (ys ++ [(0 : Int)])) = List.map (Value.int .i64) ys := by rw [List.map_append, List.take_left' (by simp)]
      rw [List.take_take, Nat.min_eq_left (by omega), e5] at h5
      simpa [row, iv] using h5
end Go.Proofs.Ytpfgbbbjldpnnaa
