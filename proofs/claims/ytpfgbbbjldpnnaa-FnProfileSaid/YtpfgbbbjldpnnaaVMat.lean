/- Walks: valid matrices. -/
import Derived.Test.YtpfgbbbjldpnnaaFld5
import Derived.Test.YtpfgbbbjldpnnaaAnyR
namespace Go.Proofs.Ytpfgbbbjldpnnaa
set_option linter.unusedSimpArgs false
set_option linter.unusedVariables false
open Go.RowKit
attribute [local go_sem ↓] Go.wp_at_zero Go.wp_at_succ

/-! numbers that are elements -/
def vecOk (q : Int) (xs : List Int) : Bool := !anyP (fun x => !inB x 0 (q - 1)) xs
theorem l03Size_c (p d : Int) (g : Nat) (v : Value) (xs : List Int) (w : World) (hb : BoxF w g p d v) (hf : FV p d xs) : Calls Try.prog 168 #[.pointer (some ⟨g, 0, none⟩)] w (GivesI w (p ^ d.toNat)) := by
  have hS0 := St.refl w
  have q0 := fun s : SS w.heap.size w [] => (s.st.oldF hb).1
  have q1 := fun s : SS w.heap.size w [] => (s.st.oldF hb).2.1
  have p2 := hf.p2
  have p64 := hf.p64
  have d6 := hf.d6
  have d1 := hf.d1
  obtain ⟨D, rfl⟩ := Int.eq_ofNat_of_zero_le (show 0 ≤ d by omega)
  rw [Int.toNat_natCast]
  go_enter Try.func168, Try.ntmps168
  go_wp2_with fail
  have hne : Nonempty (SS _ _ _) := ⟨⟨_, hS0⟩⟩
  refine wp_region_st (by kernel_rfl) (by kernel_rfl) hS0 ?_
  repeat (go_big_quiet_step ((go_at_call 178; exact st_quiet0 (l03Power_c p D _ (by omega) p64 (by omega)))))
  refine wpQuiet_nil ?_
  rintro _ ⟨s2, rfl⟩
  have hS3 := s2.st
  generalize s2.w = w3 at hS3 ⊢
  go_wp2_with fail
  go_ret
  exact ⟨rfl, hS3⟩

theorem vecOk_no {q : Int} {xs : List Int} {k : Nat} (hk : k < xs.length) (h : inB (nth xs k) 0 (q - 1) = false) : vecOk q xs = false := by
  simp only [vecOk, anyP, Bool.not_eq_false', List.any_eq_true, Bool.not_eq_true']
  exact ⟨_, nth_mem hk, h⟩
theorem vecOk_yes {q : Int} {xs : List Int} (h : ∀ k, k < xs.length → inB (nth xs k) 0 (q - 1) = true) : vecOk q xs = true := by
  simp only [vecOk, anyP, Bool.not_eq_true', List.any_eq_false, Bool.not_eq_true]
  intro x hx
  obtain ⟨k, hk, rfl⟩ := List.getElem_of_mem hx
  have := h k hk
  rw [nth_eq hk] at this
  rw [this]; simp
end Go.Proofs.Ytpfgbbbjldpnnaa
