/- Walks: whether a list holds a number. -/
import Derived.Test.YtpfgbbbjldpnnaaCF
namespace Go.Proofs.Ytpfgbbbjldpnnaa
set_option linter.unusedSimpArgs false
set_option linter.unusedVariables false
open Go.RowKit

theorem anyP_eq (n : Int) (xs : List Int) : anyP (fun x => n == x) xs = decide (n ∈ xs) := by
  unfold anyP
  rw [Bool.eq_iff_iff, List.any_eq_true, decide_eq_true_iff]
  constructor
  · rintro ⟨x, hx, e⟩; rw [beq_iff_eq] at e; subst e; exact hx
  · intro h; exact ⟨n, h, by simp⟩

set_option maxHeartbeats 1000000 in
set_option maxRecDepth 100000 in
theorem l00Has_c (v : Value) (xs : List Int) (n : Int) (w : World) (hv : RdI w v xs) :
    Calls Try.prog 104 #[v, .int .i64 n] w fun e w' => e = .returned (.bool (decide (n ∈ xs))) ∧ w = w' := by
  have hln := hv.len
  have hix := hv.ix
  have hm := hv.le
  go_enter Try.func104, Try.ntmps104
  go_wp2_with fail
  go_loopw [5] (fun i wr => ∃ k : Nat, k ≤ xs.length ∧ i = .int .i64 k ∧ Hid (n ∉ xs.take k) ∧ wr = w) (fun i _ => xs.length - (intOf i).toNat)
  case atStart => exact ⟨0, by omega, rfl, by simp [Hid], rfl⟩
  case round =>
    obtain ⟨k, hk, rfl, hI, rfl⟩ := hrel
    by_cases hlt : k < xs.length
    · have hc := hv.cell k hlt
      by_cases hp : nth xs k = n
      · have f1 := eq_t hp
        have Hp := Lib.hid (show decide (n ∈ xs) = true by rw [decide_eq_true_iff, ← hp]; exact nth_mem hlt)
        clear hp
        go_wp2_with fail
        go_ret
        exact ⟨ret_bool Hp.out.symm, rfl⟩
      · have f1 := eq_f hp
        have Hp := Lib.hid (show n ∉ xs.take (k + 1) by rw [take_nth hlt, List.mem_append, not_or]; exact ⟨hI.out, by simp; exact fun e => hp e.symm⟩)
        clear hp
        go_wp2_with fail
        go_roundw
        case rel => exact ⟨k + 1, by omega, by go_num, Hp, by first | rfl | trivial⟩
        case measure => simp [intOf]; omega
    · have Hn := Lib.hid (show decide (n ∈ xs) = false by rw [decide_eq_false_iff_not]; have := hI.out; rwa [List.take_of_length_le (by omega)] at this)
      go_wp2_with fail
      go_ret
      exact ⟨ret_bool Hn.out.symm, rfl⟩
end Go.Proofs.Ytpfgbbbjldpnnaa
