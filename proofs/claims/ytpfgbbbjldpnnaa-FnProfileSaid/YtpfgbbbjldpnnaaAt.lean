/- Walks: what the laws choose by bytes. -/
import Derived.Test.YtpfgbbbjldpnnaaSrc
namespace Go.Proofs.Ytpfgbbbjldpnnaa
set_option linter.unusedSimpArgs false
set_option linter.unusedVariables false
open Go.RowKit

/-- some number at most 1023, and less than n if there is one -/
theorem b10At_c (w : World) (cv : Value) (bs : List UInt8) (i n : Int) (hb : RdB w cv bs) (i0 : 0 ≤ i) (i1 : i ≤ 1000000) (n1 : n ≤ 1000000) :
    Calls Try.prog 27 #[cv, .int .i64 i, .int .i64 n] w fun e w' => ∃ x : Int, e = .returned (.int .i64 x) ∧ 0 ≤ x ∧ (x < n ∨ n ≤ 1 ∧ x = 0) ∧ w = w' := by
  have hln := hb.len
  have hix := hb.ix
  have hc := hb.cell
  have hle := hb.le
  by_cases h1 : n ≤ 1
  · go_enter Try.func27, Try.ntmps27
    go_wp2_with fail
    go_ret
    exact ⟨0, rfl, by omega, .inr ⟨h1, rfl⟩, rfl⟩
  · by_cases h2 : i < bs.length
    · obtain ⟨k, rfl⟩ := Int.eq_ofNat_of_zero_le i0
      have hck := hc k (by omega)
      have hbd := bnth_bd bs k
      go_enter Try.func27, Try.ntmps27
      go_wp2_with fail
      go_ret
      refine ⟨_, rfl, ?_, .inl ?_, rfl⟩
      · exact Int.emod_nonneg _ (by omega)
      · exact Int.emod_lt_of_pos _ (by omega)
    · go_enter Try.func27, Try.ntmps27
      go_wp2_with fail
      go_ret
      refine ⟨_, rfl, ?_, .inl ?_, rfl⟩
      · exact Int.emod_nonneg _ (by omega)
      · exact Int.emod_lt_of_pos _ (by omega)

end Go.Proofs.Ytpfgbbbjldpnnaa
