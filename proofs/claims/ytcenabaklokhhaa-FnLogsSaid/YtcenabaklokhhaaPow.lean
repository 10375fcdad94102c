/- Walks: bounded powers. -/
import Derived.Test.YtcenabaklokhhaaInt
import Derived.Test.YtcenabaklokhhaaPFok
namespace Go.Proofs.Ytcenabaklokhhaa
set_option linter.unusedSimpArgs false
set_option linter.unusedVariables false
open Go.RowKit

set_option maxHeartbeats 1000000 in
set_option maxRecDepth 100000 in
theorem powerUpTo_c (base e lim : Int) (w : World) (hb : 2 ≤ base) (hb2 : base ≤ 1073741824) (hl : 0 ≤ lim) (hl2 : lim ≤ 1073741824) (he : 0 ≤ e) (he2 : e ≤ 9223372036854775807) :
    Calls Try.prog 135 #[.int .i64 base, .int .i64 e, .int .i64 lim] w fun r w' => r = .returned (.int .i64 (pu base lim e.toNat 1)) ∧ w = w' := by
  go_enter Try.func135, Try.ntmps135
  go_wp2_with fail
  go_loopw [1, 7] (fun ee pp wr => ∃ (k : Nat) (p : Int), ee = .int .i64 k ∧ (k : Int) ≤ e ∧ pp = .int .i64 p ∧ 1 ≤ p ∧ p ≤ 1152921504606846976 ∧ Hid (pu base lim e.toNat 1 = pu base lim k p) ∧ wr = w) (fun ee _ _ => (intOf ee).toNat)
  case atStart => exact ⟨e.toNat, 1, by congr 1; omega, by omega, rfl, by omega, by omega, rfl, rfl⟩
  case round =>
    obtain ⟨k, p, rfl, hk, rfl, hp, hp2, hI, rfl⟩ := hrel
    by_cases h1 : 0 < k
    · by_cases h2 : p ≤ lim
      · have hm1 : p * base ≤ 1073741824 * 1073741824 := Int.mul_le_mul (by omega) hb2 (by omega) (by omega)
        have hm0 : 1 ≤ p * base := by have := Int.mul_le_mul hp (show (1 : Int) ≤ base by omega) (by omega) (by omega); omega
        go_wp2_with fail
        go_roundw
        case rel =>
          refine ⟨k - 1, p * base, by congr 1; omega, by omega, rfl, hm0, by omega, ?_, by first | rfl | trivial⟩
          unfold Hid
          rw [hI.out, show k = (k - 1) + 1 by omega]
          simp only [pu, if_pos h2]
          rfl
        case measure => simp [intOf]; omega
      · go_wp2_with fail
        go_ret
        exact ⟨ret_i64 (by rw [hI.out, pu_big (by omega)]), rfl⟩
    · go_wp2_with fail
      go_ret
      obtain rfl : k = 0 := by omega
      exact ⟨ret_i64 (by rw [hI.out]; rfl), rfl⟩

end Go.Proofs.Ytcenabaklokhhaa
