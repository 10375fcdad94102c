/- The law FnChinese, walked. -/
import Derived.Test.YtonmggppfopidaaDrw2
namespace Go.Proofs.Ytonmggppfopidaa
open Go.RowKit

set_option maxHeartbeats 4000000 in
set_option maxRecDepth 100000 in
theorem FnChinese_law (w : World) (cv : Value) (bs : List UInt8) (hb : RdB w cv bs) :
    Calls Try.prog 4 #[cv] w (GivesB w true) := by
  by_cases hlong : 1048576 < bs.length
  · have hl' : decide (1048576 < bs.length) = true := by simpa using hlong
    go_enter Try.func4, Try.ntmps4
    go_wp2_with fail
    refine (b10Long_c w cv bs hb).mono ?_
    rintro e w1 ⟨rfl, rfl⟩
    go_wp2_with fail
    go_ret
    exact ⟨rfl, St.refl _⟩
  · have hl' : decide (1048576 < bs.length) = false := by simpa using hlong
    go_enter Try.func4, Try.ntmps4
    go_wp2_with fail
    refine (b10Long_c w cv bs hb).mono ?_
    rintro e w1 ⟨rfl, rfl⟩
    go_wp2_with fail
    refine (DrawSolveChinese_c w cv bs hb).mono ?_
    rintro e w1 ⟨a, m, b, n, rfl, h1⟩
    go_wp2_with fail
    by_cases hres : Res a m ∧ Res b n
    · obtain ⟨hr1, hr2⟩ := hres
      have g1 := gcdI_pos (n := n) hr1.1
      have hlcm := lcm_eq (n := n) hr1.1
      refine (SolveChinese_c a m b n w1 hr1 hr2).mono ?_
      rintro e w2 ⟨h2, hpost⟩
      have hS := h1.call0 h2
      clear h1 h2
      obtain ⟨r1, r2, r3, r4⟩ := id hr1
      obtain ⟨s1, s2, s3, s4⟩ := id hr2
      have f0 : (gcdI m n == 0) = false := eq_f (by omega)
      have hmn : 0 ≤ m * n ∧ m * n ≤ 1000000 := ⟨Int.mul_nonneg (by omega) (by omega), by have := Int.mul_le_mul r2 s2 (by omega) (by omega); omega⟩
      obtain ⟨q1, q2⟩ := hmn
      by_cases hd : gcdI m n ∣ (a - b)
      · obtain ⟨x, k, rfl, k0, hx, hxl, hxn⟩ : ∃ x k : Int, e = .returned (.tuple #[.int .i64 x, .int .i64 (m / gcdI m n * n), .int .i64 0]) ∧ 0 ≤ k ∧ x = a + k * m ∧ x < m / gcdI m n * n ∧ x % n = b := by
          rcases hpost with h | ⟨_, h⟩
          · exact h
          · obtain ⟨k, k0, k1, k2⟩ := crt_ex r1 s1 r3 r4 s3 s4 hd
            exact absurd k2 (h k k0 k1)
        have hx0 : 0 ≤ x := by have := Int.mul_nonneg k0 (show 0 ≤ m by omega); omega
        have hxm : (x % m == a) = true := eq_t (by rw [hx, Int.add_mul_emod_self_right]; exact Int.emod_eq_of_lt r3 r4)
        have hxn' : (x % n == b) = true := eq_t hxn
        have hA := Lib.hid hlcm.1
        have ht : ((a - b).tmod (gcdI m n) != 0) = false := ne_f (tmod_zero.2 hd)
        clear hlcm hpost hx hxn
        generalize m / gcdI m n * n = A at *
        have hAg : (A * gcdI m n == m * n) = true := eq_t hA.out
        have hAg1 : 0 ≤ A * gcdI m n := by rw [hA.out]; exact q1
        have hAg2 : A * gcdI m n ≤ 1000000 := by rw [hA.out]; exact q2
        go_wp2_with fail
        refine (Gcd_c _ _ _ (by omega) (by omega) (by omega) (by omega)).mono ?_
        rintro e w3 ⟨rfl, h3⟩
        have hS3 := hS.call0 h3
        have fm : (m == 0) = false := eq_f (by omega)
        have fn : (n == 0) = false := eq_f (by omega)
        go_wp2_with fail
        go_ret
        exact ⟨rfl, hS3⟩
      · obtain rfl : e = .returned (.tuple #[.int .i64 0, .int .i64 0, .int .i64 3]) := by
          rcases hpost with ⟨x, k, _, _, hx, _, hxn⟩ | ⟨h, _⟩
          · exact absurd (crt_only r1 hx hxn) hd
          · exact h
        have ht : ((a - b).tmod (gcdI m n) != 0) = true := ne_t (fun h => hd (tmod_zero.1 h))
        clear hlcm hpost hd
        go_wp2_with fail
        refine (Gcd_c _ _ _ (by omega) (by omega) (by omega) (by omega)).mono ?_
        rintro e w3 ⟨rfl, h3⟩
        have hS3 := hS.call0 h3
        go_wp2_with fail
        go_ret
        exact ⟨rfl, hS3⟩
    · refine (SolveChinese_no a m b n w1 hres).mono ?_
      rintro e w2 ⟨rfl, h2⟩
      have hS := h1.call0 h2
      clear h1 h2
      have hc : m < 1 ∨ (1 ≤ m ∧ 1000 < m) ∨ (1 ≤ m ∧ m ≤ 1000 ∧ n < 1) ∨ (1 ≤ m ∧ m ≤ 1000 ∧ 1 ≤ n ∧ 1000 < n) ∨ (1 ≤ m ∧ m ≤ 1000 ∧ 1 ≤ n ∧ n ≤ 1000 ∧ a < 0) ∨
          (1 ≤ m ∧ m ≤ 1000 ∧ 1 ≤ n ∧ n ≤ 1000 ∧ 0 ≤ a ∧ m ≤ a) ∨ (1 ≤ m ∧ m ≤ 1000 ∧ 1 ≤ n ∧ n ≤ 1000 ∧ 0 ≤ a ∧ a < m ∧ b < 0) ∨ (1 ≤ m ∧ m ≤ 1000 ∧ 1 ≤ n ∧ n ≤ 1000 ∧ 0 ≤ a ∧ a < m ∧ 0 ≤ b ∧ n ≤ b) := by
        unfold Res at hres; omega
      clear hres
      rcases hc with c1 | ⟨c1, c2⟩ | ⟨c1, c2, c3⟩ | ⟨c1, c2, c3, c4⟩ | ⟨c1, c2, c3, c4, c5⟩ | ⟨c1, c2, c3, c4, c5, c6⟩ | ⟨c1, c2, c3, c4, c5, c6, c7⟩ | ⟨c1, c2, c3, c4, c5, c6, c7, c8⟩
      all_goals
        go_wp2_with fail
        go_ret
        exact ⟨rfl, hS⟩
end Go.Proofs.Ytonmggppfopidaa
