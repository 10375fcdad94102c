/- Walks: valid fields. -/
import Derived.Test.YtmkfafhgcnbcaaaFld3
import Derived.Test.YtmkfafhgcnbcaaaFx
import Derived.Test.YtmkfafhgcnbcaaaIn
namespace Go.Proofs.Ytmkfafhgcnbcaaa
set_option linter.unusedSimpArgs false
set_option linter.unusedVariables false
open Go.RowKit

theorem lfac_no {q f d : Nat} (h : q % d ≠ 0) : lfac q (f + 1) d = lfac q f (d + 1) := by rw [lfac, if_neg h]
theorem lfac_yes {q f d : Nat} (h : q % d = 0) : lfac q f d = d := by
  cases f with
  | zero => rfl
  | succ f => rw [lfac, if_pos h]

set_option maxHeartbeats 2000000 in
set_option maxRecDepth 100000 in
theorem l03Split_no (q : Int) (w : World) (h : inB q 2 64 = false) : Calls Try.prog 90 #[.int .i64 q] w fun e w' => e = .returned (.tuple #[.int .i64 0, .int .i64 0]) ∧ w = w' := by
  go_enter Try.func90, Try.ntmps90
  go_wp2_with (go_at_call 91; refine (l00In_c _ _ _ _).mono ?_; rintro e w3 ⟨rfl, rfl⟩)
  go_ret2
  exact ⟨rfl, rfl⟩
set_option maxHeartbeats 2000000 in
set_option maxRecDepth 100000 in
theorem l03Split_c (q : Nat) (w : World) (q2 : 2 ≤ q) (q64 : q ≤ 64) : Calls Try.prog 90 #[.int .i64 q] w fun e w' => e = .returned (.tuple #[.int .i64 ((spl q).1 : Nat), .int .i64 ((spl q).2 : Nat)]) ∧ w = w' := by
  have hin : inB (q : Int) 2 64 = true := inB_true ⟨by omega, by omega⟩
  go_enter Try.func90, Try.ntmps90
  go_wp2_with (go_at_call 91; refine (l00In_c _ _ _ _).mono ?_; rintro e w3 ⟨rfl, rfl⟩)
  clear hin
  go_loop [4] (fun pp => ∃ k : Nat, 2 ≤ k ∧ k ≤ q ∧ pp = .int .i64 k ∧ Hid (lfac q 64 2 = lfac q (66 - k) k)) (fun pp => q - (intOf pp).toNat)
  case atStart => exact ⟨2, by omega, by omega, rfl, rfl⟩
  case round =>
    obtain ⟨k, k2, kq, rfl, hI⟩ := hrel
    have fk : ((k : Int) == 0) = false := eq_f (by omega)
    have hmn : (q : Int) % k = ((q % k : Nat) : Int) := by simp
    by_cases h : q % k = 0
    · have f0 : ((q : Int) % k != 0) = false := ne_f (by rw [hmn, h]; rfl)
      have HL := Lib.hid (show lfac q 64 2 = k by rw [hI.out, lfac_yes h])
      have H := Lib.hid h
      clear h hmn
      go_wp2_with fail
      clear f0
      go_loop [5, 6] (fun cc nn => ∃ n c f : Nat, n ≤ f ∧ n ≤ q ∧ 1 ≤ n ∧ c + n ≤ 200 ∧ cc = .int .i64 c ∧ nn = .int .i64 n ∧ Hid (plog k 64 q 0 = plog k f n c)) (fun _ nn => (intOf nn).toNat)
      case atStart => exact ⟨q, 0, 64, by omega, by omega, by omega, by omega, rfl, rfl, rfl⟩
      case round =>
        obtain ⟨n, c, f, nf, nq, n1, c1, rfl, rfl, hJ⟩ := hrel
        obtain ⟨f, rfl⟩ : ∃ g, f = g + 1 := ⟨f - 1, by omega⟩
        have hmn : (n : Int) % k = ((n % k : Nat) : Int) := by simp
        have hdn : (n : Int) / k = ((n / k : Nat) : Int) := by simp
        by_cases hn : 1 < n
        · by_cases h : n % k = 0
          · have f0 : ((n : Int) % k != 0) = false := ne_f (by rw [hmn, h]; rfl)
            have HP := Lib.hid (show plog k (f + 1) n c = plog k f (n / k) (c + 1) by rw [plog, if_pos hn, if_pos h])
            have hd1 : n / k < n := Nat.div_lt_self (by omega) (by omega)
            have hd2 : 1 ≤ n / k := by
              apply Nat.div_pos _ (by omega)
              exact Nat.le_of_dvd (by omega) (Nat.dvd_of_mod_eq_zero h)
            have q0 : 0 ≤ (n : Int) / k := by omega
            have Hdn := Lib.hid hdn
            have q1 : (n : Int) / k ≤ 64 := by omega
            clear h hmn hdn
            go_wp2_with fail
            go_round
            case rel => exact ⟨n / k, c + 1, f, by omega, by omega, hd2, by omega, by go_num, by rw [Hdn.out], by unfold Hid; rw [hJ.out, HP.out]⟩
            case measure => rw [Hdn.out]; simp [intOf]; omega
          · have f0 : ((n : Int) % k != 0) = true := ne_t (by rw [hmn]; omega)
            have HP := Lib.hid (show plog k (f + 1) n c = none by rw [plog, if_pos hn, if_neg h])
            clear h hmn hdn
            go_wp2_with fail
            go_ret2
            exact ⟨ret_2i (by rw [spl, HL.out, hJ.out, HP.out]; rfl) (by rw [spl, HL.out, hJ.out, HP.out]; rfl), rfl⟩
        · have HP := Lib.hid (show plog k (f + 1) n c = some c by rw [plog, if_neg hn])
          clear hmn hdn
          go_wp2_with fail
          go_ret2
          exact ⟨ret_2i (by rw [spl, HL.out, hJ.out, HP.out]) (by rw [spl, HL.out, hJ.out, HP.out]), rfl⟩
    · have f0 : ((q : Int) % k != 0) = true := ne_t (by rw [hmn]; omega)
      have hlt : k < q := by
        apply Nat.lt_of_le_of_ne kq; intro e; subst e; exact h (Nat.mod_self _)
      have HL := Lib.hid (show lfac q 64 2 = lfac q (66 - (k + 1)) (k + 1) by rw [hI.out, show 66 - k = (66 - (k + 1)) + 1 by omega, lfac_no h])
      clear h hmn
      go_wp2_with fail
      go_round
      case rel => exact ⟨k + 1, by omega, by omega, by go_num, HL⟩
      case measure => simp [intOf]; omega
end Go.Proofs.Ytmkfafhgcnbcaaa
