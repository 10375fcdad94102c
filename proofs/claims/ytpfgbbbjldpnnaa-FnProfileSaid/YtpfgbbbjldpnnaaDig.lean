/- Walks: digits of numbers, bounded powers. Walks: bounded powers. -/
import Derived.Test.YtpfgbbbjldpnnaaReg
import Derived.Test.YtpfgbbbjldpnnaaInt
import Derived.Test.YtpfgbbbjldpnnaaPFok
namespace Go.Proofs.Ytpfgbbbjldpnnaa
set_option linter.unusedSimpArgs false
set_option linter.unusedVariables false
open Go.RowKit


def dv (base : Int) : Nat → Int → Int
  | 0, n => n
  | j + 1, n => dv base j n / base
/-- the digits of a number, the lowest one first -/
def lows (base : Int) (m : Nat) (n : Int) : List Int := (List.range m).map fun (j : Nat) => dv base j n % base
def digs (base : Int) (m : Nat) (n : Int) : List Int := (lows base m n).reverse
theorem lows_len (base : Int) (m : Nat) (n : Int) : (lows base m n).length = m := by simp [lows]
theorem digs_len (base : Int) (m : Nat) (n : Int) : (digs base m n).length = m := by simp [digs, lows_len]
theorem dv_le {base n : Int} (hb : 2 ≤ base) (hn : 0 ≤ n) : ∀ j, 0 ≤ dv base j n ∧ dv base j n ≤ n
  | 0 => ⟨hn, Int.le_refl _⟩
  | j + 1 => by
    have := dv_le hb hn j
    have h1 : 0 ≤ dv base j n / base := Int.ediv_nonneg this.1 (by omega)
    have h2 : dv base j n / base ≤ dv base j n := Int.ediv_le_self _ this.1
    exact ⟨h1, by simp only [dv]; omega⟩

set_option maxHeartbeats 1000000 in
set_option maxRecDepth 100000 in
theorem digitsOf_c (n base : Int) (m : Nat) (w : World) (hn : 0 ≤ n) (hn2 : n ≤ 4611686018427387904) (hb : 2 ≤ base) (hb2 : base ≤ 1073741824) (hm : m ≤ 4096) :
    Calls Try.prog 140 #[.int .i64 n, .int .i64 base, .int .i64 m] w (MakesI w (lows base m n)) := by
  go_enter Try.func140, Try.ntmps140
  go_wp2_with (at_make; refine mkI (St.refl w) rfl _ _ rfl _ _ m rfl rfl (by omega) ?_; intro v1 w1 hS1; have hi1 := (hS1.rdI 0 (xs := List.replicate m 0) rfl).ix; have hl1 := (hS1.rdI 0 (xs := List.replicate m 0) rfl).len; simp only [List.length_replicate] at hi1 hl1)
  go_loopw [0, 13] (fun nn i wr => ∃ k : Nat, k ≤ m ∧ i = .int .i64 k ∧ nn = .int .i64 (dv base k n) ∧ St w.heap.size w wr [row 2 v1 (iv ((lows base m n).take k ++ List.replicate (m - k) 0))]) (fun _ i _ => m - (intOf i).toNat)
  case atStart => exact ⟨0, by omega, rfl, rfl, hS1⟩
  case round =>
    obtain ⟨k, hk, rfl, rfl, hS⟩ := hrel
    by_cases hlt : k < m
    · have hd := dv_le hb hn k
      have hd2 := dv_le hb hn (k + 1)
      obtain ⟨q, hq⟩ : ∃ q, q = dv base k n := ⟨_, rfl⟩
      have hq2 : dv base (k + 1) n = q / base := by rw [hq]; rfl
      have Hq := Lib.hid hq2
      rw [← hq] at hd ⊢
      rw [hq2] at hd2
      have Hqq := Lib.hid hq
      clear hq hq2
      have hmod := Int.emod_nonneg q (show base ≠ 0 by omega)
      have hmod2 := Int.emod_lt_of_pos q (show 0 < base by omega)
      go_wp2_with (refine stoI hS 0 rfl k (by simp [lows_len]; omega) rfl (.tmp 21) (.tmp 20) rfl rfl _ rfl ?_; intro w2 hS2)
      go_roundw
      case rel =>
        refine ⟨k + 1, by omega, by go_num, by rw [Hq.out], ?_⟩
        have e : ((lows base m n).take k ++ List.replicate (m - k) 0).set k (q % base) = (lows base m n).take (k + 1) ++ List.replicate (m - (k + 1)) 0 := by
          rw [List.set_append_right _ _ (by simp [lows_len]; omega), take_nth (by rw [lows_len]; exact hlt), show m - k = (m - (k + 1)) + 1 by omega, List.replicate_succ]
          have : nth (lows base m n) k = q % base := by simp [nth, lows, hlt, Hqq.out]
          rw [this]
          simp [lows_len, Nat.min_eq_left (Nat.le_of_lt hlt)]
        rw [← e]; exact hS2
      case measure => simp [intOf]; omega
    · go_wp2_with fail
      go_ret
      have ek : k = m := by omega
      subst ek
      refine ⟨_, rfl, ?_⟩
      have e : (lows base k n).take k ++ List.replicate (k - k) 0 = lows base k n := by rw [List.take_of_length_le (by rw [lows_len]; omega)]; simp
      rw [e] at hS; exact hS

set_option maxHeartbeats 1000000 in
set_option maxRecDepth 100000 in
theorem powerUpTo_c (base e lim : Int) (w : World) (hb : 2 ≤ base) (hb2 : base ≤ 1073741824) (hl : 0 ≤ lim) (hl2 : lim ≤ 1073741824) (he : 0 ≤ e) (he2 : e ≤ 9223372036854775807) :
    Calls Try.prog 163 #[.int .i64 base, .int .i64 e, .int .i64 lim] w fun r w' => r = .returned (.int .i64 (pu base lim e.toNat 1)) ∧ w = w' := by
  go_enter Try.func163, Try.ntmps163
  go_wp2_with fail
  go_loopw [1, 7] (fun ee pp wr => ∃ (k : Nat) (p : Int), ee = .int .i64 k ∧ (k : Int) ≤ e ∧ pp = .int .i64 p ∧ 1 ≤ p ∧ p ≤ 1152921504606846976 ∧ Hid (pu base lim e.toNat 1 = pu base lim k p) ∧ wr = w) (fun ee _ _ => (intOf ee).toNat)
  case atStart => exact ⟨e.toNat, 1, by congr 1; omega, by omega, rfl, by omega, by omega, rfl, rfl⟩
  case round =>
    obtain ⟨k, p, rfl, hk, rfl, hp, hp2, hI, rfl⟩ := hrel
    by_cases h1 : 0 < k
    · by_cases h2 : p ≤ lim
      · have hm1 : p * base ≤ 1073741824 * 1073741824 := Int.mul_le_mul (by omega) hb2 (by omega) (by omega)
        have hm0 : 1 ≤ p * base := by have := Int.mul_le_mul hp (show (1 : Int) ≤ base by omega) (by omega) (by omega); omega
        go_wp2_with fail
        go_roundw
        case rel =>
          refine ⟨k - 1, p * base, by congr 1; omega, by omega, rfl, hm0, by omega, ?_, by first | rfl | trivial⟩
          unfold Hid
          rw [hI.out, show k = (k - 1) + 1 by omega]
          simp only [pu, if_pos h2]
          rfl
        case measure => simp [intOf]; omega
      · go_wp2_with fail
        go_ret
        exact ⟨ret_i64 (by rw [hI.out, pu_big (by omega)]), rfl⟩
    · go_wp2_with fail
      go_ret
      obtain rfl : k = 0 := by omega
      exact ⟨ret_i64 (by rw [hI.out]; rfl), rfl⟩


end Go.Proofs.Ytpfgbbbjldpnnaa
