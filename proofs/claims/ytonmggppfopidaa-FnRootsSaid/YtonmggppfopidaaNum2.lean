/- Walks: residues. -/
import Derived.Test.YtonmggppfopidaaNum
import Derived.Test.YtonmggppfopidaaPCrt
namespace Go.Proofs.Ytonmggppfopidaa
set_option linter.unusedSimpArgs false
set_option linter.unusedVariables false
open Go.RowKit

theorem isModulus_c (m : Int) (w : World) : Calls Try.prog 85 #[.int .i64 m] w fun e w' => e = .returned (.bool (inB m 1 1000)) ∧ w = w' := by
  go_enter Try.func85, Try.ntmps85
  go_wp2_with fail
  refine (within_c _ _ _ _).mono ?_
  rintro e w1 ⟨rfl, rfl⟩
  go_wp2_with fail
  go_ret
  exact ⟨rfl, rfl⟩

def resB (a m : Int) : Bool := inB m 1 1000 && inB a 0 (m - 1)
def Res (a m : Int) : Prop := 1 ≤ m ∧ m ≤ 1000 ∧ 0 ≤ a ∧ a < m
theorem resB_true {a m : Int} (h : Res a m) : resB a m = true := by
  unfold resB; obtain ⟨h1, h2, h3, h4⟩ := h; rw [inB_true ⟨h1, h2⟩, inB_true ⟨h3, by omega⟩]; rfl
theorem resB_false {a m : Int} (h : ¬ Res a m) : resB a m = false := by
  unfold resB; unfold Res at h
  by_cases h1 : 1 ≤ m ∧ m ≤ 1000
  · rw [inB_false (n := a) (by omega)]; simp
  · rw [inB_false h1]; rfl

theorem isResidue_c (a m : Int) (w : World) : Calls Try.prog 74 #[.int .i64 a, .int .i64 m] w fun e w' => e = .returned (.bool (resB a m)) ∧ w = w' := by
  by_cases h : 1 ≤ m ∧ m ≤ 1000
  · have hi := inB_true h
    obtain ⟨h1, h2⟩ := h
    go_enter Try.func74, Try.ntmps74
    go_wp2_with fail
    refine (isModulus_c _ _).mono ?_
    rintro e w1 ⟨rfl, rfl⟩
    go_wp2_with fail
    refine (within_c _ _ _ _).mono ?_
    rintro e w1 ⟨rfl, rfl⟩
    go_wp2_with fail
    go_ret
    exact ⟨ret_bool (by simp [resB, hi]), rfl⟩
  · have hi := inB_false h
    go_enter Try.func74, Try.ntmps74
    go_wp2_with fail
    refine (isModulus_c _ _).mono ?_
    rintro e w1 ⟨rfl, rfl⟩
    go_wp2_with fail
    go_ret
    exact ⟨ret_bool (by simp [resB, hi]), rfl⟩
theorem res_yes {a m : Int} (h : Res a m) (w : World) : Calls Try.prog 74 #[.int .i64 a, .int .i64 m] w fun e w' => e = .returned (.bool true) ∧ w = w' :=
  (isResidue_c a m w).mono fun _ _ ⟨h1, h2⟩ => ⟨by rw [h1, resB_true h], h2⟩
theorem res_no {a m : Int} (h : ¬ Res a m) (w : World) : Calls Try.prog 74 #[.int .i64 a, .int .i64 m] w fun e w' => e = .returned (.bool false) ∧ w = w' :=
  (isResidue_c a m w).mono fun _ _ ⟨h1, h2⟩ => ⟨by rw [h1, resB_false h], h2⟩

theorem abs_c (n : Int) (w : World) (h : -1000000 ≤ n ∧ n ≤ 1000000) : Calls Try.prog 76 #[.int .i64 n] w fun e w' => e = .returned (.int .i64 (if n < 0 then -n else n)) ∧ w = w' := by
  obtain ⟨h1, h2⟩ := h
  by_cases hn : n < 0
  · go_enter Try.func76, Try.ntmps76
    go_wp2_with fail
    go_ret
    exact ⟨ret_i64 (by simp [hn]), rfl⟩
  · go_enter Try.func76, Try.ntmps76
    go_wp2_with fail
    go_ret
    exact ⟨ret_i64 (by simp [hn]), rfl⟩

set_option maxHeartbeats 1000000 in
set_option maxRecDepth 100000 in
theorem gcd_c (a b : Int) (w : World) (ha : 0 ≤ a) (ha' : a ≤ 1000000) (hb : 0 ≤ b) (hb' : b ≤ 1000000) : Calls Try.prog 75 #[.int .i64 a, .int .i64 b] w (GivesI w (gcdI a b)) := by
  go_enter Try.func75, Try.ntmps75
  go_wp2_with fail
  go_loopw [0, 1] (fun x y wr => ∃ p q : Int, x = .int .i64 p ∧ y = .int .i64 q ∧ 0 ≤ p ∧ p ≤ 1000000 ∧ 0 ≤ q ∧ q ≤ 1000000 ∧ Hid (gcdI a b = gcdI p q) ∧ St w.heap.size w wr []) (fun _ y _ => (intOf y).toNat)
  case atStart => exact ⟨a, b, rfl, rfl, ha, ha', hb, hb', rfl, St.refl w⟩
  case round =>
    obtain ⟨p, q, rfl, rfl, hp, hp', hq, hq', hg, hS⟩ := hrel
    by_cases hq0 : q = 0
    · have f0 := ne_f hq0
      have Hq := Lib.hid hq0; clear hq0
      go_wp2_with fail
      go_ret
      exact ⟨ret_i64 (by rw [hg.out, Hq.out, gcdI_zero hp]), hS⟩
    · have f0 := ne_t hq0
      have hq1 : 1 ≤ q := by omega
      have hm0 := Int.emod_nonneg p hq0
      have hm1 := Int.emod_lt_of_pos p (show 0 < q by omega)
      have hst := Lib.hid (gcdI_step hp hq)
      have f1 : (q == 0) = false := eq_f hq0
      clear hq0
      go_wp2_with fail
      have hne : Nonempty (SS _ _ _) := ⟨⟨_, hS⟩⟩
      refine wp_region_st (by kernel_rfl) (by kernel_rfl) hS ?_
      repeat (go_big_quiet_step (fail))
      refine wpQuiet_nil ?_
      rintro _ ⟨s2, rfl⟩
      have hS2 := s2.st
      generalize s2.w = w2 at hS2 ⊢
      go_wp2_with fail
      go_roundw
      case rel => exact ⟨q, p % q, rfl, rfl, hq, hq', hm0, by omega, by rw [Hid, hg.out, hst.out], hS2⟩
      case measure => simp [intOf]; omega

theorem Gcd_c (a b : Int) (w : World) (ha : 0 ≤ a) (ha' : a ≤ 1000000) (hb : 0 ≤ b) (hb' : b ≤ 1000000) : Calls Try.prog 23 #[.int .i64 a, .int .i64 b] w (GivesI w (gcdI a b)) := by
  have e1 : (if a < 0 then -a else a) = a := by rw [if_neg (by omega)]
  have e2 : (if b < 0 then -b else b) = b := by rw [if_neg (by omega)]
  go_enter Try.func23, Try.ntmps23
  go_wp2_with fail
  refine (within_yes (by omega) _).mono ?_
  rintro e w1 ⟨rfl, rfl⟩
  go_wp2_with fail
  refine (within_yes (by omega) _).mono ?_
  rintro e w1 ⟨rfl, rfl⟩
  go_wp2_with fail
  refine (abs_c _ _ (by omega)).mono ?_
  rw [e1]
  rintro e w1 ⟨rfl, rfl⟩
  go_wp2_with fail
  refine (abs_c _ _ (by omega)).mono ?_
  rw [e2]
  rintro e w1 ⟨rfl, rfl⟩
  go_wp2_with fail
  refine (gcd_c _ _ _ ha ha' hb hb').mono ?_
  rintro e w1 ⟨rfl, hS⟩
  go_wp2_with fail
  go_ret
  exact ⟨rfl, hS⟩

/-- what SolveChinese answers for residues -/
def ChinPost (w : World) (a m b n : Int) (e : Ending) (w' : World) : Prop :=
  St w.heap.size w w' [] ∧
  ((∃ x k : Int, e = .returned (.tuple #[.int .i64 x, .int .i64 (m / gcdI m n * n), .int .i64 0]) ∧ 0 ≤ k ∧ x = a + k * m ∧ x < m / gcdI m n * n ∧ x % n = b) ∨
   (e = .returned (.tuple #[.int .i64 0, .int .i64 0, .int .i64 3]) ∧ ∀ k : Int, 0 ≤ k → a + k * m < m / gcdI m n * n → (a + k * m) % n ≠ b))

theorem SolveChinese_no (a m b n : Int) (w : World) (h : ¬ (Res a m ∧ Res b n)) :
    Calls Try.prog 22 #[.int .i64 a, .int .i64 m, .int .i64 b, .int .i64 n] w fun e w' => e = .returned (.tuple #[.int .i64 0, .int .i64 0, .int .i64 2]) ∧ St w.heap.size w w' [] := by
  by_cases h1 : Res a m
  · go_enter Try.func22, Try.ntmps22
    go_wp2_with fail
    refine (res_yes h1 _).mono ?_
    rintro e w1 ⟨rfl, rfl⟩
    go_wp2_with fail
    refine (res_no (fun h2 => h ⟨h1, h2⟩) _).mono ?_
    rintro e w1 ⟨rfl, rfl⟩
    go_wp2_with fail
    go_ret3
    exact ⟨rfl, St.refl w⟩
  · go_enter Try.func22, Try.ntmps22
    go_wp2_with fail
    refine (res_no h1 _).mono ?_
    rintro e w1 ⟨rfl, rfl⟩
    go_wp2_with fail
    go_ret3
    exact ⟨rfl, St.refl w⟩

set_option maxHeartbeats 1000000 in
set_option maxRecDepth 100000 in
theorem SolveChinese_c (a m b n : Int) (w : World) (h1 : Res a m) (h2 : Res b n) :
    Calls Try.prog 22 #[.int .i64 a, .int .i64 m, .int .i64 b, .int .i64 n] w (ChinPost w a m b n) := by
  have g1 := gcdI_pos (n := n) h1.1
  have hdiv : 0 ≤ m / gcdI m n ∧ m / gcdI m n ≤ 1000 := ⟨Int.ediv_nonneg (by have := h1.1; omega) (by omega), by have := Int.ediv_le_self (a := m) (gcdI m n) (by have := h1.1; omega); have := h1.2.1; omega⟩
  have hmul : 0 ≤ m / gcdI m n * n ∧ m / gcdI m n * n ≤ 1000000 := ⟨Int.mul_nonneg hdiv.1 (by have := h2.1; omega), by have := Int.mul_le_mul hdiv.2 h2.2.1 (by have := h2.1; omega) (by omega); omega⟩
  obtain ⟨d1, d2⟩ := hdiv
  obtain ⟨u1, u2⟩ := hmul
  obtain ⟨r1, r2, r3, r4⟩ := id h1
  obtain ⟨s1, s2, s3, s4⟩ := id h2
  have f0 : (gcdI m n == 0) = false := eq_f (by omega)
  go_enter Try.func22, Try.ntmps22
  go_wp2_with fail
  refine (res_yes h1 _).mono ?_
  rintro e w1 ⟨rfl, rfl⟩
  go_wp2_with fail
  refine (res_yes h2 _).mono ?_
  rintro e w1 ⟨rfl, rfl⟩
  go_wp2_with fail
  refine (gcd_c _ _ _ (by omega) (by omega) (by omega) (by omega)).mono ?_
  rintro e w1 ⟨rfl, hS⟩
  go_wp2_with fail
  have fn : (n == 0) = false := eq_f (by omega)
  have HG := Lib.hid (show m / gcdI m n * n = m / gcdI m n * n from rfl)
  go_loop [12] (fun x => ∃ k : Nat, ∃ y : Int, x = .int .i64 y ∧ Hid (y = a + k * m) ∧ 0 ≤ y ∧ y ≤ 1001000 ∧ Hid (∀ j : Int, 0 ≤ j → j < k → (a + j * m) % n ≠ b)) (fun x => (1001001 - intOf x).toNat)
  case atStart => exact ⟨0, a, rfl, by simp [Hid], r3, by omega, fun j _ _ => by omega⟩
  case round =>
    obtain ⟨k, y, rfl, hy, hy0, hy1, hI⟩ := hrel
    by_cases hlt : y < m / gcdI m n * n
    · by_cases hb : y % n = b
      · have f1 := eq_t hb
        have Hb := Lib.hid hb; clear hb
        go_wp2_with fail
        go_ret3
        exact ⟨hS, .inl ⟨y, k, rfl, by omega, hy.out, hlt, Hb.out⟩⟩
      · have f1 := eq_f hb
        have Hb := Lib.hid hb; clear hb
        go_wp2_with fail
        go_round
        case rel =>
          refine ⟨k + 1, y + m, rfl, ?_, by omega, by omega, ?_⟩
          · rw [Hid, hy.out, Int.natCast_add, Int.add_mul]; simp; omega
          · intro j j0 j1
            by_cases e : j = k
            · rw [e, ← hy.out]; exact Hb.out
            · exact hI.out j j0 (by omega)
        case measure => simp [intOf]; omega
    · go_wp2_with fail
      go_ret3
      refine ⟨hS, .inr ⟨rfl, ?_⟩⟩
      intro j j0 j1
      refine hI.out j j0 ?_
      apply Int.lt_of_not_ge
      intro hge
      have := Int.mul_le_mul_of_nonneg_right hge (show 0 ≤ m by omega)
      have := hy.out
      omega
end Go.Proofs.Ytonmggppfopidaa
