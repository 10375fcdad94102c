/- Walks: residues. -/
import Derived.Test.YtcenabaklokhhaaNum
import Derived.Test.YtcenabaklokhhaaPCrt
namespace Go.Proofs.Ytcenabaklokhhaa
set_option linter.unusedSimpArgs false
set_option linter.unusedVariables false
open Go.RowKit
def resB (a m : Int) : Bool := inB m 1 1000 && inB a 0 (m - 1)
def Res (a m : Int) : Prop := 1 ≤ m ∧ m ≤ 1000 ∧ 0 ≤ a ∧ a < m
theorem resB_true {a m : Int} (h : Res a m) : resB a m = true := by
  unfold resB; obtain ⟨h1, h2, h3, h4⟩ := h; rw [inB_true ⟨h1, h2⟩, inB_true ⟨h3, by omega⟩]; rfl
theorem resB_false {a m : Int} (h : ¬ Res a m) : resB a m = false := by
  unfold resB; unfold Res at h
  by_cases h1 : 1 ≤ m ∧ m ≤ 1000
  · rw [inB_false (n := a) (by omega)]; simp
  · rw [inB_false h1]; rfl

theorem abs_c (n : Int) (w : World) (h : -1000000 ≤ n ∧ n ≤ 1000000) : Calls Try.prog 177 #[.int .i64 n] w fun e w' => e = .returned (.int .i64 (if n < 0 then -n else n)) ∧ w = w' := by
  obtain ⟨h1, h2⟩ := h
  by_cases hn : n < 0
  · go_enter Try.func177, Try.ntmps177
    go_wp2_with fail
    go_ret
    exact ⟨ret_i64 (by simp [hn]), rfl⟩
  · go_enter Try.func177, Try.ntmps177
    go_wp2_with fail
    go_ret
    exact ⟨ret_i64 (by simp [hn]), rfl⟩

set_option maxHeartbeats 1000000 in
set_option maxRecDepth 100000 in
theorem gcd_c (a b : Int) (w : World) (ha : 0 ≤ a) (ha' : a ≤ 1000000) (hb : 0 ≤ b) (hb' : b ≤ 1000000) : Calls Try.prog 172 #[.int .i64 a, .int .i64 b] w (GivesI w (gcdI a b)) := by
  go_enter Try.func172, Try.ntmps172
  go_wp2_with fail
  go_loopw [0, 1] (fun x y wr => ∃ p q : Int, x = .int .i64 p ∧ y = .int .i64 q ∧ 0 ≤ p ∧ p ≤ 1000000 ∧ 0 ≤ q ∧ q ≤ 1000000 ∧ Hid (gcdI a b = gcdI p q) ∧ St w.heap.size w wr []) (fun _ y _ => (intOf y).toNat)
  case atStart => exact ⟨a, b, rfl, rfl, ha, ha', hb, hb', rfl, St.refl w⟩
  case round =>
    obtain ⟨p, q, rfl, rfl, hp, hp', hq, hq', hg, hS⟩ := hrel
    by_cases hq0 : q = 0
    · have f0 := ne_f hq0
      have Hq := Lib.hid hq0; clear hq0
      go_wp2_with fail
      go_ret
      exact ⟨ret_i64 (by rw [hg.out, Hq.out, gcdI_zero hp]), hS⟩
    · have f0 := ne_t hq0
      have hq1 : 1 ≤ q := by omega
      have hm0 := Int.emod_nonneg p hq0
      have hm1 := Int.emod_lt_of_pos p (show 0 < q by omega)
      have hst := Lib.hid (gcdI_step hp hq)
      have f1 : (q == 0) = false := eq_f hq0
      clear hq0
      go_wp2_with fail
      have hne : Nonempty (SS _ _ _) := ⟨⟨_, hS⟩⟩
      refine wp_region_st (by kernel_rfl) (by kernel_rfl) hS ?_
      repeat (go_big_quiet_step (fail))
      refine wpQuiet_nil ?_
      rintro _ ⟨s2, rfl⟩
      have hS2 := s2.st
      generalize s2.w = w2 at hS2 ⊢
      go_wp2_with fail
      go_roundw
      case rel => exact ⟨q, p % q, rfl, rfl, hq, hq', hm0, by omega, by rw [Hid, hg.out, hst.out], hS2⟩
      case measure => simp [intOf]; omega

/-- what SolveChinese answers for residues -/
def ChinPost (w : World) (a m b n : Int) (e : Ending) (w' : World) : Prop :=
  St w.heap.size w w' [] ∧
  ((∃ x k : Int, e = .returned (.tuple #[.int .i64 x, .int .i64 (m / gcdI m n * n), .int .i64 0]) ∧ 0 ≤ k ∧ x = a + k * m ∧ x < m / gcdI m n * n ∧ x % n = b) ∨
   (e = .returned (.tuple #[.int .i64 0, .int .i64 0, .int .i64 3]) ∧ ∀ k : Int, 0 ≤ k → a + k * m < m / gcdI m n * n → (a + k * m) % n ≠ b))

end Go.Proofs.Ytcenabaklokhhaa
