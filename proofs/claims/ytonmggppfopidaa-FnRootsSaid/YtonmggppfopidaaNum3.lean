/- Walks: powers, inverses, orders. -/
import Derived.Test.YtonmggppfopidaaNum2
import Derived.Test.YtonmggppfopidaaPRes
import Derived.Test.YtonmggppfopidaaSrc
namespace Go.Proofs.Ytonmggppfopidaa
set_option linter.unusedSimpArgs false
set_option linter.unusedVariables false
open Go.RowKit

theorem mul_bd {a b : Int} (h0 : 0 ≤ a) (h1 : a ≤ 1000) (h2 : 0 ≤ b) (h3 : b ≤ 1000) : 0 ≤ a * b ∧ a * b ≤ 1000000 :=
  ⟨Int.mul_nonneg h0 h2, by have := Int.mul_le_mul h1 h3 h2 (by omega); omega⟩

set_option maxHeartbeats 2000000 in
set_option maxRecDepth 100000 in
theorem PowerMod_c (a e m : Int) (w : World) (hr : Res a m) (he : 0 ≤ e ∧ e ≤ 1000000) :
    Calls Try.prog 28 #[.int .i64 a, .int .i64 e, .int .i64 m] w (Gives2I w (pw a e m) 0) := by
  obtain ⟨r1, r2, r3, r4⟩ := id hr
  have fm : (m == 0) = false := eq_f (by omega)
  have o0 := Int.emod_nonneg 1 (show m ≠ 0 by omega)
  have o1 := Int.emod_lt_of_pos 1 (show 0 < m by omega)
  go_enter Try.func28, Try.ntmps28
  go_wp2_with fail
  refine (res_yes hr _).mono ?_
  rintro e1 w1 ⟨rfl, rfl⟩
  go_wp2_with fail
  refine (within_yes he _).mono ?_
  rintro e1 w1 ⟨rfl, rfl⟩
  go_wp2_with fail
  go_loop [0, 1, 8] (fun x y z => ∃ b f p : Int, x = .int .i64 b ∧ y = .int .i64 f ∧ z = .int .i64 p ∧ 0 ≤ b ∧ b < m ∧ 0 ≤ f ∧ f ≤ 1000000 ∧ 0 ≤ p ∧ p < m ∧ Hid (p * b ^ f.toNat % m = pw a e m)) (fun _ y _ => (intOf y).toNat)
  case atStart => exact ⟨a, e, 1 % m, rfl, rfl, rfl, r3, r4, he.1, he.2, o0, o1, by unfold Hid pw; rw [Int.mul_emod, Int.emod_emod, ← Int.mul_emod, Int.one_mul]⟩
  case round =>
    obtain ⟨b, f, p, rfl, rfl, rfl, hb0, hb1, hf0, hf1, hp0, hp1, hI⟩ := hrel
    by_cases hf : 0 < f
    · have hh := Lib.hid (pw_half (p := p) (a := b) (m := m) hf)
      obtain ⟨p1, p2⟩ := mul_bd hp0 (by omega) hb0 (by omega)
      obtain ⟨b1, b2⟩ := mul_bd hb0 (by omega) hb0 (by omega)
      have c0 := Int.emod_nonneg (b * b) (show m ≠ 0 by omega)
      have c1 := Int.emod_lt_of_pos (b * b) (show 0 < m by omega)
      have d0 := Int.emod_nonneg (p * b) (show m ≠ 0 by omega)
      have d1 := Int.emod_lt_of_pos (p * b) (show 0 < m by omega)
      by_cases hodd : f % 2 = 1
      · have fo := eq_t hodd
        have Ho := Lib.hid hodd; clear hodd
        go_wp2_with fail
        go_round
        case rel => exact ⟨b * b % m, f / 2, p * b % m, rfl, rfl, rfl, c0, c1, by omega, by omega, d0, d1, by have := hh.out; rw [if_pos Ho.out] at this; unfold Hid; rw [this]; exact hI.out⟩
        case measure => simp [intOf]; omega
      · have fo := eq_f hodd
        have Ho := Lib.hid hodd; clear hodd
        go_wp2_with fail
        go_round
        case rel => exact ⟨b * b % m, f / 2, p, rfl, rfl, rfl, c0, c1, by omega, by omega, hp0, hp1, by have := hh.out; rw [if_neg Ho.out] at this; unfold Hid; rw [this]; exact hI.out⟩
        case measure => simp [intOf]; omega
    · go_wp2_with fail
      go_ret2
      refine ⟨ret_2i ?_ rfl, St.refl w⟩
      have := hI.out
      rw [show f.toNat = 0 by omega] at this
      simp only [Int.pow_zero, Int.mul_one] at this
      rw [← this, Int.emod_eq_of_lt hp0 hp1]

theorem PowerMod_no (a e m : Int) (w : World) (hr : ¬ Res a m) :
    Calls Try.prog 28 #[.int .i64 a, .int .i64 e, .int .i64 m] w (Gives2I w 0 2) := by
  go_enter Try.func28, Try.ntmps28
  go_wp2_with fail
  refine (res_no hr _).mono ?_
  rintro e1 w1 ⟨rfl, rfl⟩
  go_wp2_with fail
  go_ret2
  exact ⟨rfl, St.refl w⟩

def InvPost (w : World) (a m : Int) (e : Ending) (w' : World) : Prop :=
  St w.heap.size w w' [] ∧
  ((∃ x : Int, e = .returned (.tuple #[.int .i64 x, .int .i64 0]) ∧ 0 ≤ x ∧ x < m ∧ a * x % m = 1 % m) ∨
   (e = .returned (.tuple #[.int .i64 0, .int .i64 3]) ∧ ∀ x : Int, 0 ≤ x → x < m → a * x % m ≠ 1 % m))

theorem InverseMod_no (a m : Int) (w : World) (hr : ¬ Res a m) :
    Calls Try.prog 25 #[.int .i64 a, .int .i64 m] w (Gives2I w 0 2) := by
  go_enter Try.func25, Try.ntmps25
  go_wp2_with fail
  refine (res_no hr _).mono ?_
  rintro e1 w1 ⟨rfl, rfl⟩
  go_wp2_with fail
  go_ret2
  exact ⟨rfl, St.refl w⟩

set_option maxHeartbeats 2000000 in
set_option maxRecDepth 100000 in
theorem InverseMod_c (a m : Int) (w : World) (hr : Res a m) :
    Calls Try.prog 25 #[.int .i64 a, .int .i64 m] w (InvPost w a m) := by
  obtain ⟨r1, r2, r3, r4⟩ := id hr
  have fm : (m == 0) = false := eq_f (by omega)
  go_enter Try.func25, Try.ntmps25
  go_wp2_with fail
  refine (res_yes hr _).mono ?_
  rintro e1 w1 ⟨rfl, rfl⟩
  go_wp2_with fail
  go_loopw [6] (fun x wr => ∃ k : Int, x = .int .i64 k ∧ 0 ≤ k ∧ k ≤ m ∧ Hid (∀ y : Int, 0 ≤ y → y < k → a * y % m ≠ 1 % m) ∧ St w.heap.size w wr []) (fun x _ => (1001 - intOf x).toNat)
  case atStart => exact ⟨0, rfl, by omega, by omega, fun y _ _ => by omega, St.refl w⟩
  case round =>
    obtain ⟨k, rfl, hk0, hk1, hI, hS⟩ := hrel
    by_cases hlt : k < m
    · obtain ⟨p1, p2⟩ := mul_bd r3 (by omega) hk0 (by omega)
      by_cases hx : a * k % m = 1 % m
      · have fx := eq_t hx
        have Hx := Lib.hid hx; clear hx
        go_wp2_with fail
        have hne : Nonempty (SS _ _ _) := ⟨⟨_, hS⟩⟩
        refine wp_region_st (by kernel_rfl) (by kernel_rfl) hS ?_
        repeat (go_big_quiet_step (fail))
        refine wpQuiet_nil ?_
        rintro _ ⟨s2, rfl⟩
        have hS2 := s2.st
        generalize s2.w = w2 at hS2 ⊢
        go_wp2_with fail
        go_ret2
        exact ⟨hS2, .inl ⟨k, rfl, hk0, hlt, Hx.out⟩⟩
      · have fx := eq_f hx
        have Hx := Lib.hid hx; clear hx
        go_wp2_with fail
        have hne : Nonempty (SS _ _ _) := ⟨⟨_, hS⟩⟩
        refine wp_region_st (by kernel_rfl) (by kernel_rfl) hS ?_
        repeat (go_big_quiet_step (fail))
        refine wpQuiet_nil ?_
        rintro _ ⟨s2, rfl⟩
        have hS2 := s2.st
        generalize s2.w = w2 at hS2 ⊢
        go_wp2_with fail
        go_roundw
        case rel => exact ⟨k + 1, rfl, by omega, by omega, fun y y0 y1 => by
          by_cases e : y = k
          · subst e; exact Hx.out
          · exact hI.out y y0 (by omega), hS2⟩
        case measure => simp [intOf]; omega
    · go_wp2_with fail
      go_ret2
      exact ⟨hS, .inr ⟨rfl, fun y y0 y1 => hI.out y y0 (by omega)⟩⟩

def OrdPost (w : World) (a m : Int) (e : Ending) (w' : World) : Prop :=
  St w.heap.size w w' [] ∧
  ((∃ x : Int, e = .returned (.tuple #[.int .i64 x, .int .i64 0]) ∧ 1 ≤ x ∧ x ≤ m ∧ pw a x m = 1 % m ∧ ∀ y : Int, 1 ≤ y → y < x → pw a y m ≠ 1 % m) ∨
   (e = .returned (.tuple #[.int .i64 0, .int .i64 3]) ∧ ∀ x : Int, 1 ≤ x → x ≤ m → pw a x m ≠ 1 % m))

theorem OrderMod_no (a m : Int) (w : World) (hr : ¬ Res a m) :
    Calls Try.prog 26 #[.int .i64 a, .int .i64 m] w (Gives2I w 0 2) := by
  go_enter Try.func26, Try.ntmps26
  go_wp2_with fail
  refine (res_no hr _).mono ?_
  rintro e1 w1 ⟨rfl, rfl⟩
  go_wp2_with fail
  go_ret2
  exact ⟨rfl, St.refl w⟩

set_option maxHeartbeats 2000000 in
set_option maxRecDepth 100000 in
theorem OrderMod_c (a m : Int) (w : World) (hr : Res a m) :
    Calls Try.prog 26 #[.int .i64 a, .int .i64 m] w (OrdPost w a m) := by
  obtain ⟨r1, r2, r3, r4⟩ := id hr
  have fm : (m == 0) = false := eq_f (by omega)
  go_enter Try.func26, Try.ntmps26
  go_wp2_with fail
  refine (res_yes hr _).mono ?_
  rintro e1 w1 ⟨rfl, rfl⟩
  go_wp2_with fail
  go_loop [6, 7] (fun p x => ∃ k q : Int, x = .int .i64 k ∧ p = .int .i64 q ∧ 1 ≤ k ∧ k ≤ m + 1 ∧ 0 ≤ q ∧ q < m ∧ Hid (q = pw a (k - 1) m) ∧ Hid (∀ y : Int, 1 ≤ y → y < k → pw a y m ≠ 1 % m)) (fun _ x => (1002 - intOf x).toNat)
  case atStart => exact ⟨1, 1 % m, rfl, rfl, by omega, by omega, Int.emod_nonneg _ (by omega), Int.emod_lt_of_pos _ (by omega), by rw [Hid]; exact (pw_zero a m).symm, fun y _ _ => by omega⟩
  case round =>
    obtain ⟨k, q, rfl, rfl, hk0, hk1, hq0, hq1, hQ, hI⟩ := hrel
    by_cases hlt : k ≤ m
    · obtain ⟨p1, p2⟩ := mul_bd hq0 (by omega) r3 (by omega)
      have hs : q * a % m = pw a k m := by rw [hQ.out, pw_succ (by omega)]; congr 1; omega
      obtain ⟨t0, t1⟩ := pw_bd (a := a) (e := k) r1
      by_cases hx : pw a k m = 1 % m
      · have fx := eq_t hx
        have Hx := Lib.hid hx; clear hx
        go_wp2_with fail
        go_ret2
        exact ⟨St.refl w, .inl ⟨k, rfl, hk0, hlt, Hx.out, hI.out⟩⟩
      · have fx := eq_f hx
        have Hx := Lib.hid hx; clear hx
        go_wp2_with fail
        go_round
        case rel => exact ⟨k + 1, pw a k m, rfl, by rw [hs], by omega, by omega, t0, t1, by rw [Hid]; congr 1; omega, fun y y0 y1 => by
          by_cases e : y = k
          · subst e; exact Hx.out
          · exact hI.out y y0 (by omega)⟩
        case measure => simp [intOf]; omega
    · go_wp2_with fail
      go_ret2
      exact ⟨St.refl w, .inr ⟨rfl, fun y y0 y1 => hI.out y y0 (by omega)⟩⟩

set_option maxHeartbeats 1000000 in
theorem b10At_c (w : World) (cv : Value) (bs : List UInt8) (i n : Int) (hb : RdB w cv bs) (hi : 0 ≤ i ∧ i ≤ 1000000) :
    Calls Try.prog 27 #[cv, .int .i64 i, .int .i64 n] w fun e w' => AnInt 0 (max (n - 1) 0) (fun w' => w = w') e w' := by
  obtain ⟨i0, i1⟩ := hi
  have hln := hb.len
  have hix := hb.ix
  have hc := hb.cell
  have hle := hb.le
  by_cases h1 : n ≤ 1
  · go_enter Try.func27, Try.ntmps27
    go_wp2_with fail
    go_ret
    exact ⟨0, by omega, by omega, rfl, rfl⟩
  · have fn : (n == 0) = false := eq_f (by omega)
    by_cases h2 : i < bs.length
    · have hbd := bnth_bd bs i.toNat
      obtain ⟨b0, b1⟩ := hbd
      go_enter Try.func27, Try.ntmps27
      go_wp2_with fail
      go_ret
      have := Int.emod_nonneg (bnth bs i.toNat) (show n ≠ 0 by omega)
      have := Int.emod_lt_of_pos (bnth bs i.toNat) (show 0 < n by omega)
      exact ⟨_, by omega, by omega, rfl, rfl⟩
    · go_enter Try.func27, Try.ntmps27
      go_wp2_with fail
      go_ret
      have := Int.emod_nonneg (i * 37 + 11) (show n ≠ 0 by omega)
      have := Int.emod_lt_of_pos (i * 37 + 11) (show 0 < n by omega)
      exact ⟨_, by omega, by omega, rfl, rfl⟩
end Go.Proofs.Ytonmggppfopidaa
