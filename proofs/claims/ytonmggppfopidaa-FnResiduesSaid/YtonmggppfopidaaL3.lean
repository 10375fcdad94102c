/- The law FnResidues, walked. -/
import Derived.Test.YtonmggppfopidaaDrw2
import Derived.Test.YtonmggppfopidaaNum3
namespace Go.Proofs.Ytonmggppfopidaa
open Go.RowKit

set_option maxHeartbeats 4000000 in
set_option maxRecDepth 100000 in
theorem FnResidues_law (w : World) (cv : Value) (bs : List UInt8) (mv : Value) (ms : List UInt8) (hb : RdB w cv bs) (hm : RdB w mv ms) :
    Calls Try.prog 5 #[cv, mv] w (GivesB w true) := by
  by_cases hlong : 1048576 < bs.length
  · have hl' : decide (1048576 < bs.length) = true := by simpa using hlong
    go_enter Try.func5, Try.ntmps5
    go_wp2_with fail
    refine (b10Long_c w cv bs hb).mono ?_
    rintro e w1 ⟨rfl, rfl⟩
    go_wp2_with fail
    go_ret
    exact ⟨rfl, St.refl _⟩
  have hl' : decide (1048576 < bs.length) = false := by simpa using hlong
  by_cases hlong2 : 1048576 < ms.length
  · have hl2 : decide (1048576 < ms.length) = true := by simpa using hlong2
    go_enter Try.func5, Try.ntmps5
    go_wp2_with fail
    refine (b10Long_c w cv bs hb).mono ?_
    rintro e w1 ⟨rfl, rfl⟩
    go_wp2_with fail
    refine (b10Long_c w mv ms hm).mono ?_
    rintro e w1 ⟨rfl, rfl⟩
    go_wp2_with fail
    go_ret
    exact ⟨rfl, St.refl _⟩
  have hl2 : decide (1048576 < ms.length) = false := by simpa using hlong2
  go_enter Try.func5, Try.ntmps5
  go_wp2_with fail
  refine (b10Long_c w cv bs hb).mono ?_
  rintro e w1 ⟨rfl, rfl⟩
  go_wp2_with fail
  refine (b10Long_c w mv ms hm).mono ?_
  rintro e w1 ⟨rfl, rfl⟩
  go_wp2_with fail
  refine (DrawInverseMod_c w cv bs hb).mono ?_
  rintro e w1 ⟨a, m, rfl, h1⟩
  go_wp2_with fail
  by_cases hr : Res a m
  · refine (InverseMod_c a m w1 hr).mono ?_
    rintro e w2 ⟨h2, hinv⟩
    have hS := h1.call0 h2
    clear h1 h2
    obtain ⟨r1, r2, r3, r4⟩ := id hr
    have fm : (m == 0) = false := eq_f (by omega)
    by_cases hg : gcdI a m = 1
    · obtain ⟨x, rfl, x0, x1, hx⟩ : ∃ x : Int, e = .returned (.tuple #[.int .i64 x, .int .i64 0]) ∧ 0 ≤ x ∧ x < m ∧ a * x % m = 1 % m := by
        rcases hinv with h | ⟨_, h⟩
        · exact h
        · obtain ⟨x, x0, x1, hx⟩ := inv_of_cop r1 r3 hg
          exact absurd hx (h x x0 x1)
      clear hinv
      go_wp2_with fail
      refine (OrderMod_c a m w2 hr).mono ?_
      rintro e w3 ⟨h3, hord⟩
      have hS3 := hS.call0 h3
      clear hS h3
      obtain ⟨o, rfl, o0, o1, ho⟩ : ∃ o : Int, e = .returned (.tuple #[.int .i64 o, .int .i64 0]) ∧ 1 ≤ o ∧ o ≤ m ∧ pw a o m = 1 % m := by
        rcases hord with ⟨o, h1, h2, h3, h4, _⟩ | ⟨_, h⟩
        · exact ⟨o, h1, h2, h3, h4⟩
        · obtain ⟨o, h1, h2, h3⟩ := ord_ex r1 r3 hg
          exact absurd h3 (h o h1 h2)
      clear hord
      have Hx := Lib.hid hx
      have Ho := Lib.hid ho
      have Hg := Lib.hid hg
      clear hx ho
      go_wp2_with fail
      refine (Gcd_c _ _ _ (by omega) (by omega) (by omega) (by omega)).mono ?_
      rw [hg]
      clear hg
      rintro e w4 ⟨rfl, h4⟩
      have hS4 := hS3.call0 h4
      clear hS3 h4
      go_wp2_with fail
      refine (b10At_c w4 mv ms 0 90 (hS4.oldB hm) (by omega)).mono ?_
      rintro e w5 ⟨i, i0, i1, rfl, rfl⟩
      go_wp2_with fail
      refine (b10At_c w4 mv ms 1 90 (hS4.oldB hm) (by omega)).mono ?_
      rintro e w5 ⟨k, k0, k1, rfl, rfl⟩
      go_wp2_with fail
      refine (PowerMod_c a i m _ hr (by omega)).mono ?_
      rintro e w5 ⟨rfl, h5⟩
      have hS5 := hS4.call0 h5
      clear hS4 h5
      go_wp2_with fail
      refine (PowerMod_c a k m _ hr (by omega)).mono ?_
      rintro e w6 ⟨rfl, h6⟩
      have hS6 := hS5.call0 h6
      clear hS5 h6
      go_wp2_with fail
      refine (PowerMod_c a (i + k) m _ hr (by omega)).mono ?_
      rintro e w7 ⟨rfl, h7⟩
      have hS7 := hS6.call0 h7
      clear hS6 h7
      obtain ⟨t0, t1⟩ := pw_bd (a := a) (e := i) r1
      obtain ⟨t2, t3⟩ := pw_bd (a := a) (e := k) r1
      obtain ⟨p1, p2⟩ := mul_bd t0 (by omega) t2 (by omega)
      have hadd : (pw a i m * pw a k m % m != pw a (i + k) m) = false := ne_f (pw_add (by omega) (by omega))
      go_wp2_with fail
      refine (PowerMod_c a o m _ hr (by omega)).mono ?_
      rintro e w8 ⟨rfl, h8⟩
      have hS8 := hS7.call0 h8
      clear hS7 h8
      have j0 := Int.emod_nonneg i (show o ≠ 0 by omega)
      have j1 := Int.emod_lt_of_pos i (show 0 < o by omega)
      have fo : (o == 0) = false := eq_f (by omega)
      go_wp2_with fail
      refine (PowerMod_c a (i % o) m _ hr (by omega)).mono ?_
      rintro e w9 ⟨rfl, h9⟩
      have hS9 := hS8.call0 h9
      clear hS8 h9
      obtain ⟨q1, q2⟩ := mul_bd r3 (by omega) x0 (by omega)
      have e1 : (a * x % m == 1 % m) = true := eq_t Hx.out
      have e2 : (pw a o m == 1 % m) = true := eq_t Ho.out
      have e3 : (pw a (i % o) m == pw a i m) = true := eq_t (pw_period o0 Ho.out i i0)
      go_wp2_with fail
      have hne : Nonempty (SS _ _ _) := ⟨⟨_, hS9⟩⟩
      refine wp_region_st (by kernel_rfl) (by kernel_rfl) hS9 ?_
      repeat (go_big_quiet_step (fail))
      refine wpQuiet_nil ?_
      rintro _ ⟨s2, rfl⟩
      have hS10 := s2.st
      generalize s2.w = w10 at hS10 ⊢
      go_wp2_with fail
      go_ret
      exact ⟨rfl, hS10⟩
    · obtain rfl : e = .returned (.tuple #[.int .i64 0, .int .i64 3]) := by
        rcases hinv with ⟨x, _, _, _, hx⟩ | ⟨h, _⟩
        · exact absurd (cop_of_inv r1 hx) hg
        · exact h
      clear hinv
      go_wp2_with fail
      refine (OrderMod_c a m w2 hr).mono ?_
      rintro e w3 ⟨h3, hord⟩
      have hS3 := hS.call0 h3
      clear hS h3
      obtain rfl : e = .returned (.tuple #[.int .i64 0, .int .i64 3]) := by
        rcases hord with ⟨o, _, o0, _, ho, _⟩ | ⟨h, _⟩
        · exact absurd (cop_of_inv r1 (inv_of_ord o0 ho)) hg
        · exact h
      clear hord
      have hgf : (gcdI a m == 1) = false := eq_f hg
      clear hg
      go_wp2_with fail
      refine (Gcd_c _ _ _ (by omega) (by omega) (by omega) (by omega)).mono ?_
      rintro e w4 ⟨rfl, h4⟩
      have hS4 := hS3.call0 h4
      clear hS3 h4
      go_wp2_with fail
      refine (b10At_c w4 mv ms 0 90 (hS4.oldB hm) (by omega)).mono ?_
      rintro e w5 ⟨i, i0, i1, rfl, rfl⟩
      go_wp2_with fail
      refine (b10At_c w4 mv ms 1 90 (hS4.oldB hm) (by omega)).mono ?_
      rintro e w5 ⟨k, k0, k1, rfl, rfl⟩
      go_wp2_with fail
      refine (PowerMod_c a i m _ hr (by omega)).mono ?_
      rintro e w5 ⟨rfl, h5⟩
      have hS5 := hS4.call0 h5
      clear hS4 h5
      go_wp2_with fail
      refine (PowerMod_c a k m _ hr (by omega)).mono ?_
      rintro e w6 ⟨rfl, h6⟩
      have hS6 := hS5.call0 h6
      clear hS5 h6
      go_wp2_with fail
      refine (PowerMod_c a (i + k) m _ hr (by omega)).mono ?_
      rintro e w7 ⟨rfl, h7⟩
      have hS7 := hS6.call0 h7
      clear hS6 h7
      obtain ⟨t0, t1⟩ := pw_bd (a := a) (e := i) r1
      obtain ⟨t2, t3⟩ := pw_bd (a := a) (e := k) r1
      obtain ⟨p1, p2⟩ := mul_bd t0 (by omega) t2 (by omega)
      have hadd : (pw a i m * pw a k m % m != pw a (i + k) m) = false := ne_f (pw_add (by omega) (by omega))
      go_wp2_with fail
      go_ret
      exact ⟨rfl, hS7⟩
  · refine (InverseMod_no a m w1 hr).mono ?_
    rintro e w2 ⟨rfl, h2⟩
    have hS := h1.call0 h2
    clear h1 h2
    go_wp2_with fail
    refine (OrderMod_no a m w2 hr).mono ?_
    rintro e w3 ⟨rfl, h3⟩
    have hS3 := hS.call0 h3
    clear hS h3
    have hc : m < 1 ∨ (1 ≤ m ∧ 1000 < m) ∨ (1 ≤ m ∧ m ≤ 1000 ∧ a < 0) ∨ (1 ≤ m ∧ m ≤ 1000 ∧ 0 ≤ a ∧ m ≤ a) := by
      unfold Res at hr; omega
    clear hr
    rcases hc with c1 | ⟨c1, c2⟩ | ⟨c1, c2, c3⟩ | ⟨c1, c2, c3, c4⟩
    all_goals
      go_wp2_with fail
      go_ret
      exact ⟨rfl, hS3⟩
end Go.Proofs.Ytonmggppfopidaa
