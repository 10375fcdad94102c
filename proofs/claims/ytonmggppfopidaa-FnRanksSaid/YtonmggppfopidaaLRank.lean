/- The law FnRanks, walked. -/
import Derived.Test.YtonmggppfopidaaRank
namespace Go.Proofs.Ytonmggppfopidaa
set_option linter.unusedSimpArgs false
set_option linter.unusedVariables false
open Go.RowKit

def Some3 (R : World → Prop) (e : Ending) (w' : World) : Prop := ∃ x y z : Int, e = .returned (.tuple #[.int .i64 x, .int .i64 y, .int .i64 z]) ∧ R w'

set_option maxHeartbeats 4000000 in
set_option maxRecDepth 100000 in
theorem DrawUnrankSubset_c (w : World) (cv : Value) (bs : List UInt8) (hb : RdB w cv bs) :
    Calls Try.prog 51 #[cv] w (Some3 fun w' => St w.heap.size w w' []) := by
  go_enter Try.func51, Try.ntmps51
  go_wp2_with fail
  refine (l00From_c w cv bs hb).mono ?_
  rintro e w1 ⟨rfl, h1⟩
  go_wp2_with fail
  refine (among_lit [0, 1, 4, 8, 16, 32, 33, -1] w w1 cv bs _ _ [] hb h1 (by decide) (by omega)).mono ?_
  rintro e w2 ⟨n, hn, rfl, h2⟩
  have hn' : -1 ≤ n ∧ n ≤ 33 := by simp at hn; omega
  obtain ⟨n0, n1⟩ := hn'
  clear hn
  go_wp2_with fail
  refine (pick_c w w2 cv bs _ _ [] _ hb h2 (by omega)).mono ?_
  rintro e w3 ⟨k, k0, k1, rfl, h3⟩
  have k2 : k ≤ 100 := by omega
  clear k1
  go_wp2_with fail
  refine (sChoose_c _ _ _).mono ?_
  rintro e w4 ⟨rfl, rfl⟩
  have hcb := choose_bd n (k - 1)
  generalize choose n (k - 1) = most at hcb ⊢
  obtain ⟨m0, m1⟩ := hcb
  go_wp2_with fail
  refine (next_c w w3 cv bs _ _ [] hb h3 (by omega)).mono ?_
  rintro e w4 ⟨a, a0, a1, rfl, h4⟩
  go_wp2_with fail
  refine (next_c w w4 cv bs _ _ [] hb h4 (by omega)).mono ?_
  rintro e w5 ⟨b, b0, b1, rfl, h5⟩
  go_wp2_with fail
  refine (next_c w w5 cv bs _ _ [] hb h5 (by omega)).mono ?_
  rintro e w6 ⟨c, c0, c1, rfl, h6⟩
  go_wp2_with fail
  refine (pick_c w w6 cv bs _ _ [] 5 hb h6 (by omega)).mono ?_
  rintro e w7 ⟨x, x0, x1, rfl, h7⟩
  by_cases e0 : x = 0
  · subst e0
    go_wp2_with fail
    refine (among_lit [0, most - 1, most, -1] w w7 cv bs _ _ [] hb h7 (by simp) (by omega)).mono ?_
    rintro e w8 ⟨y, _, rfl, h8⟩
    go_wp2_with fail
    refine bodyPost_ret (v := .tuple #[.int .i64 n, .int .i64 (k - 1), .int .i64 y]) (by simp [results, Try.results51, go_sem]) rfl ⟨_, _, _, rfl, h8.st⟩
  · have f0 := eq_f e0
    by_cases e1 : x = 1
    · subst e1
      go_wp2_with fail
      refine (pick_c w w7 cv bs _ _ [] 20 hb h7 (by omega)).mono ?_
      rintro e w8 ⟨y, _, _, rfl, h8⟩
      go_wp2_with fail
      refine bodyPost_ret (v := .tuple #[.int .i64 n, .int .i64 (k - 1), .int .i64 y]) (by simp [results, Try.results51, go_sem]) rfl ⟨_, _, _, rfl, h8.st⟩
    · have f1 := eq_f e1
      by_cases hm : 0 < most
      · have fm : (most == 0) = false := eq_f (by omega)
        go_wp2_with fail
        refine bodyPost_ret (v := .tuple #[.int .i64 n, .int .i64 (k - 1), .int .i64 ((256 * (256 * a + b) + c) % most)]) (by simp [results, Try.results51, go_sem]) rfl ⟨_, _, _, rfl, h7.st⟩
      · go_wp2_with fail
        refine bodyPost_ret (v := .tuple #[.int .i64 n, .int .i64 (k - 1), .int .i64 (256 * (256 * a + b) + c)]) (by simp [results, Try.results51, go_sem]) rfl ⟨_, _, _, rfl, h7.st⟩

set_option maxHeartbeats 8000000 in
set_option maxRecDepth 100000 in
theorem FnRanks_law (w : World) (cv : Value) (bs : List UInt8) (hb : RdB w cv bs) :
    Calls Try.prog 11 #[cv] w (GivesB w true) := by
  by_cases hlong : 1048576 < bs.length
  · have hl' : decide (1048576 < bs.length) = true := by simpa using hlong
    go_enter Try.func11, Try.ntmps11
    go_wp2_with fail
    refine (b10Long_c w cv bs hb).mono ?_
    rintro e w1 ⟨rfl, rfl⟩
    go_wp2_with fail
    go_ret
    exact ⟨rfl, St.refl _⟩
  · have hl' : decide (1048576 < bs.length) = false := by simpa using hlong
    go_enter Try.func11, Try.ntmps11
    go_wp2_with fail
    refine (b10Long_c w cv bs hb).mono ?_
    rintro e w1 ⟨rfl, rfl⟩
    go_wp2_with fail
    refine (DrawUnrankSubset_c w cv bs hb).mono ?_
    rintro e w1 ⟨n, k, r, rfl, h1⟩
    go_wp2_with fail
    refine (iChoose_c _ _ _).mono ?_
    rintro e w2 ⟨rfl, rfl⟩
    go_wp2_with fail
    refine (UnrankSubset_c n k r w1).mono ?_
    rintro e w2 ⟨v, rfl, h2⟩
    have hS := (h1.call h2)
    simp only [List.nil_append] at hS
    clear h1 h2 hl' hlong
    cases hg : unrGood n k r
    · have hL : unrL n k r = [] := by rw [unrL, if_neg (by rw [hg]; simp)]
      have hC : unrC n k r = 2 := by rw [unrC, if_neg (by rw [hg]; simp)]
      rw [hL] at hS
      rw [hC]
      have hln := (hS.rdI 0 rfl).len
      simp only [List.length_nil] at hln
      have hall : n < 0 ∨ 32 < n ∨ k < 0 ∨ n < k ∨ r < 0 ∨ choose n k ≤ r := by
        apply Classical.byContradiction; intro h
        have : unrGood n k r = true := by simp only [unrGood, inB, Bool.and_eq_true, decide_eq_true_eq]; omega
        rw [hg] at this; cases this
      clear hL hC hg
      by_cases c1 : n < 0
      · go_wp2_with fail
        go_ret
        exact ⟨rfl, hS.out⟩
      · by_cases c2 : 32 < n
        · go_wp2_with fail
          go_ret
          exact ⟨rfl, hS.out⟩
        · by_cases c3 : k < 0
          · go_wp2_with fail
            go_ret
            exact ⟨rfl, hS.out⟩
          · by_cases c4 : n < k
            · go_wp2_with fail
              go_ret
              exact ⟨rfl, hS.out⟩
            · by_cases c5 : r < 0
              · go_wp2_with fail
                go_ret
                exact ⟨rfl, hS.out⟩
              · have c6 : choose n k ≤ r := by omega
                go_wp2_with fail
                go_ret
                exact ⟨rfl, hS.out⟩
    · have hL : unrL n k r = subsAt n k r := by rw [unrL, if_pos hg]
      have hC : unrC n k r = 0 := by rw [unrC, if_pos hg]
      have hbd : 0 ≤ n ∧ n ≤ 32 ∧ 0 ≤ k ∧ k ≤ n ∧ 0 ≤ r ∧ r < choose n k := by simp only [unrGood, inB, Bool.and_eq_true, decide_eq_true_eq] at hg; omega
      obtain ⟨n0, n1, k0, k1, r0, r1⟩ := hbd
      have hok := rank_ok n0 n1 k0 k1 r0 r1
      have hcb := (choose_bd n k).2
      have hpas : 1 ≤ n → (choose n k == choose (n - 1) (k - 1) + choose (n - 1) k) = true := fun h => eq_t (pascal h n1 k0)
      have Hpas := Lib.hid hpas
      have hb1 := choose_bd (n - 1) (k - 1)
      have hb2 := choose_bd (n - 1) k
      obtain ⟨b10, b11⟩ := hb1
      obtain ⟨b20, b21⟩ := hb2
      rw [hL] at hS
      rw [hC]
      generalize subsAt n k r = xs at hS hok
      obtain ⟨o1, o2, o3, o4⟩ := hok
      have hvs : validSetB xs n = true := by simp only [validSetB, o1, inB, Bool.true_and, Bool.and_eq_true, decide_eq_true_eq]; omega
      have HV := Lib.hid hvs
      have O2 := Lib.hid o2
      have O3 := Lib.hid o3
      have hr := hS.rdI 0 rfl
      have hln := hr.len
      rw [o2] at hln
      have hrr : (r != r) = false := ne_f rfl
      have hkk : (k != k) = false := ne_f rfl
      have HN := Lib.hid (show nxtV n xs = nxt n xs by rw [nxtV, if_pos hvs])
      clear hL hC hg hvs o1 o2 o3 hpas
      go_wp2_with fail
      refine (RankSubset_c _ _ _ _ hr HV.out).mono ?_
      rw [O3.out]
      rintro e w3 ⟨rfl, rfl⟩
      go_wp2_with fail
      refine (NextSubset_c _ _ _ _ hr).mono ?_
      rw [HN.out]
      cases hx : nxt n xs with
      | none =>
        rw [hx] at o4
        simp only at o4
        have hnl : ¬ r + 1 < choose n k := by omega
        have Hx := Lib.hid hx
        have O4 := Lib.hid o4
        clear hx o4
        rintro e w4 ⟨v4, rfl, h4⟩
        have hS4 := hS.call h4
        by_cases hn0 : n = 0
        · have fn := eq_t hn0
          have Hn0 := Lib.hid hn0
          clear hn0
          go_wp2_with fail
          go_ret
          exact ⟨rfl, hS4.out⟩
        · have fn := eq_f hn0
          have hp := Hpas.out (by omega)
          go_wp2_with (go_at_call 52; refine (iChoose_c _ _ _).mono ?_; rintro e w5 ⟨rfl, rfl⟩)
          go_ret
          exact ⟨rfl, hS4.out⟩
      | some ys =>
        rw [hx] at o4
        obtain ⟨p1, p2, p3, p4⟩ := o4
        have hvs2 : Hid (validSetB ys n = true) := by unfold Hid; simp only [validSetB, p2, inB, Bool.true_and, Bool.and_eq_true, decide_eq_true_eq]; omega
        have P3 := Lib.hid p3
        have P4 := Lib.hid p4
        have hrr1 : (r + 1 != r + 1) = false := ne_f rfl
        clear hx p2 p3 p4
        rintro e w4 ⟨v4, rfl, h4⟩
        have hr4 : RdI w4 v4 ys := h4.rdI 0 rfl
        have hr5 := hr.keep h4.below
        have hS4 := hS.call0 h4.out
        clear h4
        by_cases hn0 : n = 0
        · have fn := eq_t hn0
          have Hn0 := Lib.hid hn0
          clear hn0
          go_wp2_with fail
          refine (RankSubset_c _ _ _ _ hr4 hvs2.out).mono ?_
          rw [P3.out]
          rintro e w5 ⟨rfl, rfl⟩
          go_wp2_with (go_at_call 56; refine (CompareLists_c _ _ _ _ _ hr5 hr4 P4.out).mono ?_; rintro e w6 ⟨rfl, rfl⟩)
          go_ret
          exact ⟨rfl, hS4.out⟩
        · have fn := eq_f hn0
          have hp := Hpas.out (by omega)
          go_wp2_with fail
          refine (RankSubset_c _ _ _ _ hr4 hvs2.out).mono ?_
          rw [P3.out]
          rintro e w5 ⟨rfl, rfl⟩
          go_wp2_with (first | (go_at_call 56; refine (CompareLists_c _ _ _ _ _ hr5 hr4 P4.out).mono ?_; rintro e w6 ⟨rfl, rfl⟩) | (go_at_call 52; refine (iChoose_c _ _ _).mono ?_; rintro e w5 ⟨rfl, rfl⟩))
          go_ret
          exact ⟨rfl, hS4.out⟩
end Go.Proofs.Ytonmggppfopidaa
