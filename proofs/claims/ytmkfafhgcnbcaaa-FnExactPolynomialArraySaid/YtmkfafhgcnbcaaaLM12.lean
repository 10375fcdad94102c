/- The law FnExactPolynomialArray, walked. -/
import Derived.Test.YtmkfafhgcnbcaaaPoly2
namespace Go.Proofs.Ytmkfafhgcnbcaaa
set_option linter.unusedSimpArgs false
set_option linter.unusedVariables false
open Go.RowKit

theorem tot_bd {xss : List (List Int)} {a : Nat} (h : ∀ xs ∈ xss, xs.length ≤ a) : tot xss ≤ xss.length * a := by
  induction xss with
  | nil => simp [tot]
  | cons x r ih =>
    have h1 := h x (by simp)
    have h2 := ih (fun xs hx => h xs (by simp [hx]))
    simp only [tot, List.length_cons, Nat.add_mul]; omega
theorem polyOk_t {q t c : Int} (h : polyOk q t c = true) : 2 ≤ q ∧ q ≤ 16 ∧ 1 ≤ t ∧ t ≤ q ∧ t ≤ c ∧ c ≤ 8 := by
  simp only [polyOk, mkOk, inB, Bool.and_eq_true, decide_eq_true_eq] at h
  omega
theorem polyA_bd (q t c : Int) : tot (polyA q t c).rows ≤ 1048576 := by
  unfold polyA
  split
  · rename_i hs
    have hsh := polyOk_t hs
    split
    · simp [noA, tot]
    · rename_i hp
      have := tot_bd (xss := polyRows q.toNat t.toNat c.toNat (pu q 256 t.toNat 1).toNat) (a := 8) (by
        intro xs hx
        obtain ⟨k, _, rfl⟩ := List.mem_map.1 hx
        rw [polyRow_len]; omega)
      rw [polyRows_len] at this
      show tot (polyRows q.toNat t.toNat c.toNat (pu q 256 t.toNat 1).toNat) ≤ 1048576
      omega
  · simp [noA, tot]

set_option maxHeartbeats 4000000 in
set_option maxRecDepth 100000 in
theorem FnExactPolynomialArray_law (w : World) (q t c0 : Int) (_ : (Lit.int .i64 q).wf = true) (_ : (Lit.int .i64 t).wf = true) (_ : (Lit.int .i64 c0).wf = true) :
    Calls Try.prog 14 #[.int .i64 q, .int .i64 t, .int .i64 c0] w (GivesB w true) := by
  have Hb := Lib.hid (polyA_bd q t c0)
  have Hs := fun w => Lib.hid (sPolynomialArray_c q t c0 w)
  have Hi := fun w => Lib.hid (PolynomialArray_c q t c0 w)
  generalize polyA q t c0 = A at Hb Hs Hi
  generalize polyC q t c0 = c at Hs Hi
  obtain ⟨l, d, R⟩ := A
  simp only at Hb
  have HeA := Lib.hid (show eqA l d l d R R = true by simp [eqA])
  have hcc : (c != c) = false := by simp
  have htt : ((1 + (tot R : Int)) != (1 + (tot R : Int))) = false := by simp
  have ht0 := Hb.out
  go_enter Try.func14, Try.ntmps14
  go_wp2_with fail
  refine (Hs _).out.mono ?_
  rintro e w1 ⟨v1, us1, rfl, hl1, h1⟩
  have hr1 := h1.rii hl1
  obtain ⟨a1, c1, rfl⟩ := hr1.1.sl.sh
  have Hl1 := Lib.hid hl1
  have hS1 := h1.newboxF 51 #[.int .i64 l, .int .i64 d, .slice a1 us1.length c1]
  have hk1 := ((St.refl w1).alloc' (.cells #[.int .i64 l, .int .i64 d, .slice a1 us1.length c1] 51)).below
  have hr2 := hr1.keep hk1
  clear h1 hr1 hk1 hl1
  unfold av
  go_wp2_with fail
  refine (Hi _).out.mono ?_
  rintro e w2 ⟨v2, us2, rfl, hl2, h2⟩
  have hr3 := h2.rii hl2
  obtain ⟨a2, c2, rfl⟩ := hr3.1.sl.sh
  have hS2 := ((hS1.call h2).newboxF 51 #[.int .i64 l, .int .i64 d, .slice a2 us2.length c2]).perm (List.perm_append_comm (l₁ := _ :: _ :: own2 (.slice a1 us1.length c1) us1 R))
  have hk2 := ((St.refl w2).alloc' (.cells #[.int .i64 l, .int .i64 d, .slice a2 us2.length c2] 51)).below
  have hr4 := (hr2.keep h2.below).keep hk2
  have hr5 := hr3.keep hk2
  have Hl2 := Lib.hid hl2
  clear h2 hr3 hk2 hl2 hr2 hS1
  have hB := hS2.sub (List.sublist_append_right _ _)
  have b0 := hB.bcell 0 rfl 0 rfl
  have b1 := hB.bcell 0 rfl 1 rfl
  have b2 := hB.bcell 0 rfl 2 rfl
  have d0 := hB.bcell 1 rfl 0 rfl
  have d1 := hB.bcell 1 rfl 1 rfl
  have d2 := hB.bcell 1 rfl 2 rfl
  unfold av
  go_wp2_with fail
  refine (eqArray_c l d l d _ _ us2 us1 R R _ hr5 hr4).mono ?_
  rw [HeA.out]
  rintro e w3 ⟨rfl, h3⟩
  have hS3 := hS2.call0 h3
  clear hS2 h3 hr4 hr5 hB b0 b1 b2 d0 d1 d2
  have hB := hS3.sub (List.sublist_append_right _ _)
  have b0 := hB.bcell 0 rfl 0 rfl
  have b1 := hB.bcell 0 rfl 1 rfl
  have b2 := hB.bcell 0 rfl 2 rfl
  go_wp2_with fail
  refine (markArray_c l d _ us2 R 1 (by omega) (by omega) Hl2.out hS3).mono ?_
  rintro e w4 ⟨rfl, hS4⟩
  clear hS3 hB b0 b1 b2
  have hB := hS4.sub (List.sublist_append_right _ _)
  have b0 := hB.bcell 0 rfl 0 rfl
  have b1 := hB.bcell 0 rfl 1 rfl
  have b2 := hB.bcell 0 rfl 2 rfl
  go_wp2_with fail
  refine (heldArray_c l d _ us2 R 1 _ (by omega) (by omega) (rii2 hS4 (by rw [mrkL_len]; exact Hl2.out))).mono ?_
  rintro e w5 ⟨rfl, h5⟩
  have hS5 := hS4.call0 h5
  clear hS4 h5 hB b0 b1 b2
  go_wp2_with fail
  refine (Hi _).out.mono ?_
  rintro e w6 ⟨v3, us3, rfl, hl3, h6⟩
  have hr3 := h6.rii hl3
  obtain ⟨a3, c3, rfl⟩ := hr3.1.sl.sh
  have hS6 := (hS5.call0 h6.out).alloc' (.cells #[.int .i64 l, .int .i64 d, .slice a3 us3.length c3] 51)
  have hr4 := hr3.keep ((St.refl w6).alloc' (.cells #[.int .i64 l, .int .i64 d, .slice a3 us3.length c3] 51)).below
  clear hS5 h6 hl3 hr3
  have hB := hS6.sub (List.sublist_append_right _ _)
  have hr5 := (hB.sub (((List.Sublist.refl _).cons _).cons _)).rii Hl1.out
  have d0 := hB.bcell 1 rfl 0 rfl
  have d1 := hB.bcell 1 rfl 1 rfl
  have d2 := hB.bcell 1 rfl 2 rfl
  unfold av
  go_wp2_with fail
  refine (eqArray_c l d l d _ _ us3 us1 R R _ hr4 hr5).mono ?_
  rw [HeA.out]
  rintro e w7 ⟨rfl, h7⟩
  have hS7 := hS6.call0 h7
  clear hS6 h7 hr4 hr5 hB d0 d1 d2
  have hB := hS7.sub (List.sublist_append_right _ _)
  have b0 := hB.bcell 0 rfl 0 rfl
  have b1 := hB.bcell 0 rfl 1 rfl
  have b2 := hB.bcell 0 rfl 2 rfl
  go_wp2_with fail
  refine (heldArray_c l d _ us2 R 1 _ (by omega) (by omega) (rii2 hS7 (by rw [mrkL_len]; exact Hl2.out))).mono ?_
  rintro e w8 ⟨rfl, h8⟩
  have hS8 := hS7.call0 h8
  go_wp2_with fail
  go_ret
  exact ⟨rfl, hS8.out⟩
end Go.Proofs.Ytmkfafhgcnbcaaa
