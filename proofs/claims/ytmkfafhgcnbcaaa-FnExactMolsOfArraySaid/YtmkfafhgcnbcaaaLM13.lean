/- The law FnExactMolsOfArray, walked. -/
import Derived.Test.YtmkfafhgcnbcaaaMol2
import Derived.Test.YtmkfafhgcnbcaaaMark
import Derived.Deep.RegionHeld3
import Derived.Deep.DrawnRows
namespace Go.Proofs.Ytmkfafhgcnbcaaa
set_option linter.unusedSimpArgs false
set_option linter.unusedVariables false
open Go.RowKit
attribute [local go_sem ↓] Go.wp_at_zero Go.wp_at_succ

theorem tot3_bd {X : List (List (List Int))} {a : Nat} (h : ∀ x ∈ X, tot x ≤ a) : tot3 X ≤ X.length * a := by
  induction X with
  | nil => simp [tot3]
  | cons x r ih =>
    have h1 := h x (by simp)
    have h2 := ih (fun y hy => h y (by simp [hy]))
    simp only [tot3, List.length_cons, Nat.add_mul]; omega
theorem tot_sq {n : Nat} {S : List (List Int)} (h : IsSq n S) : tot S = n * n := by
  have : ∀ xss : List (List Int), (∀ x ∈ xss, x.length = n) → tot xss = xss.length * n := by
    intro xss
    induction xss with
    | nil => intro _; simp [tot]
    | cons x r ih => intro h; rw [tot, ih (fun y hy => h y (by simp [hy])), h x (by simp), List.length_cons, Nat.add_mul]; omega
  rw [this S h.2, h.1]
theorem tot3_mols (lv co : Int) (rows : List (List Int)) : tot3 (molsM lv co rows) ≤ 1048576 := by
  unfold molsM; split
  · rename_i h
    have hb : okA lv co rows = true ∧ ¬ 10 < lv := by
      unfold molsC at h
      by_cases h1 : okA lv co rows = true
      · rw [if_pos h1] at h
        refine ⟨h1, fun h2 => ?_⟩
        rw [if_pos (.inr (.inl h2))] at h; cases h
      · rw [if_neg h1] at h; cases h
    obtain ⟨hsh, _, _⟩ := okA_t hb.1
    have hs := shapeB_t hsh
    have hn : lv.toNat ≤ 10 := by omega
    have h1 := tot3_bd (X := molX lv.toNat (co - 2).toNat rows rows.length 0) (a := 100) (fun x hx => by
      obtain ⟨c, _, rfl⟩ := List.mem_map.1 hx
      rw [tot_sq (sqs_sq _ _ _)]
      have := Nat.mul_le_mul hn hn; omega)
    rw [molX_len] at h1
    omega
  · simp [tot3]

set_option maxHeartbeats 8000000 in
set_option maxRecDepth 100000 in
theorem FnExactMolsOfArray_law (w : World) (lv0 co0 : Int) (v0 : Value) (us0 : List Value) (xss0 : List (List Int)) (hv0 : RII w v0 us0 xss0) :
    Calls Try.prog 15 #[av lv0 co0 v0] w (GivesB w true) := by
  have hS0 := ((St.refl w).newboxF 57 #[.int .i64 lv0, .int .i64 co0, v0])
  simp only [World.size_alloc] at hS0
  by_cases hz0 : szII 1048576 xss0 < 0
  · go_enter Try.func15, Try.ntmps15
    unfold av
    go_wp2_with fail
    refine (szArray_c lv0 co0 v0 us0 xss0 _ _ (hS0.oldII hv0) (by omega)).mono ?_
    rintro e e0 ⟨rfl, h0⟩
    have hT0 := hS0.call0 (w' := e0) h0
    have b0_0_0 := hT0.bcell 0 rfl 0 rfl
    have b0_0_1 := hT0.bcell 0 rfl 1 rfl
    have b0_0_2 := hT0.bcell 0 rfl 2 rfl
    go_wp2_with fail
    go_ret
    exact ⟨rfl, hT0.out⟩
  · have hzb0 : 0 ≤ szII 1048576 xss0 ∧ szII 1048576 xss0 ≤ 1048576 := by have := szII_top (left := 1048576) (xss := xss0) (by omega); omega
    have hq0 := szII_le (left := 1048576) (xss := xss0) (by omega)
    have Hz1_0 := Lib.hid (show xss0.length ≤ 1048576 by have := hq0.1; omega)
    have Hz2_0 := Lib.hid (show ∀ xs ∈ xss0, xs.length ≤ 1048576 from fun xs hx => by have := hq0.2 xs hx; omega)
    have Ht0 := Lib.hid (show (tot xss0 : Int) + (szII 1048576 xss0) ≤ 1048576 by have := szII_tot2 (left := 1048576) (xss := xss0) (by omega); omega)
    clear hq0
    have hx0 := Ht0.out
    have Hb := Lib.hid (tot3_mols lv0 co0 xss0)
    have Hs := fun w v0 us0 (hv0 : RII w v0 us0 xss0) => Lib.hid (sMolsOfArray_c lv0 co0 v0 us0 xss0 w hv0)
    have Hi := fun w v0 us0 (hv0 : RII w v0 us0 xss0) => Lib.hid (MolsOfArray_c lv0 co0 v0 us0 xss0 w hv0)
    generalize molsM lv0 co0 xss0 = R at Hb Hs Hi
    generalize molsC lv0 co0 xss0 = cc at Hs Hi
    have HeR := Lib.hid (show decide (R = R) = true by simp)
    have hcc : (cc != cc) = false := by simp
    have ht1 := Hb.out
    have htt : ((1 + (tot3 R : Int)) != (1 + (tot3 R : Int))) = false := by simp
    have HeX0 := Lib.hid (show eqA lv0 co0 lv0 co0 xss0 xss0 = true by simp [eqA])
    go_enter Try.func15, Try.ntmps15
    unfold av
    go_wp2_with fail
    refine (szArray_c lv0 co0 v0 us0 xss0 _ _ (hS0.oldII hv0) (by omega)).mono ?_
    rintro e w1 ⟨rfl, h1⟩
    have hS1 : St w.heap.size w w1 (box 57 w.heap.size [.int .i64 lv0, .int .i64 co0, v0] :: ([])) := (hS0.call0 h1).perm (by classical exact List.perm_iff_count.2 (fun a => by simp only [List.cons_append, List.nil_append, List.append_nil, List.count_append, List.count_cons, List.count_nil] <;> omega))
    clear hS0 h1
    have b0_0 := hS1.bcell 0 rfl 0 rfl
    have b0_1 := hS1.bcell 0 rfl 1 rfl
    have b0_2 := hS1.bcell 0 rfl 2 rfl
    go_wp2_with fail
    refine (toArray_c lv0 co0 v0 us0 xss0 _ (hS1.oldII hv0) Hz1_0.out Hz2_0.out).mono ?_
    rintro e w2 ⟨vw2x, usw2x, rfl, hl2, h2⟩
    have hr2 := h2.rii hl2
    have hS2 : St w.heap.size w w2 (box 57 w.heap.size [.int .i64 lv0, .int .i64 co0, v0] :: ([])) := (hS1.call0 h2.out).perm (by classical exact List.perm_iff_count.2 (fun a => by simp only [List.cons_append, List.nil_append, List.append_nil, List.count_append, List.count_cons, List.count_nil] <;> omega))
    clear b0_0 b0_1 b0_2 hS1 h2 hl2
    have b0_0 := hS2.bcell 0 rfl 0 rfl
    have b0_1 := hS2.bcell 0 rfl 1 rfl
    have b0_2 := hS2.bcell 0 rfl 2 rfl
    go_wp2_with fail
    refine (Hs _ _ _ hr2).out.mono ?_
    rintro e w3 ⟨t3, tv3, tu3, rfl, hf3, h3⟩
    have Hf_w0 := Lib.hid hf3
    have hS3 : St w.heap.size w w3 (box 57 w.heap.size [.int .i64 lv0, .int .i64 co0, v0] :: (own3 t3 tv3 tu3 R ++ [])) := (hS2.call h3).perm (by classical exact List.perm_iff_count.2 (fun a => by simp only [List.cons_append, List.nil_append, List.append_nil, List.count_append, List.count_cons, List.count_nil] <;> omega))
    clear b0_0 b0_1 b0_2 hS2 h3 hf3 hr2
    have b0_0 := hS3.bcell 0 rfl 0 rfl
    have b0_1 := hS3.bcell 0 rfl 1 rfl
    have b0_2 := hS3.bcell 0 rfl 2 rfl
    go_wp2_with fail
    refine (toArray_c lv0 co0 v0 us0 xss0 _ (hS3.oldII hv0) Hz1_0.out Hz2_0.out).mono ?_
    rintro e w4 ⟨vw4x, usw4x, rfl, hl4, h4⟩
    have Hl4 := Lib.hid hl4
    obtain ⟨a4, c4, rfl⟩ := (h4.rii hl4).1.sl.sh
    unfold av
    have hS4 : St w.heap.size w _ (box 51 w4.heap.size [.int .i64 lv0, .int .i64 co0, .slice a4 usw4x.length c4] :: box 57 w.heap.size [.int .i64 lv0, .int .i64 co0, v0] :: (own2 (.slice a4 usw4x.length c4) usw4x xss0 ++ own3 t3 tv3 tu3 R ++ [])) := ((hS3.call h4).newboxF 51 #[.int .i64 lv0, .int .i64 co0, .slice a4 usw4x.length c4]).perm (by classical exact List.perm_iff_count.2 (fun a => by simp only [List.cons_append, List.nil_append, List.append_nil, List.count_append, List.count_cons, List.count_nil] <;> omega))
    clear b0_0 b0_1 b0_2 hS3 h4 hl4
    have b0_0 := hS4.bcell 0 rfl 0 rfl
    have b0_1 := hS4.bcell 0 rfl 1 rfl
    have b0_2 := hS4.bcell 0 rfl 2 rfl
    have b1_0 := hS4.bcell 1 rfl 0 rfl
    have b1_1 := hS4.bcell 1 rfl 1 rfl
    have b1_2 := hS4.bcell 1 rfl 2 rfl
    go_wp2_with fail
    refine (Hi _ _ _ (rii2 (hS4.perm (L' := own2 (.slice a4 usw4x.length c4) usw4x xss0 ++ (box 51 w4.heap.size [.int .i64 lv0, .int .i64 co0, .slice a4 usw4x.length c4] :: box 57 w.heap.size [.int .i64 lv0, .int .i64 co0, v0] :: (own3 t3 tv3 tu3 R ++ []))) (by classical exact List.perm_iff_count.2 (fun a => by simp only [List.cons_append, List.nil_append, List.append_nil, List.count_append, List.count_cons, List.count_nil] <;> omega))) Hl4.out)).out.mono ?_
    rintro e w5 ⟨t5, tv5, tu5, rfl, hf5, h5⟩
    have Hf_g0 := Lib.hid hf5
    have hS5 : St w.heap.size w w5 (box 51 w4.heap.size [.int .i64 lv0, .int .i64 co0, .slice a4 usw4x.length c4] :: box 57 w.heap.size [.int .i64 lv0, .int .i64 co0, v0] :: (own3 t5 tv5 tu5 R ++ own2 (.slice a4 usw4x.length c4) usw4x xss0 ++ own3 t3 tv3 tu3 R ++ [])) := (hS4.call h5).perm (by classical exact List.perm_iff_count.2 (fun a => by simp only [List.cons_append, List.nil_append, List.append_nil, List.count_append, List.count_cons, List.count_nil] <;> omega))
    clear b0_0 b0_1 b0_2 b1_0 b1_1 b1_2 hS4 h5 hf5
    have b0_0 := hS5.bcell 0 rfl 0 rfl
    have b0_1 := hS5.bcell 0 rfl 1 rfl
    have b0_2 := hS5.bcell 0 rfl 2 rfl
    have b1_0 := hS5.bcell 1 rfl 0 rfl
    have b1_1 := hS5.bcell 1 rfl 1 rfl
    have b1_2 := hS5.bcell 1 rfl 2 rfl
    go_wp2_with fail
    refine (eqInt64SSS_c _ _ tv5 tv3 tu5 tu3 R R _ (St.riii (hS5.perm (L' := own3 t5 tv5 tu5 R ++ (box 51 w4.heap.size [.int .i64 lv0, .int .i64 co0, .slice a4 usw4x.length c4] :: box 57 w.heap.size [.int .i64 lv0, .int .i64 co0, v0] :: (own2 (.slice a4 usw4x.length c4) usw4x xss0 ++ own3 t3 tv3 tu3 R ++ []))) (by classical exact List.perm_iff_count.2 (fun a => by simp only [List.cons_append, List.nil_append, List.append_nil, List.count_append, List.count_cons, List.count_nil] <;> omega))) Hf_g0.out) (St.riii (hS5.perm (L' := own3 t3 tv3 tu3 R ++ (box 51 w4.heap.size [.int .i64 lv0, .int .i64 co0, .slice a4 usw4x.length c4] :: box 57 w.heap.size [.int .i64 lv0, .int .i64 co0, v0] :: (own3 t5 tv5 tu5 R ++ own2 (.slice a4 usw4x.length c4) usw4x xss0 ++ []))) (by classical exact List.perm_iff_count.2 (fun a => by simp only [List.cons_append, List.nil_append, List.append_nil, List.count_append, List.count_cons, List.count_nil] <;> omega))) Hf_w0.out)).mono ?_
    rw [show decide (R = R) = true from decide_eq_true rfl]
    rintro e w6 ⟨rfl, h6⟩
    have hS6 : St w.heap.size w w6 (box 51 w4.heap.size [.int .i64 lv0, .int .i64 co0, .slice a4 usw4x.length c4] :: box 57 w.heap.size [.int .i64 lv0, .int .i64 co0, v0] :: (own3 t5 tv5 tu5 R ++ own2 (.slice a4 usw4x.length c4) usw4x xss0 ++ own3 t3 tv3 tu3 R ++ [])) := (hS5.call0 h6).perm (by classical exact List.perm_iff_count.2 (fun a => by simp only [List.cons_append, List.nil_append, List.append_nil, List.count_append, List.count_cons, List.count_nil] <;> omega))
    clear b0_0 b0_1 b0_2 b1_0 b1_1 b1_2 hS5 h6
    have b0_0 := hS6.bcell 0 rfl 0 rfl
    have b0_1 := hS6.bcell 0 rfl 1 rfl
    have b0_2 := hS6.bcell 0 rfl 2 rfl
    have b1_0 := hS6.bcell 1 rfl 0 rfl
    have b1_1 := hS6.bcell 1 rfl 1 rfl
    have b1_2 := hS6.bcell 1 rfl 2 rfl
    go_wp2_with fail
    have hrx0 := (rii2 (hS6.perm (L' := own2 (.slice a4 usw4x.length c4) usw4x xss0 ++ (box 51 w4.heap.size [.int .i64 lv0, .int .i64 co0, .slice a4 usw4x.length c4] :: box 57 w.heap.size [.int .i64 lv0, .int .i64 co0, v0] :: (own3 t5 tv5 tu5 R ++ own3 t3 tv3 tu3 R ++ []))) (by classical exact List.perm_iff_count.2 (fun a => by simp only [List.cons_append, List.nil_append, List.append_nil, List.count_append, List.count_cons, List.count_nil] <;> omega))) Hl4.out)
    go_region_held3 (fun w' => w'.cell? ⟨w4.heap.size, 0, none⟩ = some (.int .i64 lv0) ∧ w'.cell? ⟨w4.heap.size, 1, none⟩ = some (.int .i64 co0) ∧ w'.cell? ⟨w4.heap.size, 2, none⟩ = some (.slice a4 usw4x.length c4) ∧ w'.cell? ⟨w.heap.size, 0, none⟩ = some (.int .i64 lv0) ∧ w'.cell? ⟨w.heap.size, 1, none⟩ = some (.int .i64 co0) ∧ w'.cell? ⟨w.heap.size, 2, none⟩ = some (v0)) (go_keep)
      (first
      | (go_at_call 58; refine (toArray_c lv0 co0 v0 us0 xss0 _ (hS6.drew.oldII hv0) Hz1_0.out Hz2_0.out).mono ?_; rintro e w7 ⟨vw7x, usw7x, rfl, hl7, h7⟩; have hr7 := h7.rii hl7; have hU7 := hS6.drew.call0 h7.out; clear hl7; have fw7_0_0 := hU7.bcell 0 rfl 0 rfl; have fw7_0_1 := hU7.bcell 0 rfl 1 rfl; have fw7_0_2 := hU7.bcell 0 rfl 2 rfl; have fw7_1_0 := hU7.bcell 1 rfl 0 rfl; have fw7_1_1 := hU7.bcell 1 rfl 1 rfl; have fw7_1_2 := hU7.bcell 1 rfl 2 rfl)
      | (go_at_call 53; refine (eqArray_c lv0 co0 lv0 co0 _ _ usw4x usw7x xss0 xss0 _ ((hrx0.keep (St.refl _).drew.below).keep h7.below) hr7).mono ?_; rw [HeX0.out]; rintro e w8 ⟨rfl, h8⟩; have hU8 := hU7.call0 h8; have fw8_0_0 := hU8.bcell 0 rfl 0 rfl; have fw8_0_1 := hU8.bcell 0 rfl 1 rfl; have fw8_0_2 := hU8.bcell 0 rfl 2 rfl; have fw8_1_0 := hU8.bcell 1 rfl 0 rfl; have fw8_1_1 := hU8.bcell 1 rfl 1 rfl; have fw8_1_2 := hU8.bcell 1 rfl 2 rfl))
    have hS7 : St w.heap.size w w8 (box 51 w4.heap.size [.int .i64 lv0, .int .i64 co0, .slice a4 usw4x.length c4] :: box 57 w.heap.size [.int .i64 lv0, .int .i64 co0, v0] :: (own3 t5 tv5 tu5 R ++ own2 (.slice a4 usw4x.length c4) usw4x xss0 ++ own3 t3 tv3 tu3 R ++ [])) := (hU8).perm (by classical exact List.perm_iff_count.2 (fun a => by simp only [List.cons_append, List.nil_append, List.append_nil, List.count_append, List.count_cons, List.count_nil] <;> omega))
    clear b0_0 b0_1 b0_2 b1_0 b1_1 b1_2 hS6 hU7 hU8 h7 h8 hr7 hrx0 fw7_0_0 fw7_0_1 fw7_0_2 fw7_1_0 fw7_1_1 fw7_1_2 fw8_0_0 fw8_0_1 fw8_0_2 fw8_1_0 fw8_1_1 fw8_1_2
    have b0_0 := hS7.bcell 0 rfl 0 rfl
    have b0_1 := hS7.bcell 0 rfl 1 rfl
    have b0_2 := hS7.bcell 0 rfl 2 rfl
    have b1_0 := hS7.bcell 1 rfl 0 rfl
    have b1_1 := hS7.bcell 1 rfl 1 rfl
    have b1_2 := hS7.bcell 1 rfl 2 rfl
    go_wp2_with fail
    refine (markArray_c lv0 co0 _ usw4x xss0 1 (by omega) (by omega) Hl4.out (hS7.perm (L' := own2 (.slice a4 usw4x.length c4) usw4x xss0 ++ (box 51 w4.heap.size [.int .i64 lv0, .int .i64 co0, .slice a4 usw4x.length c4] :: box 57 w.heap.size [.int .i64 lv0, .int .i64 co0, v0] :: (own3 t5 tv5 tu5 R ++ own3 t3 tv3 tu3 R ++ []))) (by classical exact List.perm_iff_count.2 (fun a => by simp only [List.cons_append, List.nil_append, List.append_nil, List.count_append, List.count_cons, List.count_nil] <;> omega)))).mono ?_
    rintro e w9 ⟨rfl, hm9⟩
    have hS8 : St w.heap.size w w9 (box 51 w4.heap.size [.int .i64 lv0, .int .i64 co0, .slice a4 usw4x.length c4] :: box 57 w.heap.size [.int .i64 lv0, .int .i64 co0, v0] :: (own3 t5 tv5 tu5 R ++ own2 (.slice a4 usw4x.length c4) usw4x (mrkL 1 xss0) ++ own3 t3 tv3 tu3 R ++ [])) := (hm9).perm (by classical exact List.perm_iff_count.2 (fun a => by simp only [List.cons_append, List.nil_append, List.append_nil, List.count_append, List.count_cons, List.count_nil] <;> omega))
    clear b0_0 b0_1 b0_2 b1_0 b1_1 b1_2 hS7 hm9
    have b0_0 := hS8.bcell 0 rfl 0 rfl
    have b0_1 := hS8.bcell 0 rfl 1 rfl
    have b0_2 := hS8.bcell 0 rfl 2 rfl
    have b1_0 := hS8.bcell 1 rfl 0 rfl
    have b1_1 := hS8.bcell 1 rfl 1 rfl
    have b1_2 := hS8.bcell 1 rfl 2 rfl
    go_wp2_with fail
    refine (eqInt64SSS_c _ _ tv5 tv3 tu5 tu3 R R _ (St.riii (hS8.perm (L' := own3 t5 tv5 tu5 R ++ (box 51 w4.heap.size [.int .i64 lv0, .int .i64 co0, .slice a4 usw4x.length c4] :: box 57 w.heap.size [.int .i64 lv0, .int .i64 co0, v0] :: (own2 (.slice a4 usw4x.length c4) usw4x (mrkL 1 xss0) ++ own3 t3 tv3 tu3 R ++ []))) (by classical exact List.perm_iff_count.2 (fun a => by simp only [List.cons_append, List.nil_append, List.append_nil, List.count_append, List.count_cons, List.count_nil] <;> omega))) Hf_g0.out) (St.riii (hS8.perm (L' := own3 t3 tv3 tu3 R ++ (box 51 w4.heap.size [.int .i64 lv0, .int .i64 co0, .slice a4 usw4x.length c4] :: box 57 w.heap.size [.int .i64 lv0, .int .i64 co0, v0] :: (own3 t5 tv5 tu5 R ++ own2 (.slice a4 usw4x.length c4) usw4x (mrkL 1 xss0) ++ []))) (by classical exact List.perm_iff_count.2 (fun a => by simp only [List.cons_append, List.nil_append, List.append_nil, List.count_append, List.count_cons, List.count_nil] <;> omega))) Hf_w0.out)).mono ?_
    rw [show decide (R = R) = true from decide_eq_true rfl]
    rintro e w10 ⟨rfl, h10⟩
    have hS9 : St w.heap.size w w10 (box 51 w4.heap.size [.int .i64 lv0, .int .i64 co0, .slice a4 usw4x.length c4] :: box 57 w.heap.size [.int .i64 lv0, .int .i64 co0, v0] :: (own3 t5 tv5 tu5 R ++ own2 (.slice a4 usw4x.length c4) usw4x (mrkL 1 xss0) ++ own3 t3 tv3 tu3 R ++ [])) := (hS8.call0 h10).perm (by classical exact List.perm_iff_count.2 (fun a => by simp only [List.cons_append, List.nil_append, List.append_nil, List.count_append, List.count_cons, List.count_nil] <;> omega))
    clear b0_0 b0_1 b0_2 b1_0 b1_1 b1_2 hS8 h10
    have b0_0 := hS9.bcell 0 rfl 0 rfl
    have b0_1 := hS9.bcell 0 rfl 1 rfl
    have b0_2 := hS9.bcell 0 rfl 2 rfl
    have b1_0 := hS9.bcell 1 rfl 0 rfl
    have b1_1 := hS9.bcell 1 rfl 1 rfl
    have b1_2 := hS9.bcell 1 rfl 2 rfl
    go_wp2_with fail
    refine (markInt64SSS_c _ tv5 tu5 R 1 (by omega) (by omega) Hf_g0.out (hS9.perm (L' := own3 t5 tv5 tu5 R ++ (box 51 w4.heap.size [.int .i64 lv0, .int .i64 co0, .slice a4 usw4x.length c4] :: box 57 w.heap.size [.int .i64 lv0, .int .i64 co0, v0] :: (own2 (.slice a4 usw4x.length c4) usw4x (mrkL 1 xss0) ++ own3 t3 tv3 tu3 R ++ []))) (by classical exact List.perm_iff_count.2 (fun a => by simp only [List.cons_append, List.nil_append, List.append_nil, List.count_append, List.count_cons, List.count_nil] <;> omega)))).mono ?_
    rintro e w11 ⟨rfl, hm11⟩
    have hS10 : St w.heap.size w w11 (box 51 w4.heap.size [.int .i64 lv0, .int .i64 co0, .slice a4 usw4x.length c4] :: box 57 w.heap.size [.int .i64 lv0, .int .i64 co0, v0] :: (own3 t5 tv5 tu5 (mrk3 1 R) ++ own2 (.slice a4 usw4x.length c4) usw4x (mrkL 1 xss0) ++ own3 t3 tv3 tu3 R ++ [])) := (hm11).perm (by classical exact List.perm_iff_count.2 (fun a => by simp only [List.cons_append, List.nil_append, List.append_nil, List.count_append, List.count_cons, List.count_nil] <;> omega))
    clear b0_0 b0_1 b0_2 b1_0 b1_1 b1_2 hS9 hm11
    have b0_0 := hS10.bcell 0 rfl 0 rfl
    have b0_1 := hS10.bcell 0 rfl 1 rfl
    have b0_2 := hS10.bcell 0 rfl 2 rfl
    have b1_0 := hS10.bcell 1 rfl 0 rfl
    have b1_1 := hS10.bcell 1 rfl 1 rfl
    have b1_2 := hS10.bcell 1 rfl 2 rfl
    go_wp2_with fail
    refine (heldInt64SSS_c _ tv5 tu5 R 1 _ (by omega) (by omega) (St.riii (hS10.perm (L' := own3 t5 tv5 tu5 (mrk3 1 R) ++ (box 51 w4.heap.size [.int .i64 lv0, .int .i64 co0, .slice a4 usw4x.length c4] :: box 57 w.heap.size [.int .i64 lv0, .int .i64 co0, v0] :: (own2 (.slice a4 usw4x.length c4) usw4x (mrkL 1 xss0) ++ own3 t3 tv3 tu3 R ++ []))) (by classical exact List.perm_iff_count.2 (fun a => by simp only [List.cons_append, List.nil_append, List.append_nil, List.count_append, List.count_cons, List.count_nil] <;> omega))) (fit_mrk3 Hf_g0.out))).mono ?_
    rintro e w12 ⟨rfl, rfl⟩
    go_wp2_with fail
    refine (toArray_c lv0 co0 v0 us0 xss0 _ (hS10.oldII hv0) Hz1_0.out Hz2_0.out).mono ?_
    rintro e w13 ⟨vw13x, usw13x, rfl, hl13, h13⟩
    have hr13 := h13.rii hl13
    have hS11 : St w.heap.size w w13 (box 51 w4.heap.size [.int .i64 lv0, .int .i64 co0, .slice a4 usw4x.length c4] :: box 57 w.heap.size [.int .i64 lv0, .int .i64 co0, v0] :: (own3 t5 tv5 tu5 (mrk3 1 R) ++ own2 (.slice a4 usw4x.length c4) usw4x (mrkL 1 xss0) ++ own3 t3 tv3 tu3 R ++ [])) := (hS10.call0 h13.out).perm (by classical exact List.perm_iff_count.2 (fun a => by simp only [List.cons_append, List.nil_append, List.append_nil, List.count_append, List.count_cons, List.count_nil] <;> omega))
    clear b0_0 b0_1 b0_2 b1_0 b1_1 b1_2 hS10 h13 hl13
    have b0_0 := hS11.bcell 0 rfl 0 rfl
    have b0_1 := hS11.bcell 0 rfl 1 rfl
    have b0_2 := hS11.bcell 0 rfl 2 rfl
    have b1_0 := hS11.bcell 1 rfl 0 rfl
    have b1_1 := hS11.bcell 1 rfl 1 rfl
    have b1_2 := hS11.bcell 1 rfl 2 rfl
    go_wp2_with fail
    refine (Hi _ _ _ hr13).out.mono ?_
    rintro e w14 ⟨t14, tv14, tu14, rfl, hf14, h14⟩
    have Hf_h0 := Lib.hid hf14
    have hS12 : St w.heap.size w w14 (box 51 w4.heap.size [.int .i64 lv0, .int .i64 co0, .slice a4 usw4x.length c4] :: box 57 w.heap.size [.int .i64 lv0, .int .i64 co0, v0] :: (own3 t14 tv14 tu14 R ++ own3 t5 tv5 tu5 (mrk3 1 R) ++ own2 (.slice a4 usw4x.length c4) usw4x (mrkL 1 xss0) ++ own3 t3 tv3 tu3 R ++ [])) := (hS11.call h14).perm (by classical exact List.perm_iff_count.2 (fun a => by simp only [List.cons_append, List.nil_append, List.append_nil, List.count_append, List.count_cons, List.count_nil] <;> omega))
    clear b0_0 b0_1 b0_2 b1_0 b1_1 b1_2 hS11 h14 hf14 hr13
    have b0_0 := hS12.bcell 0 rfl 0 rfl
    have b0_1 := hS12.bcell 0 rfl 1 rfl
    have b0_2 := hS12.bcell 0 rfl 2 rfl
    have b1_0 := hS12.bcell 1 rfl 0 rfl
    have b1_1 := hS12.bcell 1 rfl 1 rfl
    have b1_2 := hS12.bcell 1 rfl 2 rfl
    go_wp2_with fail
    refine (eqInt64SSS_c _ _ tv14 tv3 tu14 tu3 R R _ (St.riii (hS12.perm (L' := own3 t14 tv14 tu14 R ++ (box 51 w4.heap.size [.int .i64 lv0, .int .i64 co0, .slice a4 usw4x.length c4] :: box 57 w.heap.size [.int .i64 lv0, .int .i64 co0, v0] :: (own3 t5 tv5 tu5 (mrk3 1 R) ++ own2 (.slice a4 usw4x.length c4) usw4x (mrkL 1 xss0) ++ own3 t3 tv3 tu3 R ++ []))) (by classical exact List.perm_iff_count.2 (fun a => by simp only [List.cons_append, List.nil_append, List.append_nil, List.count_append, List.count_cons, List.count_nil] <;> omega))) Hf_h0.out) (St.riii (hS12.perm (L' := own3 t3 tv3 tu3 R ++ (box 51 w4.heap.size [.int .i64 lv0, .int .i64 co0, .slice a4 usw4x.length c4] :: box 57 w.heap.size [.int .i64 lv0, .int .i64 co0, v0] :: (own3 t14 tv14 tu14 R ++ own3 t5 tv5 tu5 (mrk3 1 R) ++ own2 (.slice a4 usw4x.length c4) usw4x (mrkL 1 xss0) ++ []))) (by classical exact List.perm_iff_count.2 (fun a => by simp only [List.cons_append, List.nil_append, List.append_nil, List.count_append, List.count_cons, List.count_nil] <;> omega))) Hf_w0.out)).mono ?_
    rw [show decide (R = R) = true from decide_eq_true rfl]
    rintro e w15 ⟨rfl, h15⟩
    have hS13 : St w.heap.size w w15 (box 51 w4.heap.size [.int .i64 lv0, .int .i64 co0, .slice a4 usw4x.length c4] :: box 57 w.heap.size [.int .i64 lv0, .int .i64 co0, v0] :: (own3 t14 tv14 tu14 R ++ own3 t5 tv5 tu5 (mrk3 1 R) ++ own2 (.slice a4 usw4x.length c4) usw4x (mrkL 1 xss0) ++ own3 t3 tv3 tu3 R ++ [])) := (hS12.call0 h15).perm (by classical exact List.perm_iff_count.2 (fun a => by simp only [List.cons_append, List.nil_append, List.append_nil, List.count_append, List.count_cons, List.count_nil] <;> omega))
    clear b0_0 b0_1 b0_2 b1_0 b1_1 b1_2 hS12 h15
    have b0_0 := hS13.bcell 0 rfl 0 rfl
    have b0_1 := hS13.bcell 0 rfl 1 rfl
    have b0_2 := hS13.bcell 0 rfl 2 rfl
    have b1_0 := hS13.bcell 1 rfl 0 rfl
    have b1_1 := hS13.bcell 1 rfl 1 rfl
    have b1_2 := hS13.bcell 1 rfl 2 rfl
    go_wp2_with fail
    refine (heldInt64SSS_c _ tv5 tu5 R 1 _ (by omega) (by omega) (St.riii (hS13.perm (L' := own3 t5 tv5 tu5 (mrk3 1 R) ++ (box 51 w4.heap.size [.int .i64 lv0, .int .i64 co0, .slice a4 usw4x.length c4] :: box 57 w.heap.size [.int .i64 lv0, .int .i64 co0, v0] :: (own3 t14 tv14 tu14 R ++ own2 (.slice a4 usw4x.length c4) usw4x (mrkL 1 xss0) ++ own3 t3 tv3 tu3 R ++ []))) (by classical exact List.perm_iff_count.2 (fun a => by simp only [List.cons_append, List.nil_append, List.append_nil, List.count_append, List.count_cons, List.count_nil] <;> omega))) (fit_mrk3 Hf_g0.out))).mono ?_
    rintro e w16 ⟨rfl, rfl⟩
    go_wp2_with fail
    go_ret
    exact ⟨rfl, hS13.out⟩
end Go.Proofs.Ytmkfafhgcnbcaaa
