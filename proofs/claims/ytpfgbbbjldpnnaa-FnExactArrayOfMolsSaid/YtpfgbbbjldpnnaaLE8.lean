/- The law FnExactArrayOfMols, walked. -/
import Derived.Test.YtpfgbbbjldpnnaaMl6
namespace Go.Proofs.Ytpfgbbbjldpnnaa
set_option linter.unusedSimpArgs false
set_option linter.unusedVariables false
open Go.RowKit
attribute [local go_sem ↓] Go.wp_at_zero Go.wp_at_succ

theorem tot_bd {a : Nat} : ∀ {xss : List (List Int)}, (∀ x ∈ xss, x.length ≤ a) → tot xss ≤ xss.length * a
  | [], _ => by simp [tot]
  | x :: r, h => by
    have h1 := h x (by simp)
    have h2 := tot_bd (xss := r) (fun y hy => h y (by simp [hy]))
    simp only [tot, List.length_cons, Nat.add_mul]; omega
theorem molA_tot (X : List (List (List Int))) : tot (molA X).rows ≤ 1048576 := by
  cases hb : molB X
  · rw [(molA_1 hb).1]; simp [noA, tot]
  · have hM := molB_t hb
    by_cases hbad : amBad X
    · rw [(molA_2 hb hbad).1]; simp [noA, tot]
    · rw [(molA_0 hb hbad).1]
      have h0 := (hM.lat 0 (by have := hM.pos; omega)).le
      have hl := hM.le
      have h1 := tot_bd (xss := amL (x3at X 0).length X ((x3at X 0).length * (x3at X 0).length)) (a := 12) (fun x hx => by
        obtain ⟨c, _, rfl⟩ := List.mem_map.1 hx
        simp [amRow]; omega)
      rw [amL_len] at h1
      have h2 := Nat.mul_le_mul h0 h0
      show tot (amL _ _ _) ≤ _
      omega
set_option maxHeartbeats 8000000 in
set_option maxRecDepth 100000 in
theorem FnExactArrayOfMols_law (w : World) (v : Value) (vs : List Value) (uss : List (List Value)) (X : List (List (List Int))) (hv : RIII w v vs uss X) :
    Calls Try.prog 7 #[v] w (GivesB w true) := by
  by_cases hz : sz3 1048576 X < 0
  · go_enter Try.func7, Try.ntmps7
    go_wp2_with fail
    refine (szInt64SSS_c v vs uss X _ _ hv (by omega)).mono ?_
    rintro e w1 ⟨rfl, rfl⟩
    go_wp2_with fail
    go_ret
    exact ⟨rfl, St.refl _⟩
  · have hq := sz3_le (left := 1048576) (X := X) (by omega)
    have Hz1 := Lib.hid (show X.length ≤ 1048576 by have := hq.1; omega)
    have Hz2 := Lib.hid hq.2.2
    have hx := hq.2.1
    have HN := Lib.hid (show Sml X from fun k hk x hx => by
      have := (hq.2.2 _ (x3at_mem hk)).row _ (xat_mem hx); omega)
    have Hb := Lib.hid (molA_tot X)
    have Hs := fun w v vs uss (hv : RIII w v vs uss X) => Lib.hid (sArrayOfMols_c v vs uss X w hv)
    have Hi := fun w v vs uss (hv : RIII w v vs uss X) => Lib.hid (ArrayOfMols_c v vs uss X w hv HN.out)
    generalize molA X = A at Hb Hs Hi
    generalize molAC X = cc at Hs Hi
    obtain ⟨l, d, R⟩ := A
    simp only at Hb
    have HeA := Lib.hid (show eqA l d l d R R = true by simp [eqA])
    have hcc : (cc != cc) = false := by simp
    have ht1 := Hb.out
    have htt : ((1 + (tot R : Int)) != (1 + (tot R : Int))) = false := by simp
    have hS0 := St.refl w
    clear hq
    go_enter Try.func7, Try.ntmps7
    go_wp2_with fail
    refine (szInt64SSS_c v vs uss X _ _ hv (by omega)).mono ?_
    rintro e w1 ⟨rfl, rfl⟩
    go_wp2_with fail
    refine (toInt64SSS_c v vs uss X _ (hS0.oldIII hv) Hz1.out Hz2.out).mono ?_
    rintro e w2 ⟨t2, tv2, tu2, rfl, hf2, h2⟩
    have hr2 := St.riii (L2 := []) (by rw [List.append_nil]; exact h2) hf2
    have hS1 : St w.heap.size w w2 (([])) := (hS0.call0 h2.out).perm (by classical exact List.perm_iff_count.2 (fun a => by simp only [List.cons_append, List.nil_append, List.append_nil, List.count_append, List.count_cons, List.count_nil] <;> omega))
    clear hS0 h2 hf2
    go_wp2_with fail
    refine (Hs _ _ _ _ hr2).out.mono ?_
    rintro e w3 ⟨vw3y, usw3y, rfl, hl3, h3⟩
    have Hl3 := Lib.hid hl3
    obtain ⟨a3, c3, rfl⟩ := (h3.rii hl3).1.sl.sh
    unfold av
    have hS2 : St w.heap.size w _ (box 59 w3.heap.size [.int .i64 l, .int .i64 d, .slice a3 usw3y.length c3] :: (own2 (.slice a3 usw3y.length c3) usw3y R ++ [])) := ((hS1.call h3).newboxF 59 #[.int .i64 l, .int .i64 d, .slice a3 usw3y.length c3]).perm (by classical exact List.perm_iff_count.2 (fun a => by simp only [List.cons_append, List.nil_append, List.append_nil, List.count_append, List.count_cons, List.count_nil] <;> omega))
    clear hS1 h3 hl3 hr2
    have b0_0 := hS2.bcell 0 rfl 0 rfl
    have b0_1 := hS2.bcell 0 rfl 1 rfl
    have b0_2 := hS2.bcell 0 rfl 2 rfl
    go_wp2_with fail
    refine (toInt64SSS_c v vs uss X _ (hS2.oldIII hv) Hz1.out Hz2.out).mono ?_
    rintro e w4 ⟨t4, tv4, tu4, rfl, hf4, h4⟩
    have Hf_x0 := Lib.hid hf4
    have hS3 : St w.heap.size w w4 (box 59 w3.heap.size [.int .i64 l, .int .i64 d, .slice a3 usw3y.length c3] :: (own3 t4 tv4 tu4 X ++ own2 (.slice a3 usw3y.length c3) usw3y R ++ [])) := (hS2.call h4).perm (by classical exact List.perm_iff_count.2 (fun a => by simp only [List.cons_append, List.nil_append, List.append_nil, List.count_append, List.count_cons, List.count_nil] <;> omega))
    clear b0_0 b0_1 b0_2 hS2 h4 hf4
    have b0_0 := hS3.bcell 0 rfl 0 rfl
    have b0_1 := hS3.bcell 0 rfl 1 rfl
    have b0_2 := hS3.bcell 0 rfl 2 rfl
    go_wp2_with fail
    refine (Hi _ _ _ _ (St.riii (hS3.perm (L' := own3 t4 tv4 tu4 X ++ (box 59 w3.heap.size [.int .i64 l, .int .i64 d, .slice a3 usw3y.length c3] :: (own2 (.slice a3 usw3y.length c3) usw3y R ++ []))) (by classical exact List.perm_iff_count.2 (fun a => by simp only [List.cons_append, List.nil_append, List.append_nil, List.count_append, List.count_cons, List.count_nil] <;> omega))) Hf_x0.out)).out.mono ?_
    rintro e w5 ⟨vw5y, usw5y, rfl, hl5, h5⟩
    have Hl5 := Lib.hid hl5
    obtain ⟨a5, c5, rfl⟩ := (h5.rii hl5).1.sl.sh
    unfold av
    have hS4 : St w.heap.size w _ (box 59 w5.heap.size [.int .i64 l, .int .i64 d, .slice a5 usw5y.length c5] :: box 59 w3.heap.size [.int .i64 l, .int .i64 d, .slice a3 usw3y.length c3] :: (own2 (.slice a5 usw5y.length c5) usw5y R ++ own3 t4 tv4 tu4 X ++ own2 (.slice a3 usw3y.length c3) usw3y R ++ [])) := ((hS3.call h5).newboxF 59 #[.int .i64 l, .int .i64 d, .slice a5 usw5y.length c5]).perm (by classical exact List.perm_iff_count.2 (fun a => by simp only [List.cons_append, List.nil_append, List.append_nil, List.count_append, List.count_cons, List.count_nil] <;> omega))
    clear b0_0 b0_1 b0_2 hS3 h5 hl5
    have b0_0 := hS4.bcell 0 rfl 0 rfl
    have b0_1 := hS4.bcell 0 rfl 1 rfl
    have b0_2 := hS4.bcell 0 rfl 2 rfl
    have b1_0 := hS4.bcell 1 rfl 0 rfl
    have b1_1 := hS4.bcell 1 rfl 1 rfl
    have b1_2 := hS4.bcell 1 rfl 2 rfl
    go_wp2_with fail
    refine (eqArray_c l d l d _ _ usw5y usw3y R R _ (rii2 (hS4.perm (L' := own2 (.slice a5 usw5y.length c5) usw5y R ++ (box 59 w5.heap.size [.int .i64 l, .int .i64 d, .slice a5 usw5y.length c5] :: box 59 w3.heap.size [.int .i64 l, .int .i64 d, .slice a3 usw3y.length c3] :: (own3 t4 tv4 tu4 X ++ own2 (.slice a3 usw3y.length c3) usw3y R ++ []))) (by classical exact List.perm_iff_count.2 (fun a => by simp only [List.cons_append, List.nil_append, List.append_nil, List.count_append, List.count_cons, List.count_nil] <;> omega))) Hl5.out) (rii2 (hS4.perm (L' := own2 (.slice a3 usw3y.length c3) usw3y R ++ (box 59 w5.heap.size [.int .i64 l, .int .i64 d, .slice a5 usw5y.length c5] :: box 59 w3.heap.size [.int .i64 l, .int .i64 d, .slice a3 usw3y.length c3] :: (own2 (.slice a5 usw5y.length c5) usw5y R ++ own3 t4 tv4 tu4 X ++ []))) (by classical exact List.perm_iff_count.2 (fun a => by simp only [List.cons_append, List.nil_append, List.append_nil, List.count_append, List.count_cons, List.count_nil] <;> omega))) Hl3.out)).mono ?_
    rw [HeA.out]
    rintro e w6 ⟨rfl, h6⟩
    have hS5 : St w.heap.size w w6 (box 59 w5.heap.size [.int .i64 l, .int .i64 d, .slice a5 usw5y.length c5] :: box 59 w3.heap.size [.int .i64 l, .int .i64 d, .slice a3 usw3y.length c3] :: (own2 (.slice a5 usw5y.length c5) usw5y R ++ own3 t4 tv4 tu4 X ++ own2 (.slice a3 usw3y.length c3) usw3y R ++ [])) := (hS4.call0 h6).perm (by classical exact List.perm_iff_count.2 (fun a => by simp only [List.cons_append, List.nil_append, List.append_nil, List.count_append, List.count_cons, List.count_nil] <;> omega))
    clear b0_0 b0_1 b0_2 b1_0 b1_1 b1_2 hS4 h6
    have b0_0 := hS5.bcell 0 rfl 0 rfl
    have b0_1 := hS5.bcell 0 rfl 1 rfl
    have b0_2 := hS5.bcell 0 rfl 2 rfl
    have b1_0 := hS5.bcell 1 rfl 0 rfl
    have b1_1 := hS5.bcell 1 rfl 1 rfl
    have b1_2 := hS5.bcell 1 rfl 2 rfl
    go_wp2_with fail
    refine (toInt64SSS_c v vs uss X _ (hS5.oldIII hv) Hz1.out Hz2.out).mono ?_
    rintro e w7 ⟨t7, tv7, tu7, rfl, hf7, h7⟩
    have hr7 := St.riii (L2 := []) (by rw [List.append_nil]; exact h7) hf7
    have hS6 : St w.heap.size w w7 (box 59 w5.heap.size [.int .i64 l, .int .i64 d, .slice a5 usw5y.length c5] :: box 59 w3.heap.size [.int .i64 l, .int .i64 d, .slice a3 usw3y.length c3] :: (own2 (.slice a5 usw5y.length c5) usw5y R ++ own3 t4 tv4 tu4 X ++ own2 (.slice a3 usw3y.length c3) usw3y R ++ [])) := (hS5.call0 h7.out).perm (by classical exact List.perm_iff_count.2 (fun a => by simp only [List.cons_append, List.nil_append, List.append_nil, List.count_append, List.count_cons, List.count_nil] <;> omega))
    clear b0_0 b0_1 b0_2 b1_0 b1_1 b1_2 hS5 h7 hf7
    have b0_0 := hS6.bcell 0 rfl 0 rfl
    have b0_1 := hS6.bcell 0 rfl 1 rfl
    have b0_2 := hS6.bcell 0 rfl 2 rfl
    have b1_0 := hS6.bcell 1 rfl 0 rfl
    have b1_1 := hS6.bcell 1 rfl 1 rfl
    have b1_2 := hS6.bcell 1 rfl 2 rfl
    go_wp2_with fail
    refine (eqInt64SSS_c _ _ tv4 tv7 tu4 tu7 X X _ (St.riii (hS6.perm (L' := own3 t4 tv4 tu4 X ++ (box 59 w5.heap.size [.int .i64 l, .int .i64 d, .slice a5 usw5y.length c5] :: box 59 w3.heap.size [.int .i64 l, .int .i64 d, .slice a3 usw3y.length c3] :: (own2 (.slice a5 usw5y.length c5) usw5y R ++ own2 (.slice a3 usw3y.length c3) usw3y R ++ []))) (by classical exact List.perm_iff_count.2 (fun a => by simp only [List.cons_append, List.nil_append, List.append_nil, List.count_append, List.count_cons, List.count_nil] <;> omega))) Hf_x0.out) hr7).mono ?_
    rw [show decide (X = X) = true from decide_eq_true rfl]
    rintro e w8 ⟨rfl, h8⟩
    have hS7 : St w.heap.size w w8 (box 59 w5.heap.size [.int .i64 l, .int .i64 d, .slice a5 usw5y.length c5] :: box 59 w3.heap.size [.int .i64 l, .int .i64 d, .slice a3 usw3y.length c3] :: (own2 (.slice a5 usw5y.length c5) usw5y R ++ own3 t4 tv4 tu4 X ++ own2 (.slice a3 usw3y.length c3) usw3y R ++ [])) := (hS6.call0 h8).perm (by classical exact List.perm_iff_count.2 (fun a => by simp only [List.cons_append, List.nil_append, List.append_nil, List.count_append, List.count_cons, List.count_nil] <;> omega))
    clear b0_0 b0_1 b0_2 b1_0 b1_1 b1_2 hS6 h8 hr7
    have b0_0 := hS7.bcell 0 rfl 0 rfl
    have b0_1 := hS7.bcell 0 rfl 1 rfl
    have b0_2 := hS7.bcell 0 rfl 2 rfl
    have b1_0 := hS7.bcell 1 rfl 0 rfl
    have b1_1 := hS7.bcell 1 rfl 1 rfl
    have b1_2 := hS7.bcell 1 rfl 2 rfl
    go_wp2_with fail
    refine (markInt64SSS_c _ tv4 tu4 X 1 (by omega) (by omega) Hf_x0.out (hS7.perm (L' := own3 t4 tv4 tu4 X ++ (box 59 w5.heap.size [.int .i64 l, .int .i64 d, .slice a5 usw5y.length c5] :: box 59 w3.heap.size [.int .i64 l, .int .i64 d, .slice a3 usw3y.length c3] :: (own2 (.slice a5 usw5y.length c5) usw5y R ++ own2 (.slice a3 usw3y.length c3) usw3y R ++ []))) (by classical exact List.perm_iff_count.2 (fun a => by simp only [List.cons_append, List.nil_append, List.append_nil, List.count_append, List.count_cons, List.count_nil] <;> omega)))).mono ?_
    rintro e w9 ⟨rfl, hm9⟩
    have hS8 : St w.heap.size w w9 (box 59 w5.heap.size [.int .i64 l, .int .i64 d, .slice a5 usw5y.length c5] :: box 59 w3.heap.size [.int .i64 l, .int .i64 d, .slice a3 usw3y.length c3] :: (own2 (.slice a5 usw5y.length c5) usw5y R ++ own3 t4 tv4 tu4 (mrk3 1 X) ++ own2 (.slice a3 usw3y.length c3) usw3y R ++ [])) := (hm9).perm (by classical exact List.perm_iff_count.2 (fun a => by simp only [List.cons_append, List.nil_append, List.append_nil, List.count_append, List.count_cons, List.count_nil] <;> omega))
    clear b0_0 b0_1 b0_2 b1_0 b1_1 b1_2 hS7 hm9
    have b0_0 := hS8.bcell 0 rfl 0 rfl
    have b0_1 := hS8.bcell 0 rfl 1 rfl
    have b0_2 := hS8.bcell 0 rfl 2 rfl
    have b1_0 := hS8.bcell 1 rfl 0 rfl
    have b1_1 := hS8.bcell 1 rfl 1 rfl
    have b1_2 := hS8.bcell 1 rfl 2 rfl
    go_wp2_with fail
    refine (eqArray_c l d l d _ _ usw5y usw3y R R _ (rii2 (hS8.perm (L' := own2 (.slice a5 usw5y.length c5) usw5y R ++ (box 59 w5.heap.size [.int .i64 l, .int .i64 d, .slice a5 usw5y.length c5] :: box 59 w3.heap.size [.int .i64 l, .int .i64 d, .slice a3 usw3y.length c3] :: (own3 t4 tv4 tu4 (mrk3 1 X) ++ own2 (.slice a3 usw3y.length c3) usw3y R ++ []))) (by classical exact List.perm_iff_count.2 (fun a => by simp only [List.cons_append, List.nil_append, List.append_nil, List.count_append, List.count_cons, List.count_nil] <;> omega))) Hl5.out) (rii2 (hS8.perm (L' := own2 (.slice a3 usw3y.length c3) usw3y R ++ (box 59 w5.heap.size [.int .i64 l, .int .i64 d, .slice a5 usw5y.length c5] :: box 59 w3.heap.size [.int .i64 l, .int .i64 d, .slice a3 usw3y.length c3] :: (own2 (.slice a5 usw5y.length c5) usw5y R ++ own3 t4 tv4 tu4 (mrk3 1 X) ++ []))) (by classical exact List.perm_iff_count.2 (fun a => by simp only [List.cons_append, List.nil_append, List.append_nil, List.count_append, List.count_cons, List.count_nil] <;> omega))) Hl3.out)).mono ?_
    rw [HeA.out]
    rintro e w10 ⟨rfl, h10⟩
    have hS9 : St w.heap.size w w10 (box 59 w5.heap.size [.int .i64 l, .int .i64 d, .slice a5 usw5y.length c5] :: box 59 w3.heap.size [.int .i64 l, .int .i64 d, .slice a3 usw3y.length c3] :: (own2 (.slice a5 usw5y.length c5) usw5y R ++ own3 t4 tv4 tu4 (mrk3 1 X) ++ own2 (.slice a3 usw3y.length c3) usw3y R ++ [])) := (hS8.call0 h10).perm (by classical exact List.perm_iff_count.2 (fun a => by simp only [List.cons_append, List.nil_append, List.append_nil, List.count_append, List.count_cons, List.count_nil] <;> omega))
    clear b0_0 b0_1 b0_2 b1_0 b1_1 b1_2 hS8 h10
    have b0_0 := hS9.bcell 0 rfl 0 rfl
    have b0_1 := hS9.bcell 0 rfl 1 rfl
    have b0_2 := hS9.bcell 0 rfl 2 rfl
    have b1_0 := hS9.bcell 1 rfl 0 rfl
    have b1_1 := hS9.bcell 1 rfl 1 rfl
    have b1_2 := hS9.bcell 1 rfl 2 rfl
    go_wp2_with fail
    refine (markArray_c l d _ usw5y R 1 (by omega) (by omega) Hl5.out (hS9.perm (L' := own2 (.slice a5 usw5y.length c5) usw5y R ++ (box 59 w5.heap.size [.int .i64 l, .int .i64 d, .slice a5 usw5y.length c5] :: box 59 w3.heap.size [.int .i64 l, .int .i64 d, .slice a3 usw3y.length c3] :: (own3 t4 tv4 tu4 (mrk3 1 X) ++ own2 (.slice a3 usw3y.length c3) usw3y R ++ []))) (by classical exact List.perm_iff_count.2 (fun a => by simp only [List.cons_append, List.nil_append, List.append_nil, List.count_append, List.count_cons, List.count_nil] <;> omega)))).mono ?_
    rintro e w11 ⟨rfl, hm11⟩
    have hS10 : St w.heap.size w w11 (box 59 w5.heap.size [.int .i64 l, .int .i64 d, .slice a5 usw5y.length c5] :: box 59 w3.heap.size [.int .i64 l, .int .i64 d, .slice a3 usw3y.length c3] :: (own2 (.slice a5 usw5y.length c5) usw5y (mrkL 1 R) ++ own3 t4 tv4 tu4 (mrk3 1 X) ++ own2 (.slice a3 usw3y.length c3) usw3y R ++ [])) := (hm11).perm (by classical exact List.perm_iff_count.2 (fun a => by simp only [List.cons_append, List.nil_append, List.append_nil, List.count_append, List.count_cons, List.count_nil] <;> omega))
    clear b0_0 b0_1 b0_2 b1_0 b1_1 b1_2 hS9 hm11
    have b0_0 := hS10.bcell 0 rfl 0 rfl
    have b0_1 := hS10.bcell 0 rfl 1 rfl
    have b0_2 := hS10.bcell 0 rfl 2 rfl
    have b1_0 := hS10.bcell 1 rfl 0 rfl
    have b1_1 := hS10.bcell 1 rfl 1 rfl
    have b1_2 := hS10.bcell 1 rfl 2 rfl
    go_wp2_with fail
    refine (heldArray_c l d _ usw5y R 1 _ (by omega) (by omega) (rii2 (hS10.perm (L' := own2 (.slice a5 usw5y.length c5) usw5y (mrkL 1 R) ++ (box 59 w5.heap.size [.int .i64 l, .int .i64 d, .slice a5 usw5y.length c5] :: box 59 w3.heap.size [.int .i64 l, .int .i64 d, .slice a3 usw3y.length c3] :: (own3 t4 tv4 tu4 (mrk3 1 X) ++ own2 (.slice a3 usw3y.length c3) usw3y R ++ []))) (by classical exact List.perm_iff_count.2 (fun a => by simp only [List.cons_append, List.nil_append, List.append_nil, List.count_append, List.count_cons, List.count_nil] <;> omega))) (by rw [mrkL_len]; exact Hl5.out))).mono ?_
    rintro e w12 ⟨rfl, h12⟩
    have hS11 : St w.heap.size w w12 (box 59 w5.heap.size [.int .i64 l, .int .i64 d, .slice a5 usw5y.length c5] :: box 59 w3.heap.size [.int .i64 l, .int .i64 d, .slice a3 usw3y.length c3] :: (own2 (.slice a5 usw5y.length c5) usw5y (mrkL 1 R) ++ own3 t4 tv4 tu4 (mrk3 1 X) ++ own2 (.slice a3 usw3y.length c3) usw3y R ++ [])) := (hS10.call0 h12).perm (by classical exact List.perm_iff_count.2 (fun a => by simp only [List.cons_append, List.nil_append, List.append_nil, List.count_append, List.count_cons, List.count_nil] <;> omega))
    clear b0_0 b0_1 b0_2 b1_0 b1_1 b1_2 hS10 h12
    have b0_0 := hS11.bcell 0 rfl 0 rfl
    have b0_1 := hS11.bcell 0 rfl 1 rfl
    have b0_2 := hS11.bcell 0 rfl 2 rfl
    have b1_0 := hS11.bcell 1 rfl 0 rfl
    have b1_1 := hS11.bcell 1 rfl 1 rfl
    have b1_2 := hS11.bcell 1 rfl 2 rfl
    go_wp2_with fail
    refine (toInt64SSS_c v vs uss X _ (hS11.oldIII hv) Hz1.out Hz2.out).mono ?_
    rintro e w13 ⟨t13, tv13, tu13, rfl, hf13, h13⟩
    have hr13 := St.riii (L2 := []) (by rw [List.append_nil]; exact h13) hf13
    have hS12 : St w.heap.size w w13 (box 59 w5.heap.size [.int .i64 l, .int .i64 d, .slice a5 usw5y.length c5] :: box 59 w3.heap.size [.int .i64 l, .int .i64 d, .slice a3 usw3y.length c3] :: (own2 (.slice a5 usw5y.length c5) usw5y (mrkL 1 R) ++ own3 t4 tv4 tu4 (mrk3 1 X) ++ own2 (.slice a3 usw3y.length c3) usw3y R ++ [])) := (hS11.call0 h13.out).perm (by classical exact List.perm_iff_count.2 (fun a => by simp only [List.cons_append, List.nil_append, List.append_nil, List.count_append, List.count_cons, List.count_nil] <;> omega))
    clear b0_0 b0_1 b0_2 b1_0 b1_1 b1_2 hS11 h13 hf13
    have b0_0 := hS12.bcell 0 rfl 0 rfl
    have b0_1 := hS12.bcell 0 rfl 1 rfl
    have b0_2 := hS12.bcell 0 rfl 2 rfl
    have b1_0 := hS12.bcell 1 rfl 0 rfl
    have b1_1 := hS12.bcell 1 rfl 1 rfl
    have b1_2 := hS12.bcell 1 rfl 2 rfl
    go_wp2_with fail
    refine (Hi _ _ _ _ hr13).out.mono ?_
    rintro e w14 ⟨vw14y, usw14y, rfl, hl14, h14⟩
    have Hl14 := Lib.hid hl14
    obtain ⟨a14, c14, rfl⟩ := (h14.rii hl14).1.sl.sh
    unfold av
    have hS13 : St w.heap.size w _ (box 59 w14.heap.size [.int .i64 l, .int .i64 d, .slice a14 usw14y.length c14] :: box 59 w5.heap.size [.int .i64 l, .int .i64 d, .slice a5 usw5y.length c5] :: box 59 w3.heap.size [.int .i64 l, .int .i64 d, .slice a3 usw3y.length c3] :: (own2 (.slice a14 usw14y.length c14) usw14y R ++ own2 (.slice a5 usw5y.length c5) usw5y (mrkL 1 R) ++ own3 t4 tv4 tu4 (mrk3 1 X) ++ own2 (.slice a3 usw3y.length c3) usw3y R ++ [])) := ((hS12.call h14).newboxF 59 #[.int .i64 l, .int .i64 d, .slice a14 usw14y.length c14]).perm (by classical exact List.perm_iff_count.2 (fun a => by simp only [List.cons_append, List.nil_append, List.append_nil, List.count_append, List.count_cons, List.count_nil] <;> omega))
    clear b0_0 b0_1 b0_2 b1_0 b1_1 b1_2 hS12 h14 hl14 hr13
    have b0_0 := hS13.bcell 0 rfl 0 rfl
    have b0_1 := hS13.bcell 0 rfl 1 rfl
    have b0_2 := hS13.bcell 0 rfl 2 rfl
    have b1_0 := hS13.bcell 1 rfl 0 rfl
    have b1_1 := hS13.bcell 1 rfl 1 rfl
    have b1_2 := hS13.bcell 1 rfl 2 rfl
    have b2_0 := hS13.bcell 2 rfl 0 rfl
    have b2_1 := hS13.bcell 2 rfl 1 rfl
    have b2_2 := hS13.bcell 2 rfl 2 rfl
    go_wp2_with fail
    refine (eqArray_c l d l d _ _ usw14y usw3y R R _ (rii2 (hS13.perm (L' := own2 (.slice a14 usw14y.length c14) usw14y R ++ (box 59 w14.heap.size [.int .i64 l, .int .i64 d, .slice a14 usw14y.length c14] :: box 59 w5.heap.size [.int .i64 l, .int .i64 d, .slice a5 usw5y.length c5] :: box 59 w3.heap.size [.int .i64 l, .int .i64 d, .slice a3 usw3y.length c3] :: (own2 (.slice a5 usw5y.length c5) usw5y (mrkL 1 R) ++ own3 t4 tv4 tu4 (mrk3 1 X) ++ own2 (.slice a3 usw3y.length c3) usw3y R ++ []))) (by classical exact List.perm_iff_count.2 (fun a => by simp only [List.cons_append, List.nil_append, List.append_nil, List.count_append, List.count_cons, List.count_nil] <;> omega))) Hl14.out) (rii2 (hS13.perm (L' := own2 (.slice a3 usw3y.length c3) usw3y R ++ (box 59 w14.heap.size [.int .i64 l, .int .i64 d, .slice a14 usw14y.length c14] :: box 59 w5.heap.size [.int .i64 l, .int .i64 d, .slice a5 usw5y.length c5] :: box 59 w3.heap.size [.int .i64 l, .int .i64 d, .slice a3 usw3y.length c3] :: (own2 (.slice a14 usw14y.length c14) usw14y R ++ own2 (.slice a5 usw5y.length c5) usw5y (mrkL 1 R) ++ own3 t4 tv4 tu4 (mrk3 1 X) ++ []))) (by classical exact List.perm_iff_count.2 (fun a => by simp only [List.cons_append, List.nil_append, List.append_nil, List.count_append, List.count_cons, List.count_nil] <;> omega))) Hl3.out)).mono ?_
    rw [HeA.out]
    rintro e w15 ⟨rfl, h15⟩
    have hS14 : St w.heap.size w w15 (box 59 w14.heap.size [.int .i64 l, .int .i64 d, .slice a14 usw14y.length c14] :: box 59 w5.heap.size [.int .i64 l, .int .i64 d, .slice a5 usw5y.length c5] :: box 59 w3.heap.size [.int .i64 l, .int .i64 d, .slice a3 usw3y.length c3] :: (own2 (.slice a14 usw14y.length c14) usw14y R ++ own2 (.slice a5 usw5y.length c5) usw5y (mrkL 1 R) ++ own3 t4 tv4 tu4 (mrk3 1 X) ++ own2 (.slice a3 usw3y.length c3) usw3y R ++ [])) := (hS13.call0 h15).perm (by classical exact List.perm_iff_count.2 (fun a => by simp only [List.cons_append, List.nil_append, List.append_nil, List.count_append, List.count_cons, List.count_nil] <;> omega))
    clear b0_0 b0_1 b0_2 b1_0 b1_1 b1_2 b2_0 b2_1 b2_2 hS13 h15
    have b0_0 := hS14.bcell 0 rfl 0 rfl
    have b0_1 := hS14.bcell 0 rfl 1 rfl
    have b0_2 := hS14.bcell 0 rfl 2 rfl
    have b1_0 := hS14.bcell 1 rfl 0 rfl
    have b1_1 := hS14.bcell 1 rfl 1 rfl
    have b1_2 := hS14.bcell 1 rfl 2 rfl
    have b2_0 := hS14.bcell 2 rfl 0 rfl
    have b2_1 := hS14.bcell 2 rfl 1 rfl
    have b2_2 := hS14.bcell 2 rfl 2 rfl
    go_wp2_with fail
    refine (heldArray_c l d _ usw5y R 1 _ (by omega) (by omega) (rii2 (hS14.perm (L' := own2 (.slice a5 usw5y.length c5) usw5y (mrkL 1 R) ++ (box 59 w14.heap.size [.int .i64 l, .int .i64 d, .slice a14 usw14y.length c14] :: box 59 w5.heap.size [.int .i64 l, .int .i64 d, .slice a5 usw5y.length c5] :: box 59 w3.heap.size [.int .i64 l, .int .i64 d, .slice a3 usw3y.length c3] :: (own2 (.slice a14 usw14y.length c14) usw14y R ++ own3 t4 tv4 tu4 (mrk3 1 X) ++ own2 (.slice a3 usw3y.length c3) usw3y R ++ []))) (by classical exact List.perm_iff_count.2 (fun a => by simp only [List.cons_append, List.nil_append, List.append_nil, List.count_append, List.count_cons, List.count_nil] <;> omega))) (by rw [mrkL_len]; exact Hl5.out))).mono ?_
    rintro e w16 ⟨rfl, h16⟩
    have hS15 : St w.heap.size w w16 (box 59 w14.heap.size [.int .i64 l, .int .i64 d, .slice a14 usw14y.length c14] :: box 59 w5.heap.size [.int .i64 l, .int .i64 d, .slice a5 usw5y.length c5] :: box 59 w3.heap.size [.int .i64 l, .int .i64 d, .slice a3 usw3y.length c3] :: (own2 (.slice a14 usw14y.length c14) usw14y R ++ own2 (.slice a5 usw5y.length c5) usw5y (mrkL 1 R) ++ own3 t4 tv4 tu4 (mrk3 1 X) ++ own2 (.slice a3 usw3y.length c3) usw3y R ++ [])) := (hS14.call0 h16).perm (by classical exact List.perm_iff_count.2 (fun a => by simp only [List.cons_append, List.nil_append, List.append_nil, List.count_append, List.count_cons, List.count_nil] <;> omega))
    clear b0_0 b0_1 b0_2 b1_0 b1_1 b1_2 b2_0 b2_1 b2_2 hS14 h16
    have b0_0 := hS15.bcell 0 rfl 0 rfl
    have b0_1 := hS15.bcell 0 rfl 1 rfl
    have b0_2 := hS15.bcell 0 rfl 2 rfl
    have b1_0 := hS15.bcell 1 rfl 0 rfl
    have b1_1 := hS15.bcell 1 rfl 1 rfl
    have b1_2 := hS15.bcell 1 rfl 2 rfl
    have b2_0 := hS15.bcell 2 rfl 0 rfl
    have b2_1 := hS15.bcell 2 rfl 1 rfl
    have b2_2 := hS15.bcell 2 rfl 2 rfl
    go_wp2_with fail
    go_ret
    exact ⟨rfl, hS15.out⟩
end Go.Proofs.Ytpfgbbbjldpnnaa
