/- Walks: MolsOfArray of the reference. -/
import Derived.Test.YtmkfafhgcnbcaaaMol
namespace Go.Proofs.Ytmkfafhgcnbcaaa
set_option linter.unusedSimpArgs false
set_option linter.unusedVariables false
open Go.RowKit
attribute [local go_sem ↓] Go.wp_at_zero Go.wp_at_succ

set_option maxHeartbeats 16000000 in
set_option maxRecDepth 100000 in
theorem sMolsOfArray_c (lv co : Int) (v : Value) (us : List Value) (rows : List (List Int)) (w : World) (hv : RII w v us rows) :
    Calls Try.prog 57 #[av lv co v] w (MakesIIIC w (molsM lv co rows) (molsC lv co rows)) := by
  have hS0 := (St.refl w).newboxF 51 #[.int .i64 lv, .int .i64 co, v]
  have hB0 : BoxA _ w.heap.size lv co v := ⟨hS0.bcell 0 rfl 0 rfl, hS0.bcell 0 rfl 1 rfl, hS0.bcell 0 rfl 2 rfl⟩
  have HV := Lib.hid (l16Ok_c lv co w.heap.size v us rows _ (hS0.oldII hv) hB0)
  unfold av
  cases hok : okA lv co rows
  · have HC := Lib.hid (show molsC lv co rows = 1 by rw [molsC, if_neg (by rw [hok]; simp)])
    have HM := Lib.hid (show molsM lv co rows = [] by rw [molsM, HC.out]; rfl)
    have Hok := Lib.hid hok; clear hok
    go_enter Try.func57, Try.ntmps57
    go_wp2_with fail
    refine HV.out.mono ?_
    rw [Hok.out]
    rintro e w1 ⟨rfl, h1⟩
    have hS1 := hS0.call0 h1
    go_wp2_with fail
    go_ret2
    exact MakesIIIC.no HM.out HC.out hS1
  · obtain ⟨hsh, hlen, hrow⟩ := okA_t hok
    obtain ⟨l2, l16, co1, co8⟩ := shapeB_t hsh
    have Hok := Lib.hid hok
    by_cases h3 : co < 3
    · have HC := Lib.hid (show molsC lv co rows = 6 by rw [molsC, if_pos hok, if_pos (.inl h3)])
      have HM := Lib.hid (show molsM lv co rows = [] by rw [molsM, HC.out]; rfl)
      clear hok hsh hrow
      go_enter Try.func57, Try.ntmps57
      go_wp2_with fail
      refine HV.out.mono ?_
      rw [Hok.out]
      rintro e w1 ⟨rfl, h1⟩
      have hS1 := hS0.call0 h1
      have b0 := hS1.bcell 0 rfl 0 rfl
      have b1 := hS1.bcell 0 rfl 1 rfl
      have b2 := hS1.bcell 0 rfl 2 rfl
      go_wp2_with fail
      go_ret2
      exact MakesIIIC.no HM.out HC.out hS1
    · by_cases h10 : 10 < lv
      · have HC := Lib.hid (show molsC lv co rows = 6 by rw [molsC, if_pos hok, if_pos (.inr (.inl h10))])
        have HM := Lib.hid (show molsM lv co rows = [] by rw [molsM, HC.out]; rfl)
        clear hok hsh hrow
        go_enter Try.func57, Try.ntmps57
        go_wp2_with fail
        refine HV.out.mono ?_
        rw [Hok.out]
        rintro e w1 ⟨rfl, h1⟩
        have hS1 := hS0.call0 h1
        have b0 := hS1.bcell 0 rfl 0 rfl
        have b1 := hS1.bcell 0 rfl 1 rfl
        have b2 := hS1.bcell 0 rfl 2 rfl
        go_wp2_with fail
        go_ret2
        exact MakesIIIC.no HM.out HC.out hS1
      · obtain ⟨C, rfl⟩ := Int.eq_ofNat_of_zero_le (show 0 ≤ co by omega)
        obtain ⟨n, rfl⟩ := Int.eq_ofNat_of_zero_le (show 0 ≤ lv by omega)
        have HI := fun W (h : RII W v us rows) (hb : BoxA W w.heap.size n C v) => Lib.hid (l16Index_c n C w.heap.size v us rows 2 W h hb l2 l16 (by omega) (by omega) (by omega) hrow hlen)
        by_cases hst : strN n C rows 2 = 1
        · have f1 := ne_f hst
          have HC := Lib.hid (show molsC n C rows = 0 by rw [molsC, if_pos hok, if_neg]; rintro (h | h | h); exact h3 h; exact h10 h; exact h (by simpa using hst))
          have HM := Lib.hid (show molsM n C rows = molX n (C - 2) rows rows.length 0 by
            rw [molsM, if_pos HC.out, Int.toNat_natCast, show ((C : Int) - 2).toNat = C - 2 by omega])
          obtain ⟨m, hmC⟩ : ∃ m, C = m + 2 := ⟨C - 2, by omega⟩
          have HM2 := Lib.hid (show molsM n C rows = molX n m rows rows.length 0 by rw [HM.out, show C - 2 = m by omega])
          have hm1 : (m : Int) + 2 ≤ (C : Int) := by omega
          have hm2 : (C : Int) ≤ (m : Int) + 2 := by omega
          have hm6 : m ≤ 6 := by omega
          have Hrl := Lib.hid (fun i (hi : i < rows.length) => show (xat rows i).length = m + 2 by have := (hrow _ (xat_mem hi)).1; omega)
          have Hre := Lib.hid (fun i j (hi : i < rows.length) (hj : j < m + 2) => show ∃ x : Nat, nth (xat rows i) j = x ∧ x < n by
            have h1 := hrow _ (xat_mem hi)
            have h2 := h1.2 _ (nth_mem (xs := xat rows i) (j := j) (by omega))
            exact ⟨(nth (xat rows i) j).toNat, by omega, by omega⟩)
          have hES := fun W => Lib.hid (l06Zero_c n W (by omega))
          have hlr := hv.len
          have xr := hv.ixe
          have Hv := Lib.hid hv
          have HxX := Lib.hid (fun k (hk : k < m) => show x3at (molX n m rows rows.length 0) k = sqs n (k + 2) rows by rw [molX_at hk, if_neg (by omega), List.take_length])
          have HXl := Lib.hid (show (molX n m rows rows.length 0).length = m from molX_len)
          generalize molX n m rows rows.length 0 = X at *
          clear hok hsh hrow hst hmC
          go_enter Try.func57, Try.ntmps57
          go_wp2_with fail
          refine HV.out.mono ?_
          rw [Hok.out]
          rintro e w1 ⟨rfl, h1⟩
          have hS1 := hS0.call0 h1
          have b0 := hS1.bcell 0 rfl 0 rfl
          have b1 := hS1.bcell 0 rfl 1 rfl
          have b2 := hS1.bcell 0 rfl 2 rfl
          go_wp2_with fail
          refine (HI _ (hS1.oldII hv) ⟨b0, b1, b2⟩).out.mono ?_
          rintro e w2 ⟨rfl, h2⟩
          have hS2 := hS1.call0 h2
          have hS3 : St w.heap.size w (w2.alloc (.cells #[] 25)) (own3 (.slice (some ⟨w2.heap.size, 0, none⟩) 0 0) [] [] (X.take 0) ++ [box 51 w.heap.size [.int .i64 (n : Int), .int .i64 (C : Int), v]]) := (hS2.new 25 #[] (by simp)).perm List.perm_append_comm
          clear hS0 hS1 hS2 h1 h2 HV HI hv b0 b1 b2 hB0
          go_wp2_with fail
          go_loopw [4, 5, 6, 7] (fun oo cc _ _ wr => ∃ (k : Nat) (vs : List Value) (uss : List (List Value)), k ≤ m ∧ cc = .int .i64 ((k : Int) + 2) ∧ Hid (Fit3 vs uss (X.take k)) ∧ St w.heap.size w wr (own3 oo vs uss (X.take k) ++ [box 51 w.heap.size [.int .i64 (n : Int), .int .i64 (C : Int), v]])) (fun _ cc _ _ _ => m + 2 - (intOf cc).toNat)
          case atStart => exact ⟨0, [], [], by omega, rfl, fit_nil, hS3⟩
          case round =>
            obtain ⟨k, vs, uss, hk, rfl, hfit, hS⟩ := hrel
            have hB := hS.perm List.perm_append_comm
            have b0 := hB.bcell 0 rfl 0 rfl
            have b1 := hB.bcell 0 rfl 1 rfl
            have b2 := hB.bcell 0 rfl 2 rfl
            by_cases hlt : k < m
            · have Hvl := Lib.hid (show vs.length < 4294967296 by have := hfit.out.1; rw [List.length_take] at this; omega)
              have Htk := Lib.hid (show X.take (k + 1) = X.take k ++ [sqs n (k + 2) rows] by rw [take_x3at (by rw [HXl.out]; exact hlt), HxX.out k hlt])
              clear hB
              go_wp2_with fail
              refine (hES _).out.mono ?_
              rintro e w4 ⟨v4, u4', rfl, hl4, h4⟩
              obtain ⟨a4, c4, he4⟩ := (h4.rd 0 rfl).sl.sh
              subst he4
              have hS4 : St w.heap.size w w4 (own2 (.slice a4 u4'.length c4) u4' (sqs n (k + 2) (rows.take 0)) ++ (own3 u4 vs uss (X.take k) ++ [box 51 w.heap.size [.int .i64 (n : Int), .int .i64 (C : Int), v]])) := (hS.call h4).perm List.perm_append_comm
              have Hl4 := Lib.hid (show u4'.length = n by rw [hl4, sqF_len])
              clear hl4 h4 b0 b1 b2
              go_wp2_with fail
              go_loopw [7] (fun ii wx => ∃ i : Nat, i ≤ rows.length ∧ ii = .int .i64 i ∧ St w.heap.size w wx (own2 (.slice a4 u4'.length c4) u4' (sqs n (k + 2) (rows.take i)) ++ (own3 u4 vs uss (X.take k) ++ [box 51 w.heap.size [.int .i64 (n : Int), .int .i64 (C : Int), v]]))) (fun ii _ => rows.length - (intOf ii).toNat)
              case atStart => exact ⟨0, by omega, rfl, hS4⟩
              case round =>
                obtain ⟨i, hi, rfl, hS⟩ := hrel
                have hB := (hS.perm List.perm_append_comm).perm (L' := box 51 w.heap.size [.int .i64 (n : Int), .int .i64 (C : Int), v] :: (own3 u4 vs uss (X.take k) ++ own2 (.slice a4 u4'.length c4) u4' (sqs n (k + 2) (rows.take i)))) (by
                  rw [List.append_assoc]
                  exact List.perm_middle)
                have b2 := hB.bcell 0 rfl 2 rfl
                clear hB
                by_cases hil : i < rows.length
                · have ci := (hS.oldII Hv.out).cell i hil
                  have xi := xr (i : Int) i rfl hil
                  have Hln := Lib.hid (Hrl.out i hil)
                  obtain ⟨r0, hr0, hr0n⟩ := Hre.out i 0 hil (by omega)
                  obtain ⟨r1, hr1, hr1n⟩ := Hre.out i 1 hil (by omega)
                  have Hr0 := Lib.hid hr0
                  have Hr1 := Lib.hid hr1
                  have Hvr := Lib.hid (Hv.out.row i hil)
                  have hsq := sqs_sq n (k + 2) (rows.take i)
                  have Hstep := Lib.hid (show sqs n (k + 2) (rows.take (i + 1)) = (sqs n (k + 2) (rows.take i)).set r0 ((xat (sqs n (k + 2) (rows.take i)) r0).set r1 (nth (xat rows i) (k + 2))) by
                    rw [take_xat hil, sqs_snoc]; unfold stepS put2; rw [Hr0.out, Hr1.out, Int.toNat_natCast, Int.toNat_natCast])
                  have hr0l : r0 < (sqs n (k + 2) (rows.take i)).length := by rw [hsq.1]; exact hr0n
                  have hr1l : r1 < (xat (sqs n (k + 2) (rows.take i)) r0).length := by rw [hsq.at hr0n]; exact hr1n
                  have hl : u4'.length = (sqs n (k + 2) (rows.take i)).length := by rw [Hl4.out, hsq.1]
                  have hat := hS.at_row hl hr0l
                  have z0 := (rii2 hS hl).cell r0 hr0l
                  have x0 := (rii2 hS hl).ixe (r0 : Int) r0 rfl hr0l
                  have x1 := (hS.rdI (r0 + 1) hat).ixe (r1 : Int) r1 rfl hr1l
                  have co1 := (hS.rdI (r0 + 1) hat).cell r1 hr1l
                  have u1 := hS.unfrozen (r0 + 1) hat (j := r1) (by rw [iv_len]; exact hr1l)
                  have y0 := (hS.oldI Hvr.out).cell 0 (by rw [Hln.out]; omega)
                  have y1 := (hS.oldI Hvr.out).cell 1 (by rw [Hln.out]; omega)
                  have y2 := (hS.oldI Hvr.out).cell (k + 2) (by rw [Hln.out]; omega)
                  rw [Hr0.out] at y0
                  rw [Hr1.out] at y1
                  have xy0 := Hvr.out.ixe 0 0 rfl (by rw [Hln.out]; omega)
                  have xy1 := Hvr.out.ixe 1 1 rfl (by rw [Hln.out]; omega)
                  have xy2 := Hvr.out.ixe ((k : Int) + 2) (k + 2) (by push_cast; rfl) (by rw [Hln.out]; omega)
                  have Hl := Lib.hid hl
                  have Hat := Lib.hid hat
                  have Hr0l := Lib.hid hr0l
                  have Hr1l := Lib.hid hr1l
                  generalize hvr : vat us i = vr at ci Hvr y0 y1 y2 xy0 xy1 xy2
                  clear hsq hl hr0l hr1l hat hr0 hr1 hvr
                  go_wp2_with fail
                  refine regionG (fun w' => w'.cell? ⟨w.heap.size, 2, none⟩ = some v ∧ w'.cell? (el v i) = some vr ∧ w'.cell? (el vr 0) = some (.int .i64 r0) ∧ w'.cell? (el (.slice a4 u4'.length c4) r0) = some (vat u4' r0) ∧ w'.cell? (el vr 1) = some (.int .i64 r1) ∧ w'.cell? (el vr (k + 2)) = some (.int .i64 (nth (xat rows i) (k + 2)))) 26 (by kernel_rfl) ⟨cell_dr b2, cell_dr ci, cell_dr y0, cell_dr z0, cell_dr y1, cell_dr y2⟩ (fun hHeld => ?_)
                  refine takeP (i := 0) (v := ?_) rfl (by kernel_rfl) (fun _ _ _ h => h) (by rfl) ?_ (by assumption) ?_
                  case refine_2 => (intro w'; go_simp; first | done | with_reducible rfl)
                  try simp only [Act.put, List.setIfInBounds_toArray, List.set_cons_zero, List.set_cons_succ]
                  refine takeP (i := 1) (v := ?_) rfl (by kernel_rfl) (fun _ _ _ h => h) (by rfl) ?_ (by assumption) ?_
                  case refine_2 => (intro w'; go_simp; first | done | with_reducible rfl)
                  try simp only [Act.put, List.setIfInBounds_toArray, List.set_cons_zero, List.set_cons_succ]
                  refine takeH (i := 2) [4, 5, 6, 7, 8, 9, 25] (v := ?_) rfl (by kernel_rfl) (fun _ _ _ h => h) (by rfl) ?_ (by assumption) ?_
                  case refine_2 => (intro w' hSw; (try dsimp only at hSw); go_simp; first | done | with_reducible rfl)
                  try simp only [Act.put, List.setIfInBounds_toArray, List.set_cons_zero, List.set_cons_succ]
                  refine takeP (i := 3) (v := ?_) rfl (by kernel_rfl) (fun _ _ _ h => h) (by rfl) ?_ (by assumption) ?_
                  case refine_2 => (intro w'; go_simp; first | done | with_reducible rfl)
                  try simp only [Act.put, List.setIfInBounds_toArray, List.set_cons_zero, List.set_cons_succ]
                  refine takeP (i := 4) (v := ?_) rfl (by kernel_rfl) (fun _ _ _ h => h) (by rfl) ?_ (by assumption) ?_
                  case refine_2 => (intro w'; go_simp; first | done | with_reducible rfl)
                  try simp only [Act.put, List.setIfInBounds_toArray, List.set_cons_zero, List.set_cons_succ]
                  refine takeH (i := 5) [6, 7, 8, 9, 25] (v := ?_) rfl (by kernel_rfl) (fun _ _ _ h => h) (by rfl) ?_ (by assumption) ?_
                  case refine_2 => (intro w' hSw; (try dsimp only at hSw); go_simp; first | done | with_reducible rfl)
                  try simp only [Act.put, List.setIfInBounds_toArray, List.set_cons_zero, List.set_cons_succ]
                  refine takeP (i := 6) (v := ?_) rfl (by kernel_rfl) (fun _ _ _ h => h) (by rfl) ?_ (by assumption) ?_
                  case refine_2 => (intro w'; go_simp; first | done | with_reducible rfl)
                  try simp only [Act.put, List.setIfInBounds_toArray, List.set_cons_zero, List.set_cons_succ]
                  refine takeH (i := 7) [8, 9, 25] (v := ?_) rfl (by kernel_rfl) (fun _ _ _ h => h) (by rfl) ?_ (by assumption) ?_
                  case refine_2 => (intro w' hSw; (try dsimp only at hSw); go_simp; first | done | with_reducible rfl)
                  try simp only [Act.put, List.setIfInBounds_toArray, List.set_cons_zero, List.set_cons_succ]
                  refine takeP (i := 8) (v := ?_) rfl (by kernel_rfl) (fun _ _ _ h => h) (by rfl) ?_ (by assumption) ?_
                  case refine_2 => (intro w'; go_simp; first | done | with_reducible rfl)
                  try simp only [Act.put, List.setIfInBounds_toArray, List.set_cons_zero, List.set_cons_succ]
                  refine takeH (i := 9) [25] (v := ?_) rfl (by kernel_rfl) (fun _ _ _ h => h) (by rfl) ?_ (by assumption) ?_
                  case refine_2 => (intro w' hSw; (try dsimp only at hSw); go_simp; first | done | with_reducible rfl)
                  try simp only [Act.put, List.setIfInBounds_toArray, List.set_cons_zero, List.set_cons_succ]
                  refine takeP (i := 10) (v := ?_) rfl (by kernel_rfl) (fun _ _ _ h => h) (by rfl) ?_ (by assumption) ?_
                  case refine_2 => (intro w'; go_simp; first | done | with_reducible rfl)
                  try simp only [Act.put, List.setIfInBounds_toArray, List.set_cons_zero, List.set_cons_succ]
                  refine takeH (i := 11) [13, 14, 15, 16, 25] (v := ?_) rfl (by kernel_rfl) (fun _ _ _ h => h) (by rfl) ?_ (by assumption) ?_
                  case refine_2 => (intro w' hSw; (try dsimp only at hSw); go_simp; first | done | with_reducible rfl)
                  try simp only [Act.put, List.setIfInBounds_toArray, List.set_cons_zero, List.set_cons_succ]
                  refine takeP (i := 12) (v := ?_) rfl (by kernel_rfl) (fun _ _ _ h => h) (by rfl) ?_ (by assumption) ?_
                  case refine_2 => (intro w'; go_simp; first | done | with_reducible rfl)
                  try simp only [Act.put, List.setIfInBounds_toArray, List.set_cons_zero, List.set_cons_succ]
                  refine takeP (i := 13) (v := ?_) rfl (by kernel_rfl) (fun _ _ _ h => h) (by rfl) ?_ (by assumption) ?_
                  case refine_2 => (intro w'; go_simp; first | done | with_reducible rfl)
                  try simp only [Act.put, List.setIfInBounds_toArray, List.set_cons_zero, List.set_cons_succ]
                  refine takeH (i := 14) [15, 16, 25] (v := ?_) rfl (by kernel_rfl) (fun _ _ _ h => h) (by rfl) ?_ (by assumption) ?_
                  case refine_2 => (intro w' hSw; (try dsimp only at hSw); go_simp; first | done | with_reducible rfl)
                  try simp only [Act.put, List.setIfInBounds_toArray, List.set_cons_zero, List.set_cons_succ]
                  refine takeP (i := 15) (v := ?_) rfl (by kernel_rfl) (fun _ _ _ h => h) (by rfl) ?_ (by assumption) ?_
                  case refine_2 => (intro w'; go_simp; first | done | with_reducible rfl)
                  try simp only [Act.put, List.setIfInBounds_toArray, List.set_cons_zero, List.set_cons_succ]
                  refine takeH (i := 16) [25] (v := ?_) rfl (by kernel_rfl) (fun _ _ _ h => h) (by rfl) ?_ (by assumption) ?_
                  case refine_2 => (intro w' hSw; (try dsimp only at hSw); go_simp; first | done | with_reducible rfl)
                  try simp only [Act.put, List.setIfInBounds_toArray, List.set_cons_zero, List.set_cons_succ]
                  refine takeP (i := 17) (v := ?_) rfl (by kernel_rfl) (fun _ _ _ h => h) (by rfl) ?_ (by assumption) ?_
                  case refine_2 => (intro w'; go_simp; first | done | with_reducible rfl)
                  try simp only [Act.put, List.setIfInBounds_toArray, List.set_cons_zero, List.set_cons_succ]
                  refine takeH (i := 18) [20, 21, 23, 24] (v := ?_) rfl (by kernel_rfl) (fun _ _ _ h => h) (by rfl) ?_ (by assumption) ?_
                  case refine_2 => (intro w' hSw; (try dsimp only at hSw); go_simp; first | done | with_reducible rfl)
                  try simp only [Act.put, List.setIfInBounds_toArray, List.set_cons_zero, List.set_cons_succ]
                  refine takeP (i := 19) (v := ?_) rfl (by kernel_rfl) (fun _ _ _ h => h) (by rfl) ?_ (by assumption) ?_
                  case refine_2 => (intro w'; go_simp; first | done | with_reducible rfl)
                  try simp only [Act.put, List.setIfInBounds_toArray, List.set_cons_zero, List.set_cons_succ]
                  refine takeP (i := 20) (v := ?_) rfl (by kernel_rfl) (fun _ _ _ h => h) (by rfl) ?_ (by assumption) ?_
                  case refine_2 => (intro w'; go_simp; first | done | with_reducible rfl)
                  try simp only [Act.put, List.setIfInBounds_toArray, List.set_cons_zero, List.set_cons_succ]
                  refine takeH (i := 21) [23, 24] (v := ?_) rfl (by kernel_rfl) (fun _ _ _ h => h) (by rfl) ?_ (by assumption) ?_
                  case refine_2 => (intro w' hSw; (try dsimp only at hSw); go_simp; first | done | with_reducible rfl)
                  try simp only [Act.put, List.setIfInBounds_toArray, List.set_cons_zero, List.set_cons_succ]
                  refine takeP (i := 22) (v := ?_) rfl (by kernel_rfl) (fun _ _ _ h => h) (by rfl) ?_ (by assumption) ?_
                  case refine_2 => (intro w'; go_simp; first | done | with_reducible rfl)
                  try simp only [Act.put, List.setIfInBounds_toArray, List.set_cons_zero, List.set_cons_succ]
                  refine takeP (i := 23) (v := ?_) rfl (by kernel_rfl) (fun _ _ _ h => h) (by rfl) ?_ (by assumption) ?_
                  case refine_2 => (intro w'; go_simp; first | done | with_reducible rfl)
                  try simp only [Act.put, List.setIfInBounds_toArray, List.set_cons_zero, List.set_cons_succ]
                  refine takeH (i := 24) [] (v := ?_) rfl (by kernel_rfl) (fun _ _ _ h => h) (by rfl) ?_ (by assumption) ?_
                  case refine_2 => (intro w' hSw; (try dsimp only at hSw); go_simp; first | done | with_reducible rfl)
                  try simp only [Act.put, List.setIfInBounds_toArray, List.set_cons_zero, List.set_cons_succ]
                  refine takeP (i := 25) (v := ?_) rfl (by kernel_rfl) (fun _ _ _ h => h) (by rfl) ?_ (by assumption) ?_
                  case refine_2 => (intro w'; go_simp; first | done | with_reducible rfl)
                  try simp only [Act.put, List.setIfInBounds_toArray, List.set_cons_zero, List.set_cons_succ]
                  refine readyG (rs := [26]) (by kernel_rfl) (by simp) ?_
                  refine AllG.last rfl (by kernel_rfl) (fun K hK => ?_) AllG.nil
                  go_simp
                  refine hK.out _ _ ?_
                  clear hK K
                  try simp only [Act.put, List.setIfInBounds_toArray, List.set_cons_zero, List.set_cons_succ]
                  refine doneG (by kernel_rfl) ?_ _
                  refine NoPanic.normal ?_
                  have hS9 := hS.drew.store (r0 + 1) Hat.out (j := r1) (by rw [iv_len]; exact Hr1l.out) (.int .i64 (nth (xat rows i) (k + 2)))
                  rw [iv_set, own2_set Hl.out Hr0l.out, ← Hstep.out] at hS9
                  go_wp2_with fail
                  go_roundw
                  case rel => exact ⟨i + 1, by omega, by go_num, hS9⟩
                  case measure => simp [intOf]; omega
                · have hie : i = rows.length := by omega
                  rw [hie, List.take_length] at hS
                  clear hie
                  have hS5 := hS.perm List.perm_append_comm
                  clear hS
                  go_wp2_with (at_builtin; refine appIII hS5 0 rfl Hvl.out rfl _ _ rfl rfl _ rfl rfl ?_; intro v6 w6 hS6)
                  go_roundw
                  case rel =>
                    refine ⟨k + 1, vs ++ [.slice a4 u4'.length c4], uss ++ [u4'], by omega, by go_num, by unfold Hid; rw [Htk.out]; exact hfit.out.snoc _ (by rw [Hl4.out, (sqs_sq _ _ _).1]), ?_⟩
                    rw [Htk.out, own3, rows3_app _ _ _ hfit.out.1 hfit.out.2.1]
                    simp only [own3, List.cons_append, List.set_cons_zero] at hS6
                    exact hS6.perm (by (try simp only [own2, List.cons_append, List.nil_append, List.append_nil]); classical exact List.perm_iff_count.2 (fun a => by simp only [List.cons_append, List.nil_append, List.append_nil, List.count_append, List.count_cons, List.count_nil] <;> omega))
                  case measure => simp [intOf]; omega
            · have hke : k = m := by omega
              rw [hke, List.take_of_length_le (by rw [HXl.out]; exact Nat.le_refl _)] at hfit hS
              clear hke hB
              go_wp2_with fail
              go_ret2
              rw [HM2.out, HC.out]
              exact ⟨u4, vs, uss, rfl, hfit.out, hS.sub (List.sublist_append_left _ _)⟩
        · have f1 := ne_t hst
          have HC := Lib.hid (show molsC n C rows = 6 by rw [molsC, if_pos hok, if_pos (.inr (.inr (by simpa using hst)))])
          have HM := Lib.hid (show molsM n C rows = [] by rw [molsM, HC.out]; rfl)
          clear hok hsh hrow hst
          go_enter Try.func57, Try.ntmps57
          go_wp2_with fail
          refine HV.out.mono ?_
          rw [Hok.out]
          rintro e w1 ⟨rfl, h1⟩
          have hS1 := hS0.call0 h1
          have b0 := hS1.bcell 0 rfl 0 rfl
          have b1 := hS1.bcell 0 rfl 1 rfl
          have b2 := hS1.bcell 0 rfl 2 rfl
          go_wp2_with fail
          refine (HI _ (hS1.oldII hv) ⟨b0, b1, b2⟩).out.mono ?_
          rintro e w2 ⟨rfl, h2⟩
          have hS2 := hS1.call0 h2
          go_wp2_with fail
          go_ret2
          exact MakesIIIC.no HM.out HC.out hS2
end Go.Proofs.Ytmkfafhgcnbcaaa
