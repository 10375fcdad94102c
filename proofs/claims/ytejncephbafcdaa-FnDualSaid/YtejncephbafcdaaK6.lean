/- The texts of this claim, run 6: DsC DsD PPut PKn Put Kn PCp Cpl. -/
import Derived.Test.YtejncephbafcdaaK3
import Derived.Test.YtejncephbafcdaaK4
import Derived.Test.YtejncephbafcdaaK5

section
/- Walks: parameters of the reference. -/
namespace Go.Proofs.Ytejncephbafcdaa
set_option linter.unusedSimpArgs false
set_option linter.unusedVariables false
open Go.RowKit
attribute [local go_sem ↓] Go.wp_at_zero Go.wp_at_succ

set_option maxHeartbeats 8000000 in
set_option maxRecDepth 100000 in
theorem l10Parameters_c (P : Nat) (g : Nat) (v : Value) (us : List Value) (A : List (List Int)) (w : World) (hv : RII w v us A) (hb : BoxD w g P v) (hD : DOk P A) :
    Calls Try.prog 56 #[.pointer (some ⟨g, 0, none⟩)] w (MakesPr w (prmV P A) (prmB P A)) := by
  have hP := hD.le
  have hDl := hD.len
  have HD := Lib.hid hD
  clear hD
  have hln := hv.len
  have hS := (St.refl w).newboxF 44 #[.int .i64 0, .int .i64 0, .int .i64 0, .int .i64 0, .int .i64 0]
  have b0 := (hS.oldBoxD hb).1
  have b1 := (hS.oldBoxD hb).2
  by_cases h1 : 2 ≤ P
  · by_cases h2 : 0 < A.length
    · have fz := eq_f (show ¬ (A.length : Int) = 0 by omega)
      have cz := (hS.oldII hv).cell 0 h2
      have x0 := hv.ixe 0 0 rfl h2
      have hl0 := (hv.row 0 h2).len
      have hm0 := (hv.row 0 h2).le
      have h1' : ¬ (P : Int) < 2 := by omega
      have HN1 := Lib.hid (fun (h : ¬ 2 ≤ (xat A 0).length) => prm_no1 (P := P) (A := A) (fun h' => h h'.2.2))
      have HN2 := Lib.hid (fun k (hk : k < A.length) (h : (xat A k).length ≠ (xat A 0).length) => prm_no2 (P := P) hk h)
      have HN3 := Lib.hid (fun k (hk : k < (parL P A).length) (h : nth (parL P A) k ≠ nth (parL P A) 0) => prm_no3 hk h)
      have hC0 := parL_pos (A := A) h1
      have hprm := Lib.hid (fun h3 h h' => prm_val (prm_yes (A := A) ⟨h1, h2, h3⟩ h h'))
      have hprb := Lib.hid (fun h3 h h' => prm_yes (A := A) ⟨h1, h2, h3⟩ h h')
      have HPC := fun W h hb' => Lib.hid (l10Pairs_c P g v us A W h hb' (by omega) hDl)
      have HR := fun W h hb' => Lib.hid (l10Replications_c P g v us A W h hb' HD.out)
      have hCle : (parL P A).length ≤ 1024 := by
        have := parK_len P A P
        have h2 : P * P ≤ 32 * 32 := Nat.mul_le_mul (by omega) (by omega)
        rw [parK_end] at this; omega
      generalize parL P A = C at *
      go_enter Try.func56, Try.ntmps56
      go_wp2_with fail
      go_loopw [5] (fun i wr => ∃ k : Nat, k ≤ A.length ∧ i = .int .i64 k ∧ Hid ((∀ j, j < k → (xat A j).length = (xat A 0).length) ∧ (0 < k → 2 ≤ (xat A 0).length)) ∧ St w.heap.size w wr [box 44 w.heap.size [.int .i64 0, .int .i64 0, .int .i64 0, .int .i64 0, .int .i64 0]]) (fun i _ => A.length - (intOf i).toNat)
      case atStart => exact ⟨0, by omega, rfl, ⟨fun j hj => by omega, fun h => by omega⟩, hS⟩
      case round =>
        clear hS b0 b1 cz
        obtain ⟨k, hk, rfl, hI, hS⟩ := hrel
        have b1 := (hS.oldBoxD hb).2
        by_cases hlt : k < A.length
        · have ck := (hS.oldII hv).cell k hlt
          have xk := hv.ixe (k : Int) k rfl hlt
          have hlk := (hv.row k hlt).len
          by_cases he : (xat A k).length = (xat A 0).length
          · have f := ne_f (show ((xat A k).length : Int) = (xat A 0).length by omega)
            have He := Lib.hid he
            clear he
            by_cases h3 : 2 ≤ (xat A 0).length
            · have h3' : ¬ ((xat A 0).length : Int) < 2 := by omega
              go_wp2_with fail
              go_roundw
              case rel => exact ⟨k + 1, by omega, by go_num, ⟨fun j hj => by
                by_cases e : j = k
                · rw [e]; exact He.out
                · exact hI.out.1 j (by omega), fun _ => h3⟩, hS⟩
              case measure => simp [intOf]; omega
            · have HN := Lib.hid (HN1.out h3)
              have h3' : ((xat A 0).length : Int) < 2 := by omega
              have hZ := hS.five rfl (.int .i64 0) (.int .i64 0) (.int .i64 0) (.int .i64 0) (.int .i64 0)
              have z0 := hZ.bcell 0 rfl 0 rfl
              have z1 := hZ.bcell 0 rfl 1 rfl
              have z2 := hZ.bcell 0 rfl 2 rfl
              have z3 := hZ.bcell 0 rfl 3 rfl
              have z4 := hZ.bcell 0 rfl 4 rfl
              have r0 := hS.bcell 0 rfl 0 rfl
              have r1 := hS.bcell 0 rfl 1 rfl
              have r2 := hS.bcell 0 rfl 2 rfl
              have r3 := hS.bcell 0 rfl 3 rfl
              have r4 := hS.bcell 0 rfl 4 rfl
              have f0 := hS.bfree 0 rfl
              go_wp2_with fail
              refine bodyPost_ret (v := .tuple #[.agg #[.int .i64 0, .int .i64 0, .int .i64 0, .int .i64 0, .int .i64 0], .bool false]) (by first | simp [results, Try.results56, go_sem, z0, z1, z2, z3, z4] | simp [results, Try.results56, go_sem, r0, r1, r2, r3, r4]) rfl ?_
              first | exact MakesPr.no HN.out hZ | exact MakesPr.no HN.out hS
          · have f := ne_t (fun e : ((xat A k).length : Int) = (xat A 0).length => he (by omega))
            have HN := Lib.hid (HN2.out k hlt he)
            clear he
            have hZ := hS.five rfl (.int .i64 0) (.int .i64 0) (.int .i64 0) (.int .i64 0) (.int .i64 0)
            have z0 := hZ.bcell 0 rfl 0 rfl
            have z1 := hZ.bcell 0 rfl 1 rfl
            have z2 := hZ.bcell 0 rfl 2 rfl
            have z3 := hZ.bcell 0 rfl 3 rfl
            have z4 := hZ.bcell 0 rfl 4 rfl
            have r0 := hS.bcell 0 rfl 0 rfl
            have r1 := hS.bcell 0 rfl 1 rfl
            have r2 := hS.bcell 0 rfl 2 rfl
            have r3 := hS.bcell 0 rfl 3 rfl
            have r4 := hS.bcell 0 rfl 4 rfl
            have f0 := hS.bfree 0 rfl
            go_wp2_with fail
            refine bodyPost_ret (v := .tuple #[.agg #[.int .i64 0, .int .i64 0, .int .i64 0, .int .i64 0, .int .i64 0], .bool false]) (by first | simp [results, Try.results56, go_sem, z0, z1, z2, z3, z4] | simp [results, Try.results56, go_sem, r0, r1, r2, r3, r4]) rfl ?_
            first | exact MakesPr.no HN.out hZ | exact MakesPr.no HN.out hS
        · obtain rfl : k = A.length := by omega
          have hall := Lib.hid hI.out.1
          have h3 := hI.out.2 h2
          clear hI
          go_wp2_with fail
          refine (HPC _ (hS.oldII hv) (hS.oldBoxD hb)).out.mono ?_
          clear HPC
          rintro e w2 ⟨vc, rfl, h4⟩
          have hS2 := hS.call h4
          have hlc := (h4.rdI 0 rfl).len
          have hic := (h4.rdI 0 rfl).ixe
          have xc0 := hic 0 0 rfl hC0
          simp only [List.cons_append, List.nil_append] at hS2
          clear hS h4 b1
          go_wp2_with fail
          go_loopw [7] (fun i wr => ∃ k : Nat, k ≤ C.length ∧ i = .int .i64 k ∧ Hid (∀ j, j < k → nth C j = nth C 0) ∧ St w.heap.size w wr [box 44 w.heap.size [.int .i64 0, .int .i64 0, .int .i64 0, .int .i64 0, .int .i64 0], row 2 vc (iv C)]) (fun i _ => C.length - (intOf i).toNat)
          case atStart => exact ⟨0, by omega, rfl, fun j hj => by omega, hS2⟩
          case round =>
            clear hS2
            obtain ⟨k, hk, rfl, hI, hS⟩ := hrel
            by_cases hlt : k < C.length
            · have qk := fun s : SS w.heap.size w [box 44 w.heap.size [.int .i64 0, .int .i64 0, .int .i64 0, .int .i64 0, .int .i64 0], row 2 vc (iv C)] => (s.st.rdI 1 rfl).cell k hlt
              have qz := fun s : SS w.heap.size w [box 44 w.heap.size [.int .i64 0, .int .i64 0, .int .i64 0, .int .i64 0, .int .i64 0], row 2 vc (iv C)] => (s.st.rdI 1 rfl).cell 0 hC0
              have xk := hic (k : Int) k rfl hlt
              by_cases he : nth C k = nth C 0
              · have f := ne_f he
                have He := Lib.hid he
                clear he
                go_wp2_with fail
                have hne : Nonempty (SS _ _ _) := ⟨⟨_, hS⟩⟩
                refine wp_region_st (by kernel_rfl) (by kernel_rfl) hS ?_
                repeat (go_big_quiet_step (fail))
                refine wpQuiet_nil ?_
                rintro _ ⟨s2, rfl⟩
                have hS3 := s2.st
                generalize s2.w = w3 at hS3 ⊢
                go_wp2_with fail
                go_roundw
                case rel => exact ⟨k + 1, by omega, by go_num, fun j hj => by
                  by_cases e : j = k
                  · rw [e]; exact He.out
                  · exact hI.out j (by omega), hS3⟩
                case measure => simp [intOf]; omega
              · have f := ne_t he
                have HN := Lib.hid (HN3.out k hlt he)
                clear he
                go_wp2_with fail
                have hne : Nonempty (SS _ _ _) := ⟨⟨_, hS⟩⟩
                refine wp_region_st (by kernel_rfl) (by kernel_rfl) hS ?_
                repeat (go_big_quiet_step (fail))
                refine wpQuiet_nil ?_
                rintro _ ⟨s2, rfl⟩
                have hS3 := s2.st
                generalize s2.w = w3 at hS3 ⊢
                have hZ := hS3.five rfl (.int .i64 0) (.int .i64 0) (.int .i64 0) (.int .i64 0) (.int .i64 0)
                have z0 := hZ.bcell 0 rfl 0 rfl
                have z1 := hZ.bcell 0 rfl 1 rfl
                have z2 := hZ.bcell 0 rfl 2 rfl
                have z3 := hZ.bcell 0 rfl 3 rfl
                have z4 := hZ.bcell 0 rfl 4 rfl
                have r0 := hS3.bcell 0 rfl 0 rfl
                have r1 := hS3.bcell 0 rfl 1 rfl
                have r2 := hS3.bcell 0 rfl 2 rfl
                have r3 := hS3.bcell 0 rfl 3 rfl
                have r4 := hS3.bcell 0 rfl 4 rfl
                have f0 := hS3.bfree 0 rfl
                go_wp2_with fail
                refine bodyPost_ret (v := .tuple #[.agg #[.int .i64 0, .int .i64 0, .int .i64 0, .int .i64 0, .int .i64 0], .bool false]) (by first | simp [results, Try.results56, go_sem, z0, z1, z2, z3, z4] | simp [results, Try.results56, go_sem, r0, r1, r2, r3, r4]) rfl ?_
                first | exact MakesPr.no HN.out hZ | exact MakesPr.no HN.out hS3
            · obtain rfl : k = C.length := by omega
              have HV := Lib.hid (hprm.out h3 hall.out hI.out)
              have HB := Lib.hid (hprb.out h3 hall.out hI.out)
              have b0 := (hS.oldBoxD hb).1
              have b1 := (hS.oldBoxD hb).2
              have c0 := (hS.rdI 1 rfl).cell 0 hC0
              have hS3 := hS.drew
              clear hI hprm hprb HN2 HN3 HN1
              go_wp2_with fail
              refine regionG (fun w' => w'.cell? ⟨g, 0, none⟩ = some (.int .i64 P) ∧ w'.cell? ⟨g, 1, none⟩ = some v ∧ w'.cell? (el vc 0) = some (.int .i64 (nth C 0))) 18 (by kernel_rfl) ⟨cell_dr b0, cell_dr b1, cell_dr c0⟩ (fun hHeld => ?_)
              refine takeP (i := 0) (v := ?_) rfl (by kernel_rfl) (fun _ _ _ h => h) (by rfl) ?_ (by assumption) ?_
              case refine_2 => (intro w'; go_simp; first | done | with_reducible rfl)
              try simp only [Act.put, List.setIfInBounds_toArray, List.set_cons_zero, List.set_cons_succ]
              refine takeP (i := 1) (v := ?_) rfl (by kernel_rfl) (fun _ _ _ h => h) (by rfl) ?_ (by assumption) ?_
              case refine_2 => (intro w'; go_simp; first | done | with_reducible rfl)
              try simp only [Act.put, List.setIfInBounds_toArray, List.set_cons_zero, List.set_cons_succ]
              refine takeP (i := 2) (v := ?_) rfl (by kernel_rfl) (fun _ _ _ h => h) (by rfl) ?_ (by assumption) ?_
              case refine_2 => (intro w'; go_simp; first | done | with_reducible rfl)
              try simp only [Act.put, List.setIfInBounds_toArray, List.set_cons_zero, List.set_cons_succ]
              refine takeH (i := 3) [17] (v := ?_) rfl (by kernel_rfl) (fun _ _ _ h => h) (by rfl) ?_ (by assumption) ?_
              case refine_2 => (intro w' hSw; (try dsimp only at hSw); go_simp; first | done | with_reducible rfl)
              try simp only [Act.put, List.setIfInBounds_toArray, List.set_cons_zero, List.set_cons_succ]
              refine takeP (i := 4) (v := ?_) rfl (by kernel_rfl) (fun _ _ _ h => h) (by rfl) ?_ (by assumption) ?_
              case refine_2 => (intro w'; go_simp; first | done | with_reducible rfl)
              try simp only [Act.put, List.setIfInBounds_toArray, List.set_cons_zero, List.set_cons_succ]
              refine takeP (i := 5) (v := ?_) rfl (by kernel_rfl) (fun _ _ _ h => h) (by rfl) ?_ (by assumption) ?_
              case refine_2 => (intro w'; go_simp; first | done | with_reducible rfl)
              try simp only [Act.put, List.setIfInBounds_toArray, List.set_cons_zero, List.set_cons_succ]
              refine takeP (i := 6) (v := ?_) rfl (by kernel_rfl) (fun _ _ _ h => h) (by rfl) ?_ (by assumption) ?_
              case refine_2 => (intro w'; go_simp; first | done | with_reducible rfl)
              try simp only [Act.put, List.setIfInBounds_toArray, List.set_cons_zero, List.set_cons_succ]
              refine takeH (i := 7) [8, 17] (v := ?_) rfl (by kernel_rfl) (fun _ _ _ h => h) (by rfl) ?_ (by assumption) ?_
              case refine_2 => (intro w' hSw; (try dsimp only at hSw); go_simp; first | done | with_reducible rfl)
              try simp only [Act.put, List.setIfInBounds_toArray, List.set_cons_zero, List.set_cons_succ]
              refine takeP (i := 8) (v := ?_) rfl (by kernel_rfl) (fun _ _ _ h => h) (by rfl) ?_ (by assumption) ?_
              case refine_2 => (intro w'; go_simp; first | done | with_reducible rfl)
              try simp only [Act.put, List.setIfInBounds_toArray, List.set_cons_zero, List.set_cons_succ]
              refine takeP (i := 9) (v := ?_) rfl (by kernel_rfl) (fun _ _ _ h => h) (by rfl) ?_ (by assumption) ?_
              case refine_2 => (intro w'; go_simp; first | done | with_reducible rfl)
              try simp only [Act.put, List.setIfInBounds_toArray, List.set_cons_zero, List.set_cons_succ]
              refine takeP (i := 13) (v := ?_) rfl (by kernel_rfl) (fun _ _ _ h => h) (by rfl) ?_ (by assumption) ?_
              case refine_2 => (intro w'; go_simp; first | done | with_reducible rfl)
              try simp only [Act.put, List.setIfInBounds_toArray, List.set_cons_zero, List.set_cons_succ]
              refine takeP (i := 14) (v := ?_) rfl (by kernel_rfl) (fun _ _ _ h => h) (by rfl) ?_ (by assumption) ?_
              case refine_2 => (intro w'; go_simp; first | done | with_reducible rfl)
              try simp only [Act.put, List.setIfInBounds_toArray, List.set_cons_zero, List.set_cons_succ]
              refine takeP (i := 15) (v := ?_) rfl (by kernel_rfl) (fun _ _ _ h => h) (by rfl) ?_ (by assumption) ?_
              case refine_2 => (intro w'; go_simp; first | done | with_reducible rfl)
              try simp only [Act.put, List.setIfInBounds_toArray, List.set_cons_zero, List.set_cons_succ]
              refine takeH (i := 16) [17] (v := ?_) rfl (by kernel_rfl) (fun _ _ _ h => h) (by rfl) ?_ (by assumption) ?_
              case refine_2 => (intro w' hSw; (try dsimp only at hSw); go_simp; first | done | with_reducible rfl)
              try simp only [Act.put, List.setIfInBounds_toArray, List.set_cons_zero, List.set_cons_succ]
              refine readyG (rs := [10]) (by kernel_rfl) (by simp) ?_
              refine AllG.cons rfl (fun K hK => ?_) AllG.nil
              go_simp
              refine (HR _ (hS3.oldII hv) (hS3.oldBoxD hb)).out.mono ?_
              rintro e w5 ⟨vr, rfl, h5⟩
              have hS5 := hS3.call h5
              have e0 := (hS5.oldBoxD hb).1
              have e1 := (hS5.oldBoxD hb).2
              have ec := (hS5.rdI 1 rfl).cell 0 hC0
              have xr0 := (h5.rdI 0 rfl).ixe 0 0 rfl (by rw [repL_len]; omega)
              have cr0 := (h5.rdI 0 rfl).cell 0 (by rw [repL_len]; omega)
              have hS6 := Lib.hid hS5
              refine hK.out _ _ ⟨e0, e1, ec⟩ (fun hHeld => ?_)
              clear hK K h5 hS3 hS b0 b1 c0
              try simp only [Act.put, List.setIfInBounds_toArray, List.set_cons_zero, List.set_cons_succ]
              refine takeP (i := 11) (v := ?_) rfl (by kernel_rfl) (fun _ _ _ h => h) (by rfl) ?_ (by assumption) ?_
              case refine_2 => (intro w'; go_simp; first | done | with_reducible rfl)
              try simp only [Act.put, List.setIfInBounds_toArray, List.set_cons_zero, List.set_cons_succ]
              refine readyG (rs := [12]) (by kernel_rfl) (by simp) ?_
              refine AllG.cons rfl (fun K hK => ?_) AllG.nil
              go_simp
              refine hK.out _ _ ⟨e0, e1, ec⟩ (fun hHeld => ?_)
              clear hK K
              try simp only [Act.put, List.setIfInBounds_toArray, List.set_cons_zero, List.set_cons_succ]
              have t0 := hS5.bcell 0 rfl 0 rfl
              have t1 := hS5.bcell 0 rfl 1 rfl
              have t2 := hS5.bcell 0 rfl 2 rfl
              have t3 := hS5.bcell 0 rfl 3 rfl
              have t4 := hS5.bcell 0 rfl 4 rfl
              have f0 := hS5.bfree 0 rfl
              refine takeP (i := 17) (v := ?_) rfl (by kernel_rfl) (fun _ _ _ h => h) (by rfl) ?_ (by assumption) ?_
              case refine_2 => (intro w'; go_simp; first | done | with_reducible rfl)
              try simp only [Act.put, List.setIfInBounds_toArray, List.set_cons_zero, List.set_cons_succ]
              refine readyG (rs := [18]) (by kernel_rfl) (by simp) ?_
              refine AllG.last rfl (by kernel_rfl) (fun K hK => ?_) AllG.nil
              go_simp
              refine hK.out _ _ ?_
              clear hK K
              try simp only [Act.put, List.setIfInBounds_toArray, List.set_cons_zero, List.set_cons_succ]
              refine readyG (rs := [19]) (by kernel_rfl) (by simp) ?_
              refine AllG.last rfl (by kernel_rfl) (fun K hK => ?_) AllG.nil
              go_simp
              refine hK.out _ _ ?_
              clear hK K
              try simp only [Act.put, List.setIfInBounds_toArray, List.set_cons_zero, List.set_cons_succ]
              refine doneG (by kernel_rfl) ?_ _
              refine NoPanic.normal ?_
              have hZ := hS6.out.five rfl (.int .i64 P) (.int .i64 A.length) (.int .i64 (nth (repL P A) 0)) (.int .i64 (xat A 0).length) (.int .i64 (nth C 0))
              have z0 := hZ.bcell 0 rfl 0 rfl
              have z1 := hZ.bcell 0 rfl 1 rfl
              have z2 := hZ.bcell 0 rfl 2 rfl
              have z3 := hZ.bcell 0 rfl 3 rfl
              have z4 := hZ.bcell 0 rfl 4 rfl
              clear hS5 t0 t1 t2 t3 t4
              go_wp2_with fail
              refine bodyPost_ret (v := .tuple #[.agg #[.int .i64 P, .int .i64 A.length, .int .i64 (nth (repL P A) 0), .int .i64 (xat A 0).length, .int .i64 (nth C 0)], .bool true]) (by simp [results, Try.results56, go_sem, z0, z1, z2, z3, z4]) rfl ?_
              rw [HB.out, HV.out]
              exact ⟨rfl, hZ.out⟩
    · have H := Lib.hid (prm_no1 (P := P) (A := A) (fun h => h2 h.2.1))
      have H0 := Lib.hid (show A.length = 0 by omega)
      have f := eq_t (show (A.length : Int) = 0 by omega)
      have h1' : ¬ (P : Int) < 2 := by omega
      clear h2
      go_enter Try.func56, Try.ntmps56
      have hZ := hS.five rfl (.int .i64 0) (.int .i64 0) (.int .i64 0) (.int .i64 0) (.int .i64 0)
      have z0 := hZ.bcell 0 rfl 0 rfl
      have z1 := hZ.bcell 0 rfl 1 rfl
      have z2 := hZ.bcell 0 rfl 2 rfl
      have z3 := hZ.bcell 0 rfl 3 rfl
      have z4 := hZ.bcell 0 rfl 4 rfl
      have r0 := hS.bcell 0 rfl 0 rfl
      have r1 := hS.bcell 0 rfl 1 rfl
      have r2 := hS.bcell 0 rfl 2 rfl
      have r3 := hS.bcell 0 rfl 3 rfl
      have r4 := hS.bcell 0 rfl 4 rfl
      have f0 := hS.bfree 0 rfl
      go_wp2_with fail
      refine bodyPost_ret (v := .tuple #[.agg #[.int .i64 0, .int .i64 0, .int .i64 0, .int .i64 0, .int .i64 0], .bool false]) (by first | simp [results, Try.results56, go_sem, z0, z1, z2, z3, z4] | simp [results, Try.results56, go_sem, r0, r1, r2, r3, r4]) rfl ?_
      first | exact MakesPr.no H.out hZ | exact MakesPr.no H.out hS
  · have H := Lib.hid (prm_no1 (P := P) (A := A) (fun h => h1 h.1))
    have h1' : (P : Int) < 2 := by omega
    go_enter Try.func56, Try.ntmps56
    have hZ := hS.five rfl (.int .i64 0) (.int .i64 0) (.int .i64 0) (.int .i64 0) (.int .i64 0)
    have z0 := hZ.bcell 0 rfl 0 rfl
    have z1 := hZ.bcell 0 rfl 1 rfl
    have z2 := hZ.bcell 0 rfl 2 rfl
    have z3 := hZ.bcell 0 rfl 3 rfl
    have z4 := hZ.bcell 0 rfl 4 rfl
    have r0 := hS.bcell 0 rfl 0 rfl
    have r1 := hS.bcell 0 rfl 1 rfl
    have r2 := hS.bcell 0 rfl 2 rfl
    have r3 := hS.bcell 0 rfl 3 rfl
    have r4 := hS.bcell 0 rfl 4 rfl
    have f0 := hS.bfree 0 rfl
    go_wp2_with fail
    refine bodyPost_ret (v := .tuple #[.agg #[.int .i64 0, .int .i64 0, .int .i64 0, .int .i64 0, .int .i64 0], .bool false]) (by first | simp [results, Try.results56, go_sem, z0, z1, z2, z3, z4] | simp [results, Try.results56, go_sem, r0, r1, r2, r3, r4]) rfl ?_
    first | exact MakesPr.no H.out hZ | exact MakesPr.no H.out hS

set_option maxHeartbeats 4000000 in
set_option maxRecDepth 100000 in
theorem sParametersOf_c (P : Nat) (v : Value) (us : List Value) (A : List (List Int)) (w : World) (hv : RII w v us A) (hok : dOk P A = true) :
    Calls Try.prog 18 #[dv P v] w (MakesPC w (prmV P A) (prmC P A)) := by
  obtain ⟨a, c, hsh⟩ := hv.1.sl.sh
  rw [hv.2.1] at hsh
  subst hsh
  have hS1 := ((St.refl w).newboxF 41 #[.int .i64 P, .slice a A.length c]).newboxF 44 #[.int .i64 0, .int .i64 0, .int .i64 0, .int .i64 0, .int .i64 0]
  simp only [World.size_alloc] at hS1
  have K1 := Lib.hid (l10Ok_c P w.heap.size (.slice a A.length c) us A _ (hS1.oldII hv) ⟨hS1.bcell 1 rfl 0 rfl, hS1.bcell 1 rfl 1 rfl⟩)
  rw [hok] at K1
  have K2 := fun W h hb => Lib.hid (l10Parameters_c P w.heap.size (.slice a A.length c) us A W h hb (dOk_t hok))
  have HV := Lib.hid (prmV_no (P := P) (A := A))
  have HC := Lib.hid (And.intro (show prmB P A = true → prmC P A = 0 from fun h => by rw [prmC, if_pos h]) (show prmB P A = false → prmC P A = 6 from fun h => by rw [prmC, if_neg (by rw [h]; decide)]))
  unfold dv
  generalize prmV P A = X at *
  generalize prmC P A = C at *
  generalize prmB P A = B at *
  go_enter Try.func18, Try.ntmps18
  go_wp2_with fail
  refine K1.out.mono ?_
  clear K1
  rintro e w2 ⟨rfl, h2⟩
  have hS2 := hS1.call0 h2
  clear h2 hS1
  go_wp2_with fail
  refine (K2 _ (hS2.oldII hv) ⟨hS2.bcell 1 rfl 0 rfl, hS2.bcell 1 rfl 1 rfl⟩).out.mono ?_
  rintro e w3 ⟨rfl, h3⟩
  have hS3 := (hS2.call0 h3).newboxF 44 #[.int .i64 (nth X 0), .int .i64 (nth X 1), .int .i64 (nth X 2), .int .i64 (nth X 3), .int .i64 (nth X 4)]
  have p0 := hS3.bcell 0 rfl 0 rfl
  have p1 := hS3.bcell 0 rfl 1 rfl
  have p2 := hS3.bcell 0 rfl 2 rfl
  have p3 := hS3.bcell 0 rfl 3 rfl
  have p4 := hS3.bcell 0 rfl 4 rfl
  have r0 := hS3.bcell 1 rfl 0 rfl
  have r1 := hS3.bcell 1 rfl 1 rfl
  have r2 := hS3.bcell 1 rfl 2 rfl
  have r3 := hS3.bcell 1 rfl 3 rfl
  have r4 := hS3.bcell 1 rfl 4 rfl
  have f0 := hS3.bfree 1 rfl
  have hS4 := hS3.sub (List.sublist_cons_self _ _)
  clear h3 hS2
  unfold pmV
  cases B
  · have hX := HV.out rfl
    have hC := HC.out.2 rfl
    have hZ := hS4.five rfl (.int .i64 0) (.int .i64 0) (.int .i64 0) (.int .i64 0) (.int .i64 0)
    have z0 := hZ.bcell 0 rfl 0 rfl
    have z1 := hZ.bcell 0 rfl 1 rfl
    have z2 := hZ.bcell 0 rfl 2 rfl
    have z3 := hZ.bcell 0 rfl 3 rfl
    have z4 := hZ.bcell 0 rfl 4 rfl
    subst hX
    subst hC
    clear hS3 hS4
    go_wp2_with fail
    refine bodyPost_ret (v := .tuple #[.agg #[.int .i64 0, .int .i64 0, .int .i64 0, .int .i64 0, .int .i64 0], .int .i64 6]) (by simp [results, Try.results18, go_sem, z0, z1, z2, z3, z4]) rfl ?_
    exact ⟨rfl, hZ.out⟩
  · have hC := HC.out.1 rfl
    subst hC
    have hZ := hS4.five rfl (.int .i64 (nth X 0)) (.int .i64 (nth X 1)) (.int .i64 (nth X 2)) (.int .i64 (nth X 3)) (.int .i64 (nth X 4))
    have z0 := hZ.bcell 0 rfl 0 rfl
    have z1 := hZ.bcell 0 rfl 1 rfl
    have z2 := hZ.bcell 0 rfl 2 rfl
    have z3 := hZ.bcell 0 rfl 3 rfl
    have z4 := hZ.bcell 0 rfl 4 rfl
    clear hS3 hS4
    go_wp2_with fail
    refine bodyPost_ret (v := .tuple #[.agg #[.int .i64 (nth X 0), .int .i64 (nth X 1), .int .i64 (nth X 2), .int .i64 (nth X 3), .int .i64 (nth X 4)], .int .i64 0]) (by simp [results, Try.results18, go_sem, z0, z1, z2, z3, z4]) rfl ?_
    exact ⟨rfl, hZ.out⟩
end Go.Proofs.Ytejncephbafcdaa
end

section
/- Walks: the reference's sorting of blocks. -/
namespace Go.Proofs.Ytejncephbafcdaa
set_option linter.unusedSimpArgs false
set_option linter.unusedVariables false
open Go.RowKit
attribute [local go_sem ↓] Go.wp_at_zero Go.wp_at_succ

section
variable {a : Act} {w : World} {Q : Exit → Act → World → Prop} {ops : Array Oper} {rest : List Oper} {o : Oper} {B : Nat} {w0 : World} {L : List Ent}
/-- append of the slices of a slice to an owned row of slices -/
theorem appsII2 (hS : St B w0 w L) (i : Nat) {v : Value} {us : List Value} (hi : L[i]? = some (row 52 v us)) (vx : Value) (ws : List Value) (hr : Rd w vx ws) (h1 : ∀ u ∈ ws, u.oneCell' = true) (hN : us.length + ws.length ≤ 4294967296) (hg : o.guard = none) (s x : Operand)
    (hop : o.op = .call { callee := .builtin .append, args := #[s, x], argTypes := #[26, 26] }) (hs : a.eval s = v) (hx : a.eval x = vx)
    (hK : ∀ v' w', St B w0 w' (L.set i (row 52 v' (us ++ ws))) → wpList Try.prog ops Q rest (a.put o.dst v') w') :
    wpList Try.prog ops Q (o :: rest) a w :=
  wpList_st_apps hg s x 26 hop 52 (.slice none 0 0) 24 Try.und_iss Try.info_is rfl hS i hi hs vx hx ws hr h1 (by omega) hN hK
end
theorem rslII_lo2 {w : World} {v : Value} {us : List Value} (h : Rd w v us) (lo : Nat) (h2 : lo ≤ us.length) (W : World) :
    (Instr.slice 26 v (some (.int .i64 (lo : Int))) none none).run Try.prog W = .ok (rsl v lo us.length) W := by
  obtain ⟨⟨a, cap, rfl, hc1, hc2, ha⟩, hcell⟩ := h
  rw [run_slice_l W 26 a _ cap und_elem_iis .i64 lo (by omega) (by omega), run_size_elemII]
  rfl
theorem ins_srt {A S : List (List Int)} {k m : Nat} (hk : k < A.length) (hm : m ≤ S.length) (hS : S = srtL (A.take k) ∧ (∀ j, j < m → leL (xat S j) (xat A k) = true)) (h2 : ∀ j, m ≤ j → j < S.length → leL (xat A k) (xat S j) = true) :
    S.take m ++ [xat A k] ++ S.drop m = srtL (A.take (k + 1)) := by
  obtain ⟨hS, h1⟩ := hS
  refine srtL_eq ?_ ?_
  · have p1 : (S.take m ++ [xat A k] ++ S.drop m).Perm (xat A k :: S) := by
      have : (S.take m ++ [xat A k] ++ S.drop m).Perm (xat A k :: (S.take m ++ S.drop m)) := by
        rw [List.append_assoc]; exact List.perm_middle
      rwa [List.take_append_drop] at this
    refine p1.trans ?_
    rw [take_xat hk, hS]
    exact ((srtL_perm _).cons _).trans (List.perm_append_comm (l₁ := [xat A k]))
  · have hpw : S.Pairwise fun a b => leL a b = true := by rw [hS]; exact srtL_pw _
    have hcut : (S.take m ++ S.drop m).Pairwise fun a b => leL a b = true := by rw [List.take_append_drop]; exact hpw
    obtain ⟨c1, c2, c3⟩ := List.pairwise_append.1 hcut
    have m1 : ∀ x ∈ S.take m, leL x (xat A k) = true := fun x hx => by
      obtain ⟨j, hj, rfl⟩ := List.getElem_of_mem hx
      have hjm : j < m := by simp at hj; omega
      rw [List.getElem_take, ← xat_eq]; exact h1 j hjm
    have m2 : ∀ x ∈ S.drop m, leL (xat A k) x = true := fun x hx => by
      obtain ⟨j, hj, rfl⟩ := List.getElem_of_mem hx
      have hjm : m + j < S.length := by simp at hj; omega
      rw [List.getElem_drop, ← xat_eq hjm]; exact h2 (m + j) (by omega) hjm
    rw [List.append_assoc]
    refine List.pairwise_append.2 ⟨c1, List.pairwise_cons.2 ⟨m2, c2⟩, fun x hx y hy => ?_⟩
    rcases List.mem_append.1 hy with hy | hy
    · obtain rfl := List.mem_singleton.1 hy; exact m1 x hx
    · exact c3 x hx y hy
theorem rows_ins {us : List Value} {S : List (List Int)} (hl : us.length = S.length) {m : Nat} (hm : m ≤ S.length) (u : Value) (b : List Int) :
    (rowsI us S ++ [row 2 u (iv b)]).Perm (rowsI (us.take m ++ [u] ++ us.drop m) (S.take m ++ [b] ++ S.drop m)) := by
  have e1 : rowsI us S = rowsI (us.take m) (S.take m) ++ rowsI (us.drop m) (S.drop m) := by
    unfold rowsI
    rw [← List.zipWith_append (by simp [hl]), List.take_append_drop, List.take_append_drop]
  have e2 : rowsI (us.take m ++ [u] ++ us.drop m) (S.take m ++ [b] ++ S.drop m) = rowsI (us.take m) (S.take m) ++ [row 2 u (iv b)] ++ rowsI (us.drop m) (S.drop m) := by
    unfold rowsI
    rw [List.zipWith_append (by simp [hl]), List.zipWith_append (by simp [hl])]; rfl
  rw [e1, e2, List.append_assoc, List.append_assoc]
  exact (List.perm_append_comm).append_left _
set_option maxHeartbeats 8000000 in
set_option maxRecDepth 100000 in
theorem l10Sort_c (v : Value) (us : List Value) (A : List (List Int)) (w : World) (hv : RII w v us A) (hN : A.length ≤ 1000) (hNr : ∀ xs ∈ A, xs.length ≤ 1048576) :
    Calls Try.prog 102 #[v] w (MakesII w (srtL A)) := by
  have hln := hv.len
  have hixe := hv.ixe
  have hNr := Lib.hid hNr
  have hS1 := St.emp0II (w := w)
  go_enter Try.func102, Try.ntmps102
  go_wp2_with fail
  go_loopw [3, 4, 5, 6] (fun o i _ _ wr => ∃ (k : Nat) (uo : List Value), k ≤ A.length ∧ i = .int .i64 k ∧ Hid (uo.length = (srtL (A.take k)).length) ∧ St w.heap.size w wr (own2 o uo (srtL (A.take k)))) (fun _ i _ _ _ => A.length - (intOf i).toNat)
  case atStart => exact ⟨0, [], by omega, rfl, rfl, hS1⟩
  case round =>
    clear hS1
    obtain ⟨k, uo, hk, rfl, hlo, hS⟩ := hrel
    have hlS : (srtL (A.take k)).length = k := by rw [srtL_len, List.length_take]; omega
    by_cases hlt : k < A.length
    · have hA0 := Lib.hid (show srtL (A.take k) = srtL (A.take k) from rfl)
      have HS0 : ∃ S, S = srtL (A.take k) := ⟨_, rfl⟩
      obtain ⟨S, hSe⟩ := HS0
      rw [← hSe] at hS hlo hlS
      have Hpw := Lib.hid (show S.Pairwise fun a b => leL a b = true by rw [hSe]; exact srtL_pw _)
      have HSe := Lib.hid hSe
      clear hSe hA0
      have hR0 := rii2 (L2 := []) (by rw [List.append_nil]; exact hS) hlo.out
      have hxo := hR0.ixe
      have hlno := hR0.len
      have xk := hixe (k : Int) k rfl hlt
      clear hR0
      go_wp2_with fail
      go_loopw [5] (fun q wr => ∃ m : Nat, m ≤ S.length ∧ q = .int .i64 m ∧ Hid (∀ j, m ≤ j → j < S.length → leL (xat A k) (xat S j) = true) ∧ St w.heap.size w wr (own2 u3 uo S)) (fun q _ => (intOf q).toNat)
      case atStart => exact ⟨S.length, by omega, by rw [hlS], fun j h1 h2 => by omega, hS⟩
      case round =>
        clear hS
        obtain ⟨m, hm, rfl, hI, hS⟩ := hrel
        by_cases hm0 : 0 < m
        · obtain ⟨p, hp⟩ : ∃ p, p + 1 = m := ⟨m - 1, by omega⟩
          have hpl : p < S.length := by omega
          have Rp := Lib.hid fun s : SS w.heap.size w (own2 u3 uo S) => (rii2 (L2 := []) (by rw [List.append_nil]; exact s.st) hlo.out).row p hpl
          have Rk := Lib.hid fun s : SS w.heap.size w (own2 u3 uo S) => (s.st.oldII hv).row k hlt
          have qp := fun s : SS w.heap.size w (own2 u3 uo S) => (rii2 (L2 := []) (by rw [List.append_nil]; exact s.st) hlo.out).cell p hpl
          have qk := fun s : SS w.heap.size w (own2 u3 uo S) => (s.st.oldII hv).cell k hlt
          have xp := hxo ((m : Int) - 1) p (by omega) hpl
          have hw : IntKind.i64.wrap ((m : Int) - 1) = (m : Int) - 1 := IntWalk.i64_in _ (by omega)
          have Hp := Lib.hid hp
          clear hp
          cases hc : leL (xat S p) (xat A k)
          · have hgt : 0 < cmpI (xat S p) (xat A k) := by have := of_decide_eq_false hc; omega
            have Hle := Lib.hid (show leL (xat A k) (xat S p) = true from by
              have := cmpI_neg (xat S p) (xat A k)
              exact decide_eq_true (by omega))
            clear hc
            go_wp2_with fail
            have hne : Nonempty (SS _ _ _) := ⟨⟨_, hS⟩⟩
            refine wp_region_st (by kernel_rfl) (by kernel_rfl) hS ?_
            repeat (go_big_quiet_step ((go_at_call 105; exact st_quiet (sCompareLists_c _ _ _ _ _ (Rp.out _) (Rk.out _)))))
            refine wpQuiet_nil ?_
            rintro _ ⟨s2, rfl⟩
            have hS2 := s2.st
            generalize s2.w = w2 at hS2 ⊢
            go_wp2_with fail
            go_roundw
            case rel => exact ⟨p, by omega, by rw [← Hp.out]; go_num, fun j h1 h2 => by
              by_cases e : j = p
              · rw [e]; exact Hle.out
              · exact hI.out j (by have := Hp.out; omega) h2, hS2⟩
            case measure => have := Hp.out; simp [intOf]; omega
          · have hgt : ¬ 0 < cmpI (xat S p) (xat A k) := by have := of_decide_eq_true hc; omega
            have hA1 : S = srtL (A.take k) ∧ (∀ j, j < m → leL (xat S j) (xat A k) = true) := ⟨HSe.out, fun j hj => by
              by_cases e : j = p
              · rw [e]; exact hc
              · have h3 := List.pairwise_iff_getElem.1 Hpw.out j p (by omega) hpl (by have := Hp.out; omega)
                rw [← xat_eq, ← xat_eq] at h3
                exact leL_trans _ _ _ h3 hc⟩
            have HA1 := Lib.hid hA1
            clear hA1 hc
            go_wp2_with fail
            have hne : Nonempty (SS _ _ _) := ⟨⟨_, hS⟩⟩
            refine wp_region_st (by kernel_rfl) (by kernel_rfl) hS ?_
            repeat (go_big_quiet_step ((go_at_call 105; exact st_quiet (sCompareLists_c _ _ _ _ _ (Rp.out _) (Rk.out _)))))
            refine wpQuiet_nil ?_
            rintro _ ⟨s2, rfl⟩
            have hS2 := s2.st
            generalize s2.w = w2 at hS2 ⊢
            clear hS qp qk Rp Rk
            have hone := Lib.hid (fun u (hu : u ∈ uo) => (show u.oneCell' = true by
              obtain ⟨j, hj, rfl⟩ := List.getElem_of_mem hu
              rw [← vat_eq hj]
              exact ((rii2 (L2 := []) (by rw [List.append_nil]; exact hS2) hlo.out).row j (by rw [← hlo.out]; exact hj)).sl.one))
            have hrd := hS2.rd 0 (e := 52) (v := u3) (us := uo) rfl
            have hsl := rslII_hi hrd m (by rw [hlo.out]; omega)
            have hsl2 := rslII_lo2 hrd m (by rw [hlo.out]; omega)
            rw [hlo.out] at hsl2
            have hrk := Lib.hid ((hS2.oldII hv).row k hlt)
            have hk1 := (hS2.oldII hv).cell k hlt
            have hS3 := (hS2.new 52 #[] (by simp)).perm List.perm_append_comm
            simp only [List.cons_append, List.nil_append] at hS3
            have Hrd := Lib.hid (hS3.rd 1 (e := 52) (v := u3) (us := uo) rfl)
            clear hrd
            go_wp2_with (at_builtin; refine appsII2 hS3 0 rfl _ _ (rsl_Rd Hrd.out (Nat.zero_le m) (by rw [hlo.out]; omega)) (fun u hu => hone.out u (List.mem_of_mem_take (List.mem_of_mem_drop hu))) (by simp [hlo.out]; omega) rfl _ _ rfl rfl rfl ?_; intro v4 w4 hS4; have hk4 := (hS4.oldII hv).cell k hlt)
            have hrk4 := (hS4.oldII hv).row k hlt
            refine (l00Own_c _ _ _ hrk4 (hNr.out _ (xat_mem hlt))).mono ?_
            rintro e w5 ⟨u5, rfl, h5⟩
            obtain ⟨ua, uc, hle⟩ := (h5.rdI 0 rfl).sl.sh
            rw [iv_len] at hle
            subst hle
            have hS5 := hS4.call h5
            simp only [List.set_cons_zero, List.cons_append, List.nil_append, List.drop_zero] at hS5
            have hl5 := Lib.hid (show (uo.take m).length = m by rw [List.length_take, hlo.out]; omega)
            clear hS3 hS4 h5 hrk4 hk4
            have hN5 : (uo.take m).length < 4294967296 := (by rw [hl5.out]; omega)
            have hN5 := Lib.hid hN5
            go_wp2_with (first | (at_builtin; refine appsII2 hS6 0 rfl _ _ hrd6.out hone6.out hN6.out rfl _ _ rfl rfl rfl ?_; intro v7 w7 hS7) | (at_builtin; refine appII hS5 0 rfl hN5.out rfl _ _ rfl rfl _ rfl rfl ?_; intro v6 w6 hS6; simp only [List.set_cons_zero] at hS6; have hrd6 := Lib.hid (rsl_Rd (hS6.rd 1 (e := 52) (v := u3) (us := uo) rfl) (lo := m) (hi := k) (by omega) (by rw [hlo.out]; omega)); have hone6 := Lib.hid (fun u (hu : u ∈ (uo.take k).drop m) => hone.out u (List.mem_of_mem_take (List.mem_of_mem_drop hu))); have hN6 := Lib.hid (show (uo.take m ++ [Value.slice ua (xat A k).length uc]).length + ((uo.take k).drop m).length ≤ 4294967296 by simp only [List.length_append, List.length_drop, List.length_take, List.length_singleton, hlo.out]; omega)))
            simp only [List.set_cons_zero] at hS7
            go_roundw
            case rel =>
              refine ⟨k + 1, uo.take m ++ [.slice ua (xat A k).length uc] ++ uo.drop m, by omega, by go_num, by rw [Hid, srtL_len, List.length_take]; simp [hlo.out]; omega, ?_⟩
              have he := ins_srt hlt hm HA1.out hI.out
              rw [← he]
              rw [show (uo.take k).drop m = uo.drop m by rw [← hlS, ← hlo.out, List.take_length]] at hS7
              have hp := hS7.sub (L' := row 52 v7 (uo.take m ++ [.slice ua (xat A k).length uc] ++ uo.drop m) :: (rowsI uo S ++ [row 2 (.slice ua (xat A k).length uc) (iv (xat A k))])) ((List.sublist_cons_self _ _).cons_cons _)
              refine hp.perm ?_
              unfold own2
              refine List.Perm.cons _ ?_
              exact rows_ins hlo.out hm _ _
            case measure => simp [intOf]; omega
        · have HA1 := Lib.hid (show S = srtL (A.take k) ∧ (∀ j, j < m → leL (xat S j) (xat A k) = true) from ⟨HSe.out, fun j hj => by omega⟩)
          go_wp2_with fail
          have hne : Nonempty (SS _ _ _) := ⟨⟨_, hS⟩⟩
          refine wp_region_st (by kernel_rfl) (by kernel_rfl) hS ?_
          repeat (go_big_quiet_step (fail))
          refine wpQuiet_nil ?_
          rintro _ ⟨s2, rfl⟩
          have hS2 := s2.st
          generalize s2.w = w2 at hS2 ⊢
          clear hS
          have hone := Lib.hid (fun u (hu : u ∈ uo) => (show u.oneCell' = true by
            obtain ⟨j, hj, rfl⟩ := List.getElem_of_mem hu
            rw [← vat_eq hj]
            exact ((rii2 (L2 := []) (by rw [List.append_nil]; exact hS2) hlo.out).row j (by rw [← hlo.out]; exact hj)).sl.one))
          have hrd := hS2.rd 0 (e := 52) (v := u3) (us := uo) rfl
          have hsl := rslII_hi hrd m (by rw [hlo.out]; omega)
          have hsl2 := rslII_lo2 hrd m (by rw [hlo.out]; omega)
          rw [hlo.out] at hsl2
          have hrk := Lib.hid ((hS2.oldII hv).row k hlt)
          have hk1 := (hS2.oldII hv).cell k hlt
          have hS3 := (hS2.new 52 #[] (by simp)).perm List.perm_append_comm
          simp only [List.cons_append, List.nil_append] at hS3
          have Hrd := Lib.hid (hS3.rd 1 (e := 52) (v := u3) (us := uo) rfl)
          clear hrd
          go_wp2_with (at_builtin; refine appsII2 hS3 0 rfl _ _ (rsl_Rd Hrd.out (Nat.zero_le m) (by rw [hlo.out]; omega)) (fun u hu => hone.out u (List.mem_of_mem_take (List.mem_of_mem_drop hu))) (by simp [hlo.out]; omega) rfl _ _ rfl rfl rfl ?_; intro v4 w4 hS4; have hk4 := (hS4.oldII hv).cell k hlt)
          have hrk4 := (hS4.oldII hv).row k hlt
          refine (l00Own_c _ _ _ hrk4 (hNr.out _ (xat_mem hlt))).mono ?_
          rintro e w5 ⟨u5, rfl, h5⟩
          obtain ⟨ua, uc, hle⟩ := (h5.rdI 0 rfl).sl.sh
          rw [iv_len] at hle
          subst hle
          have hS5 := hS4.call h5
          simp only [List.set_cons_zero, List.cons_append, List.nil_append, List.drop_zero] at hS5
          have hl5 := Lib.hid (show (uo.take m).length = m by rw [List.length_take, hlo.out]; omega)
          clear hS3 hS4 h5 hrk4 hk4
          have hN5 : (uo.take m).length < 4294967296 := (by rw [hl5.out]; omega)
          have hN5 := Lib.hid hN5
          go_wp2_with (first | (at_builtin; refine appsII2 hS6 0 rfl _ _ hrd6.out hone6.out hN6.out rfl _ _ rfl rfl rfl ?_; intro v7 w7 hS7) | (at_builtin; refine appII hS5 0 rfl hN5.out rfl _ _ rfl rfl _ rfl rfl ?_; intro v6 w6 hS6; simp only [List.set_cons_zero] at hS6; have hrd6 := Lib.hid (rsl_Rd (hS6.rd 1 (e := 52) (v := u3) (us := uo) rfl) (lo := m) (hi := k) (by omega) (by rw [hlo.out]; omega)); have hone6 := Lib.hid (fun u (hu : u ∈ (uo.take k).drop m) => hone.out u (List.mem_of_mem_take (List.mem_of_mem_drop hu))); have hN6 := Lib.hid (show (uo.take m ++ [Value.slice ua (xat A k).length uc]).length + ((uo.take k).drop m).length ≤ 4294967296 by simp only [List.length_append, List.length_drop, List.length_take, List.length_singleton, hlo.out]; omega)))
          simp only [List.set_cons_zero] at hS7
          go_roundw
          case rel =>
            refine ⟨k + 1, uo.take m ++ [.slice ua (xat A k).length uc] ++ uo.drop m, by omega, by go_num, by rw [Hid, srtL_len, List.length_take]; simp [hlo.out]; omega, ?_⟩
            have he := ins_srt hlt hm HA1.out hI.out
            rw [← he]
            rw [show (uo.take k).drop m = uo.drop m by rw [← hlS, ← hlo.out, List.take_length]] at hS7
            have hp := hS7.sub (L' := row 52 v7 (uo.take m ++ [.slice ua (xat A k).length uc] ++ uo.drop m) :: (rowsI uo S ++ [row 2 (.slice ua (xat A k).length uc) (iv (xat A k))])) ((List.sublist_cons_self _ _).cons_cons _)
            refine hp.perm ?_
            unfold own2
            refine List.Perm.cons _ ?_
            exact rows_ins hlo.out hm _ _
          case measure => simp [intOf]; omega
    · obtain rfl : k = A.length := by omega
      rw [List.take_length] at hS hlo
      go_wp2_with fail
      go_ret
      exact ⟨_, uo, rfl, hlo.out, hS⟩
end Go.Proofs.Ytejncephbafcdaa
end

section
/- Plain: a number put into an increasing list. -/
namespace Go.Proofs.Ytejncephbafcdaa
set_option linter.unusedSimpArgs false
set_option linter.unusedVariables false

/-- a number put into an increasing list -/
def putL : List Int → Int → List Int
  | [], n => [n]
  | x :: r, n => if n < x then n :: x :: r else if x = n then x :: r else x :: putL r n
theorem putL_len : ∀ (xs : List Int) (n : Int), (putL xs n).length ≤ xs.length + 1
  | [], n => by simp [putL]
  | x :: r, n => by
    rw [putL]
    split
    · simp
    · split
      · simp
      · have := putL_len r n; simp; omega
end Go.Proofs.Ytejncephbafcdaa
end

section
/- Plain: the designs that the reference knows. -/
namespace Go.Proofs.Ytejncephbafcdaa
set_option linter.unusedSimpArgs false
set_option linter.unusedVariables false

def fanL : List (List Int) := [[0, 1, 3], [1, 2, 4], [2, 3, 5], [3, 4, 6], [0, 4, 5], [1, 5, 6], [0, 2, 6]]
/-- all pairs, the first point below a -/
def prR (n a : Nat) : List (List Int) := (List.range (n - (a + 1))).map fun t => [(a : Int), (a : Int) + 1 + (t : Nat)]
def prA (n : Nat) : Nat → List (List Int)
  | 0 => []
  | a + 1 => prA n a ++ prR n a
theorem prR_take {n a t : Nat} (h : t < n - (a + 1)) : (prR n a).take (t + 1) = (prR n a).take t ++ [[(a : Int), (a : Int) + 1 + (t : Nat)]] := by
  rw [List.take_add_one, List.getElem?_eq_getElem (by simp [prR]; exact h)]
  simp [prR]
/-- translates of a set modulo m -/
def trS (m k : Nat) (S : List Int) : Nat → List Int
  | 0 => []
  | j + 1 => putL (trS m k S j) ((nth S j + k) % m)
def trB (m : Nat) (S : List Int) (k : Nat) : List Int := trS m k S S.length
def trL (m : Nat) (S : List Int) (k : Nat) : List (List Int) := (List.range k).map (trB m S)
theorem trL_succ (m : Nat) (S : List Int) (k : Nat) : trL m S (k + 1) = trL m S k ++ [trB m S k] := by
  rw [trL, List.range_succ, List.map_append]; rfl
theorem trS_len (m k : Nat) (S : List Int) : ∀ j, (trS m k S j).length ≤ j
  | 0 => Nat.le_refl _
  | j + 1 => by rw [trS]; have := putL_len (trS m k S j) ((nth S j + k) % m); have := trS_len m k S j; omega
def S5 : List Int := [1, 3, 4, 5, 9]
def S4 : List Int := [0, 1, 3, 9]
/-- the designs: numbers of points, and blocks -/
def knL : List (Nat × List (List Int)) := [(7, srtL fanL), (3, srtL (prA 3 3)), (4, srtL (prA 4 4)), (5, srtL (prA 5 5)), (6, srtL (prA 6 6)), (11, srtL (trL 11 S5 11)), (13, srtL (trL 13 S4 13))]
end Go.Proofs.Ytejncephbafcdaa
end

section
/- Walks: the reference puts a number into an increasing list. -/
namespace Go.Proofs.Ytejncephbafcdaa
set_option linter.unusedSimpArgs false
set_option linter.unusedVariables false
open Go.RowKit


/-- what l00Put has made so far -/
def PutI (xs : List Int) (n : Int) (k : Nat) (b : Bool) (ys : List Int) : Prop :=
  (b = false → ys = xs.take k ∧ putL xs n = xs.take k ++ putL (xs.drop k) n) ∧ (b = true → ys ++ xs.drop k = putL xs n)
theorem PutI.len {xs : List Int} {n : Int} {k : Nat} {b : Bool} {ys : List Int} (h : PutI xs n k b ys) (hk : k ≤ xs.length) : ys.length ≤ xs.length + 1 := by
  cases b
  · rw [(h.1 rfl).1, List.length_take]; omega
  · have h1 := congrArg List.length (h.2 rfl)
    have := putL_len xs n
    rw [List.length_append] at h1; omega
theorem PutI.go {xs : List Int} {n : Int} {k : Nat} {ys : List Int} (h : PutI xs n k true ys) (hk : k < xs.length) : PutI xs n (k + 1) true (ys ++ [nth xs k]) :=
  ⟨fun h => absurd h (by decide), fun _ => by rw [← h.2 rfl, drop_nth hk]; simp⟩
theorem PutI.lt {xs : List Int} {n : Int} {k : Nat} {ys : List Int} (h : PutI xs n k false ys) (hk : k < xs.length) (hn : nth xs k < n) : PutI xs n (k + 1) false (ys ++ [nth xs k]) := by
  obtain ⟨h1, h2⟩ := h.1 rfl
  refine ⟨fun _ => ⟨by rw [h1, take_nth hk], ?_⟩, fun h => absurd h (by decide)⟩
  rw [h2, drop_nth hk, putL, if_neg (by omega), if_neg (by omega), take_nth hk]; simp
theorem PutI.eq {xs : List Int} {n : Int} {k : Nat} {ys : List Int} (h : PutI xs n k false ys) (hk : k < xs.length) (hn : nth xs k = n) : PutI xs n (k + 1) true (ys ++ [nth xs k]) := by
  obtain ⟨h1, h2⟩ := h.1 rfl
  refine ⟨fun h => absurd h (by decide), fun _ => ?_⟩
  rw [h2, drop_nth hk, putL, if_neg (by omega), if_pos hn, h1]; simp
theorem PutI.gt {xs : List Int} {n : Int} {k : Nat} {ys : List Int} (h : PutI xs n k false ys) (hk : k < xs.length) (hn : n < nth xs k) : PutI xs n (k + 1) true ((ys ++ [n]) ++ [nth xs k]) := by
  obtain ⟨h1, h2⟩ := h.1 rfl
  refine ⟨fun h => absurd h (by decide), fun _ => ?_⟩
  rw [h2, drop_nth hk, putL, if_pos hn, h1]; simp
theorem PutI.end0 {xs : List Int} {n : Int} {ys : List Int} (h : PutI xs n xs.length false ys) : ys ++ [n] = putL xs n := by
  obtain ⟨h1, h2⟩ := h.1 rfl
  rw [h2, h1, List.drop_length, putL]
theorem PutI.end1 {xs : List Int} {n : Int} {ys : List Int} (h : PutI xs n xs.length true ys) : ys = putL xs n := by
  have := h.2 rfl
  rwa [List.drop_length, List.append_nil] at this
set_option maxHeartbeats 2000000 in
set_option maxRecDepth 100000 in
theorem l00PutX_c (v : Value) (xs : List Int) (n : Int) (w : World) (hv : RdI w v xs) (hxs : xs.length ≤ 1000000) :
    Calls Try.prog 103 #[v, .int .i64 n] w (MakesI w (putL xs n)) := by
  have hln := hv.len
  have hix := hv.ix
  have hm := hv.le
  go_enter Try.func103, Try.ntmps103
  go_wp2_with fail
  go_loopw [5, 6, 7] (fun o d i wr => ∃ (k : Nat) (b : Bool) (ys : List Int), k ≤ xs.length ∧ i = .int .i64 k ∧ d = .bool b ∧ Hid (PutI xs n k b ys) ∧ ys.length ≤ xs.length + 1 ∧ St w.heap.size w wr [row 2 o (iv ys)]) (fun _ _ i _ => xs.length - (intOf i).toNat)
  case atStart => exact ⟨0, false, [], by omega, rfl, rfl, ⟨fun _ => ⟨rfl, rfl⟩, fun h => absurd h (by decide)⟩, by simp, St.emp0⟩
  case round =>
    obtain ⟨k, b, ys, hk, rfl, rfl, hI, hy, hS⟩ := hrel
    by_cases hlt : k < xs.length
    · have hc := (hS.oldI hv).cell k hlt
      cases b
      · by_cases h1 : n ≤ nth xs k
        · by_cases h2 : n < nth xs k
          · have hJ := Lib.hid (hI.out.gt hlt h2)
            have hJl := hJ.out.len hlt
            go_wp2_with (first | (at_builtin; refine appI hS 0 rfl (by omega) rfl (.tmp 31) (.tmp 33) rfl rfl _ rfl ?_; intro v' w2 hS2; have hc2 := (hS2.oldI hv).cell k hlt) | (at_builtin; refine appI hS2 0 rfl (by simp; omega) rfl (.tmp 35) (.tmp 40) rfl rfl _ rfl ?_; intro v2 w3 hS3))
            go_roundw
            case rel => exact ⟨k + 1, true, _, by omega, by go_num, rfl, hJ.out, hJl, hS3⟩
            case measure => simp [intOf]; omega
          · have hJ := Lib.hid (hI.out.eq hlt (by omega))
            have hJl := hJ.out.len hlt
            go_wp2_with (at_builtin; refine appI hS 0 rfl (by omega) rfl (.tmp 35) (.tmp 40) rfl rfl _ rfl ?_; intro v2 w3 hS3)
            go_roundw
            case rel => exact ⟨k + 1, true, _, by omega, by go_num, rfl, hJ.out, hJl, hS3⟩
            case measure => simp [intOf]; omega
        · have hJ := Lib.hid (hI.out.lt hlt (by omega))
          have hJl := hJ.out.len hlt
          go_wp2_with (at_builtin; refine appI hS 0 rfl (by omega) rfl (.tmp 35) (.tmp 40) rfl rfl _ rfl ?_; intro v2 w3 hS3)
          go_roundw
          case rel => exact ⟨k + 1, false, _, by omega, by go_num, rfl, hJ.out, hJl, hS3⟩
          case measure => simp [intOf]; omega
      · have hJ := Lib.hid (hI.out.go hlt)
        have hJl := hJ.out.len hlt
        go_wp2_with (at_builtin; refine appI hS 0 rfl (by omega) rfl (.tmp 35) (.tmp 40) rfl rfl _ rfl ?_; intro v2 w3 hS3)
        go_roundw
        case rel => exact ⟨k + 1, true, _, by omega, by go_num, rfl, hJ.out, hJl, hS3⟩
        case measure => simp [intOf]; omega
    · obtain rfl : k = xs.length := by omega
      cases b
      · have hJ := Lib.hid hI.out.end0
        go_wp2_with (at_builtin; refine appI hS 0 rfl (by omega) rfl (.tmp 44) (.tmp 46) rfl rfl _ rfl ?_; intro v2 w3 hS3)
        go_ret
        exact ⟨_, rfl, by rw [← hJ.out]; exact hS3⟩
      · have hJ := Lib.hid hI.out.end1
        go_wp2_with fail
        go_ret
        exact ⟨_, rfl, by rw [← hJ.out]; exact hS⟩
end Go.Proofs.Ytejncephbafcdaa
end

section
/- Walks: the designs that the reference knows. -/
namespace Go.Proofs.Ytejncephbafcdaa
set_option linter.unusedSimpArgs false
set_option linter.unusedVariables false
open Go.RowKit
attribute [local go_sem ↓] Go.wp_at_zero Go.wp_at_succ

theorem St.empII0 {B : Nat} {w0 w : World} {L : List Ent} (h : St B w0 w L) : St B w0 (w.alloc (.cells #[] 52)) (L ++ [row 52 (.slice (some ⟨w.heap.size, 0, none⟩) 0 0) []]) := h.new 52 #[] (by simp)
theorem prA_len (n : Nat) : ∀ a, (prA n a).length ≤ a * n
  | 0 => Nat.zero_le _
  | a + 1 => by
    rw [prA, List.length_append, Nat.succ_mul]
    have := prA_len n a
    have : (prR n a).length ≤ n := by simp [prR]
    omega
theorem prA_rows (n : Nat) : ∀ a, ∀ xs ∈ prA n a, xs.length ≤ 1048576
  | 0, xs, h => by cases h
  | a + 1, xs, h => by
    rw [prA] at h
    rcases List.mem_append.1 h with h | h
    · exact prA_rows n a xs h
    · obtain ⟨t, _, rfl⟩ := List.mem_map.1 h
      simp
/-- a design that is known -/
def MakesKn (w0 : World) (cv : Value) (g K : Nat) (L : List Ent) (e : Ending) (w' : World) : Prop := ∃ (P : Nat) (A : List (List Int)) (v : Value) (us : List Value), (P, A) ∈ knL ∧ e = .returned (dv P v) ∧ us.length = A.length ∧ Src w0 w' cv g K (own2 v us A ++ L)
set_option maxHeartbeats 16000000 in
set_option maxRecDepth 100000 in
theorem l10Known_c (w0 w : World) (cv : Value) (bs : List UInt8) (g K : Nat) (L : List Ent) (hb : RdB w0 cv bs) (h : Src w0 w cv g K L) (hK : K < 100000000) :
    Calls Try.prog 54 #[.pointer (some ⟨g, 0, none⟩)] w (MakesKn w0 cv g (K + 10) L) := by
  have h1 := h.newboxF 41 #[.int .i64 0, .slice none 0 0]
  clear h
  obtain ⟨p0, s0, q0, q1, hS⟩ := h1
  have hF := (((((((hS.new 2 #[.int .i64 0, .int .i64 1, .int .i64 3] (by simp [maxLen])).new 2 #[.int .i64 1, .int .i64 2, .int .i64 4] (by simp [maxLen])).new 2 #[.int .i64 2, .int .i64 3, .int .i64 5] (by simp [maxLen])).new 2 #[.int .i64 3, .int .i64 4, .int .i64 6] (by simp [maxLen])).new 2 #[.int .i64 0, .int .i64 4, .int .i64 5] (by simp [maxLen])).new 2 #[.int .i64 1, .int .i64 5, .int .i64 6] (by simp [maxLen])).new 2 #[.int .i64 0, .int .i64 2, .int .i64 6] (by simp [maxLen]))
  simp only [World.size_alloc, List.size_toArray, List.length_cons, List.length_nil, Nat.zero_add, Nat.reduceAdd] at hF
  have hF := hF.new 52 #[.slice (some ⟨w.heap.size + 1, 0, none⟩) 3 3, .slice (some ⟨w.heap.size + 1 + 1, 0, none⟩) 3 3, .slice (some ⟨w.heap.size + 1 + 1 + 1, 0, none⟩) 3 3, .slice (some ⟨w.heap.size + 1 + 1 + 1 + 1, 0, none⟩) 3 3, .slice (some ⟨w.heap.size + 1 + 1 + 1 + 1 + 1, 0, none⟩) 3 3, .slice (some ⟨w.heap.size + 1 + 1 + 1 + 1 + 1 + 1, 0, none⟩) 3 3, .slice (some ⟨w.heap.size + 1 + 1 + 1 + 1 + 1 + 1 + 1, 0, none⟩) 3 3] (by simp [maxLen])
  simp only [World.size_alloc, List.size_toArray, List.length_cons, List.length_nil, Nat.zero_add, Nat.reduceAdd] at hF
  have hF2 : ∃ uf : List Value, uf.length = 7 ∧ St w0.heap.size w0 _ (box 101 g [cv, .int .i64 p0, .int .u64 s0] :: box 41 w.heap.size [.int .i64 0, .slice none 0 0] :: (own2 (.slice (some ⟨w.heap.size + 1 + 1 + 1 + 1 + 1 + 1 + 1 + 1, 0, none⟩) 7 7) uf fanL ++ L)) :=
    ⟨[.slice (some ⟨w.heap.size + 1, 0, none⟩) 3 3, .slice (some ⟨w.heap.size + 1 + 1, 0, none⟩) 3 3, .slice (some ⟨w.heap.size + 1 + 1 + 1, 0, none⟩) 3 3, .slice (some ⟨w.heap.size + 1 + 1 + 1 + 1, 0, none⟩) 3 3, .slice (some ⟨w.heap.size + 1 + 1 + 1 + 1 + 1, 0, none⟩) 3 3, .slice (some ⟨w.heap.size + 1 + 1 + 1 + 1 + 1 + 1, 0, none⟩) 3 3, .slice (some ⟨w.heap.size + 1 + 1 + 1 + 1 + 1 + 1 + 1, 0, none⟩) 3 3], rfl, hF.perm (by
      simp only [own2, rowsI, fanL, List.zipWith, iv, List.map]
      exact (by (try simp only [own2, List.cons_append, List.nil_append, List.append_nil]); classical exact List.perm_iff_count.2 (fun a => by simp only [List.cons_append, List.nil_append, List.append_nil, List.count_append, List.count_cons, List.count_nil] <;> omega)))⟩
  obtain ⟨uf, hlf, hF3⟩ := hF2
  have h2 : Src w0 _ cv g K (box 41 w.heap.size [.int .i64 0, .slice none 0 0] :: (own2 (.slice (some ⟨w.heap.size + 1 + 1 + 1 + 1 + 1 + 1 + 1 + 1, 0, none⟩) 7 7) uf fanL ++ L)) := ⟨p0, s0, q0, q1, hF3⟩
  have Hlf := Lib.hid hlf
  clear hF hS hF3 hlf q0 q1
  go_enter Try.func54, Try.ntmps54
  go_wp2_with fail
  refine (pick_c w0 _ cv bs g _ _ 4 hb h2 (by omega)).mono ?_
  rintro e w2 ⟨z, z0, z1, rfl, h3⟩
  clear h2
  by_cases e0 : z = 0
  · subst e0
    obtain ⟨pp, ss, p0, p1, hS⟩ := h3
    have HP0 := Lib.hid (And.intro p0 p1)
    have ro := rii2 (L2 := L) (hS.sub ((List.sublist_cons_self _ _).trans (List.sublist_cons_self _ _))) (by rw [Hlf.out]; rfl)
    have HSt := Lib.hid (l10Sort_c _ uf fanL w2 ro (by decide) (by decide))
    have hB := hS.sub (L' := box 101 g [cv, .int .i64 pp, .int .u64 ss] :: box 41 w.heap.size [.int .i64 0, .slice none 0 0] :: L) (((List.sublist_append_right _ _).cons_cons _).cons_cons _)
    clear hS ro p0 p1
    go_wp2_with fail
    refine HSt.out.mono ?_
    clear HSt
    rintro e w5 ⟨v5, us5, rfl, hl5, h5⟩
    obtain ⟨ua, uc, hv5⟩ := (h5.rd 0 (e := 52) (v := v5) (us := us5) rfl).sl.sh
    rw [hl5, srtL_len] at hv5
    generalize hLn : fanL.length = Ln at *
    subst hv5
    have hB5 := hB.call h5
    have c0 := hB5.bcell 1 rfl 0 rfl
    have c1 := hB5.bcell 1 rfl 1 rfl
    have f0 := hB5.bfree 1 rfl
    have h6 := (hB5.bstore 1 rfl 0 (.int .i64 7)).bstore 1 rfl 1 (.slice ua Ln uc)
    have d0 := h6.bcell 1 rfl 0 rfl
    have d1 := h6.bcell 1 rfl 1 rfl
    clear hB h5 hB5 hLn
    go_wp2_with fail
    refine bodyPost_ret (v := .agg #[.int .i64 7, .slice ua Ln uc]) (by simp [results, Try.results54, go_sem, d0, d1]) rfl ?_
    have h7 := h6.perm (L' := box 101 g [cv, .int .i64 pp, .int .u64 ss] :: ((own2 (.slice ua Ln uc) us5 (srtL fanL) ++ L) ++ [box 41 w.heap.size [.int .i64 7, .slice ua Ln uc]])) (by
      simp only [List.set_cons_succ, List.set_cons_zero, List.cons_append]
      exact (by (try simp only [own2, List.cons_append, List.nil_append, List.append_nil]); classical exact List.perm_iff_count.2 (fun a => by simp only [List.cons_append, List.nil_append, List.append_nil, List.count_append, List.count_cons, List.count_nil] <;> omega)))
    exact ⟨_, _, _, us5, by simp [knL], rfl, hl5, ⟨pp, ss, HP0.out.1, by have := HP0.out.2; omega, h7.sub ((List.sublist_append_left _ _).cons_cons _)⟩⟩
  · have f0 := eq_f e0
    by_cases e1 : z = 1
    · subst e1
      go_wp2_with fail
      refine (pick_c w0 _ cv bs g _ _ 4 hb h3.empII (by omega)).mono ?_
      rintro e w3 ⟨x, x0, x1, rfl, h4⟩
      obtain ⟨n, hn⟩ : ∃ n : Nat, 3 + x = n := ⟨(3 + x).toNat, by omega⟩
      have hn3 : 3 ≤ n := by omega
      have hn6 : n ≤ 6 := by omega
      obtain ⟨pp, ss, p0, p1, hS⟩ := h4
      have HP0 := Lib.hid (And.intro p0 p1)
      have hE0 := hS.sub (L' := box 101 g [cv, .int .i64 pp, .int .u64 ss] :: row 52 (.slice (some ⟨w2.heap.size, 0, none⟩) 0 0) [] :: box 41 w.heap.size [.int .i64 0, .slice none 0 0] :: L) ((((List.sublist_append_right _ _).cons_cons _).cons_cons _).cons_cons _)
      have hE := hE0.perm (L' := row 52 (.slice (some ⟨w2.heap.size, 0, none⟩) 0 0) [] :: (box 101 g [cv, .int .i64 pp, .int .u64 ss] :: box 41 w.heap.size [.int .i64 0, .slice none 0 0] :: L)) (by (try simp only [own2, List.cons_append, List.nil_append, List.append_nil]); classical exact List.perm_iff_count.2 (fun a => by simp only [List.cons_append, List.nil_append, List.append_nil, List.count_append, List.count_cons, List.count_nil] <;> omega))
      clear h3 hS hE0 p0 p1
      go_wp2_with fail
      try rw [hn]
      clear hn x0 x1
      go_loopw [4, 6, 7] (fun o i _ wr => ∃ (a : Nat) (uo : List Value), a ≤ n ∧ i = .int .i64 a ∧ Hid (uo.length = (prA n a).length) ∧ St w0.heap.size w0 wr (own2 o uo (prA n a) ++ (box 101 g [cv, .int .i64 pp, .int .u64 ss] :: box 41 w.heap.size [.int .i64 0, .slice none 0 0] :: L))) (fun _ i _ _ => n - (intOf i).toNat)
      case atStart => exact ⟨0, [], by omega, rfl, rfl, hE⟩
      case round =>
        clear hE
        obtain ⟨a, uo, ha, rfl, hlo, hS⟩ := hrel
        have hla := prA_len n a
        have han : a * n ≤ 36 := Nat.mul_le_mul (show a ≤ 6 by omega) hn6
        by_cases hlt : a < n
        · have hlti : (a : Int) < n := by omega
          have HA := Lib.hid (show prA n (a + 1) = prA n a ++ prR n a from rfl)
          have hS2 : St w0.heap.size w0 wr (own2 u4 uo (prA n a ++ (prR n a).take 0) ++ (box 101 g [cv, .int .i64 pp, .int .u64 ss] :: box 41 w.heap.size [.int .i64 0, .slice none 0 0] :: L)) := by rw [List.take_zero, List.append_nil]; exact hS
          have hlo2 : Hid (uo.length = (prA n a ++ (prR n a).take 0).length) := by rw [List.take_zero, List.append_nil]; exact hlo
          clear hS
          go_wp2_with fail
          go_loopw [4, 7] (fun o i wr => ∃ (t : Nat) (uo : List Value), t ≤ n - (a + 1) ∧ i = .int .i64 ((a : Int) + 1 + t) ∧ Hid (uo.length = (prA n a ++ (prR n a).take t).length) ∧ St w0.heap.size w0 wr (own2 o uo (prA n a ++ (prR n a).take t) ++ (box 101 g [cv, .int .i64 pp, .int .u64 ss] :: box 41 w.heap.size [.int .i64 0, .slice none 0 0] :: L))) (fun _ i _ => n - (intOf i).toNat)
          case atStart => exact ⟨0, uo, by omega, by simp, hlo2, hS2⟩
          case round =>
            clear hS2 hlo2 hlo
            obtain ⟨t, uo, ht, rfl, hlo, hS⟩ := hrel
            by_cases htn : t < n - (a + 1)
            · have hlt2 : (a : Int) + 1 + t < n := by omega
              have Ht := Lib.hid (prR_take (n := n) (a := a) htn)
              have hS1 := hS.new 2 #[.int .i64 a, .int .i64 ((a : Int) + 1 + t)] (by simp [maxLen])
              simp only [World.size_alloc, List.size_toArray, List.length_cons, List.length_nil, Nat.zero_add, Nat.reduceAdd] at hS1
              have hul := Lib.hid (show uo.length < 4294967296 by
                rw [hlo.out]; simp only [List.length_append, List.length_take]; omega)
              clear hS
              go_wp2_with (at_builtin; go_loud (refine appII hS1 0 rfl hul.out rfl _ _ rfl rfl _ rfl (by simp [Act.eval, World.size_alloc]) ?_; intro v8 w8 hS8))
              go_roundw
              case rel =>
                refine ⟨t + 1, uo ++ [.slice (some ⟨wr.heap.size, 0, none⟩) 2 2], by omega, by first | go_num | (congr 1; omega), ?_, ?_⟩
                · rw [Hid, Ht.out, ← List.append_assoc, List.length_append, List.length_append, hlo.out]; rfl
                · rw [Ht.out, ← List.append_assoc, own2, rowsI_app hlo.out]
                  have h9 : St w0.heap.size w0 w8 (row 52 v8 (uo ++ [.slice (some ⟨wr.heap.size, 0, none⟩) 2 2]) :: (rowsI uo (prA n a ++ (prR n a).take t) ++ (box 101 g [cv, .int .i64 pp, .int .u64 ss] :: box 41 w.heap.size [.int .i64 0, .slice none 0 0] :: L) ++ [row 2 (.slice (some ⟨wr.heap.size, 0, none⟩) 2 2) (iv [(a : Int), (a : Int) + 1 + (t : Nat)])])) := hS8
                  exact h9.perm (by (try simp only [own2, List.cons_append, List.nil_append, List.append_nil]); classical exact List.perm_iff_count.2 (fun a => by simp only [List.cons_append, List.nil_append, List.append_nil, List.count_append, List.count_cons, List.count_nil] <;> omega))
              case measure => simp [intOf]; omega
            · obtain rfl : t = n - (a + 1) := by omega
              rw [List.take_of_length_le (by simp [prR]), ← HA.out] at hS hlo
              have hge : ¬ ((a : Int) + 1 + ((n - (a + 1) : Nat) : Int)) < n := by omega
              go_wp2_with fail
              go_roundw
              case rel => exact ⟨a + 1, uo, by omega, by go_num, hlo, hS⟩
              case measure => simp [intOf]; omega
        · obtain rfl : a = n := by omega
          have ro : RII wr u4 uo (prA a a) := rii2 hS hlo.out
          have HSt := Lib.hid (l10Sort_c u4 uo (prA a a) wr ro (by omega) (prA_rows a a))
          have hB := (hS.sub (List.sublist_append_right _ _))
          have HM := Lib.hid (show (a, srtL (prA a a)) ∈ knL by
            rcases (show a = 3 ∨ a = 4 ∨ a = 5 ∨ a = 6 by omega) with rfl | rfl | rfl | rfl <;> simp [knL])
          clear hS ro hla han
          go_wp2_with fail
          refine HSt.out.mono ?_
          clear HSt
          rintro e w5 ⟨v5, us5, rfl, hl5, h5⟩
          obtain ⟨ua, uc, hv5⟩ := (h5.rd 0 (e := 52) (v := v5) (us := us5) rfl).sl.sh
          rw [hl5, srtL_len] at hv5
          generalize hLn : (prA a a).length = Ln at *
          subst hv5
          have hB5 := hB.call h5
          have c0 := hB5.bcell 1 rfl 0 rfl
          have c1 := hB5.bcell 1 rfl 1 rfl
          have f0 := hB5.bfree 1 rfl
          have h6 := (hB5.bstore 1 rfl 0 (.int .i64 a)).bstore 1 rfl 1 (.slice ua Ln uc)
          have d0 := h6.bcell 1 rfl 0 rfl
          have d1 := h6.bcell 1 rfl 1 rfl
          clear hB h5 hB5 hLn
          go_wp2_with fail
          refine bodyPost_ret (v := .agg #[.int .i64 a, .slice ua Ln uc]) (by simp [results, Try.results54, go_sem, d0, d1]) rfl ?_
          have h7 := h6.perm (L' := box 101 g [cv, .int .i64 pp, .int .u64 ss] :: ((own2 (.slice ua Ln uc) us5 (srtL (prA a a)) ++ L) ++ [box 41 w.heap.size [.int .i64 a, .slice ua Ln uc]])) (by
            simp only [List.set_cons_succ, List.set_cons_zero, List.cons_append]
            exact (by (try simp only [own2, List.cons_append, List.nil_append, List.append_nil]); classical exact List.perm_iff_count.2 (fun a => by simp only [List.cons_append, List.nil_append, List.append_nil, List.count_append, List.count_cons, List.count_nil] <;> omega)))
          exact ⟨_, _, _, us5, HM.out, rfl, hl5, ⟨pp, ss, HP0.out.1, by have := HP0.out.2; omega, h7.sub ((List.sublist_append_left _ _).cons_cons _)⟩⟩
    · have f1 := eq_f e1
      by_cases e2 : z = 2
      · subst e2
        obtain ⟨pp, ss, p0, p1, hS⟩ := h3
        have HP0 := Lib.hid (And.intro p0 p1)
        have hS := hS.sub (L' := box 101 g [cv, .int .i64 pp, .int .u64 ss] :: box 41 w.heap.size [.int .i64 0, .slice none 0 0] :: L) (((List.sublist_append_right _ _).cons_cons _).cons_cons _)
        have h1 := (); have h2 := ()
        clear p0 p1
        have hE := (hS.empII0).perm (L' := row 52 (.slice (some ⟨w2.heap.size, 0, none⟩) 0 0) [] :: (box 101 g [cv, .int .i64 pp, .int .u64 ss] :: box 41 w.heap.size [.int .i64 0, .slice none 0 0] :: L)) (by (try simp only [own2, List.cons_append, List.nil_append, List.append_nil]); classical exact List.perm_iff_count.2 (fun a => by simp only [List.cons_append, List.nil_append, List.append_nil, List.count_append, List.count_cons, List.count_nil] <;> omega))
        clear h1 h2 hS
        go_wp2_with fail
        go_loopw [8, 9, 10, 12] (fun o i _ _ wr => ∃ (k : Nat) (uo : List Value), k ≤ 11 ∧ i = .int .i64 k ∧ Hid (uo.length = k) ∧ St w0.heap.size w0 wr (own2 o uo (trL 11 S5 k) ++ (box 101 g [cv, .int .i64 pp, .int .u64 ss] :: box 41 w.heap.size [.int .i64 0, .slice none 0 0] :: L))) (fun _ i _ _ _ => 11 - (intOf i).toNat)
        case atStart => exact ⟨0, [], by omega, rfl, rfl, hE⟩
        case round =>
          clear hE
          obtain ⟨k, uo, hk, rfl, hlo, hS⟩ := hrel
          obtain ⟨wo, rfl⟩ : ∃ wo : World, wo = wr := ⟨_, rfl⟩
          have hlT : (trL 11 S5 k).length = k := by simp [trL]
          by_cases hlt : k < 11
          · have hlti : (k : Int) < 11 := by omega
            have hS1 := (hS.new 2 #[] (by simp)).new 2 #[.int .i64 1, .int .i64 3, .int .i64 4, .int .i64 5, .int .i64 9] (by simp [maxLen])
            simp only [World.size_alloc, List.size_toArray, List.length_cons, List.length_nil, Nat.zero_add, Nat.reduceAdd] at hS1
            have hS2 : St w0.heap.size w0 _ (row 2 (.slice (some ⟨wo.heap.size + 1, 0, none⟩) 5 5) (iv S5) :: row 2 (.slice (some ⟨wo.heap.size, 0, none⟩) 0 0) (iv (trS 11 k S5 0)) :: (own2 u8 uo (trL 11 S5 k) ++ (box 101 g [cv, .int .i64 pp, .int .u64 ss] :: box 41 w.heap.size [.int .i64 0, .slice none 0 0] :: L))) := hS1.perm (L' := row 2 (.slice (some ⟨wo.heap.size + 1, 0, none⟩) 5 5) [.int .i64 1, .int .i64 3, .int .i64 4, .int .i64 5, .int .i64 9] :: row 2 (.slice (some ⟨wo.heap.size, 0, none⟩) 0 0) [] :: (own2 u8 uo (trL 11 S5 k) ++ (box 101 g [cv, .int .i64 pp, .int .u64 ss] :: box 41 w.heap.size [.int .i64 0, .slice none 0 0] :: L))) (by (try simp only [own2, List.cons_append, List.nil_append, List.append_nil]); classical exact List.perm_iff_count.2 (fun a => by simp only [List.cons_append, List.nil_append, List.append_nil, List.count_append, List.count_cons, List.count_nil] <;> omega))
            have hl5 := (hS2.rdI 0 rfl).len
            have hi5 := (hS2.rdI 0 rfl).ix
            have hn5 : (S5).length = 5 := rfl
            rw [hn5] at hl5 hi5
            have HT := Lib.hid (trL_succ 11 S5 k)
            have Hlt := Lib.hid hlT
            clear hS1 hS hlT
            go_wp2_with fail
            go_loopw [10, 12, 71] (fun q _ i wx => ∃ j : Nat, j ≤ 5 ∧ i = .int .i64 j ∧ St w0.heap.size w0 wx (row 2 (.slice (some ⟨wo.heap.size + 1, 0, none⟩) 5 5) (iv S5) :: row 2 q (iv (trS 11 k S5 j)) :: (own2 u8 uo (trL 11 S5 k) ++ (box 101 g [cv, .int .i64 pp, .int .u64 ss] :: box 41 w.heap.size [.int .i64 0, .slice none 0 0] :: L)))) (fun _ _ i _ => 5 - (intOf i).toNat)
            case atStart => exact ⟨0, by omega, rfl, hS2⟩
            case round =>
              clear hS2
              obtain ⟨j, hj, rfl, hS⟩ := hrel
              by_cases hjt : j < 5
              · have cj := (hS.rdI 0 rfl).cell j hjt
                obtain ⟨x, hx, hx0, hx9⟩ : ∃ x : Int, nth S5 j = x ∧ 0 ≤ x ∧ x ≤ 9 := ⟨_, rfl, by
                  have : ∀ j, j < 5 → 0 ≤ nth S5 j := by decide
                  exact this j hjt, by
                  have : ∀ j, j < 5 → nth S5 j ≤ 9 := by decide
                  exact this j hjt⟩
                have hstep : Hid (trS 11 k S5 (j + 1) = putL (trS 11 k S5 j) ((x + k) % 11)) := by rw [Hid, trS, hx]; rfl
                rw [hx] at cj
                have hrem : (x + (k : Int)).tmod 11 = (x + k) % 11 := Int.tmod_eq_emod_of_nonneg (by omega)
                have hlt9 := trS_len 11 k S5 j
                have HP := fun n W h => Lib.hid (l00PutX_c u10 (trS 11 k S5 j) n W h (by omega))
                have hrq := hS.rdI 1 rfl
                clear hx
                go_wp2_with fail
                try rw [hrem]
                refine (HP _ _ hrq).out.mono ?_
                rintro e w5 ⟨v5, rfl, h5⟩
                have hS6 := (hS.call h5).sub (L' := row 2 (.slice (some ⟨wo.heap.size + 1, 0, none⟩) 5 5) (iv S5) :: ((own2 u8 uo (trL 11 S5 k) ++ (box 101 g [cv, .int .i64 pp, .int .u64 ss] :: box 41 w.heap.size [.int .i64 0, .slice none 0 0] :: L)) ++ [row 2 v5 (iv (putL (trS 11 k S5 j) ((x + k) % 11)))])) ((List.sublist_cons_self _ _).cons_cons _)
                have hS7 := hS6.perm (L' := row 2 (.slice (some ⟨wo.heap.size + 1, 0, none⟩) 5 5) (iv S5) :: row 2 v5 (iv (putL (trS 11 k S5 j) ((x + k) % 11))) :: (own2 u8 uo (trL 11 S5 k) ++ (box 101 g [cv, .int .i64 pp, .int .u64 ss] :: box 41 w.heap.size [.int .i64 0, .slice none 0 0] :: L))) (by (try simp only [own2, List.cons_append, List.nil_append, List.append_nil]); classical exact List.perm_iff_count.2 (fun a => by simp only [List.cons_append, List.nil_append, List.append_nil, List.count_append, List.count_cons, List.count_nil] <;> omega))
                clear hS hS6 h5 hrq HP
                go_wp2_with fail
                go_roundw
                case rel => exact ⟨j + 1, by omega, by go_num, by rw [hstep.out]; exact hS7⟩
                case measure => simp [intOf]; omega
              · obtain rfl : j = 5 := by omega
                have hl9 := trS_len 11 k S5 5
                obtain ⟨la, lc, hle⟩ := (hS.rdI 1 rfl).sl.sh
                rw [iv_len] at hle
                subst hle
                have hEt : trB 11 S5 k = trS 11 k S5 5 := rfl
                rw [← hEt] at hS
                have hul := Lib.hid (show uo.length < 4294967296 by rw [hlo.out]; omega)
                rw [show trS 11 k S5 5 = trB 11 S5 k from rfl]
                go_wp2_with (at_builtin; refine appII hS 2 rfl hul.out rfl _ _ rfl rfl _ rfl rfl ?_; intro v8 w8 hS8)
                simp only [List.set_cons_succ] at hS8
                go_roundw
                case rel =>
                  refine ⟨k + 1, uo ++ [.slice la (trB 11 S5 k).length lc], by omega, by go_num, by simp [Hid, hlo.out], ?_⟩
                  rw [HT.out, own2, rowsI_app (by rw [hlo.out, Hlt.out])]
                  have h9 := hS8.sub (L' := row 2 (.slice la (trB 11 S5 k).length lc) (iv (trB 11 S5 k)) :: row 52 v8 (uo ++ [.slice la (trB 11 S5 k).length lc]) :: (rowsI uo (trL 11 S5 k) ++ (box 101 g [cv, .int .i64 pp, .int .u64 ss] :: box 41 w.heap.size [.int .i64 0, .slice none 0 0] :: L))) (List.sublist_cons_self _ _)
                  exact h9.perm (by (try simp only [own2, List.cons_append, List.nil_append, List.append_nil]); classical exact List.perm_iff_count.2 (fun a => by simp only [List.cons_append, List.nil_append, List.append_nil, List.count_append, List.count_cons, List.count_nil] <;> omega))
                case measure => simp [intOf]; omega
          · obtain rfl : k = 11 := by omega
            have ro : RII wo u8 uo (trL 11 S5 11) := rii2 hS (by rw [hlo.out, hlT])
            have HSt := Lib.hid (l10Sort_c u8 uo (trL 11 S5 11) wo ro (by rw [hlT]; omega) (fun xs hx => by
              obtain ⟨j, _, rfl⟩ := List.mem_map.1 hx
              have := trS_len 11 j S5 5; exact Nat.le_trans this (by omega)))
            have hB := (hS.sub (List.sublist_append_right _ _))
            clear hS ro hlT
            go_wp2_with fail
            refine HSt.out.mono ?_
            clear HSt
            rintro e w5 ⟨v5, us5, rfl, hl5, h5⟩
            obtain ⟨ua, uc, hv5⟩ := (h5.rd 0 (e := 52) (v := v5) (us := us5) rfl).sl.sh
            rw [hl5, srtL_len] at hv5
            generalize hLn : (trL 11 S5 11).length = Ln at *
            subst hv5
            have hB5 := hB.call h5
            have c0 := hB5.bcell 1 rfl 0 rfl
            have c1 := hB5.bcell 1 rfl 1 rfl
            have f0 := hB5.bfree 1 rfl
            have h6 := (hB5.bstore 1 rfl 0 (.int .i64 11)).bstore 1 rfl 1 (.slice ua Ln uc)
            have d0 := h6.bcell 1 rfl 0 rfl
            have d1 := h6.bcell 1 rfl 1 rfl
            clear hB h5 hB5 hLn
            go_wp2_with fail
            refine bodyPost_ret (v := .agg #[.int .i64 11, .slice ua Ln uc]) (by simp [results, Try.results54, go_sem, d0, d1]) rfl ?_
            have h7 := h6.perm (L' := box 101 g [cv, .int .i64 pp, .int .u64 ss] :: ((own2 (.slice ua Ln uc) us5 (srtL (trL 11 S5 11)) ++ L) ++ [box 41 w.heap.size [.int .i64 11, .slice ua Ln uc]])) (by
              simp only [List.set_cons_succ, List.set_cons_zero, List.cons_append]
              exact (by (try simp only [own2, List.cons_append, List.nil_append, List.append_nil]); classical exact List.perm_iff_count.2 (fun a => by simp only [List.cons_append, List.nil_append, List.append_nil, List.count_append, List.count_cons, List.count_nil] <;> omega)))
            exact ⟨_, _, _, us5, by simp [knL], rfl, hl5, ⟨pp, ss, HP0.out.1, by have := HP0.out.2; omega, h7.sub ((List.sublist_append_left _ _).cons_cons _)⟩⟩
      · have f2 := eq_f e2
        obtain ⟨pp, ss, p0, p1, hS⟩ := h3
        have HP0 := Lib.hid (And.intro p0 p1)
        have hS := hS.sub (L' := box 101 g [cv, .int .i64 pp, .int .u64 ss] :: box 41 w.heap.size [.int .i64 0, .slice none 0 0] :: L) (((List.sublist_append_right _ _).cons_cons _).cons_cons _)
        have h1 := (); have h2 := ()
        clear p0 p1
        have hE := (hS.empII0).perm (L' := row 52 (.slice (some ⟨w2.heap.size, 0, none⟩) 0 0) [] :: (box 101 g [cv, .int .i64 pp, .int .u64 ss] :: box 41 w.heap.size [.int .i64 0, .slice none 0 0] :: L)) (by (try simp only [own2, List.cons_append, List.nil_append, List.append_nil]); classical exact List.perm_iff_count.2 (fun a => by simp only [List.cons_append, List.nil_append, List.append_nil, List.count_append, List.count_cons, List.count_nil] <;> omega))
        clear h1 h2 hS
        go_wp2_with fail
        go_loopw [13, 14, 15, 17] (fun o i _ _ wr => ∃ (k : Nat) (uo : List Value), k ≤ 13 ∧ i = .int .i64 k ∧ Hid (uo.length = k) ∧ St w0.heap.size w0 wr (own2 o uo (trL 13 S4 k) ++ (box 101 g [cv, .int .i64 pp, .int .u64 ss] :: box 41 w.heap.size [.int .i64 0, .slice none 0 0] :: L))) (fun _ i _ _ _ => 13 - (intOf i).toNat)
        case atStart => exact ⟨0, [], by omega, rfl, rfl, hE⟩
        case round =>
          clear hE
          obtain ⟨k, uo, hk, rfl, hlo, hS⟩ := hrel
          obtain ⟨wo, rfl⟩ : ∃ wo : World, wo = wr := ⟨_, rfl⟩
          have hlT : (trL 13 S4 k).length = k := by simp [trL]
          by_cases hlt : k < 13
          · have hlti : (k : Int) < 13 := by omega
            have hS1 := (hS.new 2 #[] (by simp)).new 2 #[.int .i64 0, .int .i64 1, .int .i64 3, .int .i64 9] (by simp [maxLen])
            simp only [World.size_alloc, List.size_toArray, List.length_cons, List.length_nil, Nat.zero_add, Nat.reduceAdd] at hS1
            have hS2 : St w0.heap.size w0 _ (row 2 (.slice (some ⟨wo.heap.size + 1, 0, none⟩) 4 4) (iv S4) :: row 2 (.slice (some ⟨wo.heap.size, 0, none⟩) 0 0) (iv (trS 13 k S4 0)) :: (own2 u13 uo (trL 13 S4 k) ++ (box 101 g [cv, .int .i64 pp, .int .u64 ss] :: box 41 w.heap.size [.int .i64 0, .slice none 0 0] :: L))) := hS1.perm (L' := row 2 (.slice (some ⟨wo.heap.size + 1, 0, none⟩) 4 4) [.int .i64 0, .int .i64 1, .int .i64 3, .int .i64 9] :: row 2 (.slice (some ⟨wo.heap.size, 0, none⟩) 0 0) [] :: (own2 u13 uo (trL 13 S4 k) ++ (box 101 g [cv, .int .i64 pp, .int .u64 ss] :: box 41 w.heap.size [.int .i64 0, .slice none 0 0] :: L))) (by (try simp only [own2, List.cons_append, List.nil_append, List.append_nil]); classical exact List.perm_iff_count.2 (fun a => by simp only [List.cons_append, List.nil_append, List.append_nil, List.count_append, List.count_cons, List.count_nil] <;> omega))
            have hl5 := (hS2.rdI 0 rfl).len
            have hi5 := (hS2.rdI 0 rfl).ix
            have hn5 : (S4).length = 4 := rfl
            rw [hn5] at hl5 hi5
            have HT := Lib.hid (trL_succ 13 S4 k)
            have Hlt := Lib.hid hlT
            clear hS1 hS hlT
            go_wp2_with fail
            go_loopw [15, 17, 97] (fun q _ i wx => ∃ j : Nat, j ≤ 4 ∧ i = .int .i64 j ∧ St w0.heap.size w0 wx (row 2 (.slice (some ⟨wo.heap.size + 1, 0, none⟩) 4 4) (iv S4) :: row 2 q (iv (trS 13 k S4 j)) :: (own2 u13 uo (trL 13 S4 k) ++ (box 101 g [cv, .int .i64 pp, .int .u64 ss] :: box 41 w.heap.size [.int .i64 0, .slice none 0 0] :: L)))) (fun _ _ i _ => 4 - (intOf i).toNat)
            case atStart => exact ⟨0, by omega, rfl, hS2⟩
            case round =>
              clear hS2
              obtain ⟨j, hj, rfl, hS⟩ := hrel
              by_cases hjt : j < 4
              · have cj := (hS.rdI 0 rfl).cell j hjt
                obtain ⟨x, hx, hx0, hx9⟩ : ∃ x : Int, nth S4 j = x ∧ 0 ≤ x ∧ x ≤ 9 := ⟨_, rfl, by
                  have : ∀ j, j < 4 → 0 ≤ nth S4 j := by decide
                  exact this j hjt, by
                  have : ∀ j, j < 4 → nth S4 j ≤ 9 := by decide
                  exact this j hjt⟩
                have hstep : Hid (trS 13 k S4 (j + 1) = putL (trS 13 k S4 j) ((x + k) % 13)) := by rw [Hid, trS, hx]; rfl
                rw [hx] at cj
                have hrem : (x + (k : Int)).tmod 13 = (x + k) % 13 := Int.tmod_eq_emod_of_nonneg (by omega)
                have hlt9 := trS_len 13 k S4 j
                have HP := fun n W h => Lib.hid (l00PutX_c u15 (trS 13 k S4 j) n W h (by omega))
                have hrq := hS.rdI 1 rfl
                clear hx
                go_wp2_with fail
                try rw [hrem]
                refine (HP _ _ hrq).out.mono ?_
                rintro e w5 ⟨v5, rfl, h5⟩
                have hS6 := (hS.call h5).sub (L' := row 2 (.slice (some ⟨wo.heap.size + 1, 0, none⟩) 4 4) (iv S4) :: ((own2 u13 uo (trL 13 S4 k) ++ (box 101 g [cv, .int .i64 pp, .int .u64 ss] :: box 41 w.heap.size [.int .i64 0, .slice none 0 0] :: L)) ++ [row 2 v5 (iv (putL (trS 13 k S4 j) ((x + k) % 13)))])) ((List.sublist_cons_self _ _).cons_cons _)
                have hS7 := hS6.perm (L' := row 2 (.slice (some ⟨wo.heap.size + 1, 0, none⟩) 4 4) (iv S4) :: row 2 v5 (iv (putL (trS 13 k S4 j) ((x + k) % 13))) :: (own2 u13 uo (trL 13 S4 k) ++ (box 101 g [cv, .int .i64 pp, .int .u64 ss] :: box 41 w.heap.size [.int .i64 0, .slice none 0 0] :: L))) (by (try simp only [own2, List.cons_append, List.nil_append, List.append_nil]); classical exact List.perm_iff_count.2 (fun a => by simp only [List.cons_append, List.nil_append, List.append_nil, List.count_append, List.count_cons, List.count_nil] <;> omega))
                clear hS hS6 h5 hrq HP
                go_wp2_with fail
                go_roundw
                case rel => exact ⟨j + 1, by omega, by go_num, by rw [hstep.out]; exact hS7⟩
                case measure => simp [intOf]; omega
              · obtain rfl : j = 4 := by omega
                have hl9 := trS_len 13 k S4 4
                obtain ⟨la, lc, hle⟩ := (hS.rdI 1 rfl).sl.sh
                rw [iv_len] at hle
                subst hle
                have hEt : trB 13 S4 k = trS 13 k S4 4 := rfl
                rw [← hEt] at hS
                have hul := Lib.hid (show uo.length < 4294967296 by rw [hlo.out]; omega)
                rw [show trS 13 k S4 4 = trB 13 S4 k from rfl]
                go_wp2_with (at_builtin; refine appII hS 2 rfl hul.out rfl _ _ rfl rfl _ rfl rfl ?_; intro v8 w8 hS8)
                simp only [List.set_cons_succ] at hS8
                go_roundw
                case rel =>
                  refine ⟨k + 1, uo ++ [.slice la (trB 13 S4 k).length lc], by omega, by go_num, by simp [Hid, hlo.out], ?_⟩
                  rw [HT.out, own2, rowsI_app (by rw [hlo.out, Hlt.out])]
                  have h9 := hS8.sub (L' := row 2 (.slice la (trB 13 S4 k).length lc) (iv (trB 13 S4 k)) :: row 52 v8 (uo ++ [.slice la (trB 13 S4 k).length lc]) :: (rowsI uo (trL 13 S4 k) ++ (box 101 g [cv, .int .i64 pp, .int .u64 ss] :: box 41 w.heap.size [.int .i64 0, .slice none 0 0] :: L))) (List.sublist_cons_self _ _)
                  exact h9.perm (by (try simp only [own2, List.cons_append, List.nil_append, List.append_nil]); classical exact List.perm_iff_count.2 (fun a => by simp only [List.cons_append, List.nil_append, List.append_nil, List.count_append, List.count_cons, List.count_nil] <;> omega))
                case measure => simp [intOf]; omega
          · obtain rfl : k = 13 := by omega
            have ro : RII wo u13 uo (trL 13 S4 13) := rii2 hS (by rw [hlo.out, hlT])
            have HSt := Lib.hid (l10Sort_c u13 uo (trL 13 S4 13) wo ro (by rw [hlT]; omega) (fun xs hx => by
              obtain ⟨j, _, rfl⟩ := List.mem_map.1 hx
              have := trS_len 13 j S4 4; exact Nat.le_trans this (by omega)))
            have hB := (hS.sub (List.sublist_append_right _ _))
            clear hS ro hlT
            go_wp2_with fail
            refine HSt.out.mono ?_
            clear HSt
            rintro e w5 ⟨v5, us5, rfl, hl5, h5⟩
            obtain ⟨ua, uc, hv5⟩ := (h5.rd 0 (e := 52) (v := v5) (us := us5) rfl).sl.sh
            rw [hl5, srtL_len] at hv5
            generalize hLn : (trL 13 S4 13).length = Ln at *
            subst hv5
            have hB5 := hB.call h5
            have c0 := hB5.bcell 1 rfl 0 rfl
            have c1 := hB5.bcell 1 rfl 1 rfl
            have f0 := hB5.bfree 1 rfl
            have h6 := (hB5.bstore 1 rfl 0 (.int .i64 13)).bstore 1 rfl 1 (.slice ua Ln uc)
            have d0 := h6.bcell 1 rfl 0 rfl
            have d1 := h6.bcell 1 rfl 1 rfl
            clear hB h5 hB5 hLn
            go_wp2_with fail
            refine bodyPost_ret (v := .agg #[.int .i64 13, .slice ua Ln uc]) (by simp [results, Try.results54, go_sem, d0, d1]) rfl ?_
            have h7 := h6.perm (L' := box 101 g [cv, .int .i64 pp, .int .u64 ss] :: ((own2 (.slice ua Ln uc) us5 (srtL (trL 13 S4 13)) ++ L) ++ [box 41 w.heap.size [.int .i64 13, .slice ua Ln uc]])) (by
              simp only [List.set_cons_succ, List.set_cons_zero, List.cons_append]
              exact (by (try simp only [own2, List.cons_append, List.nil_append, List.append_nil]); classical exact List.perm_iff_count.2 (fun a => by simp only [List.cons_append, List.nil_append, List.append_nil, List.count_append, List.count_cons, List.count_nil] <;> omega)))
            exact ⟨_, _, _, us5, by simp [knL], rfl, hl5, ⟨pp, ss, HP0.out.1, by have := HP0.out.2; omega, h7.sub ((List.sublist_append_left _ _).cons_cons _)⟩⟩
end Go.Proofs.Ytejncephbafcdaa
end

section
/- Plain: complements, derived and residual designs of the known designs. -/
namespace Go.Proofs.Ytejncephbafcdaa
set_option linter.unusedSimpArgs false
set_option linter.unusedVariables false

/-- what holds of the derived design or the residual one, on the set S of points -/
def chkR (A : List (List Int)) (k : Nat) (S : List Int) (q : List Int) : Bool :=
  decide (0 < S.length) && decide (S.length ≤ 1000) && ((List.range A.length).all fun j => decide (j = k) || decide (0 < (rsB (xat A j) S).length)) &&
  dOk S.length (srtL (resR A k S A.length)) && prmB S.length (srtL (resR A k S A.length)) && decide (prmV S.length (srtL (resR A k S A.length)) = q)
def chkC1 (P : Nat) (A : List (List Int)) : Bool := dOk P A && prmB P A && A.all (fun b => b.length != P) && decide (0 < A.length)
def chkC2 (P : Nat) (A X : List (List Int)) : Bool := dOk P X && X.all (fun b => b.length != P) && decide (srtL (cplL P X) = A)
/-- the numbers of blocks on two points of a complement -/
def lamC (A : List (List Int)) (q : List Int) : Int := A.length - 2 * nth q 2 + nth q 4
def chkC3 (P : Nat) (A X : List (List Int)) (q : List Int) : Bool :=
  !(decide (1 < (P : Int) - nth q 3) && decide (0 < lamC A q)) || (prmB P X && decide (prmV P X = [(P : Int), (A.length : Int), A.length - nth q 2, P - nth q 3, lamC A q]))
def chkC4 (P : Nat) (A : List (List Int)) (q : List Int) : Bool :=
  decide (A.length ≠ P) || decide (nth q 4 < 2) || decide (nth q 3 - nth q 4 < 2) ||
  ((List.range A.length).all fun k => chkR A k (xat A k) [nth q 3, P - 1, nth q 3 - 1, nth q 4, nth q 4 - 1] && chkR A k (cplB P (xat A k)) [P - nth q 3, P - 1, nth q 3, nth q 3 - nth q 4, nth q 4])
def chkC (d : Nat × List (List Int)) : Bool :=
  chkC1 d.1 d.2 && chkC2 d.1 d.2 (srtL (cplL d.1 d.2)) && chkC3 d.1 d.2 (srtL (cplL d.1 d.2)) (prmV d.1 d.2) && chkC4 d.1 d.2 (prmV d.1 d.2)
theorem kn_chk : ∀ d ∈ knL, chkC d = true := by decide +kernel
end Go.Proofs.Ytejncephbafcdaa
end

section
/- Known designs: what holds of them, and their draw. -/
namespace Go.Proofs.Ytejncephbafcdaa
set_option linter.unusedSimpArgs false
set_option linter.unusedVariables false
open Go.RowKit
attribute [local go_sem ↓] Go.wp_at_zero Go.wp_at_succ

/-! ### what holds of a known design -/
/-! ### the draw -/
/-- parameters in a box -/
def BoxP (w : World) (g : Nat) (a b c d e : Int) : Prop := w.cell? ⟨g, 0, none⟩ = some (.int .i64 a) ∧ w.cell? ⟨g, 1, none⟩ = some (.int .i64 b) ∧ w.cell? ⟨g, 2, none⟩ = some (.int .i64 c) ∧ w.cell? ⟨g, 3, none⟩ = some (.int .i64 d) ∧ w.cell? ⟨g, 4, none⟩ = some (.int .i64 e)
theorem BoxP.keep {w0 w : World} {g : Nat} {a b c d e : Int} (h : BoxP w0 g a b c d e) (hb : Below w0.heap.size w0 w) : BoxP w g a b c d e := by
  obtain ⟨h1, h2, h3, h4, h5⟩ := h
  have hg : g < w0.heap.size := by
    rcases Nat.lt_or_ge g w0.heap.size with h | h
    · exact h
    · rw [World.cell?, Array.getElem?_eq_none h] at h1; cases h1
  exact ⟨by rw [hb.cell hg]; exact h1, by rw [hb.cell hg]; exact h2, by rw [hb.cell hg]; exact h3, by rw [hb.cell hg]; exact h4, by rw [hb.cell hg]; exact h5⟩
theorem pmV_5 (a b c d e : Int) : pmV [a, b, c, d, e] = .agg #[.int .i64 a, .int .i64 b, .int .i64 c, .int .i64 d, .int .i64 e] := rfl
end Go.Proofs.Ytejncephbafcdaa
end
