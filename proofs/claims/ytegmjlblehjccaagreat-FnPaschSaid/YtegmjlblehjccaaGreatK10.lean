/- The texts of this claim, run 10: DsC Tr1 Tr2 Bo Pm6 SqB Tr3 Pa1 Cp1. -/
import Derived.Test.YtegmjlblehjccaaGreatK3
import Derived.Test.YtegmjlblehjccaaGreatK4
import Derived.Test.YtegmjlblehjccaaGreatK5
import Derived.Test.YtegmjlblehjccaaGreatK6
import Derived.Test.YtegmjlblehjccaaGreatK7
import Derived.Test.YtegmjlblehjccaaGreatK8
import Derived.Test.YtegmjlblehjccaaGreatK9
import Derived.Deep.RegionHeld3
import Derived.Deep.DrawnRows
import Derived.Lib.SliceRun
section
/- Walks: parameters of the reference. -/
namespace Go.Proofs.YtegmjlblehjccaaGreat
set_option linter.unusedSimpArgs false
set_option linter.unusedVariables false
open Go.RowKit
attribute [local go_sem ↓] Go.wp_at_zero Go.wp_at_succ

set_option maxHeartbeats 8000000 in
set_option maxRecDepth 100000 in
theorem l10Parameters_c (P : Nat) (g : Nat) (v : Value) (us : List Value) (A : List (List Int)) (w : World) (hv : RII w v us A) (hb : BoxD w g P v) (hD : DOk P A) :
    Calls Tryz.prog 112 #[.pointer (some ⟨g, 0, none⟩)] w (MakesPr w (prmV P A) (prmB P A)) := by
  have hP := hD.le
  have hDl := hD.len
  have HD := Lib.hid hD
  clear hD
  have hln := hv.len
  have hS := (St.refl w).newboxF 114 #[.int .i64 0, .int .i64 0, .int .i64 0, .int .i64 0, .int .i64 0]
  have b0 := (hS.oldBoxD hb).1
  have b1 := (hS.oldBoxD hb).2
  by_cases h1 : 2 ≤ P
  · by_cases h2 : 0 < A.length
    · have fz := eq_f (show ¬ (A.length : Int) = 0 by omega)
      have cz := (hS.oldII hv).cell 0 h2
      have x0 := hv.ixe 0 0 rfl h2
      have hl0 := (hv.row 0 h2).len
      have hm0 := (hv.row 0 h2).le
      have h1' : ¬ (P : Int) < 2 := by omega
      have HN1 := Lib.hid (fun (h : ¬ 2 ≤ (xat A 0).length) => prm_no1 (P := P) (A := A) (fun h' => h h'.2.2))
      have HN2 := Lib.hid (fun k (hk : k < A.length) (h : (xat A k).length ≠ (xat A 0).length) => prm_no2 (P := P) hk h)
      have HN3 := Lib.hid (fun k (hk : k < (parL P A).length) (h : nth (parL P A) k ≠ nth (parL P A) 0) => prm_no3 hk h)
      have hC0 := parL_pos (A := A) h1
      have hprm := Lib.hid (fun h3 h h' => prm_val (prm_yes (A := A) ⟨h1, h2, h3⟩ h h'))
      have hprb := Lib.hid (fun h3 h h' => prm_yes (A := A) ⟨h1, h2, h3⟩ h h')
      have HPC := fun W h hb' => Lib.hid (l10Pairs_c P g v us A W h hb' (by omega) hDl)
      have HR := fun W h hb' => Lib.hid (l10Replications_c P g v us A W h hb' HD.out)
      have hCle : (parL P A).length ≤ 1024 := by
        have := parK_len P A P
        have h2 : P * P ≤ 32 * 32 := Nat.mul_le_mul (by omega) (by omega)
        rw [parK_end] at this; omega
      generalize parL P A = C at *
      go_enter Tryz.func112, Tryz.ntmps112
      go_wp2_with fail
      go_loopw [5] (fun i wr => ∃ k : Nat, k ≤ A.length ∧ i = .int .i64 k ∧ Hid ((∀ j, j < k → (xat A j).length = (xat A 0).length) ∧ (0 < k → 2 ≤ (xat A 0).length)) ∧ St w.heap.size w wr [box 114 w.heap.size [.int .i64 0, .int .i64 0, .int .i64 0, .int .i64 0, .int .i64 0]]) (fun i _ => A.length - (intOf i).toNat)
      case atStart => exact ⟨0, by omega, rfl, ⟨fun j hj => by omega, fun h => by omega⟩, hS⟩
      case round =>
        clear hS b0 b1 cz
        obtain ⟨k, hk, rfl, hI, hS⟩ := hrel
        have b1 := (hS.oldBoxD hb).2
        by_cases hlt : k < A.length
        · have ck := (hS.oldII hv).cell k hlt
          have xk := hv.ixe (k : Int) k rfl hlt
          have hlk := (hv.row k hlt).len
          by_cases he : (xat A k).length = (xat A 0).length
          · have f := ne_f (show ((xat A k).length : Int) = (xat A 0).length by omega)
            have He := Lib.hid he
            clear he
            by_cases h3 : 2 ≤ (xat A 0).length
            · have h3' : ¬ ((xat A 0).length : Int) < 2 := by omega
              go_wp2_with fail
              go_roundw
              case rel => exact ⟨k + 1, by omega, by go_num, ⟨fun j hj => by
                by_cases e : j = k
                · rw [e]; exact He.out
                · exact hI.out.1 j (by omega), fun _ => h3⟩, hS⟩
              case measure => simp [intOf]; omega
            · have HN := Lib.hid (HN1.out h3)
              have h3' : ((xat A 0).length : Int) < 2 := by omega
              have hZ := hS.five rfl (.int .i64 0) (.int .i64 0) (.int .i64 0) (.int .i64 0) (.int .i64 0)
              have z0 := hZ.bcell 0 rfl 0 rfl
              have z1 := hZ.bcell 0 rfl 1 rfl
              have z2 := hZ.bcell 0 rfl 2 rfl
              have z3 := hZ.bcell 0 rfl 3 rfl
              have z4 := hZ.bcell 0 rfl 4 rfl
              have r0 := hS.bcell 0 rfl 0 rfl
              have r1 := hS.bcell 0 rfl 1 rfl
              have r2 := hS.bcell 0 rfl 2 rfl
              have r3 := hS.bcell 0 rfl 3 rfl
              have r4 := hS.bcell 0 rfl 4 rfl
              have f0 := hS.bfree 0 rfl
              go_wp2_with fail
              refine bodyPost_ret (v := .tuple #[.agg #[.int .i64 0, .int .i64 0, .int .i64 0, .int .i64 0, .int .i64 0], .bool false]) (by first | simp [results, Tryz.results112, go_sem, z0, z1, z2, z3, z4] | simp [results, Tryz.results112, go_sem, r0, r1, r2, r3, r4]) rfl ?_
              first | exact MakesPr.no HN.out hZ | exact MakesPr.no HN.out hS
          · have f := ne_t (fun e : ((xat A k).length : Int) = (xat A 0).length => he (by omega))
            have HN := Lib.hid (HN2.out k hlt he)
            clear he
            have hZ := hS.five rfl (.int .i64 0) (.int .i64 0) (.int .i64 0) (.int .i64 0) (.int .i64 0)
            have z0 := hZ.bcell 0 rfl 0 rfl
            have z1 := hZ.bcell 0 rfl 1 rfl
            have z2 := hZ.bcell 0 rfl 2 rfl
            have z3 := hZ.bcell 0 rfl 3 rfl
            have z4 := hZ.bcell 0 rfl 4 rfl
            have r0 := hS.bcell 0 rfl 0 rfl
            have r1 := hS.bcell 0 rfl 1 rfl
            have r2 := hS.bcell 0 rfl 2 rfl
            have r3 := hS.bcell 0 rfl 3 rfl
            have r4 := hS.bcell 0 rfl 4 rfl
            have f0 := hS.bfree 0 rfl
            go_wp2_with fail
            refine bodyPost_ret (v := .tuple #[.agg #[.int .i64 0, .int .i64 0, .int .i64 0, .int .i64 0, .int .i64 0], .bool false]) (by first | simp [results, Tryz.results112, go_sem, z0, z1, z2, z3, z4] | simp [results, Tryz.results112, go_sem, r0, r1, r2, r3, r4]) rfl ?_
            first | exact MakesPr.no HN.out hZ | exact MakesPr.no HN.out hS
        · obtain rfl : k = A.length := by omega
          have hall := Lib.hid hI.out.1
          have h3 := hI.out.2 h2
          clear hI
          go_wp2_with fail
          refine (HPC _ (hS.oldII hv) (hS.oldBoxD hb)).out.mono ?_
          clear HPC
          rintro e w2 ⟨vc, rfl, h4⟩
          have hS2 := hS.call h4
          have hlc := (h4.rdI 0 rfl).len
          have hic := (h4.rdI 0 rfl).ixe
          have xc0 := hic 0 0 rfl hC0
          simp only [List.cons_append, List.nil_append] at hS2
          clear hS h4 b1
          go_wp2_with fail
          go_loopw [7] (fun i wr => ∃ k : Nat, k ≤ C.length ∧ i = .int .i64 k ∧ Hid (∀ j, j < k → nth C j = nth C 0) ∧ St w.heap.size w wr [box 114 w.heap.size [.int .i64 0, .int .i64 0, .int .i64 0, .int .i64 0, .int .i64 0], row 2 vc (iv C)]) (fun i _ => C.length - (intOf i).toNat)
          case atStart => exact ⟨0, by omega, rfl, fun j hj => by omega, hS2⟩
          case round =>
            clear hS2
            obtain ⟨k, hk, rfl, hI, hS⟩ := hrel
            by_cases hlt : k < C.length
            · have qk := fun s : SS w.heap.size w [box 114 w.heap.size [.int .i64 0, .int .i64 0, .int .i64 0, .int .i64 0, .int .i64 0], row 2 vc (iv C)] => (s.st.rdI 1 rfl).cell k hlt
              have qz := fun s : SS w.heap.size w [box 114 w.heap.size [.int .i64 0, .int .i64 0, .int .i64 0, .int .i64 0, .int .i64 0], row 2 vc (iv C)] => (s.st.rdI 1 rfl).cell 0 hC0
              have xk := hic (k : Int) k rfl hlt
              by_cases he : nth C k = nth C 0
              · have f := ne_f he
                have He := Lib.hid he
                clear he
                go_wp2_with fail
                have hne : Nonempty (SS _ _ _) := ⟨⟨_, hS⟩⟩
                refine wp_region_st (by kernel_rfl) (by kernel_rfl) hS ?_
                repeat (go_big_quiet_step (fail))
                refine wpQuiet_nil ?_
                rintro _ ⟨s2, rfl⟩
                have hS3 := s2.st
                generalize s2.w = w3 at hS3 ⊢
                go_wp2_with fail
                go_roundw
                case rel => exact ⟨k + 1, by omega, by go_num, fun j hj => by
                  by_cases e : j = k
                  · rw [e]; exact He.out
                  · exact hI.out j (by omega), hS3⟩
                case measure => simp [intOf]; omega
              · have f := ne_t he
                have HN := Lib.hid (HN3.out k hlt he)
                clear he
                go_wp2_with fail
                have hne : Nonempty (SS _ _ _) := ⟨⟨_, hS⟩⟩
                refine wp_region_st (by kernel_rfl) (by kernel_rfl) hS ?_
                repeat (go_big_quiet_step (fail))
                refine wpQuiet_nil ?_
                rintro _ ⟨s2, rfl⟩
                have hS3 := s2.st
                generalize s2.w = w3 at hS3 ⊢
                have hZ := hS3.five rfl (.int .i64 0) (.int .i64 0) (.int .i64 0) (.int .i64 0) (.int .i64 0)
                have z0 := hZ.bcell 0 rfl 0 rfl
                have z1 := hZ.bcell 0 rfl 1 rfl
                have z2 := hZ.bcell 0 rfl 2 rfl
                have z3 := hZ.bcell 0 rfl 3 rfl
                have z4 := hZ.bcell 0 rfl 4 rfl
                have r0 := hS3.bcell 0 rfl 0 rfl
                have r1 := hS3.bcell 0 rfl 1 rfl
                have r2 := hS3.bcell 0 rfl 2 rfl
                have r3 := hS3.bcell 0 rfl 3 rfl
                have r4 := hS3.bcell 0 rfl 4 rfl
                have f0 := hS3.bfree 0 rfl
                go_wp2_with fail
                refine bodyPost_ret (v := .tuple #[.agg #[.int .i64 0, .int .i64 0, .int .i64 0, .int .i64 0, .int .i64 0], .bool false]) (by first | simp [results, Tryz.results112, go_sem, z0, z1, z2, z3, z4] | simp [results, Tryz.results112, go_sem, r0, r1, r2, r3, r4]) rfl ?_
                first | exact MakesPr.no HN.out hZ | exact MakesPr.no HN.out hS3
            · obtain rfl : k = C.length := by omega
              have HV := Lib.hid (hprm.out h3 hall.out hI.out)
              have HB := Lib.hid (hprb.out h3 hall.out hI.out)
              have b0 := (hS.oldBoxD hb).1
              have b1 := (hS.oldBoxD hb).2
              have c0 := (hS.rdI 1 rfl).cell 0 hC0
              have hS3 := hS.drew
              clear hI hprm hprb HN2 HN3 HN1
              go_wp2_with fail
              refine regionG (fun w' => w'.cell? ⟨g, 0, none⟩ = some (.int .i64 P) ∧ w'.cell? ⟨g, 1, none⟩ = some v ∧ w'.cell? (el vc 0) = some (.int .i64 (nth C 0))) 18 (by kernel_rfl) ⟨cell_dr b0, cell_dr b1, cell_dr c0⟩ (fun hHeld => ?_)
              refine takeP (i := 0) (v := ?_) rfl (by kernel_rfl) (fun _ _ _ h => h) (by rfl) ?_ (by assumption) ?_
              case refine_2 => (intro w'; go_simp; first | done | with_reducible rfl)
              try simp only [Act.put, List.setIfInBounds_toArray, List.set_cons_zero, List.set_cons_succ]
              refine takeP (i := 1) (v := ?_) rfl (by kernel_rfl) (fun _ _ _ h => h) (by rfl) ?_ (by assumption) ?_
              case refine_2 => (intro w'; go_simp; first | done | with_reducible rfl)
              try simp only [Act.put, List.setIfInBounds_toArray, List.set_cons_zero, List.set_cons_succ]
              refine takeP (i := 2) (v := ?_) rfl (by kernel_rfl) (fun _ _ _ h => h) (by rfl) ?_ (by assumption) ?_
              case refine_2 => (intro w'; go_simp; first | done | with_reducible rfl)
              try simp only [Act.put, List.setIfInBounds_toArray, List.set_cons_zero, List.set_cons_succ]
              refine takeH (i := 3) [17] (v := ?_) rfl (by kernel_rfl) (fun _ _ _ h => h) (by rfl) ?_ (by assumption) ?_
              case refine_2 => (intro w' hSw; (try dsimp only at hSw); go_simp; first | done | with_reducible rfl)
              try simp only [Act.put, List.setIfInBounds_toArray, List.set_cons_zero, List.set_cons_succ]
              refine takeP (i := 4) (v := ?_) rfl (by kernel_rfl) (fun _ _ _ h => h) (by rfl) ?_ (by assumption) ?_
              case refine_2 => (intro w'; go_simp; first | done | with_reducible rfl)
              try simp only [Act.put, List.setIfInBounds_toArray, List.set_cons_zero, List.set_cons_succ]
              refine takeP (i := 5) (v := ?_) rfl (by kernel_rfl) (fun _ _ _ h => h) (by rfl) ?_ (by assumption) ?_
              case refine_2 => (intro w'; go_simp; first | done | with_reducible rfl)
              try simp only [Act.put, List.setIfInBounds_toArray, List.set_cons_zero, List.set_cons_succ]
              refine takeP (i := 6) (v := ?_) rfl (by kernel_rfl) (fun _ _ _ h => h) (by rfl) ?_ (by assumption) ?_
              case refine_2 => (intro w'; go_simp; first | done | with_reducible rfl)
              try simp only [Act.put, List.setIfInBounds_toArray, List.set_cons_zero, List.set_cons_succ]
              refine takeH (i := 7) [8, 17] (v := ?_) rfl (by kernel_rfl) (fun _ _ _ h => h) (by rfl) ?_ (by assumption) ?_
              case refine_2 => (intro w' hSw; (try dsimp only at hSw); go_simp; first | done | with_reducible rfl)
              try simp only [Act.put, List.setIfInBounds_toArray, List.set_cons_zero, List.set_cons_succ]
              refine takeP (i := 8) (v := ?_) rfl (by kernel_rfl) (fun _ _ _ h => h) (by rfl) ?_ (by assumption) ?_
              case refine_2 => (intro w'; go_simp; first | done | with_reducible rfl)
              try simp only [Act.put, List.setIfInBounds_toArray, List.set_cons_zero, List.set_cons_succ]
              refine takeP (i := 9) (v := ?_) rfl (by kernel_rfl) (fun _ _ _ h => h) (by rfl) ?_ (by assumption) ?_
              case refine_2 => (intro w'; go_simp; first | done | with_reducible rfl)
              try simp only [Act.put, List.setIfInBounds_toArray, List.set_cons_zero, List.set_cons_succ]
              refine takeP (i := 13) (v := ?_) rfl (by kernel_rfl) (fun _ _ _ h => h) (by rfl) ?_ (by assumption) ?_
              case refine_2 => (intro w'; go_simp; first | done | with_reducible rfl)
              try simp only [Act.put, List.setIfInBounds_toArray, List.set_cons_zero, List.set_cons_succ]
              refine takeP (i := 14) (v := ?_) rfl (by kernel_rfl) (fun _ _ _ h => h) (by rfl) ?_ (by assumption) ?_
              case refine_2 => (intro w'; go_simp; first | done | with_reducible rfl)
              try simp only [Act.put, List.setIfInBounds_toArray, List.set_cons_zero, List.set_cons_succ]
              refine takeP (i := 15) (v := ?_) rfl (by kernel_rfl) (fun _ _ _ h => h) (by rfl) ?_ (by assumption) ?_
              case refine_2 => (intro w'; go_simp; first | done | with_reducible rfl)
              try simp only [Act.put, List.setIfInBounds_toArray, List.set_cons_zero, List.set_cons_succ]
              refine takeH (i := 16) [17] (v := ?_) rfl (by kernel_rfl) (fun _ _ _ h => h) (by rfl) ?_ (by assumption) ?_
              case refine_2 => (intro w' hSw; (try dsimp only at hSw); go_simp; first | done | with_reducible rfl)
              try simp only [Act.put, List.setIfInBounds_toArray, List.set_cons_zero, List.set_cons_succ]
              refine readyG (rs := [10]) (by kernel_rfl) (by simp) ?_
              refine AllG.cons rfl (fun K hK => ?_) AllG.nil
              go_simp
              refine (HR _ (hS3.oldII hv) (hS3.oldBoxD hb)).out.mono ?_
              rintro e w5 ⟨vr, rfl, h5⟩
              have hS5 := hS3.call h5
              have e0 := (hS5.oldBoxD hb).1
              have e1 := (hS5.oldBoxD hb).2
              have ec := (hS5.rdI 1 rfl).cell 0 hC0
              have xr0 := (h5.rdI 0 rfl).ixe 0 0 rfl (by rw [repL_len]; omega)
              have cr0 := (h5.rdI 0 rfl).cell 0 (by rw [repL_len]; omega)
              have hS6 := Lib.hid hS5
              refine hK.out _ _ ⟨e0, e1, ec⟩ (fun hHeld => ?_)
              clear hK K h5 hS3 hS b0 b1 c0
              try simp only [Act.put, List.setIfInBounds_toArray, List.set_cons_zero, List.set_cons_succ]
              refine takeP (i := 11) (v := ?_) rfl (by kernel_rfl) (fun _ _ _ h => h) (by rfl) ?_ (by assumption) ?_
              case refine_2 => (intro w'; go_simp; first | done | with_reducible rfl)
              try simp only [Act.put, List.setIfInBounds_toArray, List.set_cons_zero, List.set_cons_succ]
              refine readyG (rs := [12]) (by kernel_rfl) (by simp) ?_
              refine AllG.cons rfl (fun K hK => ?_) AllG.nil
              go_simp
              refine hK.out _ _ ⟨e0, e1, ec⟩ (fun hHeld => ?_)
              clear hK K
              try simp only [Act.put, List.setIfInBounds_toArray, List.set_cons_zero, List.set_cons_succ]
              have t0 := hS5.bcell 0 rfl 0 rfl
              have t1 := hS5.bcell 0 rfl 1 rfl
              have t2 := hS5.bcell 0 rfl 2 rfl
              have t3 := hS5.bcell 0 rfl 3 rfl
              have t4 := hS5.bcell 0 rfl 4 rfl
              have f0 := hS5.bfree 0 rfl
              refine takeP (i := 17) (v := ?_) rfl (by kernel_rfl) (fun _ _ _ h => h) (by rfl) ?_ (by assumption) ?_
              case refine_2 => (intro w'; go_simp; first | done | with_reducible rfl)
              try simp only [Act.put, List.setIfInBounds_toArray, List.set_cons_zero, List.set_cons_succ]
              refine readyG (rs := [18]) (by kernel_rfl) (by simp) ?_
              refine AllG.last rfl (by kernel_rfl) (fun K hK => ?_) AllG.nil
              go_simp
              refine hK.out _ _ ?_
              clear hK K
              try simp only [Act.put, List.setIfInBounds_toArray, List.set_cons_zero, List.set_cons_succ]
              refine readyG (rs := [19]) (by kernel_rfl) (by simp) ?_
              refine AllG.last rfl (by kernel_rfl) (fun K hK => ?_) AllG.nil
              go_simp
              refine hK.out _ _ ?_
              clear hK K
              try simp only [Act.put, List.setIfInBounds_toArray, List.set_cons_zero, List.set_cons_succ]
              refine doneG (by kernel_rfl) ?_ _
              refine NoPanic.normal ?_
              have hZ := hS6.out.five rfl (.int .i64 P) (.int .i64 A.length) (.int .i64 (nth (repL P A) 0)) (.int .i64 (xat A 0).length) (.int .i64 (nth C 0))
              have z0 := hZ.bcell 0 rfl 0 rfl
              have z1 := hZ.bcell 0 rfl 1 rfl
              have z2 := hZ.bcell 0 rfl 2 rfl
              have z3 := hZ.bcell 0 rfl 3 rfl
              have z4 := hZ.bcell 0 rfl 4 rfl
              clear hS5 t0 t1 t2 t3 t4
              go_wp2_with fail
              refine bodyPost_ret (v := .tuple #[.agg #[.int .i64 P, .int .i64 A.length, .int .i64 (nth (repL P A) 0), .int .i64 (xat A 0).length, .int .i64 (nth C 0)], .bool true]) (by simp [results, Tryz.results112, go_sem, z0, z1, z2, z3, z4]) rfl ?_
              rw [HB.out, HV.out]
              exact ⟨rfl, hZ.out⟩
    · have H := Lib.hid (prm_no1 (P := P) (A := A) (fun h => h2 h.2.1))
      have H0 := Lib.hid (show A.length = 0 by omega)
      have f := eq_t (show (A.length : Int) = 0 by omega)
      have h1' : ¬ (P : Int) < 2 := by omega
      clear h2
      go_enter Tryz.func112, Tryz.ntmps112
      have hZ := hS.five rfl (.int .i64 0) (.int .i64 0) (.int .i64 0) (.int .i64 0) (.int .i64 0)
      have z0 := hZ.bcell 0 rfl 0 rfl
      have z1 := hZ.bcell 0 rfl 1 rfl
      have z2 := hZ.bcell 0 rfl 2 rfl
      have z3 := hZ.bcell 0 rfl 3 rfl
      have z4 := hZ.bcell 0 rfl 4 rfl
      have r0 := hS.bcell 0 rfl 0 rfl
      have r1 := hS.bcell 0 rfl 1 rfl
      have r2 := hS.bcell 0 rfl 2 rfl
      have r3 := hS.bcell 0 rfl 3 rfl
      have r4 := hS.bcell 0 rfl 4 rfl
      have f0 := hS.bfree 0 rfl
      go_wp2_with fail
      refine bodyPost_ret (v := .tuple #[.agg #[.int .i64 0, .int .i64 0, .int .i64 0, .int .i64 0, .int .i64 0], .bool false]) (by first | simp [results, Tryz.results112, go_sem, z0, z1, z2, z3, z4] | simp [results, Tryz.results112, go_sem, r0, r1, r2, r3, r4]) rfl ?_
      first | exact MakesPr.no H.out hZ | exact MakesPr.no H.out hS
  · have H := Lib.hid (prm_no1 (P := P) (A := A) (fun h => h1 h.1))
    have h1' : (P : Int) < 2 := by omega
    go_enter Tryz.func112, Tryz.ntmps112
    have hZ := hS.five rfl (.int .i64 0) (.int .i64 0) (.int .i64 0) (.int .i64 0) (.int .i64 0)
    have z0 := hZ.bcell 0 rfl 0 rfl
    have z1 := hZ.bcell 0 rfl 1 rfl
    have z2 := hZ.bcell 0 rfl 2 rfl
    have z3 := hZ.bcell 0 rfl 3 rfl
    have z4 := hZ.bcell 0 rfl 4 rfl
    have r0 := hS.bcell 0 rfl 0 rfl
    have r1 := hS.bcell 0 rfl 1 rfl
    have r2 := hS.bcell 0 rfl 2 rfl
    have r3 := hS.bcell 0 rfl 3 rfl
    have r4 := hS.bcell 0 rfl 4 rfl
    have f0 := hS.bfree 0 rfl
    go_wp2_with fail
    refine bodyPost_ret (v := .tuple #[.agg #[.int .i64 0, .int .i64 0, .int .i64 0, .int .i64 0, .int .i64 0], .bool false]) (by first | simp [results, Tryz.results112, go_sem, z0, z1, z2, z3, z4] | simp [results, Tryz.results112, go_sem, r0, r1, r2, r3, r4]) rfl ?_
    first | exact MakesPr.no H.out hZ | exact MakesPr.no H.out hS

end Go.Proofs.YtegmjlblehjccaaGreat
end

section
/- Walks: triple systems told, their third points. -/
namespace Go.Proofs.YtegmjlblehjccaaGreat
set_option linter.unusedSimpArgs false
set_option linter.unusedVariables false
open Go.RowKit

theorem TS.pv {P : Nat} {A : List (List Int)} (h : TS P A) : prmB P A = true ∧ nth (prmV P A) 3 = 3 ∧ nth (prmV P A) 4 = 1 := by
  obtain ⟨h1, h2, h3⟩ := h.prm
  refine ⟨h1, ?_, ?_⟩
  · unfold prmV; rw [if_pos h1]; simp [nth]; omega
  · unfold prmV; rw [if_pos h1]; simp only [nth] at h3 ⊢; simpa using h3
set_option maxHeartbeats 4000000 in
set_option maxRecDepth 100000 in
theorem IsTripleSystem_c (P : Nat) (v : Value) (us : List Value) (A : List (List Int)) (w : World) (hv : RII w v us A) (hA : TS P A) :
    Calls Tryz.prog 32 #[dv P v] w (GivesB w true) := by
  obtain ⟨a, c, hsh⟩ := hv.1.sl.sh
  rw [hv.2.1] at hsh
  subst hsh
  have hS1 := (St.refl w).newboxF 26 #[.int .i64 P, .slice a A.length c]
  have b0 := hS1.bcell 0 rfl 0 rfl
  have b1 := hS1.bcell 0 rfl 1 rfl
  have K1 := Lib.hid (ValidDesign_c P (.slice a A.length c) us A _ (hS1.oldII hv))
  rw [hA.ok] at K1
  have K2 := fun W h => Lib.hid (parametersOf_c P (.slice a A.length c) us A W h (dOk_t hA.ok))
  obtain ⟨p1, p2, p3⟩ := hA.pv
  rw [p1] at K2
  unfold dv at K1 K2 ⊢
  generalize prmV P A = X at *
  clear p1 hA
  go_enter Tryz.func32, Tryz.ntmps32
  go_wp2_with fail
  refine K1.out.mono ?_
  clear K1 b0 b1
  rintro e w2 ⟨rfl, h2⟩
  have hS2 := hS1.call0 h2
  have b0 := hS2.bcell 0 rfl 0 rfl
  have b1 := hS2.bcell 0 rfl 1 rfl
  clear h2 hS1
  go_wp2_with fail
  refine (K2 _ (hS2.oldII hv)).out.mono ?_
  rintro e w3 ⟨rfl, h3⟩
  have hZ := (hS2.call0 h3).newboxF 114 #[.int .i64 (nth X 0), .int .i64 (nth X 1), .int .i64 (nth X 2), .int .i64 3, .int .i64 1]
  have z3 := hZ.bcell 0 rfl 3 rfl
  have z4 := hZ.bcell 0 rfl 4 rfl
  unfold pmV
  rw [p2, p3]
  clear p2 p3 b0 b1 h3 hS2
  go_wp2_with fail
  go_ret
  exact ⟨rfl, hZ.out⟩
set_option maxHeartbeats 4000000 in
set_option maxRecDepth 100000 in
theorem l11Ok_c (P : Nat) (g : Nat) (v : Value) (us : List Value) (A : List (List Int)) (w : World) (hv : RII w v us A) (hb : BoxD w g P v) (hA : TS P A) :
    Calls Tryz.prog 47 #[.pointer (some ⟨g, 0, none⟩)] w (GivesB w true) := by
  have K1 := Lib.hid (l10Ok_c P g v us A w hv hb)
  rw [hA.ok] at K1
  have K2 := fun W h hb => Lib.hid (l10Parameters_c P g v us A W h hb (dOk_t hA.ok))
  obtain ⟨p1, p2, p3⟩ := hA.pv
  rw [p1] at K2
  generalize prmV P A = X at *
  have hS1 := St.refl w
  clear p1 hA
  go_enter Tryz.func47, Tryz.ntmps47
  go_wp2_with fail
  refine K1.out.mono ?_
  clear K1
  rintro e w2 ⟨rfl, h2⟩
  have hS2 := hS1.call0 h2
  clear h2 hS1
  go_wp2_with fail
  refine (K2 _ (hS2.oldII hv) (hb.keep hS2.below)).out.mono ?_
  rintro e w3 ⟨rfl, h3⟩
  have hZ := (hS2.call0 h3).newboxF 114 #[.int .i64 (nth X 0), .int .i64 (nth X 1), .int .i64 (nth X 2), .int .i64 3, .int .i64 1]
  have z3 := hZ.bcell 0 rfl 3 rfl
  have z4 := hZ.bcell 0 rfl 4 rfl
  unfold pmV
  rw [p2, p3]
  clear p2 p3 h3 hS2
  go_wp2_with fail
  go_ret
  exact ⟨rfl, hZ.out⟩
theorem sIsTripleSystem_c (P : Nat) (v : Value) (us : List Value) (A : List (List Int)) (w : World) (hv : RII w v us A) (hA : TS P A) :
    Calls Tryz.prog 13 #[dv P v] w (GivesB w true) := by
  obtain ⟨a, c, hsh⟩ := hv.1.sl.sh
  rw [hv.2.1] at hsh
  subst hsh
  have hS1 := (St.refl w).newboxF 26 #[.int .i64 P, .slice a A.length c]
  have K := Lib.hid (l11Ok_c P w.heap.size (.slice a A.length c) us A _ (hS1.oldII hv) ⟨hS1.bcell 0 rfl 0 rfl, hS1.bcell 0 rfl 1 rfl⟩ hA)
  clear hA
  unfold dv
  go_enter Tryz.func13, Tryz.ntmps13
  go_wp2_with fail
  refine K.out.mono ?_
  rintro e w2 ⟨rfl, h2⟩
  go_wp2_with fail
  go_ret
  exact ⟨rfl, (hS1.call0 h2).out⟩
end Go.Proofs.YtegmjlblehjccaaGreat
end

section
/- Walks: the matrix of third points. -/
namespace Go.Proofs.YtegmjlblehjccaaGreat
set_option linter.unusedSimpArgs false
set_option linter.unusedVariables false
open Go.RowKit
attribute [local go_sem ↓] Go.wp_at_zero Go.wp_at_succ

set_option maxHeartbeats 16000000 in
set_option maxRecDepth 100000 in
theorem thirdPoints_c (P : Nat) (v : Value) (us : List Value) (A : List (List Int)) (w : World) (hv : RII w v us A) (hA : TS P A) :
    Calls Tryz.prog 50 #[dv P v] w (MakesII w (sqF P fun x y => (thF A x y : Int))) := by
  obtain ⟨a, c, hsh⟩ := hv.1.sl.sh
  rw [hv.2.1] at hsh
  subst hsh
  have hS1 := (St.refl w).newboxF 26 #[.int .i64 P, .slice a A.length c]
  have b0 := hS1.bcell 0 rfl 0 rfl
  have b1 := hS1.bcell 0 rfl 1 rfl
  have hP := hA.p32
  have KE := Lib.hid (fun W => emptySquare_c P W (by omega))
  have HA := Lib.hid hA
  have hA128 : A.length ≤ 128 := by have := (dOk_t hA.ok).len; omega
  clear hA
  unfold dv
  go_enter Tryz.func50, Tryz.ntmps50
  go_wp2_with fail
  refine (KE.out _).mono ?_
  rintro e w2 ⟨o, uo, rfl, hlo, h2⟩
  rw [sqF_len] at hlo
  have hS2 : St w.heap.size w w2 (own2 o uo (sqF P fun _ _ => 0) ++ [box 26 w.heap.size [.int .i64 P, .slice a A.length c]]) := (hS1.call h2).perm List.perm_append_comm
  have hlen := (rii2 hS2 (by rw [hlo, sqF_len])).len
  rw [sqF_len] at hlen
  have Hlo := Lib.hid hlo
  clear b0 b1 hS1 h2 KE hlo
  go_wp2_with fail
  go_loopw [16] (fun iv' wr => ∃ (k : Nat) (S : List (List Int)), k ≤ P ∧ iv' = .int .i64 k ∧ Hid (Sqr P S ∧ ∀ x y, x < P → y < P → at2 S x y = if x = y ∧ x < k then (x : Int) else 0) ∧ St w.heap.size w wr (own2 o uo S ++ [box 26 w.heap.size [.int .i64 P, .slice a A.length c]])) (fun i _ => P - (intOf i).toNat)
  case atStart => exact ⟨0, _, by omega, rfl, Lib.hid ⟨sqF_sqr P _, fun x y hx hy => by rw [at2_sqF hx hy, if_neg (by omega)]⟩, hS2⟩
  case round =>
    clear hS2
    obtain ⟨k, S, hk, rfl, hI, hS⟩ := hrel
    have hlS : S.length = P := hI.out.1.len
    by_cases hlt : k < P
    · have hki : (k : Int) < (P : Int) := by omega
      have hR := rii2 hS (by rw [Hlo.out, hlS])
      have hr1 := hR.ixe (k : Int) k rfl (by rw [hlS]; exact hlt)
      have c1 := hR.cell k (by rw [hlS]; exact hlt)
      have hrl : (xat S k).length = P := hI.out.1.row k hlt
      have hr2 := (hR.row k (by rw [hlS]; exact hlt)).ixe (k : Int) k rfl (by rw [hrl]; exact hlt)
      have hat := hS.at_row (by rw [Hlo.out, hlS]) (j := k) (by rw [hlS]; exact hlt)
      have u1 := hS.unfrozen (k + 1) hat (j := k) (by rw [iv_len, hrl]; exact hlt)
      have co1 := (hS.rdI (k + 1) hat).cell k (by rw [hrl]; exact hlt)
      have hS9 := hS.store (k + 1) hat (j := k) (by rw [iv_len, hrl]; exact hlt) (.int .i64 (k : Int))
      rw [iv_set, own2_set (by rw [Hlo.out, hlS]) (by rw [hlS]; exact hlt), show S.set k ((xat S k).set k (k : Int)) = putS S k k k from rfl] at hS9
      have hI2 := Lib.hid (show Sqr P (putS S k k k) ∧ ∀ x y, x < P → y < P → at2 (putS S k k k) x y = if x = y ∧ x < k + 1 then (x : Int) else 0 from ⟨putS_sqr hI.out.1 hlt k _, fun x y hx hy => by
        rw [at2_putS hI.out.1 hlt hlt, hI.out.2 x y hx hy]
        by_cases e : k = x ∧ k = y
        · obtain ⟨rfl, rfl⟩ := e; rw [if_pos ⟨rfl, rfl⟩, if_pos ⟨rfl, by omega⟩]
        · rw [if_neg e]
          by_cases e2 : x = y ∧ x < k
          · rw [if_pos e2, if_pos ⟨e2.1, by omega⟩]
          · rw [if_neg e2, if_neg (by omega)]⟩)
      clear hat hR hI hS
      go_wp2_with fail
      go_roundw
      case rel => exact ⟨k + 1, _, by omega, by go_num, hI2, hS9⟩
      case measure => simp [intOf]; omega
    · have hki : ¬ (k : Int) < (P : Int) := by omega
      have hT0 := Lib.hid (show ThS P A 0 0 S from ⟨hI.out.1, fun x y hx hy => by
        rw [hI.out.2 x y hx hy, thK_00]
        by_cases e : x = y
        · rw [if_pos ⟨e, by omega⟩, if_pos e]
        · rw [if_neg (by omega), if_neg e]⟩)
      have b1 := hS.bcell _ (at_app (i := 0) rfl) 1 rfl
      have hlv := hv.len
      clear hI hlS
      go_wp2_with fail
      go_loopw [30] (fun iv' wr => ∃ (k : Nat) (S : List (List Int)), k ≤ A.length ∧ iv' = .int .i64 k ∧ Hid (ThS P A k 0 S) ∧ St w.heap.size w wr (own2 o uo S ++ [box 26 w.heap.size [.int .i64 P, .slice a A.length c]])) (fun i _ => A.length - (intOf i).toNat)
      case atStart => exact ⟨0, S, by omega, rfl, hT0, hS⟩
      case round =>
        clear hS hT0 b1
        obtain ⟨k, S, hk, rfl, hI, hS⟩ := hrel
        by_cases hlt2 : k < A.length
        · have hki2 : (k : Int) < (A.length : Int) := by omega
          have hvo := hS.oldII hv
          have hr1 := hvo.ixe (k : Int) k rfl hlt2
          have c1 := hvo.cell k hlt2
          have h3 := HA.out.three _ (xat_mem hlt2)
          have hbl := (hvo.row k hlt2).len
          rw [h3] at hbl
          clear hvo
          go_wp2_with fail
          go_loopw [36] (fun iv' wr => ∃ (i : Nat) (S : List (List Int)), i ≤ 3 ∧ iv' = .int .i64 i ∧ Hid (ThS P A k i S) ∧ St w.heap.size w wr (own2 o uo S ++ [box 26 w.heap.size [.int .i64 P, .slice a A.length c]])) (fun i _ => 3 - (intOf i).toNat)
          case atStart => exact ⟨0, S, by omega, rfl, hI, hS⟩
          case round =>
            clear hS hI c1
            obtain ⟨i, S, hi, rfl, hI, hS⟩ := hrel
            by_cases hi3 : i < 3
            · obtain ⟨x, y, z, hx, hy, hz, n1, n2, n3, e1, e2, e3, hm, htk, t1, t2⟩ := three_at HA.out hlt2 hi3
              have hI2 := Lib.hid (hI.out.step HA.out hx hy hz n1 n2 n3 hm htk t1 t2)
              have hSq := hI.out.sqr
              have hSd := hS
              have hb := (hS.oldII hv).row k hlt2
              have lS : S.length = P := hSq.len
              have rS : (xat S x).length = P := hSq.row x hx
              have hR := rii2 hSd (by rw [Hlo.out, lS])
              have xo := hR.ixe (x : Int) x rfl (by rw [lS]; exact hx)
              have co := hR.cell x (by rw [lS]; exact hx)
              have rx := hR.row x (by rw [lS]; exact hx)
              have xy := rx.ixe (y : Int) y rfl (by rw [rS]; exact hy)
              have xz := rx.ixe (z : Int) z rfl (by rw [rS]; exact hz)
              have hat := hSd.at_row (by rw [Hlo.out, lS]) (j := x) (by rw [lS]; exact hx)
              have f1 := hSd.unfrozen (x + 1) hat (j := y) (by rw [iv_len, rS]; exact hy)
              have g1 := rx.cell y (by rw [rS]; exact hy)
              have HS9 := hSd.store (x + 1) hat (j := y) (by rw [iv_len, rS]; exact hy) (.int .i64 (z : Int))
              rw [iv_set, own2_set (by rw [Hlo.out, lS]) (by rw [lS]; exact hx), show S.set x ((xat S x).set y (z : Int)) = putS S x y z from rfl] at HS9
              have hSq2 := putS_sqr hSq hx y (z : Int)
              have lS2 : (putS S x y z).length = P := hSq2.len
              have rS2 : (xat (putS S x y z) x).length = P := hSq2.row x hx
              have hR2 := rii2 HS9 (by rw [Hlo.out, lS2])
              have d3 := hR2.cell x (by rw [lS2]; exact hx)
              have hat2 := HS9.at_row (by rw [Hlo.out, lS2]) (j := x) (by rw [lS2]; exact hx)
              have f2 := HS9.unfrozen (x + 1) hat2 (j := z) (by rw [iv_len, rS2]; exact hz)
              have g2 := (hR2.row x (by rw [lS2]; exact hx)).cell z (by rw [rS2]; exact hz)
              have HS10 := HS9.store (x + 1) hat2 (j := z) (by rw [iv_len, rS2]; exact hz) (.int .i64 (y : Int))
              rw [iv_set, own2_set (by rw [Hlo.out, lS2]) (by rw [lS2]; exact hx), show (putS S x y z).set x ((xat (putS S x y z) x).set z (y : Int)) = putS (putS S x y z) x z y from rfl] at HS10
              have H10 := Lib.hid HS10
              clear HS9 HS10 hat hat2 hR hR2 hSq hSq2 lS rS lS2 rS2 hI hS hSd rx hm htk t1 t2 n1 n2 n3
              rcases (show i = 0 ∨ i = 1 ∨ i = 2 by omega) with rfl | rfl | rfl
              · have cx := hb.cell 0 (by rw [h3]; decide)
                have cy := hb.cell 1 (by rw [h3]; decide)
                have cz := hb.cell 2 (by rw [h3]; decide)
                have ix := hb.ixe (0 : Int) 0 rfl (by rw [h3]; decide)
                have iy := hb.ixe (1 : Int) 1 rfl (by rw [h3]; decide)
                have iz := hb.ixe (2 : Int) 2 rfl (by rw [h3]; decide)
                rw [show nth (xat A k) 0 = (x : Int) from e1] at cx
                rw [show nth (xat A k) 1 = (y : Int) from e2] at cy
                rw [show nth (xat A k) 2 = (z : Int) from e3] at cz
                clear e1 e2 e3 hb
                have w1 : IntKind.i64.wrap 1 = 1 := by decide
                have w2 : IntKind.i64.wrap 2 = 2 := by decide
                have w3 : IntKind.i64.wrap 3 = 3 := by decide
                have w4 : IntKind.i64.wrap 4 = 4 := by decide
                have m1 : Int.tmod 1 3 = 1 := by decide
                have m2 : Int.tmod 2 3 = 2 := by decide
                have m3 : Int.tmod 3 3 = 0 := by decide
                have m4 : Int.tmod 4 3 = 1 := by decide
                go_wp2_with fail
                go_region_held3 (fun w' => w'.cell? (el (vat us k) 1) = some (.int .i64 y) ∧ w'.cell? (el (vat us k) 2) = some (.int .i64 z)) (((try dsimp only); (repeat' apply And.intro); all_goals (repeat (first | assumption | exact cell_dr (by assumption) | refine cell_dr ?_ | refine cell_al ?_ | refine cell_sc (by assumption) ?_)))) (fail)
                clear cx cy cz ix iy iz w1 w2 w3 w4 m1 m2 m3 m4
                go_wp2_with fail
                refine regionG (fun w' => w'.cell? (el o x) = some (vat uo x)) 15 (by kernel_rfl) (cell_dr (cell_dr co)) (fun hHeld => ?_)
                refine takeP (i := 0) (v := ?_) rfl (by kernel_rfl) (fun _ _ _ h => h) (by rfl) ?_ (by assumption) ?_
                case refine_2 => (intro w'; go_simp; first | done | with_reducible rfl)
                try simp only [Act.put, List.setIfInBounds_toArray, List.set_cons_zero, List.set_cons_succ]
                refine takeP (i := 1) (v := ?_) rfl (by kernel_rfl) (fun _ _ _ h => h) (by rfl) ?_ (by assumption) ?_
                case refine_2 => (intro w'; go_simp; first | done | with_reducible rfl)
                try simp only [Act.put, List.setIfInBounds_toArray, List.set_cons_zero, List.set_cons_succ]
                refine takeP (i := 2) (v := ?_) rfl (by kernel_rfl) (fun _ _ _ h => h) (by rfl) ?_ (by assumption) ?_
                case refine_2 => (intro w'; go_simp; first | done | with_reducible rfl)
                try simp only [Act.put, List.setIfInBounds_toArray, List.set_cons_zero, List.set_cons_succ]
                refine takeH (i := 3) [12, 13] (v := ?_) rfl (by kernel_rfl) (fun _ _ _ h => h) (by rfl) ?_ (by assumption) ?_
                case refine_2 => (intro w' hSw; (try dsimp only at hSw); go_simp; first | done | with_reducible rfl)
                try simp only [Act.put, List.setIfInBounds_toArray, List.set_cons_zero, List.set_cons_succ]
                refine takeP (i := 4) (v := ?_) rfl (by kernel_rfl) (fun _ _ _ h => h) (by rfl) ?_ (by assumption) ?_
                case refine_2 => (intro w'; go_simp; first | done | with_reducible rfl)
                try simp only [Act.put, List.setIfInBounds_toArray, List.set_cons_zero, List.set_cons_succ]
                refine takeP (i := 5) (v := ?_) rfl (by kernel_rfl) (fun _ _ _ h => h) (by rfl) ?_ (by assumption) ?_
                case refine_2 => (intro w'; go_simp; first | done | with_reducible rfl)
                try simp only [Act.put, List.setIfInBounds_toArray, List.set_cons_zero, List.set_cons_succ]
                refine takeP (i := 6) (v := ?_) rfl (by kernel_rfl) (fun _ _ _ h => h) (by rfl) ?_ (by assumption) ?_
                case refine_2 => (intro w'; go_simp; first | done | with_reducible rfl)
                try simp only [Act.put, List.setIfInBounds_toArray, List.set_cons_zero, List.set_cons_succ]
                refine takeP (i := 7) (v := ?_) rfl (by kernel_rfl) (fun _ _ _ h => h) (by rfl) ?_ (by assumption) ?_
                case refine_2 => (intro w'; go_simp; first | done | with_reducible rfl)
                try simp only [Act.put, List.setIfInBounds_toArray, List.set_cons_zero, List.set_cons_succ]
                refine takeH (i := 8) [14] (v := ?_) rfl (by kernel_rfl) (fun _ _ _ h => h) (by rfl) ?_ (by assumption) ?_
                case refine_2 => (intro w' hSw; (try dsimp only at hSw); go_simp; first | done | with_reducible rfl)
                try simp only [Act.put, List.setIfInBounds_toArray, List.set_cons_zero, List.set_cons_succ]
                refine takeP (i := 9) (v := ?_) rfl (by kernel_rfl) (fun _ _ _ h => h) (by rfl) ?_ (by assumption) ?_
                case refine_2 => (intro w'; go_simp; first | done | with_reducible rfl)
                try simp only [Act.put, List.setIfInBounds_toArray, List.set_cons_zero, List.set_cons_succ]
                refine takeP (i := 10) (v := ?_) rfl (by kernel_rfl) (fun _ _ _ h => h) (by rfl) ?_ (by assumption) ?_
                case refine_2 => (intro w'; go_simp; first | done | with_reducible rfl)
                try simp only [Act.put, List.setIfInBounds_toArray, List.set_cons_zero, List.set_cons_succ]
                refine takeP (i := 11) (v := ?_) rfl (by kernel_rfl) (fun _ _ _ h => h) (by rfl) ?_ (by assumption) ?_
                case refine_2 => (intro w'; go_simp; first | done | with_reducible rfl)
                try simp only [Act.put, List.setIfInBounds_toArray, List.set_cons_zero, List.set_cons_succ]
                refine takeP (i := 12) (v := ?_) rfl (by kernel_rfl) (fun _ _ _ h => h) (by rfl) ?_ (by assumption) ?_
                case refine_2 => (intro w'; go_simp; first | done | with_reducible rfl)
                try simp only [Act.put, List.setIfInBounds_toArray, List.set_cons_zero, List.set_cons_succ]
                try simp only [Act.put, List.setIfInBounds_toArray, List.set_cons_zero, List.set_cons_succ]
                refine readyG (rs := [13]) (by kernel_rfl) (by simp) ?_
                refine AllG.cons rfl (fun K hK => ?_) AllG.nil
                go_simp
                refine hK.out _ _ (cell_dr (cell_dr d3)) (fun hHeld => ?_)
                clear hK K
                refine takeP (i := 14) (v := ?_) rfl (by kernel_rfl) (fun _ _ _ h => h) (by rfl) ?_ (by assumption) ?_
                case refine_2 => (intro w'; go_simp; first | done | with_reducible rfl)
                try simp only [Act.put, List.setIfInBounds_toArray, List.set_cons_zero, List.set_cons_succ]
                try simp only [Act.put, List.setIfInBounds_toArray, List.set_cons_zero, List.set_cons_succ]
                refine readyG (rs := [15]) (by kernel_rfl) (by simp) ?_
                refine AllG.last rfl (by kernel_rfl) (fun K hK => ?_) AllG.nil
                go_simp
                refine hK.out _ _ ?_
                clear hK K
                try simp only [Act.put, List.setIfInBounds_toArray, List.set_cons_zero, List.set_cons_succ]
                refine doneG (by kernel_rfl) ?_ _
                refine NoPanic.normal ?_
                have hS9 := H10.out.drew.drew
                go_wp2_with fail
                go_roundw
                case rel => exact ⟨0 + 1, _, by omega, by go_num, hI2, hS9⟩
                case measure => simp [intOf]
              · have cx := hb.cell 1 (by rw [h3]; decide)
                have cy := hb.cell 2 (by rw [h3]; decide)
                have cz := hb.cell 0 (by rw [h3]; decide)
                have ix := hb.ixe (1 : Int) 1 rfl (by rw [h3]; decide)
                have iy := hb.ixe (2 : Int) 2 rfl (by rw [h3]; decide)
                have iz := hb.ixe (0 : Int) 0 rfl (by rw [h3]; decide)
                rw [show nth (xat A k) 1 = (x : Int) from e1] at cx
                rw [show nth (xat A k) 2 = (y : Int) from e2] at cy
                rw [show nth (xat A k) 0 = (z : Int) from e3] at cz
                clear e1 e2 e3 hb
                have w1 : IntKind.i64.wrap 1 = 1 := by decide
                have w2 : IntKind.i64.wrap 2 = 2 := by decide
                have w3 : IntKind.i64.wrap 3 = 3 := by decide
                have w4 : IntKind.i64.wrap 4 = 4 := by decide
                have m1 : Int.tmod 1 3 = 1 := by decide
                have m2 : Int.tmod 2 3 = 2 := by decide
                have m3 : Int.tmod 3 3 = 0 := by decide
                have m4 : Int.tmod 4 3 = 1 := by decide
                go_wp2_with fail
                go_region_held3 (fun w' => w'.cell? (el (vat us k) 2) = some (.int .i64 y) ∧ w'.cell? (el (vat us k) 0) = some (.int .i64 z)) (((try dsimp only); (repeat' apply And.intro); all_goals (repeat (first | assumption | exact cell_dr (by assumption) | refine cell_dr ?_ | refine cell_al ?_ | refine cell_sc (by assumption) ?_)))) (fail)
                clear cx cy cz ix iy iz w1 w2 w3 w4 m1 m2 m3 m4
                go_wp2_with fail
                refine regionG (fun w' => w'.cell? (el o x) = some (vat uo x)) 15 (by kernel_rfl) (cell_dr (cell_dr co)) (fun hHeld => ?_)
                refine takeP (i := 0) (v := ?_) rfl (by kernel_rfl) (fun _ _ _ h => h) (by rfl) ?_ (by assumption) ?_
                case refine_2 => (intro w'; go_simp; first | done | with_reducible rfl)
                try simp only [Act.put, List.setIfInBounds_toArray, List.set_cons_zero, List.set_cons_succ]
                refine takeP (i := 1) (v := ?_) rfl (by kernel_rfl) (fun _ _ _ h => h) (by rfl) ?_ (by assumption) ?_
                case refine_2 => (intro w'; go_simp; first | done | with_reducible rfl)
                try simp only [Act.put, List.setIfInBounds_toArray, List.set_cons_zero, List.set_cons_succ]
                refine takeP (i := 2) (v := ?_) rfl (by kernel_rfl) (fun _ _ _ h => h) (by rfl) ?_ (by assumption) ?_
                case refine_2 => (intro w'; go_simp; first | done | with_reducible rfl)
                try simp only [Act.put, List.setIfInBounds_toArray, List.set_cons_zero, List.set_cons_succ]
                refine takeH (i := 3) [12, 13] (v := ?_) rfl (by kernel_rfl) (fun _ _ _ h => h) (by rfl) ?_ (by assumption) ?_
                case refine_2 => (intro w' hSw; (try dsimp only at hSw); go_simp; first | done | with_reducible rfl)
                try simp only [Act.put, List.setIfInBounds_toArray, List.set_cons_zero, List.set_cons_succ]
                refine takeP (i := 4) (v := ?_) rfl (by kernel_rfl) (fun _ _ _ h => h) (by rfl) ?_ (by assumption) ?_
                case refine_2 => (intro w'; go_simp; first | done | with_reducible rfl)
                try simp only [Act.put, List.setIfInBounds_toArray, List.set_cons_zero, List.set_cons_succ]
                refine takeP (i := 5) (v := ?_) rfl (by kernel_rfl) (fun _ _ _ h => h) (by rfl) ?_ (by assumption) ?_
                case refine_2 => (intro w'; go_simp; first | done | with_reducible rfl)
                try simp only [Act.put, List.setIfInBounds_toArray, List.set_cons_zero, List.set_cons_succ]
                refine takeP (i := 6) (v := ?_) rfl (by kernel_rfl) (fun _ _ _ h => h) (by rfl) ?_ (by assumption) ?_
                case refine_2 => (intro w'; go_simp; first | done | with_reducible rfl)
                try simp only [Act.put, List.setIfInBounds_toArray, List.set_cons_zero, List.set_cons_succ]
                refine takeP (i := 7) (v := ?_) rfl (by kernel_rfl) (fun _ _ _ h => h) (by rfl) ?_ (by assumption) ?_
                case refine_2 => (intro w'; go_simp; first | done | with_reducible rfl)
                try simp only [Act.put, List.setIfInBounds_toArray, List.set_cons_zero, List.set_cons_succ]
                refine takeH (i := 8) [14] (v := ?_) rfl (by kernel_rfl) (fun _ _ _ h => h) (by rfl) ?_ (by assumption) ?_
                case refine_2 => (intro w' hSw; (try dsimp only at hSw); go_simp; first | done | with_reducible rfl)
                try simp only [Act.put, List.setIfInBounds_toArray, List.set_cons_zero, List.set_cons_succ]
                refine takeP (i := 9) (v := ?_) rfl (by kernel_rfl) (fun _ _ _ h => h) (by rfl) ?_ (by assumption) ?_
                case refine_2 => (intro w'; go_simp; first | done | with_reducible rfl)
                try simp only [Act.put, List.setIfInBounds_toArray, List.set_cons_zero, List.set_cons_succ]
                refine takeP (i := 10) (v := ?_) rfl (by kernel_rfl) (fun _ _ _ h => h) (by rfl) ?_ (by assumption) ?_
                case refine_2 => (intro w'; go_simp; first | done | with_reducible rfl)
                try simp only [Act.put, List.setIfInBounds_toArray, List.set_cons_zero, List.set_cons_succ]
                refine takeP (i := 11) (v := ?_) rfl (by kernel_rfl) (fun _ _ _ h => h) (by rfl) ?_ (by assumption) ?_
                case refine_2 => (intro w'; go_simp; first | done | with_reducible rfl)
                try simp only [Act.put, List.setIfInBounds_toArray, List.set_cons_zero, List.set_cons_succ]
                refine takeP (i := 12) (v := ?_) rfl (by kernel_rfl) (fun _ _ _ h => h) (by rfl) ?_ (by assumption) ?_
                case refine_2 => (intro w'; go_simp; first | done | with_reducible rfl)
                try simp only [Act.put, List.setIfInBounds_toArray, List.set_cons_zero, List.set_cons_succ]
                try simp only [Act.put, List.setIfInBounds_toArray, List.set_cons_zero, List.set_cons_succ]
                refine readyG (rs := [13]) (by kernel_rfl) (by simp) ?_
                refine AllG.cons rfl (fun K hK => ?_) AllG.nil
                go_simp
                refine hK.out _ _ (cell_dr (cell_dr d3)) (fun hHeld => ?_)
                clear hK K
                refine takeP (i := 14) (v := ?_) rfl (by kernel_rfl) (fun _ _ _ h => h) (by rfl) ?_ (by assumption) ?_
                case refine_2 => (intro w'; go_simp; first | done | with_reducible rfl)
                try simp only [Act.put, List.setIfInBounds_toArray, List.set_cons_zero, List.set_cons_succ]
                try simp only [Act.put, List.setIfInBounds_toArray, List.set_cons_zero, List.set_cons_succ]
                refine readyG (rs := [15]) (by kernel_rfl) (by simp) ?_
                refine AllG.last rfl (by kernel_rfl) (fun K hK => ?_) AllG.nil
                go_simp
                refine hK.out _ _ ?_
                clear hK K
                try simp only [Act.put, List.setIfInBounds_toArray, List.set_cons_zero, List.set_cons_succ]
                refine doneG (by kernel_rfl) ?_ _
                refine NoPanic.normal ?_
                have hS9 := H10.out.drew.drew
                go_wp2_with fail
                go_roundw
                case rel => exact ⟨1 + 1, _, by omega, by go_num, hI2, hS9⟩
                case measure => simp [intOf]
              · have cx := hb.cell 2 (by rw [h3]; decide)
                have cy := hb.cell 0 (by rw [h3]; decide)
                have cz := hb.cell 1 (by rw [h3]; decide)
                have ix := hb.ixe (2 : Int) 2 rfl (by rw [h3]; decide)
                have iy := hb.ixe (0 : Int) 0 rfl (by rw [h3]; decide)
                have iz := hb.ixe (1 : Int) 1 rfl (by rw [h3]; decide)
                rw [show nth (xat A k) 2 = (x : Int) from e1] at cx
                rw [show nth (xat A k) 0 = (y : Int) from e2] at cy
                rw [show nth (xat A k) 1 = (z : Int) from e3] at cz
                clear e1 e2 e3 hb
                have w1 : IntKind.i64.wrap 1 = 1 := by decide
                have w2 : IntKind.i64.wrap 2 = 2 := by decide
                have w3 : IntKind.i64.wrap 3 = 3 := by decide
                have w4 : IntKind.i64.wrap 4 = 4 := by decide
                have m1 : Int.tmod 1 3 = 1 := by decide
                have m2 : Int.tmod 2 3 = 2 := by decide
                have m3 : Int.tmod 3 3 = 0 := by decide
                have m4 : Int.tmod 4 3 = 1 := by decide
                go_wp2_with fail
                go_region_held3 (fun w' => w'.cell? (el (vat us k) 0) = some (.int .i64 y) ∧ w'.cell? (el (vat us k) 1) = some (.int .i64 z)) (((try dsimp only); (repeat' apply And.intro); all_goals (repeat (first | assumption | exact cell_dr (by assumption) | refine cell_dr ?_ | refine cell_al ?_ | refine cell_sc (by assumption) ?_)))) (fail)
                clear cx cy cz ix iy iz w1 w2 w3 w4 m1 m2 m3 m4
                go_wp2_with fail
                refine regionG (fun w' => w'.cell? (el o x) = some (vat uo x)) 15 (by kernel_rfl) (cell_dr (cell_dr co)) (fun hHeld => ?_)
                refine takeP (i := 0) (v := ?_) rfl (by kernel_rfl) (fun _ _ _ h => h) (by rfl) ?_ (by assumption) ?_
                case refine_2 => (intro w'; go_simp; first | done | with_reducible rfl)
                try simp only [Act.put, List.setIfInBounds_toArray, List.set_cons_zero, List.set_cons_succ]
                refine takeP (i := 1) (v := ?_) rfl (by kernel_rfl) (fun _ _ _ h => h) (by rfl) ?_ (by assumption) ?_
                case refine_2 => (intro w'; go_simp; first | done | with_reducible rfl)
                try simp only [Act.put, List.setIfInBounds_toArray, List.set_cons_zero, List.set_cons_succ]
                refine takeP (i := 2) (v := ?_) rfl (by kernel_rfl) (fun _ _ _ h => h) (by rfl) ?_ (by assumption) ?_
                case refine_2 => (intro w'; go_simp; first | done | with_reducible rfl)
                try simp only [Act.put, List.setIfInBounds_toArray, List.set_cons_zero, List.set_cons_succ]
                refine takeH (i := 3) [12, 13] (v := ?_) rfl (by kernel_rfl) (fun _ _ _ h => h) (by rfl) ?_ (by assumption) ?_
                case refine_2 => (intro w' hSw; (try dsimp only at hSw); go_simp; first | done | with_reducible rfl)
                try simp only [Act.put, List.setIfInBounds_toArray, List.set_cons_zero, List.set_cons_succ]
                refine takeP (i := 4) (v := ?_) rfl (by kernel_rfl) (fun _ _ _ h => h) (by rfl) ?_ (by assumption) ?_
                case refine_2 => (intro w'; go_simp; first | done | with_reducible rfl)
                try simp only [Act.put, List.setIfInBounds_toArray, List.set_cons_zero, List.set_cons_succ]
                refine takeP (i := 5) (v := ?_) rfl (by kernel_rfl) (fun _ _ _ h => h) (by rfl) ?_ (by assumption) ?_
                case refine_2 => (intro w'; go_simp; first | done | with_reducible rfl)
                try simp only [Act.put, List.setIfInBounds_toArray, List.set_cons_zero, List.set_cons_succ]
                refine takeP (i := 6) (v := ?_) rfl (by kernel_rfl) (fun _ _ _ h => h) (by rfl) ?_ (by assumption) ?_
                case refine_2 => (intro w'; go_simp; first | done | with_reducible rfl)
                try simp only [Act.put, List.setIfInBounds_toArray, List.set_cons_zero, List.set_cons_succ]
                refine takeP (i := 7) (v := ?_) rfl (by kernel_rfl) (fun _ _ _ h => h) (by rfl) ?_ (by assumption) ?_
                case refine_2 => (intro w'; go_simp; first | done | with_reducible rfl)
                try simp only [Act.put, List.setIfInBounds_toArray, List.set_cons_zero, List.set_cons_succ]
                refine takeH (i := 8) [14] (v := ?_) rfl (by kernel_rfl) (fun _ _ _ h => h) (by rfl) ?_ (by assumption) ?_
                case refine_2 => (intro w' hSw; (try dsimp only at hSw); go_simp; first | done | with_reducible rfl)
                try simp only [Act.put, List.setIfInBounds_toArray, List.set_cons_zero, List.set_cons_succ]
                refine takeP (i := 9) (v := ?_) rfl (by kernel_rfl) (fun _ _ _ h => h) (by rfl) ?_ (by assumption) ?_
                case refine_2 => (intro w'; go_simp; first | done | with_reducible rfl)
                try simp only [Act.put, List.setIfInBounds_toArray, List.set_cons_zero, List.set_cons_succ]
                refine takeP (i := 10) (v := ?_) rfl (by kernel_rfl) (fun _ _ _ h => h) (by rfl) ?_ (by assumption) ?_
                case refine_2 => (intro w'; go_simp; first | done | with_reducible rfl)
                try simp only [Act.put, List.setIfInBounds_toArray, List.set_cons_zero, List.set_cons_succ]
                refine takeP (i := 11) (v := ?_) rfl (by kernel_rfl) (fun _ _ _ h => h) (by rfl) ?_ (by assumption) ?_
                case refine_2 => (intro w'; go_simp; first | done | with_reducible rfl)
                try simp only [Act.put, List.setIfInBounds_toArray, List.set_cons_zero, List.set_cons_succ]
                refine takeP (i := 12) (v := ?_) rfl (by kernel_rfl) (fun _ _ _ h => h) (by rfl) ?_ (by assumption) ?_
                case refine_2 => (intro w'; go_simp; first | done | with_reducible rfl)
                try simp only [Act.put, List.setIfInBounds_toArray, List.set_cons_zero, List.set_cons_succ]
                try simp only [Act.put, List.setIfInBounds_toArray, List.set_cons_zero, List.set_cons_succ]
                refine readyG (rs := [13]) (by kernel_rfl) (by simp) ?_
                refine AllG.cons rfl (fun K hK => ?_) AllG.nil
                go_simp
                refine hK.out _ _ (cell_dr (cell_dr d3)) (fun hHeld => ?_)
                clear hK K
                refine takeP (i := 14) (v := ?_) rfl (by kernel_rfl) (fun _ _ _ h => h) (by rfl) ?_ (by assumption) ?_
                case refine_2 => (intro w'; go_simp; first | done | with_reducible rfl)
                try simp only [Act.put, List.setIfInBounds_toArray, List.set_cons_zero, List.set_cons_succ]
                try simp only [Act.put, List.setIfInBounds_toArray, List.set_cons_zero, List.set_cons_succ]
                refine readyG (rs := [15]) (by kernel_rfl) (by simp) ?_
                refine AllG.last rfl (by kernel_rfl) (fun K hK => ?_) AllG.nil
                go_simp
                refine hK.out _ _ ?_
                clear hK K
                try simp only [Act.put, List.setIfInBounds_toArray, List.set_cons_zero, List.set_cons_succ]
                refine doneG (by kernel_rfl) ?_ _
                refine NoPanic.normal ?_
                have hS9 := H10.out.drew.drew
                go_wp2_with fail
                go_roundw
                case rel => exact ⟨2 + 1, _, by omega, by go_num, hI2, hS9⟩
                case measure => simp [intOf]
            · obtain rfl : i = 3 := by omega
              go_wp2_with fail
              go_roundw
              case rel => exact ⟨k + 1, S, by omega, by go_num, Lib.hid (hI.out.next HA.out hlt2), hS⟩
              case measure => simp [intOf]; omega
        · obtain rfl : k = A.length := by omega
          have e := hI.out.all HA.out
          go_wp2_with fail
          go_ret
          exact ⟨o, uo, rfl, by rw [Hlo.out, sqF_len], by rw [← e]; exact hS.sub (List.sublist_append_left _ _)⟩
end Go.Proofs.YtegmjlblehjccaaGreat
end

section
/- Slices of truth values. -/
namespace Go.Proofs.YtegmjlblehjccaaGreat
set_option linter.unusedSimpArgs false
set_option linter.unusedVariables false
open Go.RowKit
/-- the cells of a list of truth values -/
def bo (xs : List Bool) : List Value := xs.map Value.bool
/-- element j -/
def bat (xs : List Bool) (j : Nat) : Bool := xs.getD j false
theorem bo_len (xs : List Bool) : (bo xs).length = xs.length := by simp [bo]
theorem bo_get {xs : List Bool} {j : Nat} (h : j < xs.length) : (bo xs).getD j undef = .bool (bat xs j) := by
  simp [bo, bat, List.getD, List.getElem?_eq_getElem h]
theorem bo_set (xs : List Bool) (j : Nat) (x : Bool) : (bo xs).set j (.bool x) = bo (xs.set j x) := by simp [bo, List.map_set]
theorem bo_rep (n : Nat) : List.replicate n (Value.bool false) = bo (List.replicate n false) := by simp [bo]
theorem bat_set {xs : List Bool} {i j : Nat} {x : Bool} (h : i < xs.length) : bat (xs.set i x) j = if i = j then x else bat xs j := by
  unfold bat
  rw [List.getD_eq_getElem?_getD, List.getElem?_set]
  split
  · rename_i e; subst e; simp [h]
  · simp
theorem bat_rep (n j : Nat) : bat (List.replicate n false) j = false := by
  unfold bat
  rw [List.getD_eq_getElem?_getD, List.getElem?_replicate]; split <;> rfl
def RdO (w : World) (v : Value) (xs : List Bool) : Prop := Rd w v (bo xs)
theorem Tryz.info_o : (Tryz.prog.info? 4).map (fun i => (i.zero, i.size, i.bytes)) = some (some (.bool false), 1, 1) := by kernel_rfl
theorem Tryz.size_o : (Tryz.prog.info? 4).map (·.size) = some 1 := by kernel_rfl
theorem Tryz.und_os : Tryz.prog.underlying 70 = some (.slice 4) := by kernel_rfl
section
variable {w w' : World} {v : Value} {xs : List Bool}
theorem RdO.le (h : RdO w v xs) : xs.length ≤ 9223372036854775807 := by have := h.sl.le; rwa [bo_len] at this
theorem RdO.len (h : RdO w v xs) (ty : TypeId) (W : World) : (Builtin.len_ #[70] ty #[v]).run Tryz.prog W = .ok (.int .i64 xs.length) W := by
  have := run_len_sl (P := Tryz.prog) h.sl 70 ty Tryz.und_os W; rwa [bo_len] at this
theorem RdO.ix (h : RdO w v xs) (k : IntKind) (i : Int) (h0 : 0 ≤ i) (hi : i < xs.length) (W : World) :
    (Instr.indexAt 70 v (.int k i)).run Tryz.prog W = .ok (.pointer (some (el v i.toNat))) W :=
  run_ix_sl (P := Tryz.prog) h.sl 70 Tryz.und_os Tryz.size_o k i h0 (by rw [bo_len]; exact hi) W
theorem RdO.ixe (h : RdO w v xs) (i : Int) (j : Nat) (hij : i = (j : Int)) (hj : j < xs.length) (W : World) :
    (Instr.indexAt 70 v (.int .i64 i)).run Tryz.prog W = .ok (.pointer (some (el v j))) W := by
  have := h.ix .i64 i (by omega) (by omega) W
  rwa [hij, Int.toNat_natCast, ← hij] at this
theorem RdO.cell (h : RdO w v xs) (j : Nat) (hj : j < xs.length) : w.cell? (el v j) = some (.bool (bat xs j)) := by
  rw [Rd.cell h (by rw [bo_len]; exact hj), bo_get hj]
theorem RdO.keep (h : RdO w v xs) (hb : Below w.heap.size w w') : RdO w' v xs := Rd.keep h hb
end
theorem St.rdO {B : Nat} {w0 w : World} {L : List Ent} (h : St B w0 w L) (i : Nat) {e : TypeId} {v : Value} {xs : List Bool} (hi : L[i]? = some (row e v (bo xs))) : RdO w v xs := h.rd i hi
section
variable {ops : Array Oper} {rest : List Oper} {o : Oper} {a : Act} {Q : Exit → Act → World → Prop} {B : Nat} {w0 w : World} {L : List Ent}
/-- a store into an owned row of truth values -/
theorem stoO (hS : St B w0 w L) (i : Nat) {v : Value} {xs : List Bool} (hi : L[i]? = some (row 4 v (bo xs))) (j : Nat) (hj : j < xs.length) (hg : o.guard = none) (x y : Operand)
    (hop : o.op = .store 4 x y) (hx : a.eval x = .pointer (some (el v j))) (n : Bool) (hy : a.eval y = .bool n)
    (hK : ∀ w', St B w0 w' (L.set i (row 4 v (bo (xs.set j n)))) → wpList Tryz.prog ops Q rest (a.put o.dst undef) w') :
    wpList Tryz.prog ops Q (o :: rest) a w :=
  wpList_st_store hg x y 4 hop Tryz.size_o hS i hi j (by rw [bo_len]; exact hj) (.bool n) hx hy rfl rfl (fun w' h => hK w' (by rw [← bo_set]; exact h))
/-- make([]bool, n) -/
theorem mkO (hS : St B w0 w L) (hg : o.guard = none) (x y : Operand) (hop : o.op = .makeSlice 70 x y) (kl kc : IntKind) (n : Nat) (hx : a.eval x = .int kl n) (hy : a.eval y = .int kc n) (hN : n ≤ 4294967296)
    (hK : ∀ v' w', St B w0 w' (L ++ [row 4 v' (bo (List.replicate n false))]) → wpList Tryz.prog ops Q rest (a.put o.dst v') w') :
    wpList Tryz.prog ops Q (o :: rest) a w :=
  wpList_st_make hg x y 70 hop 4 (.bool false) 1 Tryz.und_os Tryz.info_o rfl hS kl kc n hx hy (by omega) hN (fun v' w' h => hK v' w' (by rw [← bo_rep]; exact h))
end
end Go.Proofs.YtegmjlblehjccaaGreat
end

section
/- Walks: the cycles of a permutation. Walks: SignOf; the law FnPermutations. Walks: CyclesOf, SignOf and OrderOfPermutation of any list, powers, permutations made of cycles, types. -/
namespace Go.Proofs.YtegmjlblehjccaaGreat
set_option linter.unusedSimpArgs false
set_option linter.unusedVariables false
open Go.RowKit
attribute [local go_sem ↓] Go.wp_at_zero Go.wp_at_succ
/-- the first j numbers of the cycle of x -/
def cyP (xs : List Int) (x j : Nat) : List Int := (List.range j).map fun i => ((it (pf xs) i x : Nat) : Int)
/-- what is seen: all cycles that numbers below m lead, and the first j numbers of that of m -/
def Seen (xs : List Int) (m j : Nat) (s : List Bool) : Prop := s.length = xs.length ∧ ∀ y, y < xs.length → (bat s y = true ↔ y ∈ (cycs xs.length (pf xs) m).flatten ∨ ∃ i, i < j ∧ y = it (pf xs) i m)
theorem Seen.start (xs : List Int) : Seen xs 0 0 (List.replicate xs.length false) := ⟨by simp, fun y hy => by rw [bat_rep]; simp [cycs]⟩
theorem Seen.step {xs : List Int} {m j : Nat} {s : List Bool} (h : Seen xs m j s) (hp : IsP xs) (hm : m < xs.length) : Seen xs m (j + 1) (s.set (it (pf xs) j m) true) := by
  have hlt := it_lt hp.bij hm j
  refine ⟨by rw [List.length_set]; exact h.1, fun y hy => ?_⟩
  rw [bat_set (by rw [h.1]; exact hlt)]
  by_cases e : it (pf xs) j m = y
  · rw [if_pos e]; exact ⟨fun _ => .inr ⟨j, by omega, e.symm⟩, fun _ => rfl⟩
  · rw [if_neg e, h.2 y hy]
    constructor
    · rintro (h1 | ⟨i, hi, e2⟩)
      · exact .inl h1
      · exact .inr ⟨i, by omega, e2⟩
    · rintro (h1 | ⟨i, hi, e2⟩)
      · exact .inl h1
      · refine .inr ⟨i, ?_, e2⟩
        refine Nat.lt_of_le_of_ne (by omega) fun e3 => e ?_
        rw [e2, e3]
theorem Seen.no {xs : List Int} {m : Nat} {s : List Bool} (h : Seen xs m 0 s) (hp : IsP xs) (hm : m < xs.length) (hL : ¬ Lead (pf xs) m) : bat s m = true ∧ Seen xs (m + 1) 0 s := by
  have hs := fun hh => hL ((lead_seen hp.bij hm).2 hh)
  refine ⟨(h.2 m hm).2 (.inl (Classical.byContradiction hs)), h.1, fun y hy => ?_⟩
  rw [h.2 y hy, cycs, if_neg hL]; simp
theorem Seen.fresh {xs : List Int} {m j : Nat} {s : List Bool} (h : Seen xs m j s) (hp : IsP xs) (hm : m < xs.length) (hL : Lead (pf xs) m) (hj : j < clen xs.length (pf xs) m) : bat s (it (pf xs) j m) = false := by
  have hlt := it_lt hp.bij hm j
  have hc := clen_ok hp.bij hm
  cases e : bat s (it (pf xs) j m) with
  | false => rfl
  | true =>
    rcases (h.2 _ hlt).1 e with h1 | ⟨i, hi, e2⟩
    · exact absurd h1 (lead_fresh hp.bij hm hL ((mem_cycL hp.bij hm).2 ⟨j, rfl⟩))
    · have := hc.inj hp.bij hm hj (by omega) e2; omega
theorem Seen.back {xs : List Int} {m : Nat} {s : List Bool} (h : Seen xs m (clen xs.length (pf xs) m) s) (hp : IsP xs) (hm : m < xs.length) (hL : Lead (pf xs) m) : bat s (it (pf xs) (clen xs.length (pf xs) m) m) = true ∧ Seen xs (m + 1) 0 s := by
  have hc := clen_ok hp.bij hm
  have hb := hc.back
  refine ⟨?_, h.1, fun y hy => ?_⟩
  · rw [hb]; exact (h.2 m hm).2 (.inr ⟨0, hc.pos, rfl⟩)
  · rw [h.2 y hy, cycs, if_pos hL]
    simp only [List.flatten_append, List.flatten_cons, List.flatten_nil, List.append_nil, List.mem_append]
    constructor
    · rintro (h1 | ⟨i, hi, rfl⟩)
      · exact .inl (.inl h1)
      · exact .inl (.inr ((mem_cycL hp.bij hm).2 ⟨i, rfl⟩))
    · rintro ((h1 | h1) | ⟨i, hi, _⟩)
      · exact .inl h1
      · unfold cycL at h1
        obtain ⟨i, hi, rfl⟩ := List.mem_map.1 h1
        exact .inr ⟨i, List.mem_range.1 hi, rfl⟩
      · omega
/-- what the list of cycles is -/
structure CyOk (xs : List Int) (C : List (List Int)) : Prop where
  shape : ∀ t, t < C.length → ∃ m, m < xs.length ∧ xat C t = cyP xs m (clen xs.length (pf xs) m)
  all : ∀ y, y < xs.length → ∃ t k, t < C.length ∧ k < (xat C t).length ∧ nth (xat C t) k = (y : Int)
  nodup : C.flatten.Nodup
  sum : C.flatten.length = xs.length
/-- a number of a later place is not among those of earlier ones -/
theorem CyOk.fresh {xs : List Int} {C : List (List Int)} (h : CyOk xs C) {t k : Nat} (ht : t < C.length) (hk : k < (xat C t).length) : nth (xat C t) k ∉ (C.take t).flatten ++ (xat C t).take k := by
  have hs : C.flatten = (C.take t).flatten ++ ((xat C t).take k ++ (nth (xat C t) k :: ((xat C t).drop (k + 1) ++ (C.drop (t + 1)).flatten))) := by
    conv => lhs; rw [← List.take_append_drop t C, drop_xat ht]
    rw [List.flatten_append, List.flatten_cons]
    congr 1
    rw [← List.cons_append, ← drop_nth hk, ← List.append_assoc, List.take_append_drop]
  have hn := h.nodup
  rw [hs, ← List.append_assoc, List.nodup_append] at hn
  exact fun hm => hn.2.2 _ hm _ (by simp) rfl
/-! ### the least common multiple, bounded -/
end Go.Proofs.YtegmjlblehjccaaGreat
end

section
/- Walks: valid Latin squares, isotopes, of the program. Walks: isotopes of the program. -/
namespace Go.Proofs.YtegmjlblehjccaaGreat
set_option linter.unusedSimpArgs false
set_option linter.unusedVariables false
open Go.RowKit
attribute [local go_sem ↓] Go.wp_at_zero Go.wp_at_succ


/-- a permutation of n numbers -/
noncomputable def pvN (n : Nat) (xs : List Int) : Bool := decide (xs.length = n) && pvB xs
/-- all rows are permutations of n numbers -/
noncomputable def allP (n : Nat) (A : List (List Int)) : Bool := !anyR (fun r => !pvN n r) A
theorem allP_at {n : Nat} {A : List (List Int)} (h : allP n A = true) {x : Nat} (hx : x < A.length) : (xat A x).length = n ∧ pvB (xat A x) = true := by
  unfold allP anyR at h
  have h' : A.any (fun r => !pvN n r) = false := by simpa using h
  have := List.any_eq_false.1 h' _ (xat_mem hx)
  simpa [pvN] using this
theorem allP_of {n : Nat} {A : List (List Int)} (h : ∀ x, x < A.length → (xat A x).length = n ∧ pvB (xat A x) = true) : allP n A = true := by
  unfold allP anyR
  have : A.any (fun r => !pvN n r) = false := by
    rw [List.any_eq_false]
    intro r hr
    obtain ⟨x, hx, rfl⟩ := List.getElem_of_mem hr
    have := h x hx
    rw [xat_eq hx] at this
    simp [pvN, this]
  rw [this]; rfl
theorem Lat.mk' {A : List (List Int)} (h1 : 1 ≤ A.length) (h2 : A.length ≤ 10) (ha : allP A.length A = true) (hc : ∀ y, y < A.length → pvB (colL A y) = true) : Lat A :=
  ⟨h1, h2, fun _ hx => (allP_at ha hx).1, fun _ hx => (pvB_t (allP_at ha hx).2).2, fun y hy => (pvB_t (hc y hy)).2⟩
theorem Lat.allP {A : List (List Int)} (h : Lat A) : allP A.length A = true := allP_of fun x hx => ⟨h.len x hx, pvB_yes (by rw [h.len x hx]; have := h.le; omega) (h.row x hx)⟩
/-- a square and a code -/
def IIK (w : World) (A : List (List Int)) (c : Int) (e : Ending) (w' : World) : Prop := ∃ v us, e = .returned (.tuple #[v, .int .i64 c]) ∧ us.length = A.length ∧ St w.heap.size w w' (own2 v us A)
theorem IIK.no {w w' : World} {L : List Ent} {c : Int} (h : St w.heap.size w w' L) : IIK w [] c (.returned (.tuple #[.slice none 0 0, .int .i64 c])) w' := ⟨_, [], rfl, rfl, h.out.newnil _⟩
end Go.Proofs.YtegmjlblehjccaaGreat
end

section
/- Walks: third points, squares of triple systems. -/
namespace Go.Proofs.YtegmjlblehjccaaGreat
set_option linter.unusedSimpArgs false
set_option linter.unusedVariables false
open Go.RowKit

set_option maxHeartbeats 4000000 in
set_option maxRecDepth 100000 in
theorem differentPoints_c (P : Nat) (v : Value) (us : List Value) (A : List (List Int)) (w : World) (hv : RII w v us A) (hA : TS P A) (x y : Nat) (hx : x < P) (hy : y < P) :
    Calls Tryz.prog 49 #[dv P v, .int .i64 x, .int .i64 y] w (GivesI w (if x = y then 2 else 0)) := by
  obtain ⟨a, c, hsh⟩ := hv.1.sl.sh
  rw [hv.2.1] at hsh
  subst hsh
  have hS1 := (St.refl w).newboxF 26 #[.int .i64 P, .slice a A.length c]
  have b0 := hS1.bcell 0 rfl 0 rfl
  have b1 := hS1.bcell 0 rfl 1 rfl
  have K1 := Lib.hid (IsTripleSystem_c P (.slice a A.length c) us A _ (hS1.oldII hv) hA)
  have W1 := fun W => within_c (x : Int) 0 ((P : Int) - 1) W
  have W2 := fun W => within_c (y : Int) 0 ((P : Int) - 1) W
  rw [inB_true (by omega)] at W1 W2
  have hP := hA.p32
  have q1 : IntKind.i64.wrap ((P : Int) - 1) = (P : Int) - 1 := IntWalk.i64_in _ (by omega)
  clear hA
  obtain ⟨C, hC⟩ : ∃ C : Int, C = if x = y then 2 else 0 := ⟨_, rfl⟩
  rw [← hC]
  have HC := Lib.hid hC
  clear hC
  unfold dv at K1 ⊢
  go_enter Tryz.func49, Tryz.ntmps49
  go_wp2_with fail
  refine K1.out.mono ?_
  rintro e w2 ⟨rfl, h2⟩
  have hS2 := hS1.call0 h2
  have b0 := hS2.bcell 0 rfl 0 rfl
  have b1 := hS2.bcell 0 rfl 1 rfl
  clear h2 hS1
  by_cases e : x = y
  · subst e
    have hC := HC.out
    clear HC
    rw [if_pos rfl] at hC
    subst hC
    go_wp2_with (first
      | (go_at_call 78; refine (W1 _).mono ?_; rintro e w3 ⟨rfl, rfl⟩))
    go_ret
    exact ⟨rfl, hS2.out⟩
  · have hC := HC.out
    clear HC
    rw [if_neg e] at hC
    subst hC
    have f0 : ((x : Int) == (y : Int)) = false := eq_f (by omega)
    go_wp2_with fail
    refine (W1 _).mono ?_
    rintro e w3 ⟨rfl, rfl⟩
    go_wp2_with fail
    refine (W2 _).mono ?_
    rintro e w3 ⟨rfl, rfl⟩
    go_wp2_with fail
    go_ret
    exact ⟨rfl, hS2.out⟩
end Go.Proofs.YtegmjlblehjccaaGreat
end

section
/- Walks: the index of the block of two points, of the program's quadrilaterals. -/
namespace Go.Proofs.YtegmjlblehjccaaGreat
set_option linter.unusedSimpArgs false
set_option linter.unusedVariables false
open Go.RowKit
attribute [local go_sem ↓] Go.wp_at_zero Go.wp_at_succ

set_option maxHeartbeats 4000000 in
set_option maxRecDepth 100000 in
theorem pas11_c (gx gy gt x y z : Nat) (v vt : Value) (ut : List Value) (bs : List Int) (S : List (List Int)) (w : World) (hv : RdI w v bs) (d1 : w.cell? ⟨gx, 0, none⟩ = some (.int .i64 x)) (d2 : w.cell? ⟨gy, 0, none⟩ = some (.int .i64 y)) (d3 : w.cell? ⟨gt, 0, none⟩ = some vt)
    (rt : RII w vt ut S) (hx : x < S.length) (hy : y < (xat S x).length) (hz : nth (xat S x) y = z) :
    Calls Tryz.prog 100 #[v, .pointer (some ⟨gx, 0, none⟩), .pointer (some ⟨gy, 0, none⟩), .pointer (some ⟨gt, 0, none⟩)] w (GivesB w (decide (bs = srt [(x : Int), (y : Int), (z : Int)]))) := by
  have d4 := rt.cell x hx
  have d5 := (rt.row x hx).cell y hy
  rw [hz] at d5
  have x1 := rt.ixe (x : Int) x rfl hx
  have x2 := (rt.row x hx).ixe (y : Int) y rfl hy
  have KT := Lib.hid (fun W => triple_c (x : Int) y z W)
  have Hv := Lib.hid hv
  have KE := Lib.hid (fun W v2 h1 h2 => Equal_c v v2 bs (srt [(x : Int), (y : Int), (z : Int)]) W h1 h2)
  have hS := (St.refl w).drew
  generalize srt [(x : Int), (y : Int), (z : Int)] = T at *
  clear hv rt hx hy hz
  go_enter Tryz.func100, Tryz.ntmps100
  go_wp2_with fail
  go_region_held3 (fun w' => w'.cell? ⟨gx, 0, none⟩ = some (.int .i64 x) ∧ w'.cell? ⟨gy, 0, none⟩ = some (.int .i64 y) ∧ w'.cell? ⟨gt, 0, none⟩ = some vt ∧ w'.cell? (el vt x) = some (vat ut x) ∧ w'.cell? (el (vat ut x) y) = some (.int .i64 z)) (((try dsimp only); (repeat' apply And.intro); all_goals (repeat (first | assumption | exact cell_dr (by assumption) | refine cell_dr ?_ | refine cell_al ?_ | refine cell_sc (by assumption) ?_)))) (first
    | (go_at_call 89; refine (KE.out _ _ (hS3.oldI Hv.out) (hS3.rdI 0 rfl)).mono ?_; rintro e w4 ⟨rfl, h4⟩; have hS4 := hS3.call0 h4; have d1 := cell_keepT h4.below d1; have d2 := cell_keepT h4.below d2; have d3 := cell_keepT h4.below d3; have d4 := cell_keepT h4.below d4; have d5 := cell_keepT h4.below d5)
    | (go_at_call 101; refine (KT.out _).mono ?_; rintro e w3 ⟨v3, rfl, h3⟩; have hS3 := hS.call h3; have d1 := cell_keepT h3.below (cell_dr d1); have d2 := cell_keepT h3.below (cell_dr d2); have d3 := cell_keepT h3.below (cell_dr d3); have d4 := cell_keepT h3.below (cell_dr d4); have d5 := cell_keepT h3.below (cell_dr d5)))
  go_wp2_with fail
  go_ret
  exact ⟨rfl, hS4.out⟩
/-- the index of the first such block -/
theorem idxR_idxOf (T : List Int) (A : List (List Int)) (h : T ∈ A) : idxR (fun b => decide (b = T)) A 0 = (A.idxOf T : Nat) := by
  unfold idxR
  rw [List.drop_zero]
  have h1 : A.findIdx? (fun b => decide (b = T)) = some (A.idxOf T) := by
    have e : (fun b : List Int => decide (b = T)) = fun b => b == T := by funext b; rw [Bool.eq_iff_iff]; simp
    rw [e, List.findIdx?_eq_some_iff_findIdx_eq]
    exact ⟨List.idxOf_lt_length_of_mem h, rfl⟩
  rw [h1]; simp
set_option maxHeartbeats 4000000 in
set_option maxRecDepth 100000 in
theorem pas1_c (gd gt x y z P : Nat) (vd vt : Value) (ud ut : List Value) (A S : List (List Int)) (w : World) (hd : RII w vd ud A) (hb : BoxD w gd P vd) (d3 : w.cell? ⟨gt, 0, none⟩ = some vt)
    (rt : RII w vt ut S) (hx : x < S.length) (hy : y < (xat S x).length) (hz : nth (xat S x) y = z) (hm : srt [(x : Int), (y : Int), (z : Int)] ∈ A) :
    Calls Tryz.prog 98 #[.int .i64 x, .int .i64 y, .pointer (some ⟨gd, 0, none⟩), .pointer (some ⟨gt, 0, none⟩)] w (GivesI w (A.idxOf (srt [(x : Int), (y : Int), (z : Int)]) : Nat)) := by
  have hS := ((St.refl w).newboxF 2 #[.int .i64 x]).newboxF 2 #[.int .i64 y]
  simp only [World.size_alloc] at hS
  have b1 := hS.bcell 0 rfl 0 rfl
  have b2 := hS.bcell 1 rfl 0 rfl
  have Hb := cell_keepT hS.below hb.2
  have d3' := cell_keepT hS.below d3
  have hcf := callFunc_go Tryz.func100 (by kernel_rfl) (by kernel_rfl)
  have hmf : ∀ (fn : Fn) (first cap : Array Value) (w : World), (Instr.makeFunc fn first cap).run Tryz.prog w = .ok (.func fn first cap) w := fun _ _ _ _ => rfl
  have hcall := Lib.hid (IndexFuncR_c 100 #[.pointer (some ⟨w.heap.size, 0, none⟩), .pointer (some ⟨w.heap.size + 1, 0, none⟩), .pointer (some ⟨gt, 0, none⟩)] (fun b => decide (b = srt [(x : Int), (y : Int), (z : Int)])) vd ud A _ (hS.oldII hd) hcf (fun j W hW hj => pas11_c w.heap.size (w.heap.size + 1) gt x y z (vat ud j) vt ut (xat A j) S W ((hW.oldII (hS.oldII hd)).row j hj) (cell_keepT hW.below b2) (cell_keepT hW.below b1) (cell_keepT hW.below d3') (hW.oldII (hS.oldII rt)) hx hy hz))
  rw [idxR_idxOf _ _ hm] at hcall
  clear hcf rt hd b1 b2 d3 d3' hb hx hy hz hm
  go_enter Tryz.func98, Tryz.ntmps98
  go_wp2_with fail
  refine hcall.out.mono ?_
  rintro e w1 ⟨rfl, h1⟩
  go_wp2_with fail
  go_ret
  exact ⟨rfl, (hS.call0 h1).out⟩
end Go.Proofs.YtegmjlblehjccaaGreat
end

section
/- Walks: slices.CompactFunc over lists, at equality. -/
namespace Go.Proofs.YtegmjlblehjccaaGreat
set_option linter.unusedSimpArgs false
set_option linter.unusedVariables false
open Go.RowKit
attribute [local go_sem ↓] Go.wp_at_zero Go.wp_at_succ

/-- the places kept of the first n: those that differ from the one ahead -/
def kpL (R : List (List Int)) : Nat → List Nat
  | 0 => []
  | n + 1 => if n = 0 then [0] else if xat R n = xat R (n - 1) then kpL R n else kpL R n ++ [n]
theorem kpL_len (R : List (List Int)) : ∀ n, (kpL R n).length ≤ n
  | 0 => Nat.le_refl _
  | n + 1 => by
    have h := kpL_len R n
    rw [kpL]
    split
    · simp
    · split
      · omega
      · rw [List.length_append]; simp; omega
theorem kpL_lt {R : List (List Int)} : ∀ {n i : Nat}, i ∈ kpL R n → i < n
  | 0, _, h => by cases h
  | n + 1, i, h => by
    rw [kpL] at h
    split at h
    · have := List.mem_singleton.1 h; omega
    · split at h
      · have := kpL_lt h; omega
      · rcases List.mem_append.1 h with h | h
        · have := kpL_lt h; omega
        · have := List.mem_singleton.1 h; omega
/-- every list is among the kept ones -/
theorem kpL_all {R : List (List Int)} : ∀ {n i : Nat}, i < n → ∃ j ∈ kpL R n, xat R j = xat R i
  | 0, _, h => by omega
  | n + 1, i, h => by
    rw [kpL]
    by_cases h0 : n = 0
    · rw [if_pos h0]; exact ⟨0, by simp, by rw [show i = 0 by omega]⟩
    · rw [if_neg h0]
      by_cases he : xat R n = xat R (n - 1)
      · rw [if_pos he]
        by_cases hi : i = n
        · subst hi
          obtain ⟨j, hj, e⟩ := kpL_all (R := R) (n := i) (i := i - 1) (by omega)
          exact ⟨j, hj, by rw [e, he]⟩
        · obtain ⟨j, hj, e⟩ := kpL_all (R := R) (n := n) (i := i) (by omega)
          exact ⟨j, hj, e⟩
      · rw [if_neg he]
        by_cases hi : i = n
        · subst hi; exact ⟨i, by simp, rfl⟩
        · obtain ⟨j, hj, e⟩ := kpL_all (R := R) (n := n) (i := i) (by omega)
          exact ⟨j, List.mem_append_left _ hj, e⟩
/-- no two alike so far -/
theorem kpL_id {R : List (List Int)} : ∀ {n : Nat}, (∀ i, 1 ≤ i → i < n → xat R i ≠ xat R (i - 1)) → kpL R n = List.range n
  | 0, _ => rfl
  | n + 1, h => by
    rw [kpL, kpL_id (fun i h1 h2 => h i h1 (by omega))]
    by_cases h0 : n = 0
    · subst h0; rfl
    · rw [if_neg h0, if_neg (h n (by omega) (by omega)), List.range_succ]
theorem St.setTail {B : Nat} {w0 : World} (i : Nat) {e : TypeId} {v : Value} {g : Nat} (z : Value) : ∀ (n k : Nat) {w : World} {L : List Ent} {us : List Value} (_ : St B w0 w L) (_ : L[i]? = some (row e v us)) (_ : ∀ j, j < us.length → el v j = ⟨g, j, none⟩), k + n = us.length →
    St B w0 (w.setCells g k (List.replicate n z)) (L.set i (row e v (us.take k ++ List.replicate n z)))
  | 0, k, w, L, us, hS, hi, hv, hk => by
    have hil : i < L.length := (List.getElem?_eq_some_iff.1 hi).1
    have e1 : us.take k ++ List.replicate 0 z = us := by rw [List.replicate_zero, List.append_nil, List.take_of_length_le (by omega)]
    rw [e1]
    have e2 : L.set i (row e v us) = L := by
      apply List.ext_getElem?
      intro j
      rw [List.getElem?_set]
      by_cases hji : i = j
      · subst hji; rw [if_pos rfl, if_pos hil, hi]
      · rw [if_neg hji]
    rw [e2]
    exact hS
  | n + 1, k, w, L, us, hS, hi, hv, hk => by
    have hil : i < L.length := (List.getElem?_eq_some_iff.1 hi).1
    have h1 := hS.store i hi (j := k) (by omega) z
    rw [hv k (by omega)] at h1
    have h2 := St.setTail i (e := e) (v := v) (g := g) z n (k + 1) (us := us.set k z) h1 (by rw [List.getElem?_set]; simp [hil]) (fun j hj => hv j (by simpa using hj)) (by rw [List.length_set]; omega)
    rw [List.set_set] at h2
    have e1 : (us.set k z).take (k + 1) ++ List.replicate n z = us.take k ++ List.replicate (n + 1) z := by
      rw [List.replicate_succ]
      apply List.ext_getElem?
      intro j
      rcases Nat.lt_trichotomy j k with h | h | h
      · rw [List.getElem?_append_left (by rw [List.length_take, List.length_set]; omega), List.getElem?_append_left (by rw [List.length_take]; omega), List.getElem?_take_of_lt (by omega), List.getElem?_take_of_lt h, List.getElem?_set_ne (by omega)]
      · subst h
        rw [List.getElem?_append_left (by rw [List.length_take, List.length_set]; omega), List.getElem?_append_right (by rw [List.length_take]; omega), List.getElem?_take_of_lt (by omega), List.getElem?_set_self (by omega), List.length_take, Nat.min_eq_left (by omega), Nat.sub_self]; rfl
      · rw [List.getElem?_append_right (by rw [List.length_take, List.length_set]; omega), List.getElem?_append_right (by rw [List.length_take]; omega), List.length_take, List.length_take, List.length_set, Nat.min_eq_left (by omega), Nat.min_eq_left (by omega)]
        obtain ⟨d, rfl⟩ : ∃ d, j = k + 1 + d := ⟨j - (k + 1), by omega⟩
        rw [show k + 1 + d - (k + 1) = d by omega, show k + 1 + d - k = d + 1 by omega, List.getElem?_cons_succ]
    rw [e1] at h2
    exact h2
end Go.Proofs.YtegmjlblehjccaaGreat
end
