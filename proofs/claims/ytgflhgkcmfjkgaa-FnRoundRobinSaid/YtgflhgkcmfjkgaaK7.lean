/- The texts of this claim, run 7: Ds9 DsA At LRr Prf PFnRoundRobin. -/
import Derived.Test.YtgflhgkcmfjkgaaK3
import Derived.Test.YtgflhgkcmfjkgaaK5
import Derived.Test.YtgflhgkcmfjkgaaK6
import Derived.ProofKit
import Derived.OpenShut
import Derived.ShutString
import Derived.ChangeOld
import Derived.Below
section
/- Walks: the parameters of a balanced design. -/
namespace Go.Proofs.Ytgflhgkcmfjkgaa
set_option linter.unusedSimpArgs false
set_option linter.unusedVariables false
open Go.RowKit
attribute [local go_sem ↓] Go.wp_at_zero Go.wp_at_succ

/-- parameters as a value -/
def pmV (xs : List Int) : Value := .agg #[.int .i64 (nth xs 0), .int .i64 (nth xs 1), .int .i64 (nth xs 2), .int .i64 (nth xs 3), .int .i64 (nth xs 4)]
def MakesPr (w : World) (xs : List Int) (b : Bool) (e : Ending) (w' : World) : Prop := e = .returned (.tuple #[pmV xs, .bool b]) ∧ St w.heap.size w w' []
theorem prmV_no {P : Nat} {A : List (List Int)} (h : prmB P A = false) : prmV P A = [0, 0, 0, 0, 0] := by unfold prmV; rw [if_neg (by rw [h]; decide)]
theorem MakesPr.no {w w' : World} {L : List Ent} {P : Nat} {A : List (List Int)} (h : prmB P A = false) (hS : St w.heap.size w w' L) :
    MakesPr w (prmV P A) (prmB P A) (.returned (.tuple #[.agg #[.int .i64 0, .int .i64 0, .int .i64 0, .int .i64 0, .int .i64 0], .bool false])) w' := by
  rw [prmV_no h, h]; exact ⟨rfl, hS.out⟩
theorem prm_no1 {P : Nat} {A : List (List Int)} (h : ¬ (2 ≤ P ∧ 0 < A.length ∧ 2 ≤ (xat A 0).length)) : prmB P A = false := by
  unfold prmB
  by_cases h1 : 2 ≤ P
  · by_cases h2 : 0 < A.length
    · have h3 : ¬ 2 ≤ (xat A 0).length := fun h3 => h ⟨h1, h2, h3⟩
      simp [h3]
    · simp [h2]
  · simp [h1]
theorem prm_no2 {P : Nat} {A : List (List Int)} {k : Nat} (hk : k < A.length) (h : (xat A k).length ≠ (xat A 0).length) : prmB P A = false := by
  unfold prmB
  have : (A.all fun b => b.length == (xat A 0).length) = false := by
    rw [Bool.eq_false_iff]; intro hh
    have := List.all_eq_true.1 hh _ (xat_mem hk)
    simp at this; exact h this
  rw [this]; simp
theorem prm_no3 {P : Nat} {A : List (List Int)} {k : Nat} (hk : k < (parL P A).length) (h : nth (parL P A) k ≠ nth (parL P A) 0) : prmB P A = false := by
  unfold prmB
  have : ((parL P A).all fun c => c == nth (parL P A) 0) = false := by
    rw [Bool.eq_false_iff]; intro hh
    have := List.all_eq_true.1 hh _ (nth_mem hk)
    simp at this; exact h this
  rw [this]; simp
theorem prm_yes {P : Nat} {A : List (List Int)} (h1 : 2 ≤ P ∧ 0 < A.length ∧ 2 ≤ (xat A 0).length) (h2 : ∀ k, k < A.length → (xat A k).length = (xat A 0).length) (h3 : ∀ k, k < (parL P A).length → nth (parL P A) k = nth (parL P A) 0) : prmB P A = true := by
  unfold prmB
  have e1 : (A.all fun b => b.length == (xat A 0).length) = true := List.all_eq_true.2 fun b hb => by
    obtain ⟨k, hk, rfl⟩ := List.getElem_of_mem hb
    have := h2 k hk
    rw [xat_eq hk] at this; simp [this]
  have e2 : ((parL P A).all fun c => c == nth (parL P A) 0) = true := List.all_eq_true.2 fun b hb => by
    obtain ⟨k, hk, rfl⟩ := List.getElem_of_mem hb
    have := h3 k hk
    rw [nth_eq hk] at this; simp [this]
  rw [e1, e2]; simp [h1]
theorem prm_val {P : Nat} {A : List (List Int)} (h : prmB P A = true) : prmV P A = [(P : Int), (A.length : Int), nth (repL P A) 0, ((xat A 0).length : Int), nth (parL P A) 0] := by unfold prmV; rw [if_pos h]
theorem parL_pos {P : Nat} {A : List (List Int)} (h : 2 ≤ P) : 0 < (parL P A).length := by
  rw [← parK_end, show P = (P - 1) + 1 by omega]
  have : ∀ k, 0 < k → 0 < (parK (P - 1 + 1) A k).length := by
    intro k hk
    induction k with
    | zero => omega
    | succ k ih =>
      rw [parK_succ, List.length_append]
      rcases Nat.eq_zero_or_pos k with rfl | h0
      · simp [parR]; omega
      · have := ih h0; omega
  exact this _ (by omega)
theorem repL_len (P : Nat) (A : List (List Int)) : (repL P A).length = P := by simp [repL]

set_option maxHeartbeats 8000000 in
set_option maxRecDepth 100000 in
theorem parametersOf_c (P : Nat) (v : Value) (us : List Value) (A : List (List Int)) (w : World) (hv : RII w v us A) (hD : DOk P A) :
    Calls Try.prog 43 #[dv P v] w (MakesPr w (prmV P A) (prmB P A)) := by
  obtain ⟨a, c, hsh⟩ := hv.1.sl.sh
  rw [hv.2.1] at hsh
  subst hsh
  have hP := hD.le
  have hDl := hD.len
  have HD := Lib.hid hD
  clear hD
  have hS1 := ((St.refl w).newboxF 35 #[.int .i64 P, .slice a A.length c]).newboxF 39 #[.int .i64 0, .int .i64 0, .int .i64 0, .int .i64 0, .int .i64 0]
  simp only [World.size_alloc] at hS1
  have b0 := hS1.bcell 1 rfl 0 rfl
  have b1 := hS1.bcell 1 rfl 1 rfl
  have hix := hv.ix
  have f0 := hS1.bfree 0 rfl
  have r0 := hS1.bcell 0 rfl 0 rfl
  have r1 := hS1.bcell 0 rfl 1 rfl
  have r2 := hS1.bcell 0 rfl 2 rfl
  have r3 := hS1.bcell 0 rfl 3 rfl
  have r4 := hS1.bcell 0 rfl 4 rfl
  unfold dv
  by_cases h1 : 2 ≤ P
  · by_cases h2 : 0 < A.length
    · have fz := eq_f (show ¬ (A.length : Int) = 0 by omega)
      have cz := (hS1.oldII hv).cell 0 h2
      have hl0 := (hv.row 0 h2).len
      by_cases h3 : 2 ≤ (xat A 0).length
      · have HPC := Lib.hid (pairCounts_c P (.slice a A.length c) us A _ (hS1.oldII hv) HD.out)
        have hC0 := parL_pos (A := A) h1
        have H1 := Lib.hid (And.intro h1 (And.intro h2 h3))
        have h3' : ¬ ((xat A 0).length : Int) < 2 := by omega
        have h1' : ¬ (P : Int) < 2 := by omega
        have x0 := hv.ixe 0 0 rfl h2
        have HR := fun W h => Lib.hid (replicationsOf_c P (.slice a A.length c) us A W h HD.out)
        have hprm := Lib.hid (fun h h' => prm_val (prm_yes (A := A) H1.out h h'))
        have hprb := Lib.hid (fun h h' => prm_yes (A := A) H1.out h h')
        unfold dv at HPC HR
        go_enter Try.func43, Try.ntmps43
        go_wp2_with fail
        refine HPC.out.mono ?_
        clear HPC r0 r1 r2 r3 r4 f0 b0 b1 cz
        rintro e w2 ⟨vc, rfl, h4⟩
        have hS2 := hS1.call h4
        have b1 := hS2.bcell 1 rfl 1 rfl
        have hlc := (h4.rdI 0 rfl).len
        have hic := (h4.rdI 0 rfl).ix
        have xc0 := (h4.rdI 0 rfl).ixe 0 0 rfl hC0
        have hCle : (parL P A).length ≤ 1024 := by
          have := parK_len P A P
          have h2 : P * P ≤ 32 * 32 := Nat.mul_le_mul (by omega) (by omega)
          rw [parK_end] at this; omega
        have HN2 := Lib.hid (fun k (hk : k < A.length) (h : (xat A k).length ≠ (xat A 0).length) => prm_no2 (P := P) hk h)
        have HN3 := Lib.hid (fun k (hk : k < (parL P A).length) (h : nth (parL P A) k ≠ nth (parL P A) 0) => prm_no3 hk h)
        generalize parL P A = C at *
        clear hS1 h4
        simp only [List.cons_append, List.nil_append] at hS2
        go_wp2_with fail
        go_loopw [6, 32] (fun _ i wr => ∃ k : Nat, k ≤ A.length ∧ i = .int .i64 k ∧ Hid (∀ j, j < k → (xat A j).length = (xat A 0).length) ∧ St w.heap.size w wr [box 39 (w.heap.size + 1) [.int .i64 0, .int .i64 0, .int .i64 0, .int .i64 0, .int .i64 0], box 35 w.heap.size [.int .i64 P, .slice a A.length c], row 2 vc (iv C)]) (fun _ i _ => A.length - (intOf i).toNat)
        case atStart => exact ⟨0, by omega, rfl, fun j hj => by omega, hS2⟩
        case round =>
          clear hS2 b1
          obtain ⟨k, hk, rfl, hI, hS⟩ := hrel
          have b1 := hS.bcell 1 rfl 1 rfl
          by_cases hlt : k < A.length
          · have ck := (hS.oldII hv).cell k hlt
            have cz := (hS.oldII hv).cell 0 h2
            have hlk := (hv.row k hlt).len
            by_cases he : (xat A k).length = (xat A 0).length
            · have f := ne_f (show ((xat A k).length : Int) = (xat A 0).length by omega)
              have He := Lib.hid he
              clear he
              go_wp2_with fail
              go_roundw
              case rel => exact ⟨k + 1, by omega, by go_num, fun j hj => by
                by_cases e : j = k
                · rw [e]; exact He.out
                · exact hI.out j (by omega), hS⟩
              case measure => simp [intOf]; omega
            · have f := ne_t (fun e : ((xat A k).length : Int) = (xat A 0).length => he (by omega))
              have HN := Lib.hid (HN2.out k hlt he)
              clear he
              have r0 := hS.bcell 0 rfl 0 rfl
              have r1 := hS.bcell 0 rfl 1 rfl
              have r2 := hS.bcell 0 rfl 2 rfl
              have r3 := hS.bcell 0 rfl 3 rfl
              have r4 := hS.bcell 0 rfl 4 rfl
              have f0 := hS.bfree 0 rfl
              have hZ := ((((hS.bstore 0 rfl 0 (.int .i64 0)).bstore 0 rfl 1 (.int .i64 0)).bstore 0 rfl 2 (.int .i64 0)).bstore 0 rfl 3 (.int .i64 0)).bstore 0 rfl 4 (.int .i64 0)
              have z0 := hZ.bcell 0 rfl 0 rfl
              have z1 := hZ.bcell 0 rfl 1 rfl
              have z2 := hZ.bcell 0 rfl 2 rfl
              have z3 := hZ.bcell 0 rfl 3 rfl
              have z4 := hZ.bcell 0 rfl 4 rfl
              go_wp2_with fail
              refine bodyPost_ret (v := .tuple #[.agg #[.int .i64 0, .int .i64 0, .int .i64 0, .int .i64 0, .int .i64 0], .bool false]) (by simp [results, Try.results43, go_sem, z0, z1, z2, z3, z4]) rfl ?_
              exact MakesPr.no HN.out hZ
          · obtain rfl : k = A.length := by omega
            have hall := hI
            clear hI
            go_wp2_with fail
            go_loopw [8, 48] (fun _ i wr => ∃ k : Nat, k ≤ C.length ∧ i = .int .i64 k ∧ Hid (∀ j, j < k → nth C j = nth C 0) ∧ St w.heap.size w wr [box 39 (w.heap.size + 1) [.int .i64 0, .int .i64 0, .int .i64 0, .int .i64 0, .int .i64 0], box 35 w.heap.size [.int .i64 P, .slice a A.length c], row 2 vc (iv C)]) (fun _ i _ => C.length - (intOf i).toNat)
            case atStart => exact ⟨0, by omega, rfl, fun j hj => by omega, hS⟩
            case round =>
              clear hS b1
              obtain ⟨k, hk, rfl, hI, hS⟩ := hrel
              by_cases hlt : k < C.length
              · have ck := (hS.rdI 2 rfl).cell k hlt
                have cz := (hS.rdI 2 rfl).cell 0 hC0
                by_cases he : nth C k = nth C 0
                · have f := ne_f he
                  have He := Lib.hid he
                  clear he
                  go_wp2_with fail
                  go_roundw
                  case rel => exact ⟨k + 1, by omega, by go_num, fun j hj => by
                    by_cases e : j = k
                    · rw [e]; exact He.out
                    · exact hI.out j (by omega), hS⟩
                  case measure => simp [intOf]; omega
                · have f := ne_t he
                  have HN := Lib.hid (HN3.out k hlt he)
                  clear he
                  have r0 := hS.bcell 0 rfl 0 rfl
                  have r1 := hS.bcell 0 rfl 1 rfl
                  have r2 := hS.bcell 0 rfl 2 rfl
                  have r3 := hS.bcell 0 rfl 3 rfl
                  have r4 := hS.bcell 0 rfl 4 rfl
                  have f0 := hS.bfree 0 rfl
                  have hZ := ((((hS.bstore 0 rfl 0 (.int .i64 0)).bstore 0 rfl 1 (.int .i64 0)).bstore 0 rfl 2 (.int .i64 0)).bstore 0 rfl 3 (.int .i64 0)).bstore 0 rfl 4 (.int .i64 0)
                  have z0 := hZ.bcell 0 rfl 0 rfl
                  have z1 := hZ.bcell 0 rfl 1 rfl
                  have z2 := hZ.bcell 0 rfl 2 rfl
                  have z3 := hZ.bcell 0 rfl 3 rfl
                  have z4 := hZ.bcell 0 rfl 4 rfl
                  go_wp2_with fail
                  refine bodyPost_ret (v := .tuple #[.agg #[.int .i64 0, .int .i64 0, .int .i64 0, .int .i64 0, .int .i64 0], .bool false]) (by simp [results, Try.results43, go_sem, z0, z1, z2, z3, z4]) rfl ?_
                  exact MakesPr.no HN.out hZ
              · obtain rfl : k = C.length := by omega
                have HV := Lib.hid (hprm.out hall.out hI.out)
                have HB := Lib.hid (hprb.out hall.out hI.out)
                have b0 := hS.bcell 1 rfl 0 rfl
                have b1 := hS.bcell 1 rfl 1 rfl
                have cz := (hS.oldII hv).cell 0 h2
                have c0 := (hS.rdI 2 rfl).cell 0 hC0
                have hS3 := hS.drew
                clear hI hprm hprb HN2 HN3
                go_wp2_with fail
                refine regionG (fun w' => w'.cell? ⟨w.heap.size, 0, none⟩ = some (.int .i64 P) ∧ w'.cell? ⟨w.heap.size, 1, none⟩ = some (.slice a A.length c) ∧ w'.cell? (el (.slice a A.length c) 0) = some (vat us 0) ∧ w'.cell? (el vc 0) = some (.int .i64 (nth C 0))) 18 (by kernel_rfl) ⟨cell_dr b0, cell_dr b1, cell_dr cz, cell_dr c0⟩ (fun hHeld => ?_)
                refine takeP (i := 0) (v := ?_) rfl (by kernel_rfl) (fun _ _ _ h => h) (by rfl) ?_ (by assumption) ?_
                case refine_2 => (intro w'; go_simp; first | done | with_reducible rfl)
                try simp only [Act.put, List.setIfInBounds_toArray, List.set_cons_zero, List.set_cons_succ]
                refine takeH (i := 1) [17] (v := ?_) rfl (by kernel_rfl) (fun _ _ _ h => h) (by rfl) ?_ (by assumption) ?_
                case refine_2 => (intro w' hSw; (try dsimp only at hSw); go_simp; first | done | with_reducible rfl)
                try simp only [Act.put, List.setIfInBounds_toArray, List.set_cons_zero, List.set_cons_succ]
                refine takeP (i := 2) (v := ?_) rfl (by kernel_rfl) (fun _ _ _ h => h) (by rfl) ?_ (by assumption) ?_
                case refine_2 => (intro w'; go_simp; first | done | with_reducible rfl)
                try simp only [Act.put, List.setIfInBounds_toArray, List.set_cons_zero, List.set_cons_succ]
                refine takeH (i := 3) [4, 17] (v := ?_) rfl (by kernel_rfl) (fun _ _ _ h => h) (by rfl) ?_ (by assumption) ?_
                case refine_2 => (intro w' hSw; (try dsimp only at hSw); go_simp; first | done | with_reducible rfl)
                try simp only [Act.put, List.setIfInBounds_toArray, List.set_cons_zero, List.set_cons_succ]
                refine takeH (i := 5) [6, 7, 8, 17] (v := ?_) rfl (by kernel_rfl) (fun _ _ _ h => h) (by rfl) ?_ (by assumption) ?_
                case refine_2 => (intro w' hSw; (try dsimp only at hSw); go_simp; first | done | with_reducible rfl)
                try simp only [Act.put, List.setIfInBounds_toArray, List.set_cons_zero, List.set_cons_succ]
                refine takeP (i := 9) (v := ?_) rfl (by kernel_rfl) (fun _ _ _ h => h) (by rfl) ?_ (by assumption) ?_
                case refine_2 => (intro w'; go_simp; first | done | with_reducible rfl)
                try simp only [Act.put, List.setIfInBounds_toArray, List.set_cons_zero, List.set_cons_succ]
                refine takeH (i := 10) [11, 12, 13, 17] (v := ?_) rfl (by kernel_rfl) (fun _ _ _ h => h) (by rfl) ?_ (by assumption) ?_
                case refine_2 => (intro w' hSw; (try dsimp only at hSw); go_simp; first | done | with_reducible rfl)
                try simp only [Act.put, List.setIfInBounds_toArray, List.set_cons_zero, List.set_cons_succ]
                refine takeP (i := 11) (v := ?_) rfl (by kernel_rfl) (fun _ _ _ h => h) (by rfl) ?_ (by assumption) ?_
                case refine_2 => (intro w'; go_simp; first | done | with_reducible rfl)
                try simp only [Act.put, List.setIfInBounds_toArray, List.set_cons_zero, List.set_cons_succ]
                refine takeH (i := 12) [13, 17] (v := ?_) rfl (by kernel_rfl) (fun _ _ _ h => h) (by rfl) ?_ (by assumption) ?_
                case refine_2 => (intro w' hSw; (try dsimp only at hSw); go_simp; first | done | with_reducible rfl)
                try simp only [Act.put, List.setIfInBounds_toArray, List.set_cons_zero, List.set_cons_succ]
                refine takeP (i := 14) (v := ?_) rfl (by kernel_rfl) (fun _ _ _ h => h) (by rfl) ?_ (by assumption) ?_
                case refine_2 => (intro w'; go_simp; first | done | with_reducible rfl)
                try simp only [Act.put, List.setIfInBounds_toArray, List.set_cons_zero, List.set_cons_succ]
                refine takeP (i := 15) (v := ?_) rfl (by kernel_rfl) (fun _ _ _ h => h) (by rfl) ?_ (by assumption) ?_
                case refine_2 => (intro w'; go_simp; first | done | with_reducible rfl)
                try simp only [Act.put, List.setIfInBounds_toArray, List.set_cons_zero, List.set_cons_succ]
                refine takeH (i := 16) [17] (v := ?_) rfl (by kernel_rfl) (fun _ _ _ h => h) (by rfl) ?_ (by assumption) ?_
                case refine_2 => (intro w' hSw; (try dsimp only at hSw); go_simp; first | done | with_reducible rfl)
                try simp only [Act.put, List.setIfInBounds_toArray, List.set_cons_zero, List.set_cons_succ]
                refine readyG (rs := [4]) (by kernel_rfl) (by simp) ?_
                refine AllG.cons rfl (fun K hK => ?_) AllG.nil
                go_simp
                refine (szII_c _ us A _ (hS3.oldII hv)).mono ?_
                rintro e w4 ⟨rfl, rfl⟩
                refine hK.out _ _ ⟨cell_dr b0, cell_dr b1, cell_dr cz, cell_dr c0⟩ (fun hHeld => ?_)
                clear hK K
                try simp only [Act.put, List.setIfInBounds_toArray, List.set_cons_zero, List.set_cons_succ]
                refine readyG (rs := [6]) (by kernel_rfl) (by simp) ?_
                refine AllG.cons rfl (fun K hK => ?_) AllG.nil
                go_simp
                refine (HR _ (hS3.oldII hv)).out.mono ?_
                rintro e w5 ⟨vr, rfl, h5⟩
                have hS5 := hS3.call h5
                have e0 := hS5.bcell 1 rfl 0 rfl
                have e1 := hS5.bcell 1 rfl 1 rfl
                have ez := (hS5.oldII hv).cell 0 h2
                have ec := (hS5.rdI 2 rfl).cell 0 hC0
                have xr0 := (h5.rdI 0 rfl).ixe 0 0 rfl (by rw [repL_len]; omega)
                have cr0 := (h5.rdI 0 rfl).cell 0 (by rw [repL_len]; omega)
                have rz := Lib.hid ((hS5.oldII hv).row 0 h2)
                have hS6 := Lib.hid hS5
                refine hK.out _ _ ⟨e0, e1, ez, ec⟩ (fun hHeld => ?_)
                clear hK K h5 hS3 hS b0 b1 cz c0
                try simp only [Act.put, List.setIfInBounds_toArray, List.set_cons_zero, List.set_cons_succ]
                refine takeP (i := 7) (v := ?_) rfl (by kernel_rfl) (fun _ _ _ h => h) (by rfl) ?_ (by assumption) ?_
                case refine_2 => (intro w'; go_simp; first | done | with_reducible rfl)
                try simp only [Act.put, List.setIfInBounds_toArray, List.set_cons_zero, List.set_cons_succ]
                refine readyG (rs := [8, 13]) (by kernel_rfl) (by simp) ?_
                refine AllG.cons rfl (fun K hK => ?_) (AllG.cons rfl (fun K hK => ?_) AllG.nil)
                · go_simp
                  refine hK.out _ _ ⟨e0, e1, ez, ec⟩ (fun hHeld => ?_)
                  clear hK K
                  try simp only [Act.put, List.setIfInBounds_toArray, List.set_cons_zero, List.set_cons_succ]
                  refine readyG (rs := [13]) (by kernel_rfl) (by simp) ?_
                  refine AllG.cons rfl (fun K hK => ?_) AllG.nil
                  go_simp
                  refine (size_c _ _ _ rz.out).mono ?_
                  rintro e w6 ⟨rfl, rfl⟩
                  refine hK.out _ _ ⟨e0, e1, ez, ec⟩ (fun hHeld => ?_)
                  clear hK K
                  try simp only [Act.put, List.setIfInBounds_toArray, List.set_cons_zero, List.set_cons_succ]
                  have t0 := hS5.bcell 0 rfl 0 rfl
                  have t1 := hS5.bcell 0 rfl 1 rfl
                  have t2 := hS5.bcell 0 rfl 2 rfl
                  have t3 := hS5.bcell 0 rfl 3 rfl
                  have t4 := hS5.bcell 0 rfl 4 rfl
                  have f0 := hS5.bfree 0 rfl
                  refine takeP (i := 17) (v := ?_) rfl (by kernel_rfl) (fun _ _ _ h => h) (by rfl) ?_ (by assumption) ?_
                  case refine_2 => (intro w'; go_simp; first | done | with_reducible rfl)
                  try simp only [Act.put, List.setIfInBounds_toArray, List.set_cons_zero, List.set_cons_succ]
                  refine readyG (rs := [18]) (by kernel_rfl) (by simp) ?_
                  refine AllG.last rfl (by kernel_rfl) (fun K hK => ?_) AllG.nil
                  go_simp
                  refine hK.out _ _ ?_
                  clear hK K
                  try simp only [Act.put, List.setIfInBounds_toArray, List.set_cons_zero, List.set_cons_succ]
                  refine readyG (rs := [19]) (by kernel_rfl) (by simp) ?_
                  refine AllG.last rfl (by kernel_rfl) (fun K hK => ?_) AllG.nil
                  go_simp
                  refine hK.out _ _ ?_
                  clear hK K
                  try simp only [Act.put, List.setIfInBounds_toArray, List.set_cons_zero, List.set_cons_succ]
                  refine doneG (by kernel_rfl) ?_ _
                  refine NoPanic.normal ?_
                  have hZ := ((((hS6.out.bstore 0 rfl 0 (.int .i64 P)).bstore 0 rfl 1 (.int .i64 A.length)).bstore 0 rfl 2 (.int .i64 (nth (repL P A) 0))).bstore 0 rfl 3 (.int .i64 (xat A 0).length)).bstore 0 rfl 4 (.int .i64 (nth C 0))
                  have z0 := hZ.bcell 0 rfl 0 rfl
                  have z1 := hZ.bcell 0 rfl 1 rfl
                  have z2 := hZ.bcell 0 rfl 2 rfl
                  have z3 := hZ.bcell 0 rfl 3 rfl
                  have z4 := hZ.bcell 0 rfl 4 rfl
                  clear hS5 t0 t1 t2 t3 t4
                  go_wp2_with fail
                  refine bodyPost_ret (v := .tuple #[.agg #[.int .i64 P, .int .i64 A.length, .int .i64 (nth (repL P A) 0), .int .i64 (xat A 0).length, .int .i64 (nth C 0)], .bool true]) (by simp [results, Try.results43, go_sem, z0, z1, z2, z3, z4]) rfl ?_
                  rw [HB.out, HV.out]
                  exact ⟨rfl, hZ.out⟩
                · go_simp
                  refine (size_c _ _ _ rz.out).mono ?_
                  rintro e w6 ⟨rfl, rfl⟩
                  refine hK.out _ _ ⟨e0, e1, ez, ec⟩ (fun hHeld => ?_)
                  clear hK K
                  try simp only [Act.put, List.setIfInBounds_toArray, List.set_cons_zero, List.set_cons_succ]
                  refine readyG (rs := [8]) (by kernel_rfl) (by simp) ?_
                  refine AllG.cons rfl (fun K hK => ?_) AllG.nil
                  go_simp
                  refine hK.out _ _ ⟨e0, e1, ez, ec⟩ (fun hHeld => ?_)
                  clear hK K
                  try simp only [Act.put, List.setIfInBounds_toArray, List.set_cons_zero, List.set_cons_succ]
                  have t0 := hS5.bcell 0 rfl 0 rfl
                  have t1 := hS5.bcell 0 rfl 1 rfl
                  have t2 := hS5.bcell 0 rfl 2 rfl
                  have t3 := hS5.bcell 0 rfl 3 rfl
                  have t4 := hS5.bcell 0 rfl 4 rfl
                  have f0 := hS5.bfree 0 rfl
                  refine takeP (i := 17) (v := ?_) rfl (by kernel_rfl) (fun _ _ _ h => h) (by rfl) ?_ (by assumption) ?_
                  case refine_2 => (intro w'; go_simp; first | done | with_reducible rfl)
                  try simp only [Act.put, List.setIfInBounds_toArray, List.set_cons_zero, List.set_cons_succ]
                  refine readyG (rs := [18]) (by kernel_rfl) (by simp) ?_
                  refine AllG.last rfl (by kernel_rfl) (fun K hK => ?_) AllG.nil
                  go_simp
                  refine hK.out _ _ ?_
                  clear hK K
                  try simp only [Act.put, List.setIfInBounds_toArray, List.set_cons_zero, List.set_cons_succ]
                  refine readyG (rs := [19]) (by kernel_rfl) (by simp) ?_
                  refine AllG.last rfl (by kernel_rfl) (fun K hK => ?_) AllG.nil
                  go_simp
                  refine hK.out _ _ ?_
                  clear hK K
                  try simp only [Act.put, List.setIfInBounds_toArray, List.set_cons_zero, List.set_cons_succ]
                  refine doneG (by kernel_rfl) ?_ _
                  refine NoPanic.normal ?_
                  have hZ := ((((hS6.out.bstore 0 rfl 0 (.int .i64 P)).bstore 0 rfl 1 (.int .i64 A.length)).bstore 0 rfl 2 (.int .i64 (nth (repL P A) 0))).bstore 0 rfl 3 (.int .i64 (xat A 0).length)).bstore 0 rfl 4 (.int .i64 (nth C 0))
                  have z0 := hZ.bcell 0 rfl 0 rfl
                  have z1 := hZ.bcell 0 rfl 1 rfl
                  have z2 := hZ.bcell 0 rfl 2 rfl
                  have z3 := hZ.bcell 0 rfl 3 rfl
                  have z4 := hZ.bcell 0 rfl 4 rfl
                  clear hS5 t0 t1 t2 t3 t4
                  go_wp2_with fail
                  refine bodyPost_ret (v := .tuple #[.agg #[.int .i64 P, .int .i64 A.length, .int .i64 (nth (repL P A) 0), .int .i64 (xat A 0).length, .int .i64 (nth C 0)], .bool true]) (by simp [results, Try.results43, go_sem, z0, z1, z2, z3, z4]) rfl ?_
                  rw [HB.out, HV.out]
                  exact ⟨rfl, hZ.out⟩
      · have H := Lib.hid (prm_no1 (P := P) (A := A) (fun h => h3 h.2.2))
        go_enter Try.func43, Try.ntmps43
        go_wp2_with fail
        refine bodyPost_ret (v := .tuple #[.agg #[.int .i64 0, .int .i64 0, .int .i64 0, .int .i64 0, .int .i64 0], .bool false]) (by simp [results, Try.results43, go_sem, r0, r1, r2, r3, r4]) rfl ?_
        exact MakesPr.no H.out hS1
    · have H := Lib.hid (prm_no1 (P := P) (A := A) (fun h => h2 h.2.1))
      have f := eq_t (show (A.length : Int) = 0 by omega)
      have h1' : ¬ (P : Int) < 2 := by omega
      have H0 := Lib.hid (show A.length = 0 by omega)
      clear h2
      go_enter Try.func43, Try.ntmps43
      go_wp2_with fail
      refine bodyPost_ret (v := .tuple #[.agg #[.int .i64 0, .int .i64 0, .int .i64 0, .int .i64 0, .int .i64 0], .bool false]) (by simp [results, Try.results43, go_sem, r0, r1, r2, r3, r4]) rfl ?_
      first
      | exact MakesPr.no H.out hS1
      | (rw [H0.out] at hS1; exact MakesPr.no H.out hS1)
  · have H := Lib.hid (prm_no1 (P := P) (A := A) (fun h => h1 h.1))
    have h1' : (P : Int) < 2 := by omega
    go_enter Try.func43, Try.ntmps43
    go_wp2_with fail
    refine bodyPost_ret (v := .tuple #[.agg #[.int .i64 0, .int .i64 0, .int .i64 0, .int .i64 0, .int .i64 0], .bool false]) (by simp [results, Try.results43, go_sem, r0, r1, r2, r3, r4]) rfl ?_
    exact MakesPr.no H.out hS1
end Go.Proofs.Ytgflhgkcmfjkgaa
end

section
/- Walks: ParametersOf of the program; replications, pairs and parameters of the reference. -/
namespace Go.Proofs.Ytgflhgkcmfjkgaa
set_option linter.unusedSimpArgs false
set_option linter.unusedVariables false
open Go.RowKit
attribute [local go_sem ↓] Go.wp_at_zero Go.wp_at_succ

def prmC (P : Nat) (A : List (List Int)) : Int := if prmB P A = true then 0 else 6
/-- it hands over parameters, and a code -/
def MakesPC (w : World) (xs : List Int) (c : Int) (e : Ending) (w' : World) : Prop := e = .returned (.tuple #[pmV xs, .int .i64 c]) ∧ St w.heap.size w w' []
def z5 (g : Nat) : Ent := box 39 g [.int .i64 0, .int .i64 0, .int .i64 0, .int .i64 0, .int .i64 0]
theorem St.five {B : Nat} {w0 w : World} {L : List Ent} {g : Nat} {us : List Value} (h : St B w0 w (box 39 g us :: L)) (hl : us.length = 5) (a b c d e : Value) :
    St B w0 (((((w.setCell ⟨g, 0, none⟩ a).setCell ⟨g, 1, none⟩ b).setCell ⟨g, 2, none⟩ c).setCell ⟨g, 3, none⟩ d).setCell ⟨g, 4, none⟩ e) (box 39 g [a, b, c, d, e] :: L) := by
  match us, hl with
  | [u0, u1, u2, u3, u4], _ => exact ((((h.bstore 0 rfl 0 a).bstore 0 rfl 1 b).bstore 0 rfl 2 c).bstore 0 rfl 3 d).bstore 0 rfl 4 e
set_option maxHeartbeats 4000000 in
set_option maxRecDepth 100000 in
theorem ParametersOf_c (P : Nat) (v : Value) (us : List Value) (A : List (List Int)) (w : World) (hv : RII w v us A) (hok : dOk P A = true) :
    Calls Try.prog 13 #[dv P v] w (MakesPC w (prmV P A) (prmC P A)) := by
  obtain ⟨a, c, hsh⟩ := hv.1.sl.sh
  rw [hv.2.1] at hsh
  subst hsh
  have hS1 := ((St.refl w).newboxF 35 #[.int .i64 P, .slice a A.length c]).newboxF 39 #[.int .i64 0, .int .i64 0, .int .i64 0, .int .i64 0, .int .i64 0]
  simp only [World.size_alloc] at hS1
  have b0 := hS1.bcell 1 rfl 0 rfl
  have b1 := hS1.bcell 1 rfl 1 rfl
  have K1 := Lib.hid (ValidDesign_c P (.slice a A.length c) us A _ (hS1.oldII hv))
  rw [hok] at K1
  have K2 := fun W h => Lib.hid (parametersOf_c P (.slice a A.length c) us A W h (dOk_t hok))
  have HV := Lib.hid (prmV_no (P := P) (A := A))
  have HC := Lib.hid (And.intro (show prmB P A = true → prmC P A = 0 from fun h => by rw [prmC, if_pos h]) (show prmB P A = false → prmC P A = 6 from fun h => by rw [prmC, if_neg (by rw [h]; decide)]))
  unfold dv at K1 K2 ⊢
  generalize prmV P A = X at *
  generalize prmC P A = C at *
  generalize prmB P A = B at *
  go_enter Try.func13, Try.ntmps13
  go_wp2_with fail
  refine K1.out.mono ?_
  clear K1 b0 b1
  rintro e w2 ⟨rfl, h2⟩
  have hS2 := hS1.call0 h2
  have b0 := hS2.bcell 1 rfl 0 rfl
  have b1 := hS2.bcell 1 rfl 1 rfl
  clear h2 hS1
  go_wp2_with fail
  refine (K2 _ (hS2.oldII hv)).out.mono ?_
  rintro e w3 ⟨rfl, h3⟩
  have hS3 := (hS2.call0 h3).newboxF 39 #[.int .i64 (nth X 0), .int .i64 (nth X 1), .int .i64 (nth X 2), .int .i64 (nth X 3), .int .i64 (nth X 4)]
  have p0 := hS3.bcell 0 rfl 0 rfl
  have p1 := hS3.bcell 0 rfl 1 rfl
  have p2 := hS3.bcell 0 rfl 2 rfl
  have p3 := hS3.bcell 0 rfl 3 rfl
  have p4 := hS3.bcell 0 rfl 4 rfl
  have r0 := hS3.bcell 1 rfl 0 rfl
  have r1 := hS3.bcell 1 rfl 1 rfl
  have r2 := hS3.bcell 1 rfl 2 rfl
  have r3 := hS3.bcell 1 rfl 3 rfl
  have r4 := hS3.bcell 1 rfl 4 rfl
  have f0 := hS3.bfree 1 rfl
  have hS4 := hS3.sub (List.sublist_cons_self _ _)
  clear h3 hS2 b0 b1
  unfold pmV
  cases B
  · have hX := HV.out rfl
    have hC := HC.out.2 rfl
    have hZ := hS4.five rfl (.int .i64 0) (.int .i64 0) (.int .i64 0) (.int .i64 0) (.int .i64 0)
    have z0 := hZ.bcell 0 rfl 0 rfl
    have z1 := hZ.bcell 0 rfl 1 rfl
    have z2 := hZ.bcell 0 rfl 2 rfl
    have z3 := hZ.bcell 0 rfl 3 rfl
    have z4 := hZ.bcell 0 rfl 4 rfl
    subst hX
    subst hC
    clear hS3 hS4
    go_wp2_with fail
    refine bodyPost_ret (v := .tuple #[.agg #[.int .i64 0, .int .i64 0, .int .i64 0, .int .i64 0, .int .i64 0], .int .i64 6]) (by simp [results, Try.results13, go_sem, z0, z1, z2, z3, z4]) rfl ?_
    exact ⟨rfl, hZ.out⟩
  · have hC := HC.out.1 rfl
    subst hC
    have hZ := hS4.five rfl (.int .i64 (nth X 0)) (.int .i64 (nth X 1)) (.int .i64 (nth X 2)) (.int .i64 (nth X 3)) (.int .i64 (nth X 4))
    have z0 := hZ.bcell 0 rfl 0 rfl
    have z1 := hZ.bcell 0 rfl 1 rfl
    have z2 := hZ.bcell 0 rfl 2 rfl
    have z3 := hZ.bcell 0 rfl 3 rfl
    have z4 := hZ.bcell 0 rfl 4 rfl
    clear hS3 hS4
    go_wp2_with fail
    refine bodyPost_ret (v := .tuple #[.agg #[.int .i64 (nth X 0), .int .i64 (nth X 1), .int .i64 (nth X 2), .int .i64 (nth X 3), .int .i64 (nth X 4)], .int .i64 0]) (by simp [results, Try.results13, go_sem, z0, z1, z2, z3, z4]) rfl ?_
    exact ⟨rfl, hZ.out⟩

end Go.Proofs.Ytgflhgkcmfjkgaa
end

section
/- Walks: what the laws choose by bytes. -/
namespace Go.Proofs.Ytgflhgkcmfjkgaa
set_option linter.unusedSimpArgs false
set_option linter.unusedVariables false
open Go.RowKit

/-- some number at most 1023, and less than n if there is one -/
theorem b10At_c (w : World) (cv : Value) (bs : List UInt8) (i n : Int) (hb : RdB w cv bs) (i0 : 0 ≤ i) (i1 : i ≤ 1000000) (n1 : n ≤ 1000000) :
    Calls Try.prog 10 #[cv, .int .i64 i, .int .i64 n] w fun e w' => ∃ x : Int, e = .returned (.int .i64 x) ∧ 0 ≤ x ∧ (x < n ∨ n ≤ 1 ∧ x = 0) ∧ w = w' := by
  have hln := hb.len
  have hix := hb.ix
  have hc := hb.cell
  have hle := hb.le
  by_cases h1 : n ≤ 1
  · go_enter Try.func10, Try.ntmps10
    go_wp2_with fail
    go_ret
    exact ⟨0, rfl, by omega, .inr ⟨h1, rfl⟩, rfl⟩
  · by_cases h2 : i < bs.length
    · obtain ⟨k, rfl⟩ := Int.eq_ofNat_of_zero_le i0
      have hck := hc k (by omega)
      have hbd := bnth_bd bs k
      go_enter Try.func10, Try.ntmps10
      go_wp2_with fail
      go_ret
      refine ⟨_, rfl, ?_, .inl ?_, rfl⟩
      · exact Int.emod_nonneg _ (by omega)
      · exact Int.emod_lt_of_pos _ (by omega)
    · go_enter Try.func10, Try.ntmps10
      go_wp2_with fail
      go_ret
      refine ⟨_, rfl, ?_, .inl ?_, rfl⟩
      · exact Int.emod_nonneg _ (by omega)
      · exact Int.emod_lt_of_pos _ (by omega)

end Go.Proofs.Ytgflhgkcmfjkgaa
end

section
/- The law FnRoundRobin, walked. -/
namespace Go.Proofs.Ytgflhgkcmfjkgaa
set_option linter.unusedSimpArgs false
set_option linter.unusedVariables false
open Go.RowKit
attribute [local go_sem ↓] Go.wp_at_zero Go.wp_at_succ

theorem RoundRobin_no (n : Int) (w : World) (h : ¬ (2 ≤ n ∧ n ≤ 32)) : Calls Try.prog 8 #[.int .i64 n] w fun e w' => e = .returned (.tuple #[.slice none 0 0, .int .i64 2]) ∧ St w.heap.size w w' [] := by
  have KT := isTeams_c n w
  rw [inB_false h] at KT
  go_enter Try.func8, Try.ntmps8
  go_wp2_with fail
  refine KT.mono ?_
  rintro e' w1 ⟨rfl, rfl⟩
  go_wp2_with fail
  go_ret2
  exact ⟨rfl, St.refl _⟩
theorem DrawRoundRobin_c (w : World) (cv : Value) (bs : List UInt8) (hb : RdB w cv bs) : Calls Try.prog 7 #[cv] w fun e w' => ∃ q : Int, e = .returned (.int .i64 q) ∧ -1 ≤ q ∧ q ≤ 40 ∧ St w.heap.size w w' [] := by
  go_enter Try.func7, Try.ntmps7
  go_wp2_with fail
  refine (l00From_c w cv bs hb).mono ?_
  rintro e w1 ⟨rfl, h1⟩
  go_wp2_with fail
  refine (pick_c w _ cv bs _ _ _ 36 hb h1 (by omega)).mono ?_
  rintro e w2 ⟨x, x0, x1, rfl, h2⟩
  have hS := h2.st
  have hx : x ≤ 35 := by omega
  clear h1 h2 x1
  go_wp2_with fail
  go_ret
  exact ⟨_, rfl, by omega, by omega, hS.out⟩
theorem newD4 (w : World) (P : Int) (v : Value) : St w.heap.size w (w.alloc (.cells #[.int .i64 P, v] 35)) [] ∧ BoxD (w.alloc (.cells #[.int .i64 P, v] 35)) w.heap.size P v := by
  have hN := (St.refl w).newboxF 35 #[.int .i64 P, v]
  exact ⟨hN.out, hN.bcell 0 rfl 0 rfl, hN.bcell 0 rfl 1 rfl⟩
theorem newP4 (w : World) (a b c d e : Int) : ∃ W, W = w.alloc (.cells #[.int .i64 a, .int .i64 b, .int .i64 c, .int .i64 d, .int .i64 e] 39) ∧ St w.heap.size w W [] ∧ W.cell? ⟨w.heap.size, 0, none⟩ = some (.int .i64 a) ∧ W.cell? ⟨w.heap.size, 3, none⟩ = some (.int .i64 d) ∧ W.cell? ⟨w.heap.size, 4, none⟩ = some (.int .i64 e) := by
  have hN := (St.refl w).newboxF 39 #[.int .i64 a, .int .i64 b, .int .i64 c, .int .i64 d, .int .i64 e]
  exact ⟨_, rfl, hN.out, hN.bcell 0 rfl 0 rfl, hN.bcell 0 rfl 3 rfl, hN.bcell 0 rfl 4 rfl⟩
/-- for an even number of teams the rounds are a resolution of the pairs -/
theorem rr_res {n : Nat} (h2 : 2 ≤ n) (h32 : n ≤ 32) (he : n % 2 = 0) (hl : (rrL n).flatten.length ≤ 128) : ResH n (dsL (rrL n)) (rrL n) (clsL (dsL (rrL n)) (rrL n)) := by
  have h := rr_vs h2 h32
  have hx : ∀ r, r < (rrL n).length → xat (clsL (dsL (rrL n)) (rrL n)) r = clsR (dsL (rrL n)) (x3at (rrL n) r) := fun r hr => by
    rw [xat_eq (by rw [clsL_len]; exact hr), x3at_eq hr]; simp [clsL]
  have hm : ∀ r (hr : r < (rrL n).length) k, k < (x3at (rrL n) r).length → xat (x3at (rrL n) r) k ∈ dsL (rrL n) := fun r hr k hk => (srtL_perm _).mem_iff.2 (List.mem_flatten.2 ⟨_, x3at_mem hr, xat_mem hk⟩)
  refine ⟨h32, h.dok hl, clsL_len _ _, fun r hr => by rw [hx r hr, clsR_len], fun r hr j hj => ?_, fun r hr j hj => by rw [hx r hr]; exact h.cls_inc (x3at_mem hr) hj, fun r hr => h.rnd (x3at_mem hr), fun r hr => h.rin (x3at_mem hr), fun r hr x hxn => ?_, h.cls_srt⟩
  · rw [hx r hr, nth_clsR hj]
    exact ⟨_, rfl, idx_at (hm r hr j hj)⟩
  · refine h.rall (x3at_mem hr) ?_ hxn
    rw [rrL_len] at hr
    rw [x3_rrL hr, rrR_len h2]; omega
/-- the count of the law, inside a round -/
def mnK (L : List Int) (t : Int) (x i : Nat) : Int := mnF L t x + if (x : Int) = t then 0 else ((L.take i).countP (fun o => decide (o = (x : Int))) : Int)
theorem mnK_0 (L : List Int) (t : Int) (x : Nat) : mnK L t x 0 = mnF L t x := by unfold mnK; split <;> simp
theorem mnK_end (L : List Int) (t : Int) (x : Nat) : mnK L t x L.length = mnF L t (x + 1) := by rw [mnK, mnF, List.take_length]
theorem mnK_step {L : List Int} {t : Int} {x i : Nat} (hi : i < L.length) : mnK L t x (i + 1) = mnK L t x i + if nth L i = x ∧ (x : Int) ≠ t then 1 else 0 := by
  unfold mnK
  by_cases e : (x : Int) = t
  · rw [if_pos e, if_pos e, if_neg (fun h => h.2 e)]; omega
  · rw [if_neg e, if_neg e, take_nth hi, List.countP_append]
    by_cases h : nth L i = x
    · rw [if_pos ⟨h, e⟩, h]; simp; omega
    · rw [if_neg (fun hh => h hh.1)]; simp [h]
theorem mnF_bd (L : List Int) (t : Int) : ∀ x, 0 ≤ mnF L t x ∧ mnF L t x ≤ x * L.length
  | 0 => by simp [mnF]
  | x + 1 => by
    have h1 := mnF_bd L t x
    have h2 := List.countP_le_length (p := fun o => decide (o = (x : Int))) (l := L)
    rw [mnF]
    have h3 : ((x + 1 : Nat) : Int) * L.length = x * L.length + L.length := by push_cast; rw [Int.add_mul, Int.one_mul]
    split <;> omega
theorem mnK_bd (L : List Int) (t : Int) (x i : Nat) : 0 ≤ mnK L t x i ∧ mnK L t x i ≤ x * L.length + L.length := by
  have h1 := mnF_bd L t x
  have h2 := List.countP_le_length (p := fun o => decide (o = (x : Int))) (l := L.take i)
  rw [List.length_take] at h2
  unfold mnK
  split <;> omega
set_option maxHeartbeats 16000000 in
set_option maxRecDepth 100000 in
theorem FnRoundRobin_law (w : World) (cv : Value) (bs : List UInt8) (cm : Value) (ms : List UInt8) (hb : RdB w cv bs) (hm : RdB w cm ms) :
    Calls Try.prog 3 #[cv, cm] w (GivesB w true) := by
  by_cases hlong : 1048576 < bs.length ∨ 1048576 < ms.length
  · by_cases h1 : 1048576 < bs.length
    · have hl' : decide (1048576 < bs.length) = true := by simpa using h1
      go_enter Try.func3, Try.ntmps3
      go_wp2_with fail
      refine (b10Long_c w cv bs hb).mono ?_
      rw [hl']
      rintro e w1 ⟨rfl, rfl⟩
      go_wp2_with fail
      go_ret
      exact ⟨rfl, St.refl _⟩
    · have hl' : decide (1048576 < bs.length) = false := by simpa using h1
      have hl2 : decide (1048576 < ms.length) = true := by simp; omega
      go_enter Try.func3, Try.ntmps3
      go_wp2_with fail
      refine (b10Long_c w cv bs hb).mono ?_
      rw [hl']
      rintro e w1 ⟨rfl, rfl⟩
      go_wp2_with (go_at_call 6; refine (b10Long_c w cm ms hm).mono ?_; rw [hl2]; rintro e w1 ⟨rfl, rfl⟩)
      go_ret
      exact ⟨rfl, St.refl _⟩
  · have hl' : decide (1048576 < bs.length) = false := by simp; omega
    have hl2 : decide (1048576 < ms.length) = false := by simp; omega
    go_enter Try.func3, Try.ntmps3
    go_wp2_with fail
    refine (b10Long_c w cv bs hb).mono ?_
    rw [hl']
    rintro e w1 ⟨rfl, rfl⟩
    go_wp2_with (go_at_call 6; refine (b10Long_c w cm ms hm).mono ?_; rw [hl2]; rintro e w1 ⟨rfl, rfl⟩)
    refine (DrawRoundRobin_c w cv bs hb).mono ?_
    rintro e w1 ⟨n, rfl, n0, n1, h1⟩
    have rm := hm.keep h1.below
    have hT0 := h1
    clear h1 hlong hl' hl2
    by_cases hbad : 2 ≤ n ∧ n ≤ 32
    case neg =>
      have K1 := fun W => Lib.hid (RoundRobin_no n W hbad)
      by_cases hn : n < 2
      · go_wp2_with (go_at_call 8; refine (K1 _).out.mono ?_; rintro e w2 ⟨rfl, h2⟩)
        go_ret
        exact ⟨rfl, (hT0.call0 h2).out⟩
      · have hn2 : 32 < n := by omega
        go_wp2_with (go_at_call 8; refine (K1 _).out.mono ?_; rintro e w2 ⟨rfl, h2⟩)
        go_ret
        exact ⟨rfl, (hT0.call0 h2).out⟩
    case pos =>
      obtain ⟨m, rfl⟩ := Int.eq_ofNat_of_zero_le (show 0 ≤ n by omega)
      obtain ⟨m2, m32⟩ : 2 ≤ m ∧ m ≤ 32 := by omega
      have HV := Lib.hid (rr_vs m2 m32)
      have hRl : (rrL m).length = m - 1 + m % 2 := by rw [rrL_len]; unfold evn; omega
      have HR := Lib.hid (fun he hl => rr_res m2 m32 he hl)
      have HF := Lib.hid (fun h => rr_few m2 (show m ≤ 16 from h))
      have hfl : Hid ((rrL m).flatten.length ≤ 1048576) := Lib.hid (by
        have : ∀ (X : List (List (List Int))), (∀ q ∈ X, q.length ≤ 32) → X.flatten.length ≤ 32 * X.length := fun X hX => by
          induction X with
          | nil => simp
          | cons q X ih =>
            have h1 := hX q (List.mem_cons_self ..)
            have h2 := ih fun p hp => hX p (List.mem_cons_of_mem _ hp)
            rw [List.flatten_cons, List.length_append, List.length_cons, Nat.mul_add]; omega
        have h2 := this (rrL m) fun q hq => by
          obtain ⟨r, hr, rfl⟩ := mem_x3at hq
          rw [rrL_len] at hr
          rw [x3_rrL hr, rrR_len m2]; omega
        omega)
      have K1 := Lib.hid (RoundRobin_c m w1 m2 m32)
      go_wp2_with fail
      refine K1.out.mono ?_
      clear K1
      generalize rrL m = R at *
      rintro e w2 ⟨v, vs, uss, rfl, hf, h2⟩
      have rv := MkIII.riii hf h2
      have hul := Lib.hid hf.2.1
      have hT := (hT0.call0 h2.out).out
      have rm := rm.keep h2.below
      clear h2 hf hT0 n0 n1 hbad
      have KV := ValidSchedule_c m v vs uss R w2 rv
      rw [HV.out.t] at KV
      have hln := rv.len
      have q0 : (m : Int).tmod 2 = ((m % 2 : Nat) : Int) := by rw [Int.tmod_eq_emod_of_nonneg (by omega)]; rfl
      have q1 : (m : Int) - 1 + ((m % 2 : Nat) : Int) = (R.length : Int) := by omega
      have q2 : (m : Int) - 1 + (m : Int) % 2 = (R.length : Int) := by omega
      have f1 : ((R.length : Int) != (R.length : Int)) = false := ne_f rfl
      have HRl := Lib.hid hRl
      clear hRl
      go_wp2_with (go_at_call 9; refine KV.mono ?_; rintro e w3 ⟨rfl, h3⟩)
      have rv := rv.keep h3.below
      have hT := (hT.call0 h3).out
      have rm := rm.keep h3.below
      clear h3 KV q0 q1 q2 hln
      refine (b10At_c w3 cm ms 0 m rm (by omega) (by omega) (by omega)).mono ?_
      rintro e w4 ⟨t, rfl, t0, t1, hw4⟩
      subst hw4
      obtain ⟨t, rfl⟩ := Int.eq_ofNat_of_zero_le t0
      have ht : t < m := by omega
      clear t0 t1
      have KO := Lib.hid (OpponentsOf_c m t v vs uss R w3 rv HV.out ht (by have := HRl.out; omega))
      have hOl := oppL_len (t : Int) R
      have hmn : Hid (mnF (oppL t R) t m = (m : Int) - 1) := Lib.hid (by rw [mnF_val (fun x hx hne => HV.out.once ht hx (by omega)) m (Nat.le_refl _), if_pos ht])
      go_wp2_with fail
      refine KO.out.mono ?_
      clear KO
      generalize oppL (t : Int) R = L at *
      rintro e w4 ⟨vo, rfl, h4⟩
      have rv := rv.keep h4.below
      have hT := (hT.call0 h4.out).out
      have rL := h4.rdI 0 rfl
      clear h4 rm
      have hlo := rL.len
      have hxo := rL.ixe
      have hleo := rL.le
      have hln := rv.len
      rw [hOl] at hlo
      have HLl := Lib.hid hOl
      have hR32 : R.length ≤ 32 := by have := HRl.out; omega
      go_wp2_with fail
      go_loopw [12, 11, 13] (fun x c _ wr => ∃ k : Nat, k ≤ m ∧ x = .int .i64 k ∧ c = .int .i64 (mnF L t k) ∧ wr = w4) (fun x _ _ _ => m - (intOf x).toNat)
      case atStart => exact ⟨0, by omega, rfl, rfl, rfl⟩
      case round =>
        obtain ⟨k, hk, rfl, rfl, rfl⟩ := hrel
        by_cases hkt : k < m
        · have E0 := Lib.hid (mnK_0 L t k)
          have E1 := Lib.hid (mnK_end L t k)
          rw [HLl.out] at E1
          go_wp2_with fail
          go_loopw [13, 11] (fun x c wx => ∃ i : Nat, i ≤ R.length ∧ x = .int .i64 i ∧ c = .int .i64 (mnK L t k i) ∧ wx = wr) (fun x _ _ => R.length - (intOf x).toNat)
          case atStart => exact ⟨0, by omega, rfl, by rw [E0.out], rfl⟩
          case round =>
            obtain ⟨i, hi, rfl, rfl, rfl⟩ := hrel
            by_cases hit : i < R.length
            · have ci := rL.cell i (by rw [HLl.out]; exact hit)
              have xi := hxo (i : Int) i rfl (by rw [HLl.out]; exact hit)
              have E2 := Lib.hid (mnK_step (t := (t : Int)) (x := k) (show i < L.length by rw [HLl.out]; exact hit))
              have hbd := mnK_bd L t k i
              rw [HLl.out] at hbd
              have hbd2 : mnK L t k i ≤ 2000 := by
                have h1 : (k : Int) * (R.length : Int) ≤ 32 * 32 := by
                  have : k * R.length ≤ 32 * 32 := Nat.mul_le_mul (by omega) (by omega)
                  exact_mod_cast this
                omega
              have hbd1 := hbd.1
              clear hbd
              generalize nth L i = y at *
              generalize mnK L t k i = c at *
              have wc : IntKind.i64.wrap (c + 1) = c + 1 := IntWalk.i64_in _ (by omega)
              by_cases hy : y = k
              · have g1 : (y == (k : Int)) = true := eq_t hy
                by_cases hkt2 : (k : Int) = t
                · have g2 : ((k : Int) != (t : Int)) = false := ne_f hkt2
                  rw [if_neg (fun h => h.2 hkt2)] at E2
                  clear hkt2 hy
                  go_wp2_with fail
                  go_roundw
                  case rel => exact ⟨i + 1, by omega, by go_num, by rw [E2.out]; simp, by first | trivial | rfl⟩
                  case measure => simp [intOf]; omega
                · have g2 : ((k : Int) != (t : Int)) = true := ne_t hkt2
                  rw [if_pos ⟨hy, hkt2⟩] at E2
                  clear hkt2 hy
                  go_wp2_with fail
                  go_roundw
                  case rel => exact ⟨i + 1, by omega, by go_num, by rw [E2.out], by first | trivial | rfl⟩
                  case measure => simp [intOf]; omega
              · have g1 : (y == (k : Int)) = false := eq_f hy
                rw [if_neg (fun h => hy h.1)] at E2
                clear hy
                go_wp2_with fail
                go_roundw
                case rel => exact ⟨i + 1, by omega, by go_num, by rw [E2.out]; simp, by first | trivial | rfl⟩
                case measure => simp [intOf]; omega
            · obtain rfl : i = R.length := by omega
              go_wp2_with fail
              go_roundw
              case rel => exact ⟨k + 1, by omega, by go_num, by rw [E1.out], by first | trivial | rfl⟩
              case measure => simp [intOf]; omega
        · obtain rfl : k = m := by omega
          rw [hmn.out]
          clear rL hlo hxo hleo hln
          by_cases hl : R.flatten.length ≤ 128
          case neg =>
            have hm16 : ¬ ((k : Int) ≤ 16) := fun h => hl (by have := HF.out (by omega); omega)
            have hm17 : 16 < (k : Int) := by omega
            have KD := Lib.hid (DesignOfSchedule_no k v vs uss R wr rv hul.out HV.out hfl.out (by omega))
            have f1 : ((k : Int) - 1 != (k : Int) - 1) = false := ne_f rfl
            clear hl
            go_wp2_with fail
            refine KD.out.mono ?_
            clear KD
            rintro e w5 ⟨rfl, h5⟩
            have hn := (newD4 w5 0 (.slice none 0 0)).1
            have hT := ((hT.call0 h5).call0 hn).out
            clear h5 hn
            go_wp2_with fail
            go_ret
            exact ⟨rfl, hT⟩
          case pos =>
            have KD := Lib.hid (DesignOfSchedule_c k v vs uss R wr rv hul.out HV.out hl (by omega))
            have f1 : ((k : Int) - 1 != (k : Int) - 1) = false := ne_f rfl
            have Hok := Lib.hid (HV.out.dok hl)
            have HP := Lib.hid HV.out.prm
            have HR := Lib.hid (fun he => HR.out he hl)
            clear hl
            go_wp2_with fail
            refine KD.out.mono ?_
            clear KD
            generalize clsL (dsL R) R = X at *
            generalize dsL R = D at *
            rintro e w5 ⟨vd, ud, vc, uc, rfl, hld, hlc, h5⟩
            have rD := (h5.sub (List.sublist_append_left _ _)).rii hld
            have rX := (h5.sub (List.sublist_append_right _ _)).rii hlc
            obtain ⟨ad, cd, hvd⟩ := rD.1.sl.sh
            rw [hld] at hvd
            subst hvd
            have hT := (hT.call0 h5.out).out
            obtain ⟨hn, bd⟩ := newD4 w5 k (.slice ad D.length cd)
            have hT := (hT.call0 hn).out
            have rD := rD.keep hn.below
            have rX := rX.keep hn.below
            obtain ⟨hpb, B, r, hpv⟩ := HP.out
            have KP := Lib.hid (ParametersOf_c k (.slice ad D.length cd) ud D _ rD Hok.out)
            rw [hpv, show prmC k D = 0 by rw [prmC, if_pos hpb]] at KP
            have b0 := bd.1
            have b1 := bd.2
            clear h5 hn hpb hpv hld hlc
            rcases (show (k : Int) ≤ 16 ∨ 16 < (k : Int) by omega) with h16 | h16
            all_goals
              unfold dv at KP ⊢
              go_wp2_with fail
              refine KP.out.mono ?_
              clear KP b0 b1
              unfold MakesPC pmV
              simp only [nth, List.getD_cons_zero, List.getD_cons_succ]
              rintro e w6 ⟨rfl, h6⟩
              have hT := (hT.call0 h6).out
              have rD := rD.keep h6.below
              have rX := rX.keep h6.below
              have bd := bd.keep h6.below
              obtain ⟨W, hW, hn, p0, p3, p4⟩ := newP4 w6 k B r 2 1
              have hT := (hT.call0 hn).out
              have rD := rD.keep hn.below
              have rX := rX.keep hn.below
              have bd := bd.keep hn.below
              have b0 := bd.1
              have b1 := bd.2
              clear h6 hn
              rw [hW] at *
              clear hW
              have f2 : ((k : Int) != (k : Int)) = false := ne_f rfl
              have q0 : (k : Int).tmod 2 = ((k % 2 : Nat) : Int) := by rw [Int.tmod_eq_emod_of_nonneg (by omega)]; rfl
              by_cases he : k % 2 = 0
              · have KR := Lib.hid (ValidResolution_c k (.slice ad D.length cd) vc ud uc D X R _ (HR.out he) rD rX)
                rw [he] at q0
                have q1 : (k : Int) % 2 = 0 := by omega
                have q2 : ¬ ((k : Int) % 2 = 1) := by omega
                unfold dv at KR
                go_wp2_with (go_at_call 14; refine KR.out.mono ?_; rintro e2 w7 ⟨rfl, h7⟩; have hT := (hT.call0 h7).out)
                go_ret
                exact ⟨rfl, hT⟩
              · have he1 : k % 2 = 1 := by omega
                rw [he1] at q0
                have q1 : (k : Int) % 2 = 1 := by omega
                go_wp2_with fail
                go_ret
                exact ⟨rfl, hT⟩
end Go.Proofs.Ytgflhgkcmfjkgaa
end

section
/- How arguments that come in read. How bytes that come in read. -/
namespace Go.Proofs.Ytgflhgkcmfjkgaa
set_option linter.unusedSimpArgs false
set_option linter.unusedVariables false
open Go.RowKit


/-- what came in as a slice of integers: nothing, or a row of numbers that fit -/
def IsRow (k : IntKind) (w : World) (a : Option Addr) (len cap : Nat) (zs : List Int) : Prop :=
  (a = none ∧ len = 0 ∧ cap = 0 ∧ zs = []) ∨
  ∃ x, a = some x ∧ len ≤ cap ∧ cap ≤ maxLen ∧ zs.length = cap ∧ (∀ i, i < zs.length → w.cell? (x.add i) = some (.int k (zs.getD i 0))) ∧ ∀ n ∈ zs, (Lit.int k n).wf = true

theorem IsRow.rd {k : IntKind} {w : World} {a : Option Addr} {len cap : Nat} {zs : List Int} (h : IsRow k w a len cap zs) : Rd w (.slice a len cap) ((zs.take len).map (Value.int k)) := by
  rcases h with ⟨rfl, rfl, rfl, rfl⟩ | ⟨x, rfl, h1, h2, h3, h4, h5⟩
  · exact Rd.nil w
  · have hl : ((zs.take len).map (Value.int k)).length = len := by simp; omega
    refine ⟨⟨some x, cap, by rw [hl], by omega, h2, .inr (by simp)⟩, ?_⟩
    intro i u hu
    have hi : i < len := by have := (List.getElem?_eq_some_iff.1 hu).1; omega
    have := h4 i (by omega)
    simp only [List.getElem?_map, List.getElem?_take, hi, if_true] at hu
    rw [List.getElem?_eq_getElem (by omega)] at hu
    simp at hu
    simp only [el]
    rw [this, ← hu]
    simp [List.getD, List.getElem?_eq_getElem (show i < zs.length by omega)]


theorem IsRow.rdB {w : World} {a : Option Addr} {len cap : Nat} {zs : List Int} (h : IsRow .u8 w a len cap zs) : ∃ bs, RdB w (.slice a len cap) bs := by
  refine ⟨(zs.take len).map fun n => UInt8.ofNat n.toNat, ?_⟩
  have h1 := h.rd
  have hw : ∀ n ∈ zs, 0 ≤ n ∧ n ≤ 255 := by
    rcases h with ⟨_, _, _, rfl⟩ | ⟨_, _, _, _, _, _, h5⟩
    · simp
    · intro n hn; have := h5 n hn; simpa [Lit.wf, IntKind.min, IntKind.max, IntKind.signed, IntKind.bits] using this
  unfold RdB bv
  rw [List.map_map]
  rw [List.map_congr_left (g := Value.int .u8)]
  · exact h1
  · intro n hn
    have := hw n (List.mem_of_mem_take hn)
    simp only [Function.comp]
    congr 1
    rw [UInt8.toNat_ofNat']
    omega

end Go.Proofs.Ytgflhgkcmfjkgaa
end

section
/- FnRoundRobin holds: for every input the call returns true and leaves its arguments as they are. No condition. -/
namespace Go.Proofs.Ytgflhgkcmfjkgaa.fnRoundRobin
set_option linter.unusedSimpArgs false
set_option linter.unusedVariables false
open Go.ChangeShapes Go.WideShapes Go.ChangeAt Go.RowKit
set_option linter.unusedVariables false

theorem own : ownKnob Try.prog.godebug = none := by kernel_rfl
theorem laidOut : laidOutB Try.prog = true := by kernel_rfl

set_option maxRecDepth 100000 in
theorem lifted (os : Os) (started : os.Started) (H : Type) (enc : TypeId × Value → H) :
    ReturnsInHanded {} Try.checked os 3 .any (Rows.fnRoundRobinSpec.pre6 enc Try.prog Try.f3 Rows.fnRoundRobinRow.domain false) (Rows.fnRoundRobinSpec.post enc Try.prog Try.f3 false true false false) := by
  refine returnsInHanded_of_change (C := Try.checked) own started (by kernel_rfl) Try.func3
    (ChangeSpec.witness6 (enc := enc) (C := Try.checked) false ⟨#[], #[.slice none 0 0, .slice none 0 0], []⟩ 8 (by kernel_rfl) (by kernel_rfl) (by kernel_rfl) (by kernel_rfl)) ?_
  intro W base args ds gs before hval0 hW hcnd _
  have hval : ∀ (j : Nat) t v, Try.f3.params[j]? = some t → args[j]? = some v → Value.okWide Try.prog W .any base t v := hval0
  have hW' := hW
  obtain ⟨p, q, hA0, hV, rfl, hfz, hnd⟩ := hW
  have hA : DataW.TrodAll enc Try.prog W 0 (fun _ => true) true Try.f3.params.toList args.toList ds p := hA0
  rw [Try.params3] at hA hval
  obtain ⟨v0, vs0, d0, ds0, p0, q0, hargs, rfl, rfl, h0, r0⟩ := trodAll_cons hA
  obtain ⟨v1, vs1, d1, ds1, p1, q1, rfl, rfl, rfl, h1, r1⟩ := trodAll_cons r0
  obtain ⟨rfl, rfl, rfl⟩ := trodAll_nil r1
  obtain rfl : args = #[v0, v1] := by cases args; simp_all
  obtain ⟨rfl, rfl⟩ := trodVars_none hV
  obtain ⟨a0, len0, cap0, rfl⟩ := okWide_slice Try.underlying22 (hval 0 22 v0 rfl rfl)
  have k0 := h0
  have lt0 : ∀ x ∈ p0, x.block < W.heap.size := by obtain ⟨m, hm⟩ := k0; exact DataW.trod_lt m _ _ _ hm
  obtain ⟨bs0, rd0⟩ : ∃ bs, RdB W (.slice a0 len0 cap0) bs := by
    obtain ⟨fuel, hf⟩ := h0
    rcases open_ints Try.underlying22 Try.underlying5 (by kernel_rfl) hf with ⟨hcs, _⟩ | ⟨x, l, c, zs, hcs, _, hl, hm, hz, _, hcell, hwz⟩
    · simp [Value.cells] at hcs
      obtain ⟨rfl, rfl, rfl⟩ := hcs
      exact IsRow.rdB (zs := []) (.inl ⟨rfl, rfl, rfl, rfl⟩)
    · simp [Value.cells] at hcs
      obtain ⟨rfl, rfl, rfl⟩ := hcs
      exact IsRow.rdB (zs := zs) (.inr ⟨_, rfl, hl, hm, by simpa using hz, hcell, hwz⟩)
  obtain ⟨a1, len1, cap1, rfl⟩ := okWide_slice Try.underlying22 (hval 1 22 v1 rfl rfl)
  have k1 := h1
  have lt1 : ∀ x ∈ p1, x.block < W.heap.size := by obtain ⟨m, hm⟩ := k1; exact DataW.trod_lt m _ _ _ hm
  obtain ⟨bs1, rd1⟩ : ∃ bs, RdB W (.slice a1 len1 cap1) bs := by
    obtain ⟨fuel, hf⟩ := h1
    rcases open_ints Try.underlying22 Try.underlying5 (by kernel_rfl) hf with ⟨hcs, _⟩ | ⟨x, l, c, zs, hcs, _, hl, hm, hz, _, hcell, hwz⟩
    · simp [Value.cells] at hcs
      obtain ⟨rfl, rfl, rfl⟩ := hcs
      exact IsRow.rdB (zs := []) (.inl ⟨rfl, rfl, rfl, rfl⟩)
    · simp [Value.cells] at hcs
      obtain ⟨rfl, rfl, rfl⟩ := hcs
      exact IsRow.rdB (zs := zs) (.inr ⟨_, rfl, hl, hm, by simpa using hz, hcell, hwz⟩)
  clear hA0 hval0
  refine (FnRoundRobin_law W _ bs0 _ bs1 rd0 rd1).mono fun e W' ⟨he, hst⟩ => ?_
  have bel := hst.below
  subst he
  exact ⟨_, rfl, _, _, _, [], _, [], hW', trodAll_mk1 (shut_bool Try.underlying4 _), (trodAll_cons_mk (Below.trod laidOut (by kernel_rfl) (of_decide_eq_true (by kernel_rfl)) k0 bel lt0) (trodAll_cons_mk (Below.trod laidOut (by kernel_rfl) (of_decide_eq_true (by kernel_rfl)) k1 bel lt1) trodAll_mk0)), rfl, bel.frame _, fun h => by cases h⟩

theorem over : Rows.fnRoundRobinRow.holds Try.pinned (OpenSpec.ofChange Rows.fnRoundRobinSpec) :=
  OpenClaim.holds_of_wide 3 Try.f3 rfl rfl rfl rfl rfl rfl rfl ⟨rfl, rfl, rfl, rfl, rfl⟩ rfl rfl rfl rfl rfl (by kernel_rfl) Try.func3 (by kernel_rfl)
    (of_decide_eq_true (by kernel_rfl)) (by unfold Func.isWrapper; first | (rw [if_pos (by decide +kernel)]; kernel_rfl) | (rw [if_neg (by decide +kernel)]; exact ⟨rfl, rfl⟩))
    (fun os started H enc _ => lifted os started H enc)

theorem proved : Rows.FnRoundRobinSaid := over
#print axioms proved
end Go.Proofs.Ytgflhgkcmfjkgaa.fnRoundRobin
end
