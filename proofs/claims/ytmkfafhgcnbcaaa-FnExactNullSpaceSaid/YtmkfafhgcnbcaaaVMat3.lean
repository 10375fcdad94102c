/- Walks: valid matrices of the reference. -/
import Derived.Test.YtmkfafhgcnbcaaaVMat2
namespace Go.Proofs.Ytmkfafhgcnbcaaa
set_option linter.unusedSimpArgs false
set_option linter.unusedVariables false
open Go.RowKit
attribute [local go_sem ↓] Go.wp_at_zero Go.wp_at_succ

theorem anyR_no {f : List Int → Bool} {xss : List (List Int)} (h : ∀ j, j < xss.length → f (xat xss j) = false) : anyR f xss = false := by
  simp only [anyR, List.any_eq_false, Bool.not_eq_true]
  intro x hx
  obtain ⟨j, hj, rfl⟩ := List.getElem_of_mem hx
  have := h j hj
  rwa [xat_eq hj] at this
theorem anyR_yes {f : List Int → Bool} {xss : List (List Int)} {j : Nat} (hj : j < xss.length) (h : f (xat xss j) = true) : anyR f xss = true :=
  List.any_eq_true.2 ⟨_, xat_mem hj, h⟩

set_option maxHeartbeats 8000000 in
set_option maxRecDepth 100000 in
theorem l17Ok_c (p d : Int) (g : Nat) (v : Value) (xs : List Int) (vm : Value) (us : List Value) (xss : List (List Int)) (w : World) (hv : RdI w v xs) (hb : BoxF w g p d v) (hm : RII w vm us xss) :
    Calls Try.prog 64 #[.pointer (some ⟨g, 0, none⟩), vm] w (GivesB w (matOk p d xs xss)) := by
  have HV := Lib.hid (l03Ok_c p d g v xs w hv hb)
  have hln := hm.len
  have hmle := hm.le
  cases h1 : fOk p d xs
  · have H := Lib.hid (matOk_no1 (xss := xss) h1)
    have H1 := Lib.hid h1; clear h1
    go_enter Try.func64, Try.ntmps64
    go_wp2_with fail
    refine HV.out.mono ?_
    rw [H1.out]
    rintro e w1 ⟨rfl, h1⟩
    go_wp2_with fail
    go_ret
    exact ⟨ret_bool H.out.symm, h1⟩
  · have H1 := Lib.hid h1; clear h1
    by_cases hz : xss.length = 0
    · have f0 : ((xss.length : Int) == 0) = true := eq_t (by omega)
      have H := Lib.hid (matOk_no2 (p := p) (d := d) (xs := xs) (xss := xss) (inB_false (by omega)))
      clear hz
      go_enter Try.func64, Try.ntmps64
      go_wp2_with fail
      refine HV.out.mono ?_
      rw [H1.out]
      rintro e w1 ⟨rfl, h1⟩
      go_wp2_with fail
      go_ret
      exact ⟨ret_bool H.out.symm, h1⟩
    · have f0 : ((xss.length : Int) == 0) = false := eq_f (by omega)
      by_cases hg : 32 < xss.length
      · have H := Lib.hid (matOk_no2 (p := p) (d := d) (xs := xs) (xss := xss) (inB_false (by omega)))
        go_enter Try.func64, Try.ntmps64
        go_wp2_with fail
        refine HV.out.mono ?_
        rw [H1.out]
        rintro e w1 ⟨rfl, h1⟩
        go_wp2_with fail
        go_ret
        exact ⟨ret_bool H.out.symm, h1⟩
      · have hr1 : 1 ≤ xss.length := by omega
        have hx0 := hm.ixe 0 0 rfl hr1
        have hc0 := hm.cell 0 hr1
        have hr0 := hm.row 0 hr1
        have hl0 := hr0.len
        have H2 := Lib.hid (inB_true (n := (xss.length : Int)) (a := 1) (b := 32) (by omega))
        clear hz
        go_enter Try.func64, Try.ntmps64
        go_wp2_with fail
        refine HV.out.mono ?_
        rw [H1.out]
        rintro e w1 ⟨rfl, h1⟩
        have hS1 := h1
        have hc0 := (hS1.oldII hm).cell 0 hr1
        by_cases hz0 : (xat xss 0).length = 0
        · have f1 : (((xat xss 0).length : Int) == 0) = true := eq_t (by omega)
          have H := Lib.hid (matOk_no3 (p := p) (d := d) (xs := xs) (xss := xss) (inB_false (by omega)))
          clear hz0
          go_wp2_with fail
          go_ret
          exact ⟨ret_bool H.out.symm, hS1⟩
        · have f1 : (((xat xss 0).length : Int) == 0) = false := eq_f (by omega)
          by_cases hg0 : 32 < (xat xss 0).length
          · have H := Lib.hid (matOk_no3 (p := p) (d := d) (xs := xs) (xss := xss) (inB_false (by omega)))
            go_wp2_with fail
            go_ret
            exact ⟨ret_bool H.out.symm, hS1⟩
          · have H3 := Lib.hid (inB_true (n := ((xat xss 0).length : Int)) (a := 1) (b := 32) (by omega))
            have H := Lib.hid (matOk_yes H1.out H2.out H3.out)
            have hf := fOk_t H1.out
            have Hvec : ∀ (W : World) (vv : Value) (ys : List Int), BoxF W g p d v → RdI W vv ys → Hid (Calls Try.prog 81 #[.pointer (some ⟨g, 0, none⟩), vv] W (GivesB W (vecOk (p ^ d.toNat) ys))) := fun W vv ys hb hv => l17Vector_c p d g v xs vv ys W hb hf hv
            clear hz0 hf
            generalize p ^ d.toNat = q at H Hvec
            generalize hn0 : (xat xss 0).length = n0 at H hl0 f1 hg0
            have Hn0 := Lib.hid hn0
            clear hn0 HV
            go_wp2_with fail
            clear f0 f1
            go_loopw [5] (fun i wr => ∃ k : Nat, k ≤ xss.length ∧ i = .int .i64 k ∧ Hid (∀ j : Nat, j < k → rowBad q n0 (xat xss j) = false) ∧ St w.heap.size w wr []) (fun i _ => xss.length - (intOf i).toNat)
            case atStart => exact ⟨0, by omega, rfl, fun j h => by omega, hS1⟩
            case round =>
              obtain ⟨k, hk, rfl, hI, hS⟩ := hrel
              by_cases hlt : k < xss.length
              · have hck := fun s : SS w.heap.size w [] => (s.st.oldII hm).cell k hlt
                have hc00 := fun s : SS w.heap.size w [] => (s.st.oldII hm).cell 0 hr1
                have hxk := hm.ixe (k : Int) k rfl hlt
                have hlk := (hm.row k hlt).len
                clear hc0
                by_cases hl : (xat xss k).length = n0
                · have fl : (((xat xss k).length : Int) != (n0 : Int)) = false := ne_f (by omega)
                  have Hl := Lib.hid (show decide ((xat xss k).length ≠ n0) = false by simp [hl])
                  clear hl
                  cases hvk : vecOk q (xat xss k)
                  · have Hvk := Lib.hid hvk
                    go_wp2_with fail
                    have hne : Nonempty (SS _ _ _) := ⟨⟨_, hS⟩⟩
                    refine wp_region_st (by kernel_rfl) (by kernel_rfl) hS ?_
                    repeat (go_big_quiet_step ((go_at_call 81; exact st_quiet (Hvec _ _ _ ((SS.st _).oldF hb) (((SS.st _).oldII hm).row k hlt)).out)))
                    refine wpQuiet_nil ?_
                    rintro _ ⟨s2, rfl⟩
                    have hS5 := s2.st
                    generalize s2.w = w5 at hS5 ⊢
                    rw [hvk]
                    clear hvk
                    go_wp2_with fail
                    go_ret
                    exact ⟨ret_bool (by rw [H.out, anyR_yes hlt (by rw [rowBad, Hl.out, Hvk.out]; rfl)]; rfl), hS5⟩
                  · have Hvk := Lib.hid hvk
                    go_wp2_with fail
                    have hne : Nonempty (SS _ _ _) := ⟨⟨_, hS⟩⟩
                    refine wp_region_st (by kernel_rfl) (by kernel_rfl) hS ?_
                    repeat (go_big_quiet_step ((go_at_call 81; exact st_quiet (Hvec _ _ _ ((SS.st _).oldF hb) (((SS.st _).oldII hm).row k hlt)).out)))
                    refine wpQuiet_nil ?_
                    rintro _ ⟨s2, rfl⟩
                    have hS5 := s2.st
                    generalize s2.w = w5 at hS5 ⊢
                    rw [hvk]
                    clear hvk
                    go_wp2_with fail
                    go_roundw
                    case rel => exact ⟨k + 1, by omega, by go_num, fun j hj => by
                      by_cases e : j = k
                      · subst e; rw [rowBad, Hl.out, Hvk.out]; rfl
                      · exact hI.out j (by omega), hS5⟩
                    case measure => simp [intOf]; omega
                · have fl : (((xat xss k).length : Int) != (n0 : Int)) = true := ne_t (by omega)
                  have Hl := Lib.hid (show decide ((xat xss k).length ≠ n0) = true by simp [hl])
                  clear hl
                  go_wp2_with fail
                  have hne : Nonempty (SS _ _ _) := ⟨⟨_, hS⟩⟩
                  refine wp_region_st (by kernel_rfl) (by kernel_rfl) hS ?_
                  repeat (go_big_quiet_step (fail))
                  refine wpQuiet_nil ?_
                  rintro _ ⟨s2, rfl⟩
                  have hS5 := s2.st
                  generalize s2.w = w5 at hS5 ⊢
                  go_wp2_with fail
                  go_ret
                  exact ⟨ret_bool (by rw [H.out, anyR_yes hlt (by rw [rowBad, Hl.out]; rfl)]; rfl), hS5⟩
              · go_wp2_with fail
                go_ret
                exact ⟨ret_bool (by rw [H.out, anyR_no fun j hj => hI.out j (by omega)]; rfl), hS⟩

theorem sValidMatrix_c (p d : Int) (v : Value) (xs : List Int) (vm : Value) (us : List Value) (xss : List (List Int)) (w : World) (hv : RdI w v xs) (hm : RII w vm us xss) :
    Calls Try.prog 18 #[fv p d v, vm] w (GivesB w (matOk p d xs xss)) := by
  have hS0 := (St.refl w).newboxF 29 #[.int .i64 p, .int .i64 d, v]
  have hcall := Lib.hid (l17Ok_c p d w.heap.size v xs vm us xss _ (hS0.oldI hv) ⟨hS0.bcell 0 rfl 0 rfl, hS0.bcell 0 rfl 1 rfl, hS0.bcell 0 rfl 2 rfl⟩ (hS0.oldII hm))
  unfold fv
  go_enter Try.func18, Try.ntmps18
  go_wp2_with fail
  refine hcall.out.mono ?_
  rintro e w1 ⟨rfl, h1⟩
  have hS1 := hS0.call0 h1
  go_wp2_with fail
  go_ret
  exact ⟨rfl, hS1.out⟩
end Go.Proofs.Ytmkfafhgcnbcaaa
