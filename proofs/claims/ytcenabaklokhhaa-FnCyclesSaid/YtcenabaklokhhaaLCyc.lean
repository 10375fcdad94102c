/- The law FnCycles. -/
import Derived.Test.YtcenabaklokhhaaPm8
import Derived.Test.YtcenabaklokhhaaAt
namespace Go.Proofs.Ytcenabaklokhhaa
set_option linter.unusedSimpArgs false
set_option linter.unusedVariables false
open Go.RowKit
attribute [local go_sem ↓] Go.wp_at_zero Go.wp_at_succ

theorem perm_sum {a b : List Int} (h : a.Perm b) : a.sum = b.sum := by
  induction h with
  | nil => rfl
  | cons x _ ih => simp [ih]
  | swap x y l => simp; omega
  | trans _ _ h1 h2 => exact h1.trans h2
theorem lnL_sum (C : List (List Int)) : (lnL C).sum = C.flatten.length := by
  induction C with
  | nil => rfl
  | cons a r ih =>
    have e : lnL (a :: r) = (a.length : Int) :: lnL r := rfl
    rw [e, List.sum_cons, ih, List.flatten_cons, List.length_append]; omega
theorem sum_take_le : ∀ (ys : List Int) (i : Nat), (∀ x ∈ ys, 0 ≤ x) → 0 ≤ (ys.take i).sum ∧ (ys.take i).sum ≤ ys.sum
  | [], i, _ => by simp
  | a :: r, 0, h => by
    have := sum_take_le r r.length (fun x hx => h x (by simp [hx]))
    have h0 := h a (by simp)
    rw [List.take_length] at this
    simp; omega
  | a :: r, i + 1, h => by
    have := sum_take_le r i (fun x hx => h x (by simp [hx]))
    have h0 := h a (by simp)
    simp; omega
theorem sum_take_succ {ys : List Int} {i : Nat} (h : i < ys.length) : (ys.take (i + 1)).sum = (ys.take i).sum + nth ys i := by
  rw [List.take_succ_eq_append_getElem h, List.sum_append, nth_eq h]; simp
set_option maxHeartbeats 8000000 in
set_option maxRecDepth 100000 in
theorem FnCycles_law (w : World) (cv : Value) (bs : List UInt8) (cm : Value) (ms : List UInt8) (hb : RdB w cv bs) (hm : RdB w cm ms) :
    Calls Try.prog 13 #[cv, cm] w (GivesB w true) := by
  by_cases hlong : 1048576 < bs.length ∨ 1048576 < ms.length
  · by_cases h1 : 1048576 < bs.length
    · have hl' : decide (1048576 < bs.length) = true := by simpa using h1
      go_enter Try.func13, Try.ntmps13
      go_wp2_with fail
      refine (b10Long_c w cv bs hb).mono ?_
      rw [hl']
      rintro e w1 ⟨rfl, rfl⟩
      go_wp2_with fail
      go_ret
      exact ⟨rfl, St.refl _⟩
    · have hl' : decide (1048576 < bs.length) = false := by simpa using h1
      have hl2 : decide (1048576 < ms.length) = true := by simp; omega
      go_enter Try.func13, Try.ntmps13
      go_wp2_with fail
      refine (b10Long_c w cv bs hb).mono ?_
      rw [hl']
      rintro e w1 ⟨rfl, rfl⟩
      go_wp2_with (go_at_call 41; refine (b10Long_c w cm ms hm).mono ?_; rw [hl2]; rintro e w1 ⟨rfl, rfl⟩)
      go_ret
      exact ⟨rfl, St.refl _⟩
  · have hl' : decide (1048576 < bs.length) = false := by simp; omega
    have hl2 : decide (1048576 < ms.length) = false := by simp; omega
    go_enter Try.func13, Try.ntmps13
    go_wp2_with fail
    refine (b10Long_c w cv bs hb).mono ?_
    rw [hl']
    rintro e w1 ⟨rfl, rfl⟩
    go_wp2_with (go_at_call 41; refine (b10Long_c w cm ms hm).mono ?_; rw [hl2]; rintro e w1 ⟨rfl, rfl⟩)
    refine (DrawCyclesOf_c w cv bs hb).mono ?_
    rintro e w1 ⟨v, xs, rfl, hlx, h1⟩
    have rx := h1.rdI 0 rfl
    have hT0 := St.refl w1
    have hend := fun w' (L : List Ent) (h : St w1.heap.size w1 w' L) => Lib.hid (h1.out.call0 h.out)
    have rm := hm.keep h1.below
    have KX := fun W hv => Lib.hid (sValidPermutation_c v xs W hv)
    have KC := fun W hv => Lib.hid (CyclesOf_c v xs W hv (by omega))
    have hxl := rx.len
    clear h1
    cases hp : pvB xs
    · have KO := fun W hv => Lib.hid (OrderOf_no v xs W hv (by omega) hp)
      have KS := fun W hv => Lib.hid (SignOf_no v xs W hv (by omega) hp)
      have hV : cyV xs = [] := by unfold cyV; rw [hp]; rfl
      rw [hV] at KC
      rw [hp] at KX
      clear hp hV
      go_wp2_with fail
      refine (KX _ rx).out.mono ?_
      rintro e w2 ⟨rfl, h2⟩
      have hT2 := hT0.call0 h2
      go_wp2_with (go_at_call 84; refine (KC _ (hT2.oldI rx)).out.mono ?_; rintro e w3 ⟨u, us, rfl, hl, h3⟩; have hln := (h3.rii hl).len; have hT3 := hT2.call0 h3.out; clear h3)
      go_wp2_with (go_at_call 85; refine (KO _ (hT3.oldI rx)).out.mono ?_; rintro e w4 ⟨rfl, h4⟩; have hT4 := hT3.call0 h4)
      go_wp2_with (go_at_call 70; refine (KS _ (hT4.oldI rx)).out.mono ?_; rintro e w5 ⟨rfl, h5⟩; have hT5 := hT4.call0 h5)
      go_ret
      exact ⟨rfl, (hend _ _ hT5).out⟩
    · have Hp := Lib.hid hp
      have hpp := pvB_t hp
      have h32 := hpp.1
      have HP := Lib.hid hpp.2
      have hV : cyV xs = cyM xs xs.length := by unfold cyV; rw [hp]; rfl
      rw [hV] at KC
      rw [hp] at KX
      have HO := Lib.hid (cyOk hpp.2)
      have hcl := cyM_len xs xs.length
      have KT := fun W hv => Lib.hid (CycleType_c v xs W hv Hp.out)
      have KO := fun W hv => Lib.hid (OrderOf_c v xs W hv Hp.out)
      have KS := fun W hv => Lib.hid (SignOf_c v xs W hv Hp.out)
      have KW := fun W hv e a b => Lib.hid (PowerPermutation_c v xs e W hv Hp.out a b)
      have KI := fun W => Lib.hid (IdentityPermutation_c xs.length W h32)
      have HS := Lib.hid (sgL_eq xs)
      clear hp hpp hV
      unfold OrdV at KO
      generalize cyM xs xs.length = C at *
      have KB := fun W u us (hu : RII W u us C) => Lib.hid (PermutationOfCycles_c u us xs C W hu h32 HP.out HO.out)
      have HE := fun (E : Nat) (h : AllDv C E) => Lib.hid (powL_one HO.out HP.out h)
      generalize sgL xs = S at *
      go_wp2_with fail
      refine (KX _ rx).out.mono ?_
      rintro e w2 ⟨rfl, h2⟩
      have hT2 := hT0.call0 h2
      go_wp2_with fail
      refine (KC _ (hT2.oldI rx)).out.mono ?_
      rintro e w3 ⟨u, us, rfl, hl, h3⟩
      have hT3 := hT2.trans h3
      have hru := h3.rii hl
      have hlu := hru.len
      have Hl := Lib.hid hl
      clear h3 hT2 h2 hl
      go_wp2_with fail
      refine (KB _ u us hru).out.mono ?_
      rintro e w4 ⟨z, rfl, h4⟩
      have hT4 := hT3.out.call h4
      simp only [List.nil_append] at hT4
      clear hT3 h4 hru
      go_wp2_with fail
      refine (KT _ (hT4.oldI rx)).out.mono ?_
      rintro e w5 ⟨kz, ys, rfl, hpm, h5⟩
      have hT5 := hT4.call h5
      simp only [List.cons_append, List.nil_append] at hT5
      have hyl : ys.length = C.length := by rw [hpm.length_eq, lnL_len]
      have hys : ys.sum = xs.length := by rw [perm_sum hpm, lnL_sum, HO.out.sum]
      have hy0 : ∀ x ∈ ys, 0 ≤ x := fun x hx => by
        obtain ⟨c, _, rfl⟩ := List.mem_map.1 (hpm.mem_iff.1 hx)
        omega
      have HT := fun i => Lib.hid (sum_take_le ys i hy0)
      have hky := (hT5.rdI 1 rfl).len
      have hkx := (hT5.rdI 1 rfl).ix
      have HY := Lib.hid hyl
      have HYs := Lib.hid hys
      have hyl32 : ys.length ≤ 32 := by omega
      clear hT4 h5 hpm hy0
      go_wp2_with fail
      go_loopw [11, 12] (fun s i wr => ∃ k : Nat, k ≤ ys.length ∧ s = .int .i64 (ys.take k).sum ∧ i = .int .i64 k ∧ wr = w5) (fun _ i _ => ys.length - (intOf i).toNat)
      case atStart => exact ⟨0, by omega, by simp, rfl, by trivial⟩
      case round =>
        obtain ⟨k, hk, rfl, rfl, rfl⟩ := hrel
        by_cases hlt : k < ys.length
        · have hck := (hT5.rdI 1 rfl).cell k hlt
          have hs1 := (HT k).out
          have hs2 := (HT (k + 1)).out
          have he := Lib.hid (sum_take_succ hlt)
          rw [he.out, HYs.out] at hs2
          rw [HYs.out] at hs1
          obtain ⟨a1, a2⟩ := hs1
          obtain ⟨b1, b2⟩ := hs2
          go_wp2_with fail
          go_roundw
          case rel => exact ⟨k + 1, by omega, by rw [he.out], by go_num, by trivial⟩
          case measure => simp [intOf]; omega
        · obtain rfl : k = ys.length := by omega
          rw [List.take_length]
          rw [HYs.out]
          have hyC : (ys.length : Int) = (C.length : Int) := by omega
          go_wp2_with fail
          refine (KO _ (hT5.oldI rx)).out.mono ?_
          rintro e w6 ⟨E, rfl, hE1, hE2, hED, h6⟩
          have hT6 := hT5.call0 h6
          have HE2 := HE E hED
          clear h6 HE hT5 hED
          have K7 := fun W (a : RdI W z xs) (b : RdI W v xs) => Lib.hid (b10Nums_c z v xs xs W a b)
          rw [show decide (xs = xs) = true from decide_eq_true rfl] at K7
          have hE1i : (1 : Int) ≤ (E : Int) := by omega
          have hE2i : (E : Int) ≤ 200000 := by omega
          have K9 := fun W hv => Lib.hid ((KW W hv (E : Int) (by omega) (by omega)).out)
          rw [HE2.1] at K9
          have HE3 := Lib.hid HE2.2
          clear HE2
          go_wp2_with (go_at_call 68; refine (K7 _ (hT6.rdI 0 rfl) (hT6.oldI rx)).out.mono ?_; rintro e w7 ⟨rfl, h7⟩; have hT7 := hT6.call0 h7; clear h7)
          refine (KI _).out.mono ?_
          rintro e w8 ⟨wt, rfl, h8⟩
          have hT8 := hT7.call h8
          simp only [List.cons_append, List.nil_append] at hT8
          clear hT7 h8
          go_wp2_with fail
          refine (K9 _ (hT8.oldI rx)).out.mono ?_
          rintro e w9 ⟨id', rfl, h9⟩
          have hT9 := hT8.call h9
          simp only [List.cons_append, List.nil_append] at hT9
          clear hT8 h9 K9
          go_wp2_with fail
          refine (b10At_c _ cm ms 0 200 (hT9.oldB rm) (by omega) (by omega) (by omega)).mono ?_
          rintro e w9' ⟨x, rfl, x0, x1, rfl⟩
          have x2 : x < 200 := by omega
          clear x1
          have K10 := fun W hv => Lib.hid ((KW W hv (x - 100) (by omega) (by omega)).out)
          have K11 := fun W hv => Lib.hid ((KW W hv (x - 100 + (E : Int)) (by omega) (by omega)).out)
          rw [HE3.out] at K11
          clear KW HE3
          generalize hk : x - 100 = k at *
          have hk0 : -100 ≤ k := by omega
          have hk1 : k < 100 := by omega
          go_wp2_with fail
          refine (K10 _ (hT9.oldI rx)).out.mono ?_
          rintro e w10 ⟨r1, rfl, h10⟩
          have hT10 := hT9.call h10
          simp only [List.cons_append, List.nil_append] at hT10
          clear hT9 h10 K10
          go_wp2_with fail
          refine (K11 _ (hT10.oldI rx)).out.mono ?_
          rintro e w11 ⟨r2, rfl, h11⟩
          have hT11 := hT10.call h11
          simp only [List.cons_append, List.nil_append] at hT11
          clear hT10 h11 K11
          have K12 := fun W (a : RdI W id' (iot xs.length)) (b : RdI W wt (iot xs.length)) => Lib.hid (b10Nums_c id' wt _ _ W a b)
          rw [show decide (iot xs.length = iot xs.length) = true from decide_eq_true rfl] at K12
          have K13 := fun W (a : RdI W r1 (powL xs k)) (b : RdI W r2 (powL xs k)) => Lib.hid (b10Nums_c r1 r2 _ _ W a b)
          rw [show decide (powL xs k = powL xs k) = true from decide_eq_true rfl] at K13
          have hn1 : (C.length : Int) ≤ (xs.length : Int) := by omega
          by_cases hpar : (xs.length - C.length) % 2 = 0
          · rw [if_pos hpar] at HS
            have e1 : (((xs.length : Int) - (C.length : Int)) % 2 != 0) = false := ne_f (by omega)
            rw [HS.out] at KS
            clear hpar HS
            go_wp2_with (first
              | (go_at_call_of 68 id'; refine (K12 _ (hT11.rdI 3 rfl) (hT11.rdI 2 rfl)).out.mono ?_; rintro e w12 ⟨rfl, h12⟩; have hT12 := hT11.call0 h12; clear h12)
              | (go_at_call_of 68 r1; refine (K13 _ (hT12.rdI 4 rfl) (hT12.rdI 5 rfl)).out.mono ?_; rintro e w13 ⟨rfl, h13⟩; have hT13 := hT12.call0 h13; clear h13)
              | (go_at_call 70; refine (KS _ (hT13.oldI rx)).out.mono ?_; rintro e w14 ⟨rfl, h14⟩; have hT14 := hT13.call0 h14; clear h14))
            go_ret
            exact ⟨rfl, (hend _ _ hT14).out⟩
          · rw [if_neg hpar] at HS
            have e1 : (((xs.length : Int) - (C.length : Int)) % 2 != 0) = true := ne_t (by omega)
            rw [HS.out] at KS
            clear hpar HS
            go_wp2_with (first
              | (go_at_call_of 68 id'; refine (K12 _ (hT11.rdI 3 rfl) (hT11.rdI 2 rfl)).out.mono ?_; rintro e w12 ⟨rfl, h12⟩; have hT12 := hT11.call0 h12; clear h12)
              | (go_at_call_of 68 r1; refine (K13 _ (hT12.rdI 4 rfl) (hT12.rdI 5 rfl)).out.mono ?_; rintro e w13 ⟨rfl, h13⟩; have hT13 := hT12.call0 h13; clear h13)
              | (go_at_call 70; refine (KS _ (hT13.oldI rx)).out.mono ?_; rintro e w14 ⟨rfl, h14⟩; have hT14 := hT13.call0 h14; clear h14))
            go_ret
            exact ⟨rfl, (hend _ _ hT14).out⟩
end Go.Proofs.Ytcenabaklokhhaa
