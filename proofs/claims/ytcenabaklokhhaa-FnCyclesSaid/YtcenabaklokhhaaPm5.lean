/- Walks: SignOf; the law FnPermutations. -/
import Derived.Test.YtcenabaklokhhaaPm4
import Derived.Test.YtcenabaklokhhaaSet
namespace Go.Proofs.Ytcenabaklokhhaa
set_option linter.unusedSimpArgs false
set_option linter.unusedVariables false
open Go.RowKit
attribute [local go_sem ↓] Go.wp_at_zero Go.wp_at_succ

theorem cyM_cyc (xs : List Int) (m : Nat) : (cyM xs m).length = cyc m (pf xs) := by unfold cyM; rw [List.length_map, cycs_len]
theorem sgL_eq (xs : List Int) : sgL xs = if (xs.length - (cyM xs xs.length).length) % 2 = 0 then 1 else -1 := by unfold sgL sgn; rw [cyM_cyc]
set_option maxHeartbeats 2000000 in
set_option maxRecDepth 100000 in
theorem SignOf_c (v : Value) (xs : List Int) (w : World) (hv : RdI w v xs) (hp : pvB xs = true) : Calls Try.prog 70 #[v] w (GivesI w (sgL xs)) := by
  have hlx := hv.len
  have hpp := pvB_t hp
  have HX := Lib.hid (ValidPermutation_c v xs w hv (by omega))
  rw [hp] at HX
  have HC := fun W (hv : RdI W v xs) => Lib.hid (cyclesOf_c v xs W hv hpp.2 (by omega))
  have hcl := cyM_len xs xs.length
  have HS := Lib.hid (sgL_eq xs)
  have h32 := hpp.1
  clear hp hpp
  generalize sgL xs = S at *
  generalize cyM xs xs.length = C at *
  go_enter Try.func70, Try.ntmps70
  go_wp2_with fail
  refine HX.out.mono ?_
  rintro e w1 ⟨rfl, hS1⟩
  go_wp2_with fail
  refine (HC _ (hS1.oldI hv)).out.mono ?_
  rintro e w2 ⟨u, us, rfl, hl, h2⟩
  have hln := (h2.rii hl).len
  have hS2 := hS1.call0 h2.out
  have Hl := Lib.hid hl
  clear hl h2
  by_cases hm : (xs.length - C.length) % 2 = 0
  · have e1 : (((xs.length : Int) - (C.length : Int)) % 2 == 0) = true := eq_t (by omega)
    rw [if_pos hm] at HS
    clear hm
    go_wp2_with fail
    go_ret
    exact ⟨ret_i64 HS.out.symm, hS2⟩
  · have e1 : (((xs.length : Int) - (C.length : Int)) % 2 == 0) = false := eq_f (by omega)
    rw [if_neg hm] at HS
    clear hm
    go_wp2_with fail
    go_ret
    exact ⟨ret_i64 HS.out.symm, hS2⟩

theorem sgL_pm (xs : List Int) : sgL xs = 1 ∨ sgL xs = -1 := sgn_pm _ _
set_option maxHeartbeats 8000000 in
set_option maxRecDepth 100000 in
theorem FnPermutations_law (w : World) (cv : Value) (bs : List UInt8) (cm : Value) (ms : List UInt8) (hb : RdB w cv bs) (hm : RdB w cm ms) :
    Calls Try.prog 9 #[cv, cm] w (GivesB w true) := by
  by_cases hlong : 1048576 < bs.length ∨ 1048576 < ms.length
  · by_cases h1 : 1048576 < bs.length
    · have hl' : decide (1048576 < bs.length) = true := by simpa using h1
      go_enter Try.func9, Try.ntmps9
      go_wp2_with fail
      refine (b10Long_c w cv bs hb).mono ?_
      rw [hl']
      rintro e w1 ⟨rfl, rfl⟩
      go_wp2_with fail
      go_ret
      exact ⟨rfl, St.refl _⟩
    · have hl' : decide (1048576 < bs.length) = false := by simpa using h1
      have hl2 : decide (1048576 < ms.length) = true := by simp; omega
      go_enter Try.func9, Try.ntmps9
      go_wp2_with fail
      refine (b10Long_c w cv bs hb).mono ?_
      rw [hl']
      rintro e w1 ⟨rfl, rfl⟩
      go_wp2_with (go_at_call 41; refine (b10Long_c w cm ms hm).mono ?_; rw [hl2]; rintro e w1 ⟨rfl, rfl⟩)
      go_ret
      exact ⟨rfl, St.refl _⟩
  · have hl' : decide (1048576 < bs.length) = false := by simp; omega
    have hl2 : decide (1048576 < ms.length) = false := by simp; omega
    go_enter Try.func9, Try.ntmps9
    go_wp2_with fail
    refine (b10Long_c w cv bs hb).mono ?_
    rw [hl']
    rintro e w1 ⟨rfl, rfl⟩
    go_wp2_with (go_at_call 41; refine (b10Long_c w cm ms hm).mono ?_; rw [hl2]; rintro e w1 ⟨rfl, rfl⟩)
    refine (DrawCompose_c w cv bs hb).mono ?_
    rintro e w1 ⟨v, xs, u, ys, rfl, hlx, hly, h1⟩
    have rx := h1.rdI 1 rfl
    have ry := h1.rdI 0 rfl
    have hT0 := St.refl w1
    have hend := fun w' (L : List Ent) (h : St w1.heap.size w1 w' L) => Lib.hid (h1.out.call0 h.out)
    have rm := hm.keep h1.below
    have KC := fun W hv hu => Lib.hid (Compose_c v u xs ys W hv hu (by omega) (by omega))
    have KX := fun W hv => Lib.hid (sValidPermutation_c v xs W hv)
    have KY := fun W hv => Lib.hid (sValidPermutation_c u ys W hv)
    have hxl := rx.len
    have hyl := ry.len
    clear h1
    cases hp : pvB xs
    · have hc := cmC_1 (xs := xs) (ys := ys) (.inl hp)
      rw [hc] at KC
      rw [hp] at KX
      clear hc hp
      go_wp2_with fail
      refine (KC _ rx ry).out.mono ?_
      rintro e w2 ⟨z, rfl, h2⟩
      have hT2 := hT0.call0 h2.out
      go_wp2_with fail
      refine (KX _ (hT2.oldI rx)).out.mono ?_
      rintro e w3 ⟨rfl, h3⟩
      have hT3 := hT2.call0 h3
      go_wp2_with fail
      go_ret
      exact ⟨rfl, (hend _ _ hT3).out⟩
    · have Hp := Lib.hid hp
      rw [hp] at KX
      clear hp
      cases hp2 : pvB ys
      · have hc := cmC_1 (xs := xs) (ys := ys) (.inr hp2)
        rw [hc] at KC
        rw [hp2] at KY
        clear hc hp2
        go_wp2_with fail
        refine (KC _ rx ry).out.mono ?_
        rintro e w2 ⟨z, rfl, h2⟩
        have hT2 := hT0.call0 h2.out
        go_wp2_with fail
        refine (KX _ (hT2.oldI rx)).out.mono ?_
        rintro e w3 ⟨rfl, h3⟩
        have hT3 := hT2.call0 h3
        go_wp2_with (go_at_call 66; refine (KY _ (hT3.oldI ry)).out.mono ?_; rintro e w4 ⟨rfl, h4⟩; have hT4 := hT3.call0 h4)
        go_ret
        exact ⟨rfl, (hend _ _ hT4).out⟩
      · have Hp2 := Lib.hid hp2
        rw [hp2] at KY
        clear hp2
        by_cases hl : xs.length = ys.length
        · have hc := cmC_0 Hp.out Hp2.out hl
          rw [hc, cmV_yes hc] at KC
          have Hl := Lib.hid hl
          have HX := Lib.hid (pvB_t Hp.out).2
          have HY := Lib.hid (pvB_t Hp2.out).2
          have hx32 := (pvB_t Hp.out).1
          have HPQ := Lib.hid (pvB_yes (by rw [cmpL_len]; exact hx32) (HX.out.cmp HY.out hl))
          have Hsg := Lib.hid (sgL_cmp HX.out HY.out hl)
          clear hc hl KX KY
          go_wp2_with fail
          refine (KC _ rx ry).out.mono ?_
          rintro e w2 ⟨z, rfl, h2⟩
          have hT2 := hT0.call h2
          clear h2 hT0
          go_wp2_with fail
          refine (b10Perm_c _ cm ms xs.length (hT2.oldB rm) (by omega)).mono ?_
          rintro e w3 ⟨r, zs, rfl, hzl, hzp, h3⟩
          have hT3 := hT2.call h3
          have HZ := Lib.hid hzp
          have Hzl := Lib.hid hzl
          have HpZ := Lib.hid (pvB_yes (by rw [Hzl.out]; exact hx32) HZ.out)
          clear hT2 h3 hzl hzp
          have E9 := cmC_0 Hp2.out HpZ.out (by rw [Hzl.out, ← Hl.out])
          have K9 := fun W (a : RdI W u ys) (b : RdI W r zs) => Lib.hid (Compose_c u r ys zs W a b (by omega) (by rw [Hzl.out]; omega))
          rw [E9, cmV_yes E9] at K9
          have E10 := cmC_0 HPQ.out HpZ.out (by rw [cmpL_len, Hzl.out])
          have K10 := fun W (a : RdI W z (cmpL xs ys)) (b : RdI W r zs) => Lib.hid (Compose_c z r _ zs W a b (by rw [cmpL_len]; omega) (by rw [Hzl.out]; omega))
          rw [E10, cmV_yes E10, cmpL_assoc HX.out Hl.out] at K10
          have HQR := Lib.hid (pvB_yes (xs := cmpL ys zs) (by rw [cmpL_len, ← Hl.out]; exact hx32) (HY.out.cmp HZ.out (by rw [← Hl.out, Hzl.out])))
          have E11 := cmC_0 Hp.out HQR.out (by rw [cmpL_len]; exact Hl.out)
          have K11 := fun W q (a : RdI W v xs) (b : RdI W q (cmpL ys zs)) => Lib.hid (Compose_c v q xs _ W a b (by omega) (by rw [cmpL_len]; omega))
          rw [E11, cmV_yes E11] at K11
          have K12 := fun W (a : RdI W v xs) => Lib.hid (InvertPermutation_c v xs W a (by omega) Hp.out)
          have HIV := Lib.hid (pvB_yes (xs := invL xs) (by rw [invL_len]; exact hx32) HX.out.inv)
          have E13 := cmC_0 Hp.out HIV.out (by rw [invL_len])
          have K13 := fun W q (a : RdI W v xs) (b : RdI W q (invL xs)) => Lib.hid (Compose_c v q xs _ W a b (by omega) (by rw [invL_len]; omega))
          rw [E13, cmV_yes E13, cmp_inv HX.out] at K13
          have K14 := fun W => Lib.hid (IdentityPermutation_c xs.length W hx32)
          have K17 := fun W (a : RdI W z (cmpL xs ys)) => Lib.hid (ValidPermutation_c z _ W a (by rw [cmpL_len]; omega))
          rw [HPQ.out] at K17
          have K18 := fun W (a : RdI W v xs) => Lib.hid (SignOf_c v xs W a Hp.out)
          have K19 := fun W (a : RdI W u ys) => Lib.hid (SignOf_c u ys W a Hp2.out)
          have K20 := fun W (a : RdI W z (cmpL xs ys)) => Lib.hid (SignOf_c z _ W a HPQ.out)
          rw [Hsg.out] at K20
          have hs1 := sgL_pm xs
          have hs2 := sgL_pm ys
          clear E9 E10 E11 E13 Hsg
          generalize sgL xs = S1 at *
          generalize sgL ys = S2 at *
          go_wp2_with fail
          refine (K9 _ (hT3.oldI ry) (hT3.rdI 1 rfl)).out.mono ?_
          rintro e w4 ⟨qr, rfl, h4⟩
          have hT4 := hT3.call h4
          clear hT3 h4 K9
          go_wp2_with fail
          refine (K10 _ (hT4.rdI 0 rfl) (hT4.rdI 1 rfl)).out.mono ?_
          rintro e w5 ⟨lf, rfl, h5⟩
          have hT5 := hT4.call h5
          clear hT4 h5 K10
          go_wp2_with fail
          refine (K11 _ _ (hT5.oldI rx) (hT5.rdI 2 rfl)).out.mono ?_
          rintro e w6 ⟨rt, rfl, h6⟩
          have hT6 := hT5.call h6
          clear hT5 h6 K11
          go_wp2_with fail
          refine (K12 _ (hT6.oldI rx)).out.mono ?_
          rintro e w7 ⟨bk, rfl, h7⟩
          have hT7 := hT6.call h7
          clear hT6 h7 K12
          go_wp2_with fail
          refine (K13 _ _ (hT7.oldI rx) (hT7.rdI 5 rfl)).out.mono ?_
          rintro e w8 ⟨di, rfl, h8⟩
          have hT8 := hT7.call h8
          clear hT7 h8 K13
          go_wp2_with fail
          refine (K14 _).out.mono ?_
          rintro e w9 ⟨wt, rfl, h9⟩
          have hT9 := hT8.call h9
          clear hT8 h9 K14
          go_wp2_with fail
          refine (b10Nums_c _ _ _ _ _ (hT9.rdI 3 rfl) (hT9.rdI 4 rfl)).mono ?_
          rw [show decide (cmpL xs (cmpL ys zs) = cmpL xs (cmpL ys zs)) = true from decide_eq_true rfl]
          rintro e w10 ⟨rfl, h10⟩
          have hT10 := hT9.call0 h10
          clear hT9 h10
          have K21 := fun W (a : RdI W di (iot xs.length)) (b : RdI W wt (iot xs.length)) => Lib.hid (b10Nums_c di wt _ _ W a b)
          rw [show decide (iot xs.length = iot xs.length) = true from decide_eq_true rfl] at K21
          rcases hs1 with rfl | rfl <;> rcases hs2 with rfl | rfl
          all_goals
            go_wp2_with (first
              | (go_at_call 68; refine (K21 _ (hT10.rdI 6 rfl) (hT10.rdI 7 rfl)).out.mono ?_; rintro e w11 ⟨rfl, h11⟩; have hT11 := hT10.call0 h11; clear h11)
              | (go_at_call 69; refine (K17 _ (hT11.rdI 0 rfl)).out.mono ?_; rintro e w12 ⟨rfl, h12⟩; have hT12 := hT11.call0 h12; clear h12)
              | (go_at_call_of 70 v; refine (K18 _ (hT12.oldI rx)).out.mono ?_; rintro e w13 ⟨rfl, h13⟩; have hT13 := hT12.call0 h13; clear h13)
              | (go_at_call_of 70 u; refine (K19 _ (hT13.oldI ry)).out.mono ?_; rintro e w14 ⟨rfl, h14⟩; have hT14 := hT13.call0 h14; clear h14)
              | (go_at_call_of 70 z; refine (K20 _ (hT14.rdI 0 rfl)).out.mono ?_; rintro e w15 ⟨rfl, h15⟩; have hT15 := hT14.call0 h15; clear h15))
            go_ret
            exact ⟨rfl, (hend _ _ hT15).out⟩
        · have hc := cmC_2 Hp.out Hp2.out hl
          have f1 : ((xs.length : Int) != (ys.length : Int)) = true := ne_t (by omega)
          rw [hc] at KC
          clear hc hl
          go_wp2_with fail
          refine (KC _ rx ry).out.mono ?_
          rintro e w2 ⟨z, rfl, h2⟩
          have hT2 := hT0.call0 h2.out
          go_wp2_with fail
          refine (KX _ (hT2.oldI rx)).out.mono ?_
          rintro e w3 ⟨rfl, h3⟩
          have hT3 := hT2.call0 h3
          go_wp2_with (go_at_call 66; refine (KY _ (hT3.oldI ry)).out.mono ?_; rintro e w4 ⟨rfl, h4⟩; have hT4 := hT3.call0 h4)
          go_ret
          exact ⟨rfl, (hend _ _ hT4).out⟩
end Go.Proofs.Ytcenabaklokhhaa
