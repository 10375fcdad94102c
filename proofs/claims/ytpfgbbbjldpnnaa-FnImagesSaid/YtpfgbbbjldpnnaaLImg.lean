/- The law FnImages, walked. -/
import Derived.Test.YtpfgbbbjldpnnaaIm1
import Derived.Test.YtpfgbbbjldpnnaaL4
namespace Go.Proofs.Ytpfgbbbjldpnnaa
set_option linter.unusedSimpArgs false
set_option linter.unusedVariables false
open Go.RowKit
attribute [local go_sem ↓] Go.wp_at_zero Go.wp_at_succ

/-- two lists, in memory of their own -/
def TwoS (w : World) (e : Ending) (w' : World) : Prop := ∃ v xs u ys, e = .returned (.tuple #[v, u]) ∧ xs.length ≤ 33 ∧ ys.length ≤ 200 ∧ St w.heap.size w w' [row 2 v (iv xs), row 2 u (iv ys)]
set_option maxHeartbeats 2000000 in
set_option maxRecDepth 100000 in
theorem DrawApplySet_c (w : World) (cv : Value) (bs : List UInt8) (hb : RdB w cv bs) : Calls Try.prog 10 #[cv] w (TwoS w) := by
  go_enter Try.func10, Try.ntmps10
  go_wp2_with fail
  refine (l00From_c w cv bs hb).mono ?_
  rintro e w1 ⟨rfl, h1⟩
  go_wp2_with fail
  refine (l04Draw_c w w1 cv bs _ _ _ hb h1 (by omega)).mono ?_
  rintro e w2 ⟨v, xs, rfl, hl, h2⟩
  have hln := (h2.rdI 0 rfl).len
  go_wp2_with (first
    | (go_at_call 57; refine (l00Max_c _ _ _).mono ?_; rintro e w3 ⟨rfl, rfl⟩)
    | (go_at_call 56; refine (l00Min_c _ _ _).mono ?_; rintro e w3 ⟨rfl, rfl⟩))
  refine (l01DrawBad_c w _ cv bs _ _ _ _ hb h2 (by omega) (by omega)).mono ?_
  rintro e w4 ⟨u, ys, rfl, hy, h4⟩
  have hS := h4.st
  clear h4
  go_wp2_with fail
  go_ret2
  exact ⟨_, xs, _, ys, rfl, hl, hy, hS⟩
set_option maxHeartbeats 2000000 in
set_option maxRecDepth 100000 in
theorem sValidSetN_c (v : Value) (xs : List Int) (n : Int) (w : World) (hv : RdI w v xs) (h0 : 0 ≤ n ∧ n ≤ 32) : Calls Try.prog 13 #[v, .int .i64 n] w (GivesB w (incB (-1) n xs)) := by
  have i1 := inB_true h0
  have H := l00Rises_c v xs 0 (n - 1) w hv
  rw [show (n - 1 + 1) = n by omega, show (0 : Int) - 1 = -1 from rfl] at H
  have H := Lib.hid H
  obtain ⟨n0, n1⟩ := h0
  go_enter Try.func13, Try.ntmps13
  go_wp2_with fail
  refine (l00In_c _ _ _ _).mono ?_
  rw [i1]
  rintro e w1 ⟨rfl, rfl⟩
  go_wp2_with fail
  refine H.out.mono ?_
  rintro e w1 ⟨rfl, h1⟩
  go_wp2_with fail
  go_ret
  exact ⟨rfl, h1⟩

set_option maxHeartbeats 8000000 in
set_option maxRecDepth 100000 in
theorem FnImages_law (w : World) (cv : Value) (bs : List UInt8) (cm : Value) (ms : List UInt8) (hb : RdB w cv bs) (hm : RdB w cm ms) :
    Calls Try.prog 3 #[cv, cm] w (GivesB w true) := by
  by_cases hlong : 1048576 < bs.length ∨ 1048576 < ms.length
  · by_cases h1 : 1048576 < bs.length
    · have hl' : decide (1048576 < bs.length) = true := by simpa using h1
      go_enter Try.func3, Try.ntmps3
      go_wp2_with fail
      refine (b10Long_c w cv bs hb).mono ?_
      rw [hl']
      rintro e w1 ⟨rfl, rfl⟩
      go_wp2_with fail
      go_ret
      exact ⟨rfl, St.refl _⟩
    · have hl' : decide (1048576 < bs.length) = false := by simpa using h1
      have hl2 : decide (1048576 < ms.length) = true := by simp; omega
      go_enter Try.func3, Try.ntmps3
      go_wp2_with fail
      refine (b10Long_c w cv bs hb).mono ?_
      rw [hl']
      rintro e w1 ⟨rfl, rfl⟩
      go_wp2_with (go_at_call 9; refine (b10Long_c w cm ms hm).mono ?_; rw [hl2]; rintro e w1 ⟨rfl, rfl⟩)
      go_ret
      exact ⟨rfl, St.refl _⟩
  · have hl' : decide (1048576 < bs.length) = false := by simp; omega
    have hl2 : decide (1048576 < ms.length) = false := by simp; omega
    go_enter Try.func3, Try.ntmps3
    go_wp2_with fail
    refine (b10Long_c w cv bs hb).mono ?_
    rw [hl']
    rintro e w1 ⟨rfl, rfl⟩
    go_wp2_with (go_at_call 9; refine (b10Long_c w cm ms hm).mono ?_; rw [hl2]; rintro e w1 ⟨rfl, rfl⟩)
    refine (DrawApplySet_c w cv bs hb).mono ?_
    rintro e w1 ⟨v, xs, u, ss, rfl, hlx, hls, h1⟩
    have rx := h1.rdI 0 rfl
    have rs := h1.rdI 1 rfl
    have hT0 := St.refl w1
    have hend := fun w' (L : List Ent) (h : St w1.heap.size w1 w' L) => Lib.hid (h1.out.call0 h.out)
    have rm := hm.keep h1.below
    have KA := fun W hv hu => Lib.hid (ApplySet_c v u xs ss W hv hu (by omega))
    have KX := fun W hv => Lib.hid (sValidPermutation_c v xs W hv)
    have hxl := rx.len
    have hsl := rs.len
    clear h1
    cases hp : pvB xs
    · have hc := apC_1 (ss := ss) hp
      rw [hc.1, hc.2] at KA
      rw [hp] at KX
      clear hc hp
      go_wp2_with fail
      refine (KA _ rx rs).out.mono ?_
      rintro e w2 ⟨z, rfl, h2⟩
      have hT2 := hT0.call0 h2.out
      go_wp2_with fail
      refine (KX _ (hT2.oldI rx)).out.mono ?_
      rintro e w3 ⟨rfl, h3⟩
      have hT3 := hT2.call0 h3
      go_wp2_with fail
      go_ret
      exact ⟨rfl, (hend _ _ hT3).out⟩
    · have Hp := Lib.hid hp
      have h32 := (pvB_t hp).1
      rw [hp] at KX
      have KV := fun W hv => Lib.hid (sValidSetN_c u ss xs.length W hv (by omega))
      cases hp2 : incB (-1) xs.length ss
      · have hc := apC_2 hp hp2
        rw [hc.1, hc.2] at KA
        rw [hp2] at KV
        clear hc hp2 hp
        go_wp2_with fail
        refine (KA _ rx rs).out.mono ?_
        rintro e w2 ⟨z, rfl, h2⟩
        have hT2 := hT0.call0 h2.out
        go_wp2_with fail
        refine (KX _ (hT2.oldI rx)).out.mono ?_
        rintro e w3 ⟨rfl, h3⟩
        have hT3 := hT2.call0 h3
        go_wp2_with (go_at_call 13; refine (KV _ (hT3.oldI rs)).out.mono ?_; rintro e w4 ⟨rfl, h4⟩; have hT4 := hT3.call0 h4)
        go_ret
        exact ⟨rfl, (hend _ _ hT4).out⟩
      · have hc := apC_0 hp hp2
        rw [hc.1, hc.2] at KA
        have HX := Lib.hid (pvB_t hp).2
        have Hs := Lib.hid hp2
        have Him := Lib.hid (imL_set HX.out hp2)
        clear hc hp hp2 KX KV
        go_wp2_with fail
        refine (KA _ rx rs).out.mono ?_
        rintro e w2 ⟨x, rfl, h2⟩
        have hT2 := hT0.call h2
        have hil := (hT2.rdI 0 rfl).len
        rw [imL_len] at hil
        clear h2 hT0 KA
        go_wp2_with fail
        refine (b10Perm_c _ cm ms xs.length (hT2.oldB rm) (by omega)).mono ?_
        rintro e w3 ⟨r, zs, rfl, hzl, hzp, h3⟩
        have hT3 := hT2.call h3
        have HZ := Lib.hid hzp
        have Hzl := Lib.hid hzl
        have HpZ := Lib.hid (pvB_yes (by rw [Hzl.out]; exact h32) HZ.out)
        clear hT2 h3 hzl hzp
        have A2 := apC_0 HpZ.out (ss := imL xs ss) (by rw [Hzl.out]; exact Him.out)
        have K2 := fun W (a : RdI W r zs) (b : RdI W x (imL xs ss)) => Lib.hid (ApplySet_c r x zs (imL xs ss) W a b (by rw [Hzl.out]; omega))
        rw [A2.1, A2.2, imL_cmp HX.out Hs.out] at K2
        have E3 := cmC_0 Hp.out HpZ.out Hzl.out.symm
        have K3 := fun W (a : RdI W v xs) (b : RdI W r zs) => Lib.hid (Compose_c v r xs zs W a b (by omega) (by rw [Hzl.out]; omega))
        rw [E3, cmV_yes E3] at K3
        have HpC := Lib.hid (pvB_yes (xs := cmpL xs zs) (by rw [cmpL_len]; exact h32) (HX.out.cmp HZ.out Hzl.out.symm))
        have A4 := apC_0 HpC.out (ss := ss) (by rw [cmpL_len]; exact Hs.out)
        have K4 := fun W q (a : RdI W q (cmpL xs zs)) (b : RdI W u ss) => Lib.hid (ApplySet_c q u (cmpL xs zs) ss W a b (by rw [cmpL_len]; omega))
        rw [A4.1, A4.2] at K4
        have K5 := fun W a b (ha : RdI W a (imL (cmpL xs zs) ss)) (hb : RdI W b (imL (cmpL xs zs) ss)) => Lib.hid (b10Nums_c a b _ _ W ha hb)
        rw [show decide (imL (cmpL xs zs) ss = imL (cmpL xs zs) ss) = true from decide_eq_true rfl] at K5
        clear A2 E3 A4
        generalize imL (cmpL xs zs) ss = J at *
        generalize imL xs ss = I at *
        by_cases h12 : xs.length ≤ 12
        · have K6 := fun W (a : RdI W v xs) => Lib.hid (Rank_yes v xs W a Hp.out h12)
          have K7 := fun W => Lib.hid (Unrank_c xs W HX.out h12)
          have K8 := fun W a (ha : RdI W a xs) (hb : RdI W v xs) => Lib.hid (b10Nums_c a v _ _ W ha hb)
          rw [show decide (xs = xs) = true from decide_eq_true rfl] at K8
          generalize rkL xs = R at *
          go_wp2_with (first
            | (go_at_call_of 16 bk; refine (K8 _ _ (hT8.rdI 5 rfl) (hT8.oldI rx)).out.mono ?_; rintro e w9 ⟨rfl, h9⟩; have hT9 := hT8.call0 h9; clear h9)
            | (go_at_call 18; refine (K7 _).out.mono ?_; rintro e w8 ⟨bk, rfl, h8⟩; have hT8 := hT7.call h8; clear h8 hT7)
            | (go_at_call 17; refine (K6 _ (hT6.oldI rx)).out.mono ?_; rintro e w7 ⟨rfl, h7⟩; have hT7 := hT6.call0 h7; clear h7 hT6)
            | (go_at_call_of 16 y; refine (K5 _ _ _ (hT5.rdI 2 rfl) (hT5.rdI 4 rfl)).out.mono ?_; rintro e w6 ⟨rfl, h6⟩; have hT6 := hT5.call0 h6; clear h6 hT5)
            | (have hz := hT4; clear hz; go_at_call 11; refine (K4 _ _ (hT4.rdI 3 rfl) (hT4.oldI rs)).out.mono ?_; rintro e w5 ⟨z, rfl, h5⟩; have hT5 := hT4.call h5; clear h5 hT4)
            | (go_at_call 15; refine (K3 _ (hT3b.oldI rx) (hT3b.rdI 1 rfl)).out.mono ?_; rintro e w4 ⟨pq, rfl, h4⟩; have hT4 := hT3b.call h4; clear h4 hT3b)
            | (have hz := hT3; clear hz; go_at_call 11; refine (K2 _ (hT3.rdI 1 rfl) (hT3.rdI 0 rfl)).out.mono ?_; rintro e w3b ⟨y, rfl, h3b⟩; have hT3b := hT3.call h3b; clear h3b hT3))
          go_ret
          exact ⟨rfl, (hend _ _ hT9).out⟩
        · have K6 := fun W (a : RdI W v xs) => Lib.hid (Rank_no v xs W a Hp.out (by omega))
          go_wp2_with (first
            | (go_at_call 17; refine (K6 _ (hT6.oldI rx)).out.mono ?_; rintro e w7 ⟨rfl, h7⟩; have hT7 := hT6.call0 h7; clear h7 hT6)
            | (go_at_call_of 16 y; refine (K5 _ _ _ (hT5.rdI 2 rfl) (hT5.rdI 4 rfl)).out.mono ?_; rintro e w6 ⟨rfl, h6⟩; have hT6 := hT5.call0 h6; clear h6 hT5)
            | (have hz := hT4; clear hz; go_at_call 11; refine (K4 _ _ (hT4.rdI 3 rfl) (hT4.oldI rs)).out.mono ?_; rintro e w5 ⟨z, rfl, h5⟩; have hT5 := hT4.call h5; clear h5 hT4)
            | (go_at_call 15; refine (K3 _ (hT3b.oldI rx) (hT3b.rdI 1 rfl)).out.mono ?_; rintro e w4 ⟨pq, rfl, h4⟩; have hT4 := hT3b.call h4; clear h4 hT3b)
            | (have hz := hT3; clear hz; go_at_call 11; refine (K2 _ (hT3.rdI 1 rfl) (hT3.rdI 0 rfl)).out.mono ?_; rintro e w3b ⟨y, rfl, h3b⟩; have hT3b := hT3.call h3b; clear h3b hT3))
          go_ret
          exact ⟨rfl, (hend _ _ hT7).out⟩
end Go.Proofs.Ytpfgbbbjldpnnaa
