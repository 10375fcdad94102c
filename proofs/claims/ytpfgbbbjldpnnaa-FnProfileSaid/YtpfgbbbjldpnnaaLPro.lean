/- The law of profiles, walked. -/
import Derived.Test.YtpfgbbbjldpnnaaHd2
import Derived.Test.YtpfgbbbjldpnnaaHd3
import Derived.Test.YtpfgbbbjldpnnaaEqs8
namespace Go.Proofs.Ytpfgbbbjldpnnaa
set_option linter.unusedSimpArgs false
set_option linter.unusedVariables false
open Go.RowKit
attribute [local go_sem ↓] Go.wp_at_zero Go.wp_at_succ


set_option maxHeartbeats 2000000 in
theorem v8Long_c (va vb : Value) (xs bs : List UInt8) (w : World) (ha : RdB w va xs) (hb : RdB w vb bs) :
    Calls Try.prog 45 #[va, vb] w fun e w' => e = .returned (.bool (decide (1048576 < (xs.length : Int)) || decide (1048576 < (bs.length : Int)))) ∧ w = w' := by
  have hla := ha.len
  have hlb := hb.len
  have hea := ha.le
  have heb := hb.le
  by_cases h1 : 1048576 < (xs.length : Int)
  · rw [decide_eq_true h1, Bool.true_or]
    go_enter Try.func45, Try.ntmps45
    go_wp2_with fail
    go_ret
    exact ⟨rfl, rfl⟩
  · rw [decide_eq_false h1, Bool.false_or]
    by_cases h2 : 1048576 < (bs.length : Int)
    · rw [decide_eq_true h2]
      go_enter Try.func45, Try.ntmps45
      go_wp2_with fail
      go_ret
      exact ⟨by simp [h1, h2], rfl⟩
    · rw [decide_eq_false h2]
      go_enter Try.func45, Try.ntmps45
      go_wp2_with fail
      go_ret
      exact ⟨by simp [h1, h2], rfl⟩
set_option maxHeartbeats 2000000 in
theorem v8At_c (v : Value) (bs : List UInt8) (k : Nat) (n : Int) (w : World) (hb : RdB w v bs) (hk : k ≤ 1000000) :
    Calls Try.prog 49 #[v, .int .i64 k, .int .i64 n] w (AnInt 0 (max (n - 1) 0) fun w' => w = w') := by
  have hln := hb.len
  have hle := hb.le
  by_cases h1 : n ≤ 1
  · go_enter Try.func49, Try.ntmps49
    go_wp2_with fail
    go_ret
    exact ⟨0, by omega, by omega, rfl, rfl⟩
  · by_cases h2 : k < bs.length
    · have hc := hb.cell k h2
      have hx := hb.ix .i64 (k : Int) (by omega) (by omega)
      rw [Int.toNat_natCast] at hx
      obtain ⟨b0, b1⟩ := bnth_bd bs k
      go_enter Try.func49, Try.ntmps49
      go_wp2_with fail
      go_ret
      have := Int.emod_nonneg (bnth bs k) (show n ≠ 0 by omega)
      have := Int.emod_lt_of_pos (bnth bs k) (show 0 < n by omega)
      exact ⟨_, by omega, by omega, rfl, rfl⟩
    · go_enter Try.func49, Try.ntmps49
      go_wp2_with fail
      go_ret
      exact ⟨0, by omega, by omega, rfl, rfl⟩
theorem proL_bd (n : Nat) (H : List (List Int)) (j : Nat) : 0 ≤ nth (proL n H) j ∧ nth (proL n H) j ≤ 1000000000 := by
  unfold proL
  split
  · have := prf_bd n H j 0
    rw [prf] at this; omega
  · have := prf_bd n H j (choose n 4).toNat
    have := choose_bd n 4
    omega
theorem sumL_bd {P : List Int} (h : ∀ j, 0 ≤ nth P j ∧ nth P j ≤ 1000000000) : ∀ k : Nat, 0 ≤ sumL (P.take k) ∧ sumL (P.take k) ≤ 1000000000 * k
  | 0 => by simp [sumL]
  | k + 1 => by
    have ih := sumL_bd h k
    have := h k
    by_cases hk : k < P.length
    · rw [take_nth hk, sumL_app]
      simp only [sumL]; push_cast; omega
    · rw [List.take_of_length_le (by omega)] at ih ⊢
      push_cast; omega
set_option maxHeartbeats 16000000 in
set_option maxRecDepth 100000 in
theorem FnProfile_law (w : World) (va : Value) (xs : List UInt8) (vb : Value) (bs : List UInt8) (ha : RdB w va xs) (hb : RdB w vb bs) :
    Calls Try.prog 8 #[va, vb] w (GivesB w true) := by
  have HL := Lib.hid (v8Long_c va vb xs bs w ha hb)
  by_cases hlong : (decide (1048576 < (xs.length : Int)) || decide (1048576 < (bs.length : Int))) = true
  · rw [hlong] at HL
    have hS := St.refl w
    clear hlong
    go_enter Try.func8, Try.ntmps8
    go_wp2_with fail
    refine HL.out.mono ?_
    rintro e w1 ⟨rfl, rfl⟩
    go_wp2_with fail
    go_ret
    exact ⟨rfl, hS⟩
  · have hlong' : (decide (1048576 < (xs.length : Int)) || decide (1048576 < (bs.length : Int))) = false := by simpa using hlong
    rw [hlong'] at HL
    clear hlong hlong'
    go_enter Try.func8, Try.ntmps8
    go_wp2_with fail
    refine HL.out.mono ?_
    rintro e w1 ⟨rfl, rfl⟩
    go_wp2_with fail
    refine (V8Hadamard_c w va xs ha).mono ?_
    rintro e w2 ⟨v, n, us, H, rfl, hH, hn20, hl, hS2⟩
    have hr := hS2.rii (by rw [hH.sqr.len]; exact hl)
    have hln := hr.len
    rw [hH.sqr.len] at hln
    have Hr := Lib.hid hr
    have HH := Lib.hid hH
    have hS3 := hS2.out
    clear hS2 hr hl HL
    have n1 := hH.pos
    clear hH
    by_cases h16 : 16 < n
    · go_wp2_with fail
      refine (ProfileOf_no v us H n w2 Hr.out HH.out h16).mono ?_
      rintro e w3 ⟨p, rfl, h3⟩
      have hS4 := hS3.call0 h3.out
      go_wp2_with fail
      go_ret
      exact ⟨rfl, hS4⟩
    · have n16 : n ≤ 16 := by omega
      go_wp2_with fail
      refine (ProfileOf_c v us H n w2 Hr.out HH.out n16).mono ?_
      rintro e w3 ⟨p, rfl, h3⟩
      have hS4 := hS3.call0 h3.out
      have rp := Lib.hid (h3.rdI 0 rfl)
      have Hr := Lib.hid (h3.oldII Hr.out)
      clear h3 hS3
      have hb4 := hS4.oldB hb
      go_wp2_with fail
      refine (v8At_c vb bs 0 n _ hb4 (by omega)).mono ?_
      rintro e w4 ⟨x, x0, x1, rfl, rfl⟩
      obtain ⟨line, rfl⟩ := Int.eq_ofNat_of_zero_le x0
      have hline : line < n := by omega
      clear x0 x1
      go_wp2_with fail
      refine (v8At_c vb bs 1 2 _ hb4 (by omega)).mono ?_
      rintro e w5 ⟨y, y0, y1, rfl, rfl⟩
      clear y0 y1
      go_wp2_with fail
      refine (sNegateLine_c v us H n line (y == 0) _ Hr.out HH.out hline).mono ?_
      rintro e w6 ⟨o, uo, rfl, hl6, h6⟩
      have rx := h6.rii hl6
      have HX := Lib.hid (ngL_sg (n := n) (H := H) line (y == 0))
      generalize ngL n H line (y == 0) = X at *
      have hS6 := hS4.call0 h6.out
      have rp6 := Lib.hid (h6.oldI rp.out)
      have Hr6 := Lib.hid (h6.oldII Hr.out)
      clear h6 hl6 hS4 hb4 rp Hr
      go_wp2_with fail
      refine (ProfileOf_c o uo X n _ rx (HX.out.had HH.out) n16).mono ?_
      rw [proL_sg HX.out HH.out]
      rintro e w7 ⟨q, rfl, h7⟩
      have hS7 := hS6.call0 h7.out
      have rp7 := Lib.hid (h7.oldI rp6.out)
      have rq7 := Lib.hid (h7.rdI 0 rfl)
      have Hr7 := Lib.hid (h7.oldII Hr6.out)
      clear h7 hS6 rp6 Hr6 rx
      go_wp2_with fail
      refine (sNormalHadamard_c v us H n _ Hr7.out HH.out).mono ?_
      rintro e w8 ⟨o8, u8, Y, rfl, hY, hl8, h8⟩
      have ry := h8.rii (by rw [hY.1.len]; exact hl8)
      have HY := Lib.hid hY
      have hS8 := hS7.call0 h8.out
      have rp8 := Lib.hid (h8.oldI rp7.out)
      have rq8 := Lib.hid (h8.oldI rq7.out)
      clear h8 hl8 hS7 hY rp7 rq7 Hr7
      go_wp2_with fail
      refine (ProfileOf_c o8 u8 Y n _ ry (HY.out.had HH.out) n16).mono ?_
      rw [proL_sg HY.out HH.out]
      rintro e w9 ⟨r, rfl, h9⟩
      have hS9 := hS8.call0 h9.out
      have rp9 := Lib.hid (h9.oldI rp8.out)
      have rq9 := Lib.hid (h9.oldI rq8.out)
      have rr9 := Lib.hid (h9.rdI 0 rfl)
      have hpl := proL_len n H
      have hlp := rp9.out.len
      have hxp := rp9.out.ixe
      rw [hpl] at hlp hxp
      have Hpl := Lib.hid hpl
      have hsum := Lib.hid (proL_sum HH.out)
      have hbd := Lib.hid (proL_bd n H)
      clear h9 hS8 rp8 rq8 ry hpl
      generalize proL n H = P at *
      have HV := fun va vb W a b => Lib.hid (show Calls Try.prog 51 #[va, vb] W (GivesB W true) by have := v8Same_c va vb P P W a b; rwa [decide_eq_true rfl] at this)
      go_wp2_with fail
      refine (HV p q _ rp9.out rq9.out).out.mono ?_
      rintro e w10 ⟨rfl, h10⟩
      have hS10 := hS9.call0 h10
      have rp10 := Lib.hid (h10.oldI rp9.out)
      have rr10 := Lib.hid (h10.oldI rr9.out)
      clear h10 hS9 rp9 rq9 rr9
      go_wp2_with fail
      refine (HV p r _ rp10.out rr10.out).out.mono ?_
      rintro e w11 ⟨rfl, h11⟩
      have hS11 := hS10.call0 h11
      have rp11 := Lib.hid (h11.oldI rp10.out)
      have hw := IntWalk.i64_in ((n : Int) + 1) (by omega)
      clear h11 hS10 rp10 rr10 HV
      go_wp2_with fail
      go_loopw [17, 18] (fun s i wr => ∃ k : Nat, k ≤ n + 1 ∧ i = .int .i64 k ∧ s = .int .i64 (sumL (P.take k)) ∧ RdI wr p P ∧ St w.heap.size w wr []) (fun _ i _ => n + 1 - (intOf i).toNat)
      case atStart => exact ⟨0, by omega, rfl, rfl, rp11.out, hS11⟩
      case round =>
        clear hS11
        obtain ⟨k, hk, rfl, rfl, hp, hS⟩ := hrel
        by_cases hlt : k < n + 1
        · have c1 := hp.cell k (by rw [Hpl.out]; exact hlt)
          have x1 := hxp (k : Int) k rfl hlt
          have b1 := hbd.out k
          have b2 := sumL_bd hbd.out k
          have hsn := Lib.hid (show sumL (P.take (k + 1)) = sumL (P.take k) + nth P k by rw [take_nth (by rw [Hpl.out]; exact hlt), sumL_app]; simp [sumL])
          generalize sumL (P.take k) = s at *
          go_wp2_with fail
          go_roundw
          case rel => exact ⟨k + 1, by omega, by go_num, by rw [hsn.out], hp, hS⟩
          case measure => simp [intOf]; omega
        · have hk2 : P.take k = P := List.take_of_length_le (by rw [Hpl.out]; omega)
          rw [hk2, hsum.out]
          clear hk2
          go_wp2_with fail
          refine (sChoose_c n 4 wr).mono ?_
          rintro e w12 ⟨rfl, rfl⟩
          go_wp2_with fail
          go_ret
          exact ⟨by simp, hS⟩
end Go.Proofs.Ytpfgbbbjldpnnaa
