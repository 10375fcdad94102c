/- Walks: the index of a strength, of the reference. -/
import Derived.Test.YtmkfafhgcnbcaaaStr3
namespace Go.Proofs.Ytmkfafhgcnbcaaa
set_option linter.unusedSimpArgs false
set_option linter.unusedVariables false
open Go.RowKit
attribute [local go_sem ↓] Go.wp_at_zero Go.wp_at_succ

theorem strG_rem {lv : Int} {co : Nat} {rows : List (List Int)} {t K : Nat} (hK : pu lv 256 t 1 = K) (hKp : 0 < K) (hC : 1 ≤ choose co t)
    (hr : ∀ row ∈ rows, 0 ≤ numC lv (subsAt co t ((0 : Nat) : Int)) row ∧ numC lv (subsAt co t ((0 : Nat) : Int)) row < K) (h : (rows.length : Int) % K ≠ 0) : strN lv co rows t = 0 := by
  by_cases hl : (rows.length : Int) < K
  · exact strG_small (by rw [hK]; exact hl)
  · refine strG_no (r := 0) (by push_cast; omega) ?_
    rw [hK, Int.toNat_natCast]
    by_cases he : evB lv (subsAt co t ((0 : Nat) : Int)) rows K = 0
    · exact he
    · exact absurd (evB_ne hKp hr he).1 h

set_option maxHeartbeats 8000000 in
set_option maxRecDepth 100000 in
theorem l16Index_c (lv : Int) (co : Nat) (g : Nat) (v : Value) (us : List Value) (rows : List (List Int)) (t : Nat) (w : World) (hv : RII w v us rows) (hb : BoxA w g lv co v)
    (l1 : 2 ≤ lv) (l2 : lv ≤ 16) (hco : co ≤ 8) (t1 : 1 ≤ t) (t2 : t ≤ co) (hrow : ∀ row ∈ rows, (row.length : Int) = co ∧ ∀ x ∈ row, 0 ≤ x ∧ x ≤ lv - 1) (hlen : rows.length ≤ 256) :
    Calls Try.prog 100 #[.pointer (some ⟨g, 0, none⟩), .int .i64 t] w (GivesI w (strN lv co rows t)) := by
  have hpp := pu_pos (base := lv) (lim := 256) (by omega) t (p := 1) (by omega)
  obtain ⟨K, hK⟩ := Int.eq_ofNat_of_zero_le (show 0 ≤ pu lv 256 t 1 by omega)
  have hKp : 0 < K := by omega
  have HK := Lib.hid hK
  have Hrow := Lib.hid hrow
  have hb0 := hb.1
  have hb2 := hb.2.2
  have hln := hv.len
  have hcnt := fun W => l16Count_c lv t W (by omega) (by omega) (by omega) (by omega)
  rw [cnt_pu _ _ (by omega), Int.toNat_natCast, hK] at hcnt
  have Hcnt := fun W => Lib.hid (hcnt W)
  clear hrow hK hpp hcnt
  by_cases hbig : 256 < (K : Int)
  · rw [if_pos hbig] at Hcnt
    have HB := Lib.hid (strG_small (co := co) (show (rows.length : Int) < pu lv 256 t 1 by rw [HK.out]; omega))
    go_enter Try.func100, Try.ntmps100
    go_wp2_with fail
    refine (Hcnt _).out.mono ?_
    rintro e w1 ⟨rfl, rfl⟩
    go_wp2_with fail
    go_ret
    exact ⟨ret_i64 HB.out.symm, St.refl _⟩
  · rw [if_neg hbig] at Hcnt
    have HP := Lib.hid (show (K : Int) = lv ^ t by
      have := pu_pow (base := lv) (lim := 256) (by omega) t 1 (by omega) (by rw [HK.out]; omega)
      rw [HK.out, Int.one_mul] at this; exact this)
    have HC := choose_bd co t
    have HCp := Lib.hid (choose_pos (n := co) (k := t) (by omega) (by omega) (by omega) (by omega))
    have Hsub : Hid (∀ r : Nat, (r : Int) < choose co t → (subsAt co t r).length = t ∧ (∀ c ∈ subsAt co t r, 0 ≤ c ∧ c < co) ∧ nxtV co (subsAt co t r) = if ((r + 1 : Nat) : Int) < choose co t then some (subL co t (r + 1)) else none) := fun r hr => subs_ok hco t1 t2 hr
    have Hnum : Hid (∀ r : Nat, (r : Int) < choose co t → ∀ row ∈ rows, 0 ≤ numC lv (subsAt co t r) row ∧ numC lv (subsAt co t r) row < K) := by
      intro r hr row hrw
      have s0 := Hsub.out r hr
      have h1 := Hrow.out row hrw
      have := numC_lt l1 (cols := subsAt co t r) (row := row) (fun c hc => by have := s0.2.1 c hc; omega) h1.2
      rw [s0.1, ← HP.out] at this
      exact this
    by_cases hz : rows.length = 0
    · have HB := Lib.hid (strG_small (co := co) (show (rows.length : Int) < pu lv 256 t 1 by rw [HK.out]; omega))
      have hz' : ((rows.length : Int) == 0) = true := eq_t (by omega)
      have Hz := Lib.hid hz; clear hz
      go_enter Try.func100, Try.ntmps100
      go_wp2_with fail
      refine (Hcnt _).out.mono ?_
      rintro e w1 ⟨rfl, rfl⟩
      go_wp2_with fail
      go_ret
      exact ⟨ret_i64 HB.out.symm, St.refl _⟩
    · have hz' : ((rows.length : Int) == 0) = false := eq_f (by omega)
      by_cases hm : (rows.length : Int) % K = 0
      · have hm' : ((rows.length : Int) % K != 0) = false := ne_f hm
        have Hm := Lib.hid hm; clear hm
        have hq0 : 0 ≤ (rows.length : Int) / K := Int.ediv_nonneg (by omega) (by omega)
        have hq1 : (rows.length : Int) / K ≤ 256 := by have := Int.ediv_le_self (K : Int) (show 0 ≤ (rows.length : Int) by omega); omega
        have hb1 := hb.2.1
        go_enter Try.func100, Try.ntmps100
        go_wp2_with fail
        refine (Hcnt _).out.mono ?_
        rintro e w1 ⟨rfl, rfl⟩
        go_wp2_with fail
        generalize hQ : (rows.length : Int) / K = Q at hq0 hq1 ⊢
        have HQ := Lib.hid hQ
        clear hQ hz' hm'
        go_loopw [7, 8, 9, 10, 11, 12, 13] (fun rk _ _ _ _ _ _ wr => ∃ r : Nat, (r : Int) ≤ choose co t ∧ rk = .int .i64 r ∧ Hid (∀ r' : Nat, r' < r → evB lv (subsAt co t r') rows K ≠ 0) ∧ St w.heap.size w wr []) (fun rk _ _ _ _ _ _ _ => (choose co t - intOf rk).toNat)
        case atStart => exact ⟨0, by omega, rfl, fun r' h => by omega, St.refl _⟩
        case round =>
          obtain ⟨r, hr, rfl, hI, hS⟩ := hrel
          have hbw := hS.oldBox hb
          have c0 := hbw.1
          have c1 := hbw.2.1
          have c2 := hbw.2.2
          obtain ⟨C0, C1⟩ := HC
          by_cases hlt : (r : Int) < choose co t
          · have Hcl := fun W => Lib.hid (sChoose_c co t W)
            have Hsb := fun W => Lib.hid (l01Subset_c co t r W (by omega) (by omega) (by omega) (by omega) (by omega) (by omega))
            have Hlt := Lib.hid hlt
            go_wp2_with fail
            refine (Hcl _).out.mono ?_
            rintro e w1 ⟨rfl, rfl⟩
            go_wp2_with fail
            refine (Hsb _).out.mono ?_
            rintro e w2 ⟨vs, rfl, h2⟩
            have hS1 := hS.call h2
            simp only [List.nil_append] at hS1
            obtain ⟨s1, s2, _⟩ := Hsub.out r hlt
            have Hs1 := Lib.hid s1
            have Hs2 := Lib.hid s2
            have Hev := Lib.hid (Hnum.out r hlt)
            generalize hS' : subsAt co t r = cols at hS1 Hs1 Hs2 Hev
            have HcolsE := Lib.hid hS'
            have HKc := Lib.hid (show (K : Int) = lv ^ cols.length by rw [Hs1.out]; exact HP.out)
            have hcl : cols.length ≤ 8 := by have := Hs1.out; omega
            clear hS h2 s1 s2 hbw c0 c1 c2 hS' Hsb
            go_wp2_with (at_make; refine mkI hS1 rfl _ _ rfl _ _ K rfl rfl (by omega) ?_; intro v1 w3 hS2)
            simp only [List.cons_append, List.nil_append] at hS2
            rw [← cts_nil lv cols K] at hS2
            clear hS1
            go_wp2_with fail
            go_loopw [10, 11, 12] (fun i _ _ wx => ∃ k : Nat, k ≤ rows.length ∧ i = .int .i64 k ∧ St w.heap.size w wx [row 2 vs (iv cols), row 2 v1 (iv (cts lv cols (rows.take k) K))]) (fun i _ _ _ => rows.length - (intOf i).toNat)
            case atStart => exact ⟨0, by omega, rfl, hS2⟩
            case round =>
              obtain ⟨k, hk, rfl, hS⟩ := hrel
              have hbw := hS.oldBox hb
              have c2 := hbw.2.2
              by_cases hlk : k < rows.length
              · have Hr := Lib.hid (Hrow.out _ (xat_mem hlk))
                have Hc := Lib.hid (show ∀ c ∈ cols, 0 ≤ c ∧ c < (xat rows k).length from fun c hm => by have := Hs2.out c hm; have := Hr.out.1; omega)
                go_wp2_with fail
                go_loopw [11, 12] (fun n j wx => ∃ q : Nat, q ≤ cols.length ∧ j = .int .i64 q ∧ n = .int .i64 (numC lv (cols.take q) (xat rows k)) ∧ St w.heap.size w wx [row 2 vs (iv cols), row 2 v1 (iv (cts lv cols (rows.take k) K))]) (fun _ j _ => cols.length - (intOf j).toNat)
                case atStart => exact ⟨0, by omega, rfl, rfl, hS⟩
                case round =>
                  obtain ⟨q, hq, rfl, rfl, hS⟩ := hrel
                  have hrc := hS.rdI 0 rfl
                  have hlc := hrc.len
                  by_cases hlq : q < cols.length
                  · obtain ⟨m0, m1, m2, m3, m4⟩ := numC_step l1 l2 hcl Hc.out Hr.out.2 hlq
                    have hcc := Hc.out _ (nth_mem hlq)
                    obtain ⟨p0, p1⟩ := hcc
                    have hck := fun s : SS w.heap.size w [row 2 vs (iv cols), row 2 v1 (iv (cts lv cols (rows.take k) K))] => (s.st.oldII hv).cell k hlk
                    have hb0' := fun s : SS w.heap.size w [row 2 vs (iv cols), row 2 v1 (iv (cts lv cols (rows.take k) K))] => (s.st.oldBox hb).1
                    have hb2' := fun s : SS w.heap.size w [row 2 vs (iv cols), row 2 v1 (iv (cts lv cols (rows.take k) K))] => (s.st.oldBox hb).2.2
                    have hiv := hv.ixe (k : Int) k rfl hlk
                    have hx0 := hrc.ixe (q : Int) q rfl hlq
                    have hx1 := (hv.row k hlk).ixe (nth cols q) (nth cols q).toNat (by omega) (by omega)
                    have hcq := fun s : SS w.heap.size w [row 2 vs (iv cols), row 2 v1 (iv (cts lv cols (rows.take k) K))] => (s.st.rdI 0 rfl).cell q hlq
                    have hq2 := fun s : SS w.heap.size w [row 2 vs (iv cols), row 2 v1 (iv (cts lv cols (rows.take k) K))] => (s.st.oldI (hv.row k hlk)).cell (nth cols q).toNat (by omega)
                    have hst := Lib.hid (numC_snoc lv (row := xat rows k) hlq)
                    go_wp2_with fail
                    have hne : Nonempty (SS _ _ _) := ⟨⟨_, hS⟩⟩
                    refine wp_region_st (by kernel_rfl) (by kernel_rfl) hS ?_
                    repeat (go_big_quiet_step (fail))
                    refine wpQuiet_nil ?_
                    rintro _ ⟨s2, rfl⟩
                    have hS5 := s2.st
                    generalize s2.w = w5 at hS5 ⊢
                    go_wp2_with fail
                    go_roundw
                    case rel => exact ⟨q + 1, by omega, by go_num, by rw [hst.out], hS5⟩
                    case measure => simp [intOf]; omega
                  · obtain rfl : q = cols.length := by omega
                    rw [List.take_length]
                    have hn := numC_lt l1 Hc.out Hr.out.2
                    rw [← HKc.out] at hn
                    obtain ⟨p, hp⟩ := Int.eq_ofNat_of_zero_le hn.1
                    have Hp := Lib.hid hp
                    rw [hp] at hn ⊢
                    have hpK : p < K := by omega
                    clear hn hp
                    have hx1 := (hS.rdI 1 rfl).ixe (p : Int) p rfl (by rw [cts_len]; exact hpK)
                    have hcp := (hS.rdI 1 rfl).cell p (by rw [cts_len]; exact hpK)
                    have hbb := cntR_bd lv cols (rows.take k) p
                    have e0 : nth (cts lv cols (rows.take k) K) p = cntR lv cols (rows.take k) p := pn_cts hpK
                    rw [← e0, List.length_take] at hbb
                    obtain ⟨b0, b1⟩ := hbb
                    have hset := Lib.hid (cts_snoc (rows := rows.take k) Hp.out hpK)
                    have HL := Lib.hid (show p < (cts lv cols (rows.take k) K).length by rw [cts_len]; exact hpK)
                    have b2 : nth (cts lv cols (rows.take k) K) p ≤ 256 := by omega
                    clear e0 b1
                    go_wp2_with (refine stoI hS 1 rfl p HL.out rfl (.tmp 106) (.tmp 105) rfl rfl _ rfl ?_; intro w6 hS6)
                    go_roundw
                    case rel => exact ⟨k + 1, by omega, by go_num, by rw [take_xat hlk, hset.out]; exact hS6⟩
                    case measure => simp [intOf]; omega
              · obtain rfl : k = rows.length := by omega
                rw [List.take_length] at hS
                have hr3 := hS.rdI 1 rfl
                have hix3 := hr3.ix
                rw [cts_len] at hix3
                go_wp2_with fail
                go_loopw [13] (fun i wx => ∃ j : Nat, j ≤ K ∧ i = .int .i64 j ∧ Hid (∀ m, m < j → cntR lv cols rows m = Q) ∧ wx = wr) (fun i _ => K - (intOf i).toNat)
                case atStart => exact ⟨0, by omega, rfl, fun m hm => by omega, rfl⟩
                case round =>
                  obtain ⟨j, hj, rfl, hJ, rfl⟩ := hrel
                  by_cases hlj : j < K
                  · have cj := hr3.cell j (by rw [cts_len]; exact hlj)
                    rw [show nth (cts lv cols rows K) j = cntR lv cols rows j from pn_cts hlj] at cj
                    by_cases he : cntR lv cols rows j = Q
                    · have f1 := ne_f he
                      have HE := Lib.hid he; clear he
                      go_wp2_with fail
                      go_roundw
                      case rel => exact ⟨j + 1, by omega, by go_num, fun m hm => by
                        by_cases e : m = j
                        · subst e; exact HE.out
                        · exact hJ.out m (by omega), by first | rfl | trivial⟩
                      case measure => simp [intOf]; omega
                    · have f1 := ne_t he
                      have HE := Lib.hid he; clear he
                      go_wp2_with fail
                      go_ret
                      refine ⟨ret_i64 ?_, hS.out⟩
                      refine (strG_no Hlt.out ?_).symm
                      rw [HK.out, Int.toNat_natCast, HcolsE.out]
                      by_cases h0 : evB lv cols rows K = 0
                      · exact h0
                      · exact absurd ((evB_ne hKp Hev.out h0).2.2 j hlj) (by rw [HQ.out]; exact HE.out)
                  · obtain rfl : j = K := by omega
                    go_wp2_with fail
                    go_roundw
                    case rel =>
                      refine ⟨r + 1, by omega, by go_num, ?_, hS.out⟩
                      intro r' hr'
                      by_cases e : r' = r
                      · subst e
                        rw [HcolsE.out]
                        refine evB_eq hKp ?_ (fun m hm => by rw [HQ.out]; exact hJ.out m hm)
                        by_cases h9 : (rows.length : Int) < j
                        · exfalso
                          have e1 : (rows.length : Int) % j = rows.length := Int.emod_eq_of_lt (by omega) h9
                          have := Hm.out
                          omega
                        · omega
                      · exact hI.out r' (by omega)
                    case measure => simp [intOf]; omega
          · have Hcl := fun W => Lib.hid (sChoose_c co t W)
            have Hlt := Lib.hid hlt
            go_wp2_with fail
            refine (Hcl _).out.mono ?_
            rintro e w1 ⟨rfl, rfl⟩
            go_wp2_with fail
            go_ret
            have hall : ∀ r' : Nat, (r' : Int) < choose co t → evB lv (subsAt co t r') rows K ≠ 0 := fun r' h' => hI.out r' (by have := Hlt.out; omega)
            refine ⟨ret_i64 ?_, hS⟩
            have hns : ¬ (rows.length : Int) < pu lv 256 t 1 := by
              rw [HK.out]
              intro h9
              have e1 : (rows.length : Int) % K = rows.length := Int.emod_eq_of_lt (by omega) h9
              have := Hm.out
              omega
            rw [strG_yes hns (by rw [HK.out]; exact hall), HK.out, HQ.out]
      · have hm' : ((rows.length : Int) % K != 0) = true := ne_t hm
        have HB := Lib.hid (strG_rem HK.out hKp HCp.out (Hnum.out 0 (by have := HCp.out; push_cast; omega)) hm)
        clear hm
        go_enter Try.func100, Try.ntmps100
        go_wp2_with fail
        refine (Hcnt _).out.mono ?_
        rintro e w1 ⟨rfl, rfl⟩
        go_wp2_with fail
        go_ret
        exact ⟨ret_i64 HB.out.symm, St.refl _⟩
end Go.Proofs.Ytmkfafhgcnbcaaa
