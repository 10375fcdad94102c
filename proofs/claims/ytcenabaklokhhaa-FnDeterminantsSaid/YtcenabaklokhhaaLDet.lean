/- The law FnDeterminants, walked. -/
import Derived.Test.YtcenabaklokhhaaV8b
import Derived.Test.YtcenabaklokhhaaEqs8
import Derived.Test.YtcenabaklokhhaaFlm
namespace Go.Proofs.Ytcenabaklokhhaa
set_option linter.unusedSimpArgs false
set_option linter.unusedVariables false
open Go.RowKit
attribute [local go_sem ↓] Go.wp_at_zero Go.wp_at_succ

theorem nth_idL {n i j : Nat} (hi : i < n) (hj : j < n) : nth (xat (idL n) i) j = if i = j then 1 else 0 := by
  rw [xat_idL hi, nth_tab hj]
theorem idL_row {n i : Nat} (hi : i < n) : (xat (idL n) i).length = n := by rw [xat_idL hi, tab_len]

set_option maxHeartbeats 8000000 in
set_option maxRecDepth 100000 in
theorem FnDeterminants_law (w : World) (cv : Value) (bs : List UInt8) (hb : RdB w cv bs) :
    Calls Try.prog 3 #[cv] w (GivesB w true) := by
  have hlb := hb.len
  by_cases hlong : 1048576 < bs.length
  · go_enter Try.func3, Try.ntmps3
    go_wp2_with fail
    go_ret
    exact ⟨rfl, St.refl _⟩
  · go_enter Try.func3, Try.ntmps3
    go_wp2_with fail
    refine (V8Sides_c w cv bs hb).mono ?_
    rintro e w1 ⟨p, D, n, v, fs, va, ua, A, vb, ub, B, rfl, hf, n1, n4, hla, hna, hA, hlb', hnb, hB, h1⟩
    have DL := detLaw hf hA hB hna hnb n1 (by omega)
    have HL := Lib.hid (⟨hla, hlb'⟩ : ua.length = A.length ∧ ub.length = B.length)
    have HF := Lib.hid hf
    have hd : (D : Int) ≤ 9223372036854775807 := by have := hf.d6; omega
    obtain ⟨av, cv', rfl⟩ := (h1.rdI _ (at_app (at_app (i := 0) rfl))).shp'
    have KD := fun W vm um R hv hm => Lib.hid (DeterminantOf_c p D (.slice av fs.length cv') fs vm um R W hv hm hd)
    have KM := fun W vx ux X vy uy Y hv hx hy => Lib.hid (MatrixMul_c p D (.slice av fs.length cv') fs vx ux X vy uy Y W hv hx hy hd)
    have KR := fun W vm um R hv hm => Lib.hid (RankOf_c p D (.slice av fs.length cv') fs vm um R W hv hm hd)
    have KI := fun W vm um R hv hm => Lib.hid (InverseMatrix_c p D (.slice av fs.length cv') fs vm um R W hv hm hd)
    obtain ⟨cA, cB, cP, cPd, cR, mul, elA, elB, rk, no, yes⟩ := DL
    have KX := fun W hv => Lib.hid (sFieldMul_c p D (.slice av fs.length cv') fs (detM p D fs A) (detM p D fs B) W hv hf elA elB)
    have KDA := fun W vm um hv hm => KD W vm um A hv hm
    have KDB := fun W vm um hv hm => KD W vm um B hv hm
    have KDP := fun W vm um hv hm => KD W vm um (mulM p D fs A B) hv hm
    have KMP := fun W vx ux vy uy hv hx hy => KM W vx ux A vy uy B hv hx hy
    have KRA := fun W vm um hv hm => KR W vm um A hv hm
    have KIA := fun W vm um hv hm => KI W vm um A hv hm
    have KM1 := fun W vx ux vy uy hv hx hy => KM W vx ux A vy uy (invM p D fs A) hv hx hy
    have KM2 := fun W vx ux vy uy hv hx hy => KM W vx ux (invM p D fs A) vy uy A hv hx hy
    clear KD KM KR KI
    rw [cA] at KDA
    rw [cB] at KDB
    rw [cPd, mul] at KDP
    rw [cP] at KMP
    rw [cR] at KRA
    clear cA cB cPd cP cR mul elA elB hf hd hlb' hla hB hnb
    subst hna
    have hzz : (fmul p D fs (detM p D fs A) (detM p D fs B) != fmul p D fs (detM p D fs A) (detM p D fs B)) = false := by simp
    generalize fmul p D fs (detM p D fs A) (detM p D fs B) = z at *
    generalize detM p D fs B = y at *
    generalize mulM p D fs A B = P at *
    have rA := (h1.sub ((List.sublist_append_left (own2 va ua A) [row 2 (.slice av fs.length cv') (iv fs)]).trans (List.sublist_append_right _ _))).rii HL.out.1
    have rB := rii2 h1 HL.out.2
    have rf := h1.rdI _ (at_app (at_app (i := 0) rfl))
    have hT0 := (St.refl w1).newboxF 25 #[.int .i64 p, .int .i64 D, .slice av fs.length cv']
    have hend := fun w' (L : List Ent) (h : St w1.heap.size w1 w' L) => Lib.hid (h1.out.call0 h.out)
    clear HL h1
    have b0 := hT0.bcell 0 rfl 0 rfl
    have b1 := hT0.bcell 0 rfl 1 rfl
    have b2 := hT0.bcell 0 rfl 2 rfl
    by_cases hx0 : detM p D fs A = 0
    · have hi := no hx0
      have hr : (rkM p D fs A == (A.length : Int)) = false := eq_f (fun e => rk.2 e hx0)
      rw [hi] at KIA
      rw [hx0] at KDA KX
      clear no yes rk hi hx0
      unfold fv
      go_wp2_with fail
      refine (KDA _ va ua (hT0.oldI rf) (hT0.oldII rA)).out.mono ?_
      rintro e w2 ⟨rfl, h2⟩
      have hT2 := hT0.call0 h2
      clear hT0 h2
      clear b0 b1 b2
      have b0 := hT2.bcell 0 rfl 0 rfl
      have b1 := hT2.bcell 0 rfl 1 rfl
      have b2 := hT2.bcell 0 rfl 2 rfl
      go_wp2_with fail
      refine (KDB _ vb ub (hT2.oldI rf) (hT2.oldII rB)).out.mono ?_
      rintro e w3 ⟨rfl, h3⟩
      have hT3 := hT2.call0 h3
      clear hT2 h3
      clear b0 b1 b2
      have b0 := hT3.bcell 0 rfl 0 rfl
      have b1 := hT3.bcell 0 rfl 1 rfl
      have b2 := hT3.bcell 0 rfl 2 rfl
      go_wp2_with fail
      refine (KMP _ va ua vb ub (hT3.oldI rf) (hT3.oldII rA) (hT3.oldII rB)).out.mono ?_
      rintro e w4 ⟨vp, up, rfl, hlp, h4⟩
      have hT4 := hT3.call h4
      have rP := h4.rii hlp
      clear hT3 h4 hlp
      clear b0 b1 b2
      have b0 := hT4.bcell 0 rfl 0 rfl
      have b1 := hT4.bcell 0 rfl 1 rfl
      have b2 := hT4.bcell 0 rfl 2 rfl
      go_wp2_with fail
      refine (KDP _ vp up (hT4.oldI rf) rP).out.mono ?_
      rintro e w5 ⟨rfl, h5⟩
      have hT5 := hT4.call0 h5
      clear hT4 h5 rP
      clear b0 b1 b2
      have b0 := hT5.bcell 0 rfl 0 rfl
      have b1 := hT5.bcell 0 rfl 1 rfl
      have b2 := hT5.bcell 0 rfl 2 rfl
      go_wp2_with fail
      refine (KRA _ va ua (hT5.oldI rf) (hT5.oldII rA)).out.mono ?_
      rintro e w6 ⟨rfl, h6⟩
      have hT6 := hT5.call0 h6
      clear hT5 h6
      clear b0 b1 b2
      have b0 := hT6.bcell 0 rfl 0 rfl
      have b1 := hT6.bcell 0 rfl 1 rfl
      have b2 := hT6.bcell 0 rfl 2 rfl
      have hlnA := rA.len
      go_wp2_with (go_at_call 19; refine (KX _ (hT6.oldI rf)).out.mono ?_; rintro e w7 ⟨rfl, h7⟩; have hT7 := hT6.call0 h7; have b0' := hT7.bcell 0 rfl 0 rfl; have b1' := hT7.bcell 0 rfl 1 rfl; have b2' := hT7.bcell 0 rfl 2 rfl)
      clear hT6 h7 b0 b1 b2
      refine (KIA _ va ua (hT7.oldI rf) (hT7.oldII rA)).out.mono ?_
      rintro e w8 ⟨vi, ui, rfl, hli, h8⟩
      have hT8 := hT7.call h8
      go_wp2_with fail
      go_ret
      exact ⟨rfl, (hend _ _ hT8).out⟩
    · obtain ⟨y1, y2, y3, y4, y5⟩ := yes hx0
      have hr : (rkM p D fs A == (A.length : Int)) = true := eq_t (rk.1 hx0)
      have hx1 : (detM p D fs A == 0) = false := eq_f hx0
      have hx2 : (detM p D fs A != 0) = true := ne_t hx0
      rw [y1] at KIA
      rw [y2, y4] at KM1
      rw [y3, y5] at KM2
      clear no yes rk hx0 y1 y2 y3 y4 y5
      generalize detM p D fs A = x at *
      generalize invM p D fs A = R at *
      generalize rkM p D fs A = r at *
      unfold fv
      go_wp2_with fail
      refine (KDA _ va ua (hT0.oldI rf) (hT0.oldII rA)).out.mono ?_
      rintro e w2 ⟨rfl, h2⟩
      have hT2 := hT0.call0 h2
      clear hT0 h2
      clear b0 b1 b2
      have b0 := hT2.bcell 0 rfl 0 rfl
      have b1 := hT2.bcell 0 rfl 1 rfl
      have b2 := hT2.bcell 0 rfl 2 rfl
      go_wp2_with fail
      refine (KDB _ vb ub (hT2.oldI rf) (hT2.oldII rB)).out.mono ?_
      rintro e w3 ⟨rfl, h3⟩
      have hT3 := hT2.call0 h3
      clear hT2 h3
      clear b0 b1 b2
      have b0 := hT3.bcell 0 rfl 0 rfl
      have b1 := hT3.bcell 0 rfl 1 rfl
      have b2 := hT3.bcell 0 rfl 2 rfl
      go_wp2_with fail
      refine (KMP _ va ua vb ub (hT3.oldI rf) (hT3.oldII rA) (hT3.oldII rB)).out.mono ?_
      rintro e w4 ⟨vp, up, rfl, hlp, h4⟩
      have hT4 := hT3.call h4
      have rP := h4.rii hlp
      clear hT3 h4 hlp
      clear b0 b1 b2
      have b0 := hT4.bcell 0 rfl 0 rfl
      have b1 := hT4.bcell 0 rfl 1 rfl
      have b2 := hT4.bcell 0 rfl 2 rfl
      go_wp2_with fail
      refine (KDP _ vp up (hT4.oldI rf) rP).out.mono ?_
      rintro e w5 ⟨rfl, h5⟩
      have hT5 := hT4.call0 h5
      clear hT4 h5 rP
      clear b0 b1 b2
      have b0 := hT5.bcell 0 rfl 0 rfl
      have b1 := hT5.bcell 0 rfl 1 rfl
      have b2 := hT5.bcell 0 rfl 2 rfl
      go_wp2_with fail
      refine (KRA _ va ua (hT5.oldI rf) (hT5.oldII rA)).out.mono ?_
      rintro e w6 ⟨rfl, h6⟩
      have hT6 := hT5.call0 h6
      clear hT5 h6
      clear b0 b1 b2
      have b0 := hT6.bcell 0 rfl 0 rfl
      have b1 := hT6.bcell 0 rfl 1 rfl
      have b2 := hT6.bcell 0 rfl 2 rfl
      have hlnA := rA.len
      go_wp2_with (go_at_call 19; refine (KX _ (hT6.oldI rf)).out.mono ?_; rintro e w7 ⟨rfl, h7⟩; have hT7 := hT6.call0 h7; have b0' := hT7.bcell 0 rfl 0 rfl; have b1' := hT7.bcell 0 rfl 1 rfl; have b2' := hT7.bcell 0 rfl 2 rfl)
      clear hT6 h7 b0 b1 b2
      refine (KIA _ va ua (hT7.oldI rf) (hT7.oldII rA)).out.mono ?_
      rintro e w8 ⟨vi, ui, rfl, hli, h8⟩
      have hT8 := hT7.call h8
      have rI := h8.rii hli
      clear hT7 h8 hli b0' b1' b2'
      have b0 := hT8.bcell 0 rfl 0 rfl
      have b1 := hT8.bcell 0 rfl 1 rfl
      have b2 := hT8.bcell 0 rfl 2 rfl
      go_wp2_with fail
      refine (KM1 _ va ua vi ui (hT8.oldI rf) (hT8.oldII rA) rI).out.mono ?_
      rintro e w9 ⟨vo, uo, rfl, hlo, h9⟩
      have hT9 := hT8.call h9
      have rO := h9.rii hlo
      have rI := rI.keep h9.below
      clear hT8 h9 hlo
      clear b0 b1 b2
      have b0 := hT9.bcell 0 rfl 0 rfl
      have b1 := hT9.bcell 0 rfl 1 rfl
      have b2 := hT9.bcell 0 rfl 2 rfl
      go_wp2_with fail
      refine (KM2 _ vi ui va ua (hT9.oldI rf) rI (hT9.oldII rA)).out.mono ?_
      rintro e w10 ⟨vt, ut, rfl, hlt, h10⟩
      have hT10 := hT9.call h10
      have rT := h10.rii hlt
      have rO := rO.keep h10.below
      clear hT9 h10 hlt rI
      clear b0 b1 b2
      have b0 := hT10.bcell 0 rfl 0 rfl
      have b1 := hT10.bcell 0 rfl 1 rfl
      have b2 := hT10.bcell 0 rfl 2 rfl
      have hlnO := rO.len
      have hl1 : ((idL A.length).length : Int) = A.length := by rw [idL_len]
      rw [hl1] at hlnO
      clear hl1
      go_wp2_with (go_at_call 21; refine (v8Lists_c vo vt uo ut _ _ _ rO rT).mono ?_; rw [show decide (idL A.length = idL A.length) = true from decide_eq_true rfl]; rintro e w11 ⟨rfl, h11⟩; have hT11 := hT10.call0 h11; have rO' := rO.keep h11.below)
      have H7 := Lib.hid (hend _ _ hT11)
      clear hT10 h11 rO rT b0 b1 b2 hT11 hend KDA KDB KDP KMP KRA KIA KM1 KM2 KX hzz hr hx1 hx2
      have hixO := rO'.ix
      have hlen := Lib.hid (idL_len A.length)
      have hidr := fun i hi => Lib.hid (idL_row (n := A.length) (i := i) hi)
      have hidn := fun i j hi hj => Lib.hid (nth_idL (n := A.length) (i := i) (j := j) hi hj)
      have hA1 := n1
      have hlnO' := rO'.le
      rw [hlen.out] at hixO hlnO'
      have hrO := rO'.row
      have hcO := rO'.cell
      rw [hlen.out] at hcO hrO
      clear rO'
      generalize hI : idL A.length = I at *
      generalize hm : A.length = m at *
      go_loopw [22, 23] (fun a _ wr => ∃ k : Nat, k ≤ m ∧ a = .int .i64 k ∧ wr = w11) (fun a _ _ => m - (intOf a).toNat)
      case atStart => exact ⟨0, by omega, rfl, rfl⟩
      case round =>
        obtain ⟨k, hk, rfl, rfl⟩ := hrel
        by_cases hlt : k < m
        · have hck := hcO k hlt
          have hrk := hrO k hlt
          have hrl := hrk.len
          have hri := hrk.ix
          have hrc := hrk.cell
          rw [(hidr k hlt).out] at hrl hri hrc
          go_wp2_with fail
          go_loopw [23] (fun a wr' => ∃ j : Nat, j ≤ m ∧ a = .int .i64 j ∧ wr' = wr) (fun a _ => m - (intOf a).toNat)
          case atStart => exact ⟨0, by omega, rfl, rfl⟩
          case round =>
            obtain ⟨j, hj, rfl, rfl⟩ := hrel
            by_cases hlj : j < m
            · have hcj := hrc j hlj
              rw [(hidn k j hlt hlj).out] at hcj
              clear hrc
              by_cases he : k = j
              · subst he
                rw [if_pos rfl] at hcj
                have e1 : ((k : Int) != (k : Int)) = false := by simp
                have e2 : ((k : Int) == (k : Int)) = true := by simp
                go_wp2_with fail
                go_roundw
                case rel => exact ⟨k + 1, by omega, by go_num, by first | rfl | trivial⟩
                case measure => simp [intOf]; omega
              · rw [if_neg he] at hcj
                have e1 : ((k : Int) != (j : Int)) = true := ne_t (by omega)
                have e2 : ((k : Int) == (j : Int)) = false := eq_f (by omega)
                go_wp2_with fail
                go_roundw
                case rel => exact ⟨j + 1, by omega, by go_num, by first | rfl | trivial⟩
                case measure => simp [intOf]; omega
            · go_wp2_with fail
              go_roundw
              case rel => exact ⟨k + 1, by omega, by go_num, by first | rfl | trivial⟩
              case measure => simp [intOf]; omega
        · go_wp2_with fail
          go_ret
          exact ⟨rfl, H7.out.out⟩
end Go.Proofs.Ytcenabaklokhhaa
