/- The law FnConjugates, walked. -/
import Derived.Test.YtpfgbbbjldpnnaaCon1
import Derived.Test.YtpfgbbbjldpnnaaEqs
namespace Go.Proofs.Ytpfgbbbjldpnnaa
set_option linter.unusedSimpArgs false
set_option linter.unusedVariables false
open Go.RowKit
attribute [local go_sem ↓] Go.wp_at_zero Go.wp_at_succ

theorem b10Square_c (v : Value) (us : List Value) (A : List (List Int)) (w : World) (hv : RII w v us A) (hq : Sqr A.length A) : Calls Try.prog 28 #[v, .int .i64 A.length] w (GivesB w true) := by
  have hln := hv.len
  have hix := hv.ixe
  have hle := hv.le
  have f0 : ((A.length : Int) != (A.length : Int)) = false := ne_f rfl
  go_enter Try.func28, Try.ntmps28
  go_wp2_with fail
  go_loopw [5] (fun i wr => ∃ k : Nat, k ≤ A.length ∧ i = .int .i64 k ∧ wr = w) (fun i _ => A.length - (intOf i).toNat)
  case atStart => exact ⟨0, by omega, rfl, rfl⟩
  case round =>
    obtain ⟨k, hk, rfl, rfl⟩ := hrel
    by_cases hlt : k < A.length
    · have ck := hv.cell k hlt
      have hxk := hix (k : Int) k rfl hlt
      have hrl := (hv.row k hlt).len
      rw [hq.row k hlt] at hrl
      go_wp2_with fail
      go_roundw
      case rel => exact ⟨k + 1, by omega, by go_num, by trivial⟩
      case measure => simp [intOf]; omega
    · go_wp2_with fail
      go_ret
      exact ⟨rfl, St.refl _⟩
set_option maxHeartbeats 16000000 in
set_option maxRecDepth 100000 in
theorem FnConjugates_law (w : World) (cv : Value) (bs : List UInt8) (cm : Value) (ms : List UInt8) (hb : RdB w cv bs) (hm : RdB w cm ms) :
    Calls Try.prog 5 #[cv, cm] w (GivesB w true) := by
  by_cases hlong : 1048576 < bs.length ∨ 1048576 < ms.length
  · by_cases h1 : 1048576 < bs.length
    · have hl' : decide (1048576 < bs.length) = true := by simpa using h1
      go_enter Try.func5, Try.ntmps5
      go_wp2_with fail
      refine (b10Long_c w cv bs hb).mono ?_
      rw [hl']
      rintro e w1 ⟨rfl, rfl⟩
      go_wp2_with fail
      go_ret
      exact ⟨rfl, St.refl _⟩
    · have hl' : decide (1048576 < bs.length) = false := by simpa using h1
      have hl2 : decide (1048576 < ms.length) = true := by simp; omega
      go_enter Try.func5, Try.ntmps5
      go_wp2_with fail
      refine (b10Long_c w cv bs hb).mono ?_
      rw [hl']
      rintro e w1 ⟨rfl, rfl⟩
      go_wp2_with (go_at_call 9; refine (b10Long_c w cm ms hm).mono ?_; rw [hl2]; rintro e w1 ⟨rfl, rfl⟩)
      go_ret
      exact ⟨rfl, St.refl _⟩
  · have hl' : decide (1048576 < bs.length) = false := by simp; omega
    have hl2 : decide (1048576 < ms.length) = false := by simp; omega
    go_enter Try.func5, Try.ntmps5
    go_wp2_with fail
    refine (b10Long_c w cv bs hb).mono ?_
    rw [hl']
    rintro e w1 ⟨rfl, rfl⟩
    go_wp2_with (go_at_call 9; refine (b10Long_c w cm ms hm).mono ?_; rw [hl2]; rintro e w1 ⟨rfl, rfl⟩)
    refine (DrawConjugate_c w cv bs hb).mono ?_
    rintro e w1 ⟨v, us, A, kd, rfl, hA, hl, kd0, kd1, h1⟩
    have rA := h1.rii hl
    have rm := hm.keep h1.below
    have hT0 := h1.out
    have hA10 := hA.len
    have HN := Lib.hid (show ∀ x, x < A.length → (xat A x).length ≤ 1048576 from fun x hx => by have := hA.row x hx; omega)
    have hln := rA.len
    clear h1 hA hl
    have KS := fun W a => Lib.hid (sValidSquare_c v us A W a)
    cases hL : latB A
    · have K1 := fun W a => Lib.hid (Conjugate_no1 v us A kd W a HN.out hL)
      rw [hL] at KS
      clear hL
      go_wp2_with fail
      refine (K1 _ rA).out.mono ?_
      rintro e w2 ⟨vb, ub, rfl, hlb, h2⟩
      have rA := rA.keep h2.below
      have hT1 := hT0.call0 h2.out
      clear hlb h2
      go_wp2_with fail
      refine (KS _ rA).out.mono ?_
      rintro e w3 ⟨rfl, h3⟩
      have hT2 := hT1.call0 h3
      go_wp2_with fail
      go_ret
      exact ⟨rfl, hT2⟩
    · rw [hL] at KS
      by_cases hkd : kd < 0 ∨ 5 < kd
      · have K1 := fun W a => Lib.hid (Conjugate_no2 v us A kd W a hL hkd)
        clear hL
        by_cases hk0 : kd < 0
        · clear hkd
          go_wp2_with fail
          refine (K1 _ rA).out.mono ?_
          rintro e w2 ⟨vb, ub, rfl, hlb, h2⟩
          have rA := rA.keep h2.below
          have hT1 := hT0.call0 h2.out
          clear hlb h2
          go_wp2_with fail
          refine (KS _ rA).out.mono ?_
          rintro e w3 ⟨rfl, h3⟩
          have hT2 := hT1.call0 h3
          go_wp2_with fail
          go_ret
          exact ⟨rfl, hT2⟩
        · have hk5 : 5 < kd := by omega
          clear hkd
          go_wp2_with fail
          refine (K1 _ rA).out.mono ?_
          rintro e w2 ⟨vb, ub, rfl, hlb, h2⟩
          have rA := rA.keep h2.below
          have hT1 := hT0.call0 h2.out
          clear hlb h2
          go_wp2_with fail
          refine (KS _ rA).out.mono ?_
          rintro e w3 ⟨rfl, h3⟩
          have hT2 := hT1.call0 h3
          go_wp2_with fail
          go_ret
          exact ⟨rfl, hT2⟩
      · obtain ⟨p, pp, p3, hpk⟩ := prm3 (k := kd) (by omega) (by omega)
        have HL := Lib.hid (latB_t hL)
        have n1 := HL.out.pos
        have K1 := fun W a => Lib.hid (Conjugate_c v us A p W a hL pp p3)
        rw [hpk] at K1
        have K3 := fun W => Lib.hid (Unrank_c p W pp (by omega))
        rw [hpk, p3] at K3
        rw [show ((3 : Nat) : Int) = 3 from rfl] at K3
        have KT := fun W a => Lib.hid (Conjugate_c v us A [1, 0, 2] W a hL isP102 rfl)
        rw [show ((rkL [1, 0, 2] : Nat) : Int) = 2 from by decide] at KT
        have HP := Lib.hid (And.intro pp p3)
        clear hL hkd hpk pp p3 KS
        go_wp2_with fail
        refine (K1 _ rA).out.mono ?_
        rintro e w2 ⟨vb, ub, B, rfl, hB, hlb, h2⟩
        have rA := rA.keep h2.below
        have rm := rm.keep h2.below
        have rB := h2.rii hlb
        have hT1 := hT0.call0 h2.out
        have HB := Lib.hid hB
        have HLB := Lib.hid (hB.lat HL.out HP.out.1 HP.out.2)
        have HBn := Lib.hid hB.sqr.len
        clear hB hlb h2 hT0 K1
        go_wp2_with fail
        refine (b10At_c _ cm ms 0 6 rm (by omega) (by omega) (by omega)).mono ?_
        rintro e w3 ⟨sd, rfl, s0, s1, rfl⟩
        obtain ⟨q, qp, q3, hqk⟩ := prm3 (k := sd) (by omega) (by omega)
        have K2 := fun W a => Lib.hid (Conjugate_c vb ub B q W a (latB_yes HLB.out) qp q3)
        rw [hqk] at K2
        have K4 := fun W => Lib.hid (Unrank_c q W qp (by omega))
        rw [hqk, q3] at K4
        rw [show ((3 : Nat) : Int) = 3 from rfl] at K4
        have C1 := cmC_0 (xs := q) (ys := p) (pvB_yes (by omega) qp) (pvB_yes (by have := HP.out.2; omega) HP.out.1) (by rw [q3, HP.out.2])
        have K5 := fun W vq vp a b => Lib.hid (Compose_c vq vp q p W a b (by omega) (by have := HP.out.2; omega))
        rw [C1, cmV_yes C1] at K5
        have cp : IsP (cmpL q p) := qp.cmp HP.out.1 (by rw [q3, HP.out.2])
        have c3 : (cmpL q p).length = 3 := by rw [cmpL_len]; exact q3
        have K6 := fun W vqp a => Lib.hid (Rank_yes vqp (cmpL q p) W a (pvB_yes (by omega) cp) (by omega))
        have K7 := fun W a => Lib.hid (Conjugate_c v us A (cmpL q p) W a (latB_yes HL.out) cp c3)
        have HQ := Lib.hid (And.intro qp q3)
        have HC := Lib.hid (And.intro cp c3)
        generalize ((rkL (cmpL q p) : Nat) : Int) = rk at *
        clear hqk qp q3 C1 cp c3 s0 s1
        go_wp2_with fail
        refine (K2 _ rB).out.mono ?_
        rintro e w4 ⟨vc, uc, C, rfl, hC, hlc, h4⟩
        have rA := rA.keep h4.below
        have rm := rm.keep h4.below
        have rB := rB.keep h4.below
        have rC := h4.rii hlc
        have hT2 := hT1.call0 h4.out
        have HC' := Lib.hid (HB.out.comp HL.out HP.out.1 HQ.out.1 HP.out.2 HQ.out.2 hC)
        clear hC hlc h4 hT1 K2
        go_wp2_with fail
        refine (K3 _).out.mono ?_
        rintro e w5 ⟨vp, rfl, h5⟩
        have rA := rA.keep h5.below
        have rm := rm.keep h5.below
        have rB := rB.keep h5.below
        have rC := rC.keep h5.below
        have rp := h5.rdI 0 rfl
        have hT3 := hT2.call0 h5.out
        clear h5 hT2 K3
        go_wp2_with fail
        refine (K4 _).out.mono ?_
        rintro e w6 ⟨vq, rfl, h6⟩
        have rA := rA.keep h6.below
        have rm := rm.keep h6.below
        have rB := rB.keep h6.below
        have rC := rC.keep h6.below
        have rp := rp.keep h6.below
        have rq := h6.rdI 0 rfl
        have hT4 := hT3.call0 h6.out
        clear h6 hT3 K4
        go_wp2_with fail
        refine (K5 _ _ _ rq rp).out.mono ?_
        rintro e w7 ⟨vqp, rfl, h7⟩
        have rA := rA.keep h7.below
        have rm := rm.keep h7.below
        have rB := rB.keep h7.below
        have rC := rC.keep h7.below
        have rqp := h7.rdI 0 rfl
        have hT5 := hT4.call0 h7.out
        clear h7 hT4 K5 rq rp
        go_wp2_with fail
        refine (K6 _ _ rqp).out.mono ?_
        rintro e w8 ⟨rfl, h8⟩
        have rA := rA.keep h8.below
        have rm := rm.keep h8.below
        have rB := rB.keep h8.below
        have rC := rC.keep h8.below
        have hT6 := hT5.call0 h8
        clear h8 hT5 K6 rqp
        go_wp2_with fail
        refine (K7 _ rA).out.mono ?_
        rintro e w9 ⟨vd, ud, D, rfl, hD, hld, h9⟩
        have rA := rA.keep h9.below
        have rm := rm.keep h9.below
        have rB := rB.keep h9.below
        have rC := rC.keep h9.below
        have rD := h9.rii hld
        have hT7 := hT6.call0 h9.out
        have hCD := HC'.out.uniq HL.out HC.out.1 HC.out.2 hD
        rw [← hCD] at rD
        clear hD hld h9 hT6 K7 hCD
        go_wp2_with fail
        refine (KT _ rA).out.mono ?_
        rintro e w10 ⟨vt, ut, T, rfl, hT, hlt, h10⟩
        have rA := rA.keep h10.below
        have rm := rm.keep h10.below
        have rB := rB.keep h10.below
        have rC := rC.keep h10.below
        have rD := rD.keep h10.below
        have rT := h10.rii hlt
        have hT8 := hT7.call0 h10.out
        have hTn := hT.sqr.len
        have KQ := fun W a => Lib.hid (b10Square_c vt ut T W a (by rw [hTn]; exact hT.sqr))
        rw [hTn] at KQ
        have HT := Lib.hid hT
        have HTn := Lib.hid hTn
        clear hT hlt h10 hT7 KT hTn
        go_wp2_with (go_at_call 28; refine (KQ _ rT).out.mono ?_; rintro e w11 ⟨rfl, h11⟩; have rA := rA.keep h11.below; have rm := rm.keep h11.below; have rB := rB.keep h11.below; have rC := rC.keep h11.below; have rD := rD.keep h11.below; have rT := rT.keep h11.below; have hT9 := hT8.call0 h11; clear h11 hT8 KQ)
        refine (b10At_c _ cm ms 1 A.length rm (by omega) (by omega) (by omega)).mono ?_
        rintro e w12 ⟨x, rfl, x0, x1, rfl⟩
        obtain ⟨x, rfl⟩ := Int.eq_ofNat_of_zero_le x0
        have hxn : x < A.length := by omega
        clear x0 x1
        go_wp2_with fail
        refine (b10At_c _ cm ms 2 A.length rm (by omega) (by omega) (by omega)).mono ?_
        rintro e w13 ⟨y, rfl, y0, y1, rfl⟩
        obtain ⟨y, rfl⟩ := Int.eq_ofNat_of_zero_le y0
        have hyn : y < A.length := by omega
        clear y0 y1
        have htr := HT.out.tr HL.out hxn hyn
        have hyT : y < T.length := by rw [HTn.out]; exact hyn
        have hxr : (xat T y).length = A.length := HT.out.sqr.row y hyn
        have hS := St.refl w11
        have g1 : ∀ s : SS w11.heap.size w11 [], s.w.cell? (el vt y) = some (vat ut y) := fun s => (s.st.oldII rT).cell y hyT
        have g2 : ∀ s : SS w11.heap.size w11 [], s.w.cell? (el (vat ut y) x) = some (.int .i64 (at2 A x y)) := fun s => by
          rw [← htr]; exact ((s.st.oldII rT).row y hyT).cell x (by rw [hxr]; exact hxn)
        have g3 : ∀ s : SS w11.heap.size w11 [], s.w.cell? (el v x) = some (vat us x) := fun s => (s.st.oldII rA).cell x hxn
        have g4 : ∀ s : SS w11.heap.size w11 [], s.w.cell? (el (vat us x) y) = some (.int .i64 (at2 A x y)) := fun s => ((s.st.oldII rA).row x hxn).cell y (by rw [HL.out.len x hxn]; exact hyn)
        have i1 := rT.ixe (y : Int) y rfl hyT
        have i2 := (rT.row y hyT).ixe (x : Int) x rfl (by rw [hxr]; exact hxn)
        have i3 := rA.ixe (x : Int) x rfl hxn
        have i4 := (rA.row x hxn).ixe (y : Int) y rfl (by rw [HL.out.len x hxn]; exact hyn)
        have KV := fun s : SS w11.heap.size w11 [] => Lib.hid (ValidSquare_c vb ub B s.w (s.st.oldII rB) (fun x hx => by rw [HLB.out.len x hx, HBn.out]; omega))
        rw [latB_yes HLB.out] at KV
        have KL := fun s : SS w11.heap.size w11 [] => Lib.hid (b10Lists_c vc vd uc ud C C s.w (s.st.oldII rC) (s.st.oldII rD))
        rw [show decide (C = C) = true from decide_eq_true rfl] at KL
        generalize at2 A x y = z at *
        have f0 : (z == z) = true := eq_t rfl
        clear htr hyT hxr rA rB rC rD rT rm
        go_wp2_with fail
        have hne : Nonempty (SS _ _ _) := ⟨⟨_, hS⟩⟩
        refine wp_region_st (by kernel_rfl) (by kernel_rfl) hS ?_
        repeat (go_big_quiet_step ((first | (go_at_call 23; exact st_quiet (KV _).out) | (go_at_call 24; exact st_quiet (KL _).out))))
        refine wpQuiet_nil ?_
        rintro _ ⟨s2, rfl⟩
        have hS2 := s2.st
        generalize s2.w = w14 at hS2 ⊢
        have hT10 := hT9.call0 hS2
        go_wp2_with fail
        go_ret
        exact ⟨rfl, hT10⟩
end Go.Proofs.Ytpfgbbbjldpnnaa
