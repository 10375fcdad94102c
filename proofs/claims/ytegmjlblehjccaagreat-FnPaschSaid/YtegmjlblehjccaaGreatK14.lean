/- The texts of this claim, run 14: LPas Prf PFnPasch. -/
import Derived.Test.YtegmjlblehjccaaGreatK4
import Derived.Test.YtegmjlblehjccaaGreatK5
import Derived.Test.YtegmjlblehjccaaGreatK12
import Derived.Test.YtegmjlblehjccaaGreatK13
import Derived.Deep.Cut
import Derived.Deep.CutRange
import Derived.ProofKit
import Derived.OpenShut
import Derived.ShutString
import Derived.ChangeOld
import Derived.Below
section
/- The law FnPasch, walked. -/
namespace Go.Proofs.YtegmjlblehjccaaGreat
set_option linter.unusedSimpArgs false
set_option linter.unusedVariables false
open Go.RowKit
attribute [local go_sem ↓] Go.wp_at_zero Go.wp_at_succ

theorem v8At_p {w : World} {v : Value} {bs : List UInt8} (hb : RdB w v bs) (n : Nat) (hn : 1 ≤ n) (k : Nat) (K : Int) (hk : K = (k : Int)) (hk2 : k ≤ 100) : Calls Tryz.prog 9 #[v, .int .i64 K, .int .i64 n] w fun e w' => ∃ j : Nat, j < n ∧ e = .returned (.int .i64 j) ∧ w = w' := by
  rw [hk]
  refine (v8At_c v bs k n w hb (by omega)).mono ?_
  rintro e w' ⟨z, z0, z1, he, hw⟩
  obtain ⟨j, rfl⟩ := Int.eq_ofNat_of_zero_le z0
  exact ⟨j, by omega, he, hw⟩
theorem mod_ne {P u z : Nat} (hu : u < P) (hz : z < P - 1) : (u + 1 + z) % P ≠ u := by
  intro e
  rcases Nat.lt_or_ge (u + 1 + z) P with h | h
  · rw [Nat.mod_eq_of_lt h] at e; omega
  · rw [Nat.mod_eq_sub_mod h, Nat.mod_eq_of_lt (by omega)] at e; omega
theorem Pas.set32 {A : List (List Int)} {q : List Int} {i j k l a b c d e f : Nat} (h : Pas A q i j k l a b c d e f) (hA : A.length ≤ 32) : incB (-1) 32 q = true :=
  incB_of (fun x hx => by
    have h1 := (h.mem x).1 hx
    have := h.li; have := h.lj; have := h.lk; have := h.ll
    omega) h.inc
def CutY (w : World) (P : Nat) (A : List (List Int)) (s17 s18 : Value) (w' : World) : Prop := ∃ (g : Nat) (v : Value) (u : List Value), s17 = .pointer (some ⟨g, 0, none⟩) ∧ s18 = .int .i64 0 ∧ RII w' v u A ∧ BoxD w' g P v ∧ St w.heap.size w w' []
theorem bk_next {A2 A : List (List Int)} {Q2 : List (List Int)} {n : Nat} (h : ∀ s, s < n → ¬ BkP A2 A (xat Q2 s)) (h2 : ¬ BkP A2 A (xat Q2 n)) : ∀ s, s < n + 1 → ¬ BkP A2 A (xat Q2 s) := fun s hs => by
  by_cases e : s = n
  · subst e; exact h2
  · exact h s (by omega)
theorem cy_bd {P : Nat} {Ls : List Int} (h : CyEnd P Ls) : ∀ k, k ≤ Ls.length → 0 ≤ sumL (Ls.take k) ∧ sumL (Ls.take k) ≤ 1000 * k
  | 0, _ => by simp [sumL]
  | k + 1, hk => by
    have ih := cy_bd h k (by omega)
    have hm := h.1 _ (nth_mem (show k < Ls.length by omega))
    rw [take_nth (show k < Ls.length by omega), sumL_snoc]
    omega
set_option maxHeartbeats 32000000 in
set_option maxRecDepth 100000 in
theorem FnPasch_law (w : World) (cv : Value) (bs : List UInt8) (cm : Value) (ms : List UInt8) (hb : RdB w cv bs) (hm : RdB w cm ms) :
    Calls Tryz.prog 3 #[cv, cm] w (GivesB w true) := by
  have KL := Lib.hid (v8Long_c cv cm bs ms w hb hm)
  by_cases hlo : (decide (1048576 < (bs.length : Int)) || decide (1048576 < (ms.length : Int))) = true
  · rw [hlo] at KL
    clear hlo
    go_enter Tryz.func3, Tryz.ntmps3
    go_wp2_with (go_at_call 6; refine KL.out.mono ?_; rintro e w2 ⟨rfl, rfl⟩)
    go_ret
    exact ⟨rfl, St.refl _⟩
  · rw [Bool.not_eq_true] at hlo
    rw [hlo] at KL
    clear hlo
    go_enter Tryz.func3, Tryz.ntmps3
    go_wp2_with (go_at_call 6; refine KL.out.mono ?_; rintro e w2 ⟨rfl, rfl⟩)
    refine (V8Triples_c _ cv bs hb).mono ?_
    clear KL
    rintro e w5 ⟨P, A, vd, ud, hP, hT, rfl, rd, h5⟩
    obtain ⟨ad, cd, hsh⟩ := rd.1.sl.sh
    rw [rd.2.1] at hsh
    subst hsh
    have hP32 := hT.p32
    have hP3 := hT.p3
    have hAl := (dOk_t hT.ok).len
    have hX := (St.refl w5).newboxF 26 #[.int .i64 P, .slice ad A.length cd]
    have d0 := hX.bcell 0 rfl 0 rfl
    have d1 := hX.bcell 0 rfl 1 rfl
    have hm5 := h5.oldB hm
    have HT := Lib.hid hT
    have Rd := Lib.hid rd
    have KP := Lib.hid (PaschsOf_c P (.slice ad A.length cd) ud A _ (hX.oldII rd) hT)
    unfold dv at KP ⊢
    clear hT rd
    go_wp2_with fail
    refine KP.out.mono ?_
    clear KP d0 d1
    rintro e w6 ⟨vl, ul, R, rfl, rl, hRm, hRl, h6⟩
    have hX6 := hX.call0 h6
    have Hbd := Lib.hid (show BoxD w6 w5.heap.size P (.slice ad A.length cd) from ⟨hX6.bcell 0 rfl 0 rfl, hX6.bcell 0 rfl 1 rfl⟩)
    have Hd6 := Lib.hid (hX6.oldII Rd.out)
    have Hm := Lib.hid (hX6.oldB hm5)
    have hW6 := Lib.hid (h5.call0 hX6.out)
    have HRm := Lib.hid hRm
    have Rl := Lib.hid rl
    have hlnl := rl.len
    have hZ := St.refl w6
    clear hX6 h6 hX h5 hm5 hRm hm hb rl Rd
    go_upto_if 39 with fail
    go_cut [8, 9, 10, 11, 12, 13, 14, 15, 16, 17, 18] from 25 (fun _ _ _ _ _ _ _ _ _ _ _ w' => St w6.heap.size w6 w' [])
    case first =>
      by_cases hR : 0 < R.length
      · have f1 : (0 : Int) < (R.length : Int) := by omega
        have KA0 := Lib.hid (v8At_p Hm.out R.length (by omega) 0 0 rfl (by decide))
        go_wp2_with fail
        refine KA0.out.mono ?_
        clear KA0
        rintro e7 w7 ⟨t, ht, rfl, hw⟩
        subst hw
        have xl := Rl.out.ixe (t : Int) t rfl ht
        have cl := Rl.out.cell t ht
        have rq := Rl.out.row t ht
        obtain ⟨i0, j0, k0, l0, a0, b0, c0, d0', e0', f0', hQ0⟩ := (HRm.out _).1 (xat_mem ht)
        obtain ⟨i, j, k, l, a, b, c, d, e, f, hQ, ha, hlo⟩ := hQ0.first HT.out
        clear hQ0
        generalize xat R t = q at *
        generalize vat ul t = vq at *
        have hq4 := hQ.ql
        have hlnq := rq.len
        rw [hq4] at hlnq
        have hixq := rq.ixe
        have Rq := Lib.hid rq
        have HQ := Lib.hid (And.intro hQ (And.intro ha hlo))
        have KV := Lib.hid (fun s : SS w6.heap.size w6 [] => sValidSetM_c vq q 32 s.w (s.st.oldI Rq.out) (by omega))
        have hlnD := Hd6.out.len
        have hixD := Hd6.out.ixe
        have Hqi := Lib.hid (fun t (ht : t < 4) => hQ.qi ht)
        have H6 := Lib.hid (hQ.six HT.out)
        clear rq hQ ha hlo ht
        go_upto_region 9 with fail
        go_cut [75] from 25 (fun t w' => t = .bool false ∧ St w6.heap.size w6 w' [])
        case first =>
          obtain ⟨m0, hm0, hm0A, _⟩ := Hqi.out 0 (by omega)
          obtain ⟨m3, hm3, hm3A, _⟩ := Hqi.out 3 (by omega)
          have Hm0 := Lib.hid hm0
          have Hm3 := Lib.hid hm3
          have ck0 := fun s : SS w6.heap.size w6 [] => (show s.w.cell? (el vq 0) = some (.int .i64 m0) from by have := (s.st.oldI Rq.out).cell 0 (by omega); rwa [Hm0.out] at this)
          have ck3 := fun s : SS w6.heap.size w6 [] => (show s.w.cell? (el vq 3) = some (.int .i64 m3) from by have := (s.st.oldI Rq.out).cell 3 (by omega); rwa [Hm3.out] at this)
          have cd := fun s : SS w6.heap.size w6 [] => (s.st.oldBoxD Hbd.out).2
          have x0 := hixq 0 0 rfl (by omega)
          have x3 := hixq 3 3 rfl (by omega)
          have n0 : ¬ (m0 : Int) < 0 := by omega
          have n0' : decide ((m0 : Int) < 0) = false := decide_eq_false n0
          have n3 : ¬ (A.length : Int) ≤ (m3 : Int) := by omega
          have n3n : ¬ A.length ≤ m3 := by omega
          have n3' : decide (A.length ≤ m3) = false := decide_eq_false n3n
          clear hm0 hm3
          by_cases h32 : A.length ≤ 32
          · have hv := HQ.out.1.set32 h32
            rw [hv] at KV
            clear hv h32
            go_wp2_with fail
            have hne : Nonempty (SS _ _ _) := ⟨⟨_, hZ⟩⟩
            refine wp_region_st (by kernel_rfl) (by kernel_rfl) hZ ?_
            repeat (go_big_quiet_step ((go_at_call 10; exact st_quiet (KV.out _))))
            refine wpQuiet_nil ?_
            rintro _ ⟨s2, rfl⟩
            have hS8 := s2.st
            generalize s2.w = w8 at hS8 ⊢
            (try go_wp2_with fail)
            go_meet
            case rel => exact ⟨rfl, hS8⟩
          · have h33 : ¬ (A.length : Int) ≤ 32 := by omega
            have h33' : decide (A.length ≤ 32) = false := decide_eq_false h32
            have h33i : decide ((A.length : Int) ≤ 32) = false := decide_eq_false h33
            cases hv : incB (-1) 32 q
            · rw [hv] at KV
              clear hv
              go_wp2_with fail
              have hne : Nonempty (SS _ _ _) := ⟨⟨_, hZ⟩⟩
              refine wp_region_st (by kernel_rfl) (by kernel_rfl) hZ ?_
              repeat (go_big_quiet_step ((go_at_call 10; exact st_quiet (KV.out _))))
              refine wpQuiet_nil ?_
              rintro _ ⟨s2, rfl⟩
              have hS8 := s2.st
              generalize s2.w = w8 at hS8 ⊢
              (try go_wp2_with fail)
              go_meet
              case rel => exact ⟨rfl, hS8⟩
            · rw [hv] at KV
              clear hv
              go_wp2_with fail
              have hne : Nonempty (SS _ _ _) := ⟨⟨_, hZ⟩⟩
              refine wp_region_st (by kernel_rfl) (by kernel_rfl) hZ ?_
              repeat (go_big_quiet_step ((go_at_call 10; exact st_quiet (KV.out _))))
              refine wpQuiet_nil ?_
              rintro _ ⟨s2, rfl⟩
              have hS8 := s2.st
              generalize s2.w = w8 at hS8 ⊢
              (try go_wp2_with fail)
              go_meet
              case rel => exact ⟨rfl, hS8⟩
        case rest =>
          clear KV cl xl
          obtain ⟨rfl, hZ1⟩ := hcut
          have hS9 := (hZ1.new 2 #[] (by simp)).sub (L' := [row 2 (.slice (some ⟨wc.heap.size, 0, none⟩) 0 0) (iv (ptsL A q 0))]) (List.Sublist.refl _)
          clear hZ1
          go_wp2_with fail
          go_loopw [9, 10] (fun po ti wr => ∃ (t : Nat), ti = .int .i64 t ∧ t ≤ 4 ∧ St w6.heap.size w6 wr [row 2 po (iv (ptsL A q t))]) (fun _ ti _ => 4 - (intOf ti).toNat)
          case atStart => exact ⟨0, rfl, by omega, hS9⟩
          case round =>
            clear hS9
            obtain ⟨t, rfl, ht, hS⟩ := hrel
            by_cases ht4 : t < 4
            · have hti : (t : Int) < 4 := by omega
              obtain ⟨m, hm, hmA, _⟩ := Hqi.out t ht4
              have Hm1 := Lib.hid hm
              have xt := hixq (t : Int) t rfl (by omega)
              have xm := hixD (m : Int) m rfl hmA
              have KU := Lib.hid (fun W (h1 : RdI W u9 (ptsL A q t)) (h2 : RdI W (vat ud m) (xat A m)) => sUnionSets_c u9 (vat ud m) (ptsL A q t) (xat A m) W h1 h2 (HQ.out.1.pset HT.out t (by omega)) (HT.out.in32 (xat_mem hmA)))
              rw [show uniL (ptsL A q t) (xat A m) = ptsL A q (t + 1) by rw [ptsL, hm, Int.toNat_natCast]] at KU
              obtain ⟨L, hL⟩ : ∃ L, L = [row 2 u9 (iv (ptsL A q t))] := ⟨_, rfl⟩
              have HL := Lib.hid hL
              have Hce := Lib.hid (fun W (h : St w6.heap.size w6 W L) => (show W.cell? (el vq t) = some (.int .i64 m) ∧ W.cell? ⟨w5.heap.size, 1, none⟩ = some (.slice ad A.length cd) ∧ W.cell? (el (.slice ad A.length cd) m) = some (vat ud m) ∧ RdI W (vat ud m) (xat A m) from by
                have c1 := (h.oldI Rq.out).cell t (by omega)
                rw [hm] at c1
                have hr := h.oldII Hd6.out
                exact ⟨c1, (h.oldBoxD Hbd.out).2, hr.cell m hmA, hr.row m hmA⟩))
              rw [← hL] at hS
              have g1 := fun s : SS w6.heap.size w6 L => (Hce.out s.w s.st).1
              have g2 := fun s : SS w6.heap.size w6 L => (Hce.out s.w s.st).2.1
              have n0 : ¬ (m : Int) < 0 := by omega
              have n0' : decide ((m : Int) < 0) = false := decide_eq_false n0
              have n3 : ¬ (A.length : Int) ≤ (m : Int) := by omega
              have n3n : ¬ A.length ≤ m := by omega
              have n3' : decide (A.length ≤ m) = false := decide_eq_false n3n
              clear hm hmA hL
              go_wp2_with fail
              have hne : Nonempty (SS _ _ _) := ⟨⟨_, hS⟩⟩
              refine wp_region_st (by kernel_rfl) (by kernel_rfl) hS ?_
              repeat (go_big_quiet_step (fail))
              refine wpQuiet_nil ?_
              rintro _ ⟨s2, rfl⟩
              have hS8 := s2.st
              generalize s2.w = w8 at hS8 ⊢
              clear g1 g2
              obtain ⟨e1, e2, e3, e4⟩ := Hce.out w8 hS8
              have hSd := hS8.drew
              have hr9 := Lib.hid (show RdI w8.drew u9 (ptsL A q t) from by have := hSd; rw [HL.out] at this; exact this.rdI 0 rfl)
              have E4 := Lib.hid (Hce.out _ hSd).2.2.2
              clear e4
              go_wp2_with fail
              go_region_held3 (fun w' => w'.cell? (el vq t) = some (.int .i64 m) ∧ w'.cell? ⟨w5.heap.size, 1, none⟩ = some (.slice ad A.length cd) ∧ w'.cell? (el (.slice ad A.length cd) m) = some (vat ud m)) (((try dsimp only); (repeat' apply And.intro); all_goals (repeat (first | assumption | exact cell_dr (by assumption) | refine cell_dr ?_ | refine cell_al ?_ | refine cell_sc (by assumption) ?_)))) (first
                | (go_at_call 11; refine (KU.out _ hr9.out E4.out).mono ?_; rintro e9 w9 ⟨v9, rfl, h9⟩; have hS9 := (hSd.out.call h9); have e1 := cell_keepT h9.below (cell_dr e1); have e2 := cell_keepT h9.below (cell_dr e2); have e3 := cell_keepT h9.below (cell_dr e3)))
              go_wp2_with fail
              go_roundw
              case rel => exact ⟨t + 1, by go_num, by omega, hS9⟩
              case measure => simp [intOf]; omega
            · obtain rfl : t = 4 := by omega
              rw [show ((4 : Nat) : Int) = (4 : Int) from rfl]
              have hlnp := (hS.rdI (xs := ptsL A q 4) 0 rfl).len
              rw [H6.out] at hlnp
              obtain ⟨d0, d1⟩ := hS.oldBoxD Hbd.out
              have KS := Lib.hid (SwitchPasch_c P (.slice ad A.length cd) vq ud A q wr (hS.oldII Hd6.out) (hS.oldI Rq.out) HT.out HQ.out.1 HQ.out.2.1)
              have HA' := Lib.hid (HQ.out.1.ts HT.out)
              have Hne := Lib.hid (HQ.out.1.other HT.out)
              have Hbk := Lib.hid (HQ.out.1.some_back HT.out HQ.out.2.2)
              have hlA : (srtL (swQ A q a f)).length = A.length := by rw [srtL_len]; unfold swQ; rw [List.length_map]
              have hSo := hS.out
              clear hS
              generalize srtL (swQ A q a f) = A2 at *
              unfold dv at KS
              go_wp2_with fail
              refine KS.out.mono ?_
              clear KS d0 d1
              rintro e10 w10 ⟨v2, us2, rfl, hl2, h10⟩
              have r2 := h10.rii hl2
              obtain ⟨a2, c2, hsh⟩ := r2.1.sl.sh
              rw [r2.2.1, hlA] at hsh
              subst hsh
              have hS10 := Lib.hid (hSo.call0 h10.out)
              have hX := (St.refl w10).newboxF 26 #[.int .i64 P, .slice a2 A.length c2]
              have d0 := hX.bcell 0 rfl 0 rfl
              have d1 := hX.bcell 0 rfl 1 rfl
              have KT := Lib.hid (sIsTripleSystem_c P (.slice a2 A.length c2) us2 A2 _ (hX.oldII r2) HA'.out)
              have R2 := Lib.hid r2
              unfold dv at KT ⊢
              clear h10 r2 hSo hl2
              go_wp2_with fail
              refine KT.out.mono ?_
              clear KT d0 d1
              rintro e11 w11 ⟨rfl, h11⟩
              have hX11 := hX.call0 h11
              have hW11 := hS10.out.call0 hX11.out
              have d0 := hX11.bcell 0 rfl 0 rfl
              have d1 := hX11.bcell 0 rfl 1 rfl
              obtain ⟨y0, y1⟩ := hW11.oldBoxD Hbd.out
              have KD := Lib.hid (SameDesign_c P P (.slice a2 A.length c2) (.slice ad A.length cd) us2 ud A2 A w11 (hX11.oldII R2.out) (hW11.oldII Hd6.out))
              rw [decide_eq_false (fun h => Hne.out h.2)] at KD
              unfold dv at KD
              clear hX h11 hW11
              go_wp2_with fail
              refine KD.out.mono ?_
              clear KD d0 d1 y0 y1
              rintro e12 w12 ⟨rfl, h12⟩
              have hX12 := hX11.call0 h12
              have d0 := hX12.bcell 0 rfl 0 rfl
              have d1 := hX12.bcell 0 rfl 1 rfl
              have KP := Lib.hid (PaschsOf_c P (.slice a2 A.length c2) us2 A2 w12 (hX12.oldII R2.out) HA'.out)
              unfold dv at KP
              clear hX11 h12
              go_wp2_with fail
              refine KP.out.mono ?_
              clear KP d0 d1
              rintro e14 w14 ⟨vo, uo, Q2, rfl, ro, hRo, hRol, h14⟩
              have hX14 := hX12.call0 h14
              have hW14 := Lib.hid (hS10.out.call0 hX14.out)
              have HbX := Lib.hid (show BoxD w14 w10.heap.size P (.slice a2 A.length c2) from ⟨hX14.bcell 0 rfl 0 rfl, hX14.bcell 0 rfl 1 rfl⟩)
              have Hr2 := Lib.hid (hX14.oldII R2.out)
              have Hbd14 := Lib.hid (hW14.out.oldBoxD Hbd.out)
              have Hd14 := Lib.hid (hW14.out.oldII Hd6.out)
              have hlno := ro.len
              have hixo := ro.ixe
              have Ro := Lib.hid ro
              have HRo := Lib.hid hRo
              have HlA := Lib.hid hlA
              have hS0 := St.refl w14
              clear hX12 h14 hX14 ro hRo hlA
              go_wp2_with fail
              go_loopw [13, 16, 17, 18] (fun bk ii _ _ wr => ∃ (n : Nat) (bo : Bool), ii = .int .i64 n ∧ n ≤ Q2.length ∧ bk = .bool bo ∧ Hid (bo = false → ∀ s, s < n → ¬ BkP A2 A (xat Q2 s)) ∧ St w14.heap.size w14 wr []) (fun _ ii _ _ _ => Q2.length - (intOf ii).toNat)
              case atStart => exact ⟨0, false, rfl, by omega, rfl, Lib.hid (fun _ s hs => by omega), hS0⟩
              case round =>
                clear hS0
                obtain ⟨n, bo, rfl, hn, rfl, hB, hS⟩ := hrel
                cases bo
                · by_cases hnR : n < Q2.length
                  · have hni : (n : Int) < (Q2.length : Int) := by omega
                    have hn1 : n + 1 ≤ Q2.length := hnR
                    have HBn := Lib.hid (hB.out rfl)
                    clear hB
                    have xn := hixo (n : Int) n rfl hnR
                    obtain ⟨i0, j0, k0, l0, a0, b0, c0, d0', e0', f0', hQ0⟩ := (HRo.out _).1 (xat_mem hnR)
                    obtain ⟨i2, j2, k2, l2, a3, b2, c3, d2, e2, f2, hQ2, ha2, _⟩ := hQ0.first HA'.out
                    have KS := Lib.hid (fun W (h : St w14.heap.size w14 W []) => SwitchPasch_c P (.slice a2 A.length c2) (vat uo n) us2 A2 (xat Q2 n) W (h.oldII Hr2.out) ((h.oldII Ro.out).row n hnR) HA'.out hQ2 ha2)
                    have HBk := Lib.hid (hQ2.bkp (A := A) ha2)
                    have hl3 : (srtL (swQ A2 (xat Q2 n) a3 f2)).length = A.length := by rw [srtL_len]; unfold swQ; rw [List.length_map]; exact HlA.out
                    have cn := (hS.oldII Ro.out).cell n hnR
                    obtain ⟨d0, d1⟩ := hS.oldBoxD HbX.out
                    have hSd := hS.drew
                    clear hQ0 hQ2 ha2
                    generalize srtL (swQ A2 (xat Q2 n) a3 f2) = A3 at *
                    have Hl3 := Lib.hid hl3
                    clear hl3
                    unfold dv at KS
                    go_wp2_with fail
                    have hSb := ((hS.newboxF 26 #[.int .i64 0, .slice none 0 0])).drew
                    have q1 : w10.heap.size < wr.heap.size := World.block_lt_of_cell? _ _ d0
                    have q2 : (el vo n).block < wr.heap.size := World.block_lt_of_cell? _ _ cn
                    have n1 : wr.heap.size ≠ w10.heap.size := Nat.ne_of_gt q1
                    have n2 : w10.heap.size ≠ wr.heap.size := Nat.ne_of_lt q1
                    have n3 : wr.heap.size ≠ (el vo n).block := Nat.ne_of_gt q2
                    have n4 : (el vo n).block ≠ wr.heap.size := Nat.ne_of_lt q2
                    clear q1 q2
                    go_cut [17, 18] from 144 to 153 (fun s17 s18 w' => CutY w14 P A3 s17 s18 w')
                    case first =>
                      go_region_held3 (fun w' => w'.cell? ⟨w10.heap.size, 0, none⟩ = some (.int .i64 P) ∧ w'.cell? ⟨w10.heap.size, 1, none⟩ = some (.slice a2 A.length c2) ∧ w'.cell? (el vo n) = some (vat uo n)) (((try dsimp only); (repeat' apply And.intro); all_goals (repeat (first | assumption | exact cell_dr (by assumption) | refine cell_dr ?_ | refine cell_al ?_ | refine cell_sc (by assumption) ?_)))) (first
                        | (go_at_call 12; (first | (refine (KS.out _ hSd).mono ?_; rintro e15 w15 ⟨v3, us3, rfl, hl15, h15⟩; have hV := hSd.call h15; have d0 := cell_keepT h15.below (cell_dr d0); have d1 := cell_keepT h15.below (cell_dr d1); have cn := cell_keepT h15.below (cell_dr cn)) | (refine (KS.out _ hSb.out).mono ?_; rintro e15 w15 ⟨v3, us3, rfl, hl15, h15⟩; have hV := hSb.call h15; have d0 := cell_keepT h15.below (cell_dr (cell_al d0)); have d1 := cell_keepT h15.below (cell_dr (cell_al d1)); have cn := cell_keepT h15.below (cell_dr (cell_al cn)); have f0 := hV.bfree 0 rfl; have f1 := hV.bcell 0 rfl 0 rfl; have f2 := hV.bcell 0 rfl 1 rfl)); obtain ⟨a4, c4, hsh⟩ := (h15.rii hl15).1.sl.sh; rw [(h15.rii hl15).2.1, Hl3.out] at hsh; subst hsh; unfold dv; have Hl15 := Lib.hid hl15; clear hl15; have q1 : w10.heap.size < w15.heap.size := World.block_lt_of_cell? _ _ d0; have q2 : (el vo n).block < w15.heap.size := World.block_lt_of_cell? _ _ cn; have n5 : w15.heap.size ≠ w10.heap.size := Nat.ne_of_gt q1; have n6 : w10.heap.size ≠ w15.heap.size := Nat.ne_of_lt q1; have n7 : w15.heap.size ≠ (el vo n).block := Nat.ne_of_gt q2; have n8 : (el vo n).block ≠ w15.heap.size := Nat.ne_of_lt q2; clear q1 q2))
                      all_goals
                        go_wp2_with fail
                        go_meet
                        case rel =>
                          first
                          | exact ⟨_, _, us3, rfl, rfl, (((hV.bstore 0 rfl 0 (.int .i64 P)).bstore 0 rfl 1 (.slice a4 A.length c4)).sub (.cons _ (.refl _))).rii Hl15.out, ⟨((hV.bstore 0 rfl 0 (.int .i64 P)).bstore 0 rfl 1 (.slice a4 A.length c4)).bcell 0 rfl 0 rfl, ((hV.bstore 0 rfl 0 (.int .i64 P)).bstore 0 rfl 1 (.slice a4 A.length c4)).bcell 0 rfl 1 rfl⟩, ((hV.bstore 0 rfl 0 (.int .i64 P)).bstore 0 rfl 1 (.slice a4 A.length c4)).out⟩
                          | exact ⟨_, _, us3, rfl, rfl, (h15.rii Hl15.out).keep ((St.refl w15).newboxF 26 #[.int .i64 P, .slice a4 A.length c4]).below, ⟨((St.refl w15).newboxF 26 #[.int .i64 P, .slice a4 A.length c4]).bcell 0 rfl 0 rfl, ((St.refl w15).newboxF 26 #[.int .i64 P, .slice a4 A.length c4]).bcell 0 rfl 1 rfl⟩, (hV.out.call0 ((St.refl w15).newboxF 26 #[.int .i64 P, .slice a4 A.length c4]).out)⟩
                    clear hS hSd hSb d0 d1 cn n1 n2 n3 n4
                    obtain ⟨gy, v3, us3, rfl, rfl, r3, hby, hSy⟩ := hcut
                    obtain ⟨a4, c4, hsh⟩ := r3.1.sl.sh
                    rw [r3.2.1, Hl3.out] at hsh
                    subst hsh
                    obtain ⟨y0, y1⟩ := hby
                    obtain ⟨z0, z1⟩ := hSy.oldBoxD Hbd14.out
                    have KD := Lib.hid (SameDesign_c P P (.slice a4 A.length c4) (.slice ad A.length cd) us3 ud A3 A _ r3 (hSy.oldII Hd14.out))
                    have HS16 := Lib.hid hSy
                    unfold dv at KD
                    clear hSy r3
                    by_cases hE : A3 = A
                    · rw [decide_eq_true ⟨rfl, hE⟩] at KD
                      clear hE
                      go_wp2_with fail
                      refine KD.out.mono ?_
                      clear KD
                      rintro e17 w17 ⟨rfl, h17⟩
                      have hS17 := HS16.out.call0 h17
                      clear h17 y0 y1 z0 z1
                      go_wp2_with fail
                      go_roundw
                      case rel => exact ⟨n + 1, true, by go_num, hn1, rfl, Lib.hid (fun h => by cases h), hS17⟩
                      case measure => simp [intOf]; omega
                    · rw [decide_eq_false (fun h => hE h.2)] at KD
                      have Hn := Lib.hid (bk_next HBn.out (fun h => hE (HBk.out.1 h)))
                      clear hE
                      go_wp2_with fail
                      refine KD.out.mono ?_
                      clear KD
                      rintro e17 w17 ⟨rfl, h17⟩
                      have hS17 := HS16.out.call0 h17
                      clear h17 y0 y1 z0 z1
                      go_wp2_with fail
                      go_roundw
                      case rel => exact ⟨n + 1, false, by go_num, hn1, rfl, Lib.hid (fun _ => Hn.out), hS17⟩
                      case measure => simp [intOf]; omega
                  · exfalso
                    obtain ⟨q', hq'⟩ := Hbk.out
                    have hmem : q' ∈ Q2 := by
                      obtain ⟨i, j, k, l, a, b, c, d, e, f, h, _⟩ := hq'
                      exact (HRo.out q').2 ⟨_, _, _, _, _, _, _, _, _, _, h⟩
                    obtain ⟨s, hs, rfl⟩ := List.getElem_of_mem hmem
                    refine hB.out rfl s (by omega) ?_
                    rw [xat_eq hs]; exact hq'
                · have hS18 := hW14.out.call0 hS
                  by_cases hnR : n < Q2.length
                  · have hni : (n : Int) < (Q2.length : Int) := by omega
                    go_wp2_with fail
                    go_meet
                    case rel => exact hS18
                  · have hni : ¬ (n : Int) < (Q2.length : Int) := by omega
                    go_wp2_with fail
                    go_meet
                    case rel => exact hS18
      · have f1 : ¬ (0 : Int) < (R.length : Int) := by omega
        go_wp2_with fail
        go_meet
        case rel => exact hZ
    case rest =>
      clear hZ
      have hZ := hcut
      have KA1 := Lib.hid (v8At_p (hZ.oldB Hm.out) P (by omega) 1 1 rfl (by decide))
      have d0 := (hZ.oldBoxD Hbd.out).1
      go_wp2_with fail
      refine KA1.out.mono ?_
      clear KA1
      rintro e20 w20 ⟨u, hu, rfl, hw⟩
      subst hw
      have v0 : IntKind.i64.wrap ((P : Int) - 1) = (P : Int) - 1 := IntWalk.i64_in _ (by omega)
      have v1 : IntKind.i64.wrap ((u : Int) + 1) = (u : Int) + 1 := IntWalk.i64_in _ (by omega)
      have KA2 := Lib.hid (fun W (h : St w6.heap.size w6 W []) => v8At_p (h.oldB Hm.out) (P - 1) (by omega) 2 2 rfl (by decide))
      rw [show ((P - 1 : Nat) : Int) = (P : Int) - 1 by omega] at KA2
      have hZd := hZ.drew
      have hP0 : ¬ (P : Int) = 0 := by omega
      have hP0' : ((P : Int) == 0) = false := eq_f hP0
      have hP0n : ¬ P = 0 := by omega
      go_wp2_with fail
      go_region_held3 (fun w' => w'.cell? ⟨w5.heap.size, 0, none⟩ = some (.int .i64 P)) (((try dsimp only); (repeat' apply And.intro); all_goals (repeat (first | assumption | exact cell_dr (by assumption) | refine cell_dr ?_ | refine cell_al ?_ | refine cell_sc (by assumption) ?_)))) (first
        | (go_at_call 9; (try simp only [v0]); refine (KA2.out _ hZd).mono ?_; rintro e21 w21 ⟨z, hz, rfl, hw⟩; subst hw; have v2 : IntKind.i64.wrap ((u : Int) + 1 + (z : Int)) = (u : Int) + 1 + (z : Int) := IntWalk.i64_in _ (by omega); have v3 : ((u : Int) + 1 + (z : Int)).tmod (P : Int) = ((u : Int) + 1 + (z : Int)) % (P : Int) := Int.tmod_eq_emod_of_nonneg (by omega)))
      have hne := mod_ne hu hz
      have hvP : (u + 1 + z) % P < P := Nat.mod_lt _ (by omega)
      have hve : ((u : Int) + 1 + (z : Int)) % (P : Int) = ((u + 1 + z) % P : Nat) := by rw [Int.natCast_emod, Int.natCast_add, Int.natCast_add]; rfl
      rw [hve]
      clear hve
      generalize (u + 1 + z) % P = v at *
      have d0 := (hZd.oldBoxD Hbd.out).1
      have d1 := (hZd.oldBoxD Hbd.out).2
      have KC := Lib.hid (CyclesOfPair_c P u v (.slice ad A.length cd) ud A _ (hZd.oldII Hd6.out) HT.out hu hvP (fun e => hne e.symm))
      unfold dv at KC
      clear v0 v1 hP0 hP0' hP0n hZ KA2
      go_wp2_with fail
      refine KC.out.mono ?_
      clear KC
      rintro e22 w22 ⟨vc, Ls, rfl, hE, hLl, h22⟩
      have rc := h22.rdI 0 rfl
      have hlc := rc.len
      have hxc := rc.ixe
      have hW22 := Lib.hid (hZd.call0 h22.out)
      have Hbd22 := Lib.hid (hW22.out.oldBoxD Hbd.out)
      have HWF := Lib.hid (fun W (h : St w22.heap.size w22 W []) => (show St w.heap.size w W [] from (hW6.out.call0 hW22.out).call0 h))
      have HE := Lib.hid hE
      have HSb := Lib.hid (cy_bd hE)
      have Hrc := Lib.hid rc
      have hS0 := St.refl w22
      clear hZd h22 d0 d1 hE rc
      go_wp2_with fail
      go_loopw [23, 24] (fun si ki wr => ∃ (k : Nat), ki = .int .i64 k ∧ k ≤ Ls.length ∧ si = .int .i64 (3 + sumL (Ls.take k)) ∧ St w22.heap.size w22 wr []) (fun _ ki _ => Ls.length - (intOf ki).toNat)
      case atStart => exact ⟨0, rfl, by omega, rfl, hS0⟩
      case round =>
        clear hS0
        obtain ⟨k, rfl, hk, rfl, hS⟩ := hrel
        by_cases hkl : k < Ls.length
        · have hki : (k : Int) < (Ls.length : Int) := by omega
          have xk := hxc (k : Int) k rfl hkl
          obtain ⟨m1, m2, m3⟩ := HE.out.1 _ (nth_mem hkl)
          have hsum := Lib.hid (show sumL (Ls.take (k + 1)) = sumL (Ls.take k) + nth Ls k by rw [take_nth hkl, sumL_snoc])
          have hsb : 0 ≤ sumL (Ls.take k) ∧ sumL (Ls.take k) ≤ 1000 * k := HSb.out k hk
          have w1 : IntKind.i64.wrap (3 + sumL (Ls.take k) + nth Ls k) = 3 + sumL (Ls.take k) + nth Ls k := IntWalk.i64_in _ (by omega)
          have Hgt : Hid (1 ≤ k → nth Ls (k - 1) ≤ nth Ls k) := Lib.hid (fun h1 => by
            have := HE.out.2.2
            rw [List.pairwise_iff_getElem] at this
            rw [nth_eq (by omega), nth_eq hkl]
            exact this (k - 1) k (by omega) hkl (by omega))
          have hxp := fun (h1 : 1 ≤ k) => hxc ((k : Int) - 1) (k - 1) (by omega) (by omega)
          have Hcp := Lib.hid (fun (W : World) (h : St w22.heap.size w22 W []) => (h.oldI Hrc.out).cell (k - 1) (by omega))
          have n1 : decide (nth Ls k < 4) = false := decide_eq_false (by omega)
          have n1' : ¬ nth Ls k < 4 := by omega
          have hm2 : (nth Ls k).tmod 2 = 0 := by rw [Int.tmod_eq_emod_of_nonneg (by omega)]; exact m2
          have ck := fun s : SS w22.heap.size w22 [] => (s.st.oldI Hrc.out).cell k hkl
          generalize sumL (Ls.take k) = sk at *
          by_cases hk0 : k = 0
          · subst hk0
            have xk := hxc 0 0 rfl hkl
            have n3 : ¬ (0 : Int) < 0 := by omega
            clear hxp
            generalize hy : nth Ls 0 = y at *
            have Hy := Lib.hid hy
            clear hy
            go_wp2_with fail
            have hne : Nonempty (SS _ _ _) := ⟨⟨_, hS⟩⟩
            refine wp_region_st (by kernel_rfl) (by kernel_rfl) hS ?_
            repeat (go_big_quiet_step (fail))
            refine wpQuiet_nil ?_
            rintro _ ⟨s2, rfl⟩
            have hS23 := s2.st
            generalize s2.w = w23 at hS23 ⊢
            have ck := (hS23.oldI Hrc.out).cell 0 hkl
            rw [Hy.out] at ck
            go_wp2_with fail
            go_roundw
            case rel => exact ⟨1, by go_num, by omega, by rw [hsum.out, ← Int.add_assoc], hS23⟩
            case measure => simp [intOf]; omega
          · have h1 : 1 ≤ k := by omega
            have hkk : (0 : Int) < (k : Int) := by omega
            have hkN : 0 < k := by omega
            have hkd : decide (0 < k) = true := decide_eq_true hkN
            have xp := hxp h1
            have cp := fun s : SS w22.heap.size w22 [] => Hcp.out s.w s.st
            have w2 : IntKind.i64.wrap ((k : Int) - 1) = (k : Int) - 1 := IntWalk.i64_in _ (by omega)
            have n2 : ¬ nth Ls k < nth Ls (k - 1) := by have := Hgt.out h1; omega
            have n2' : decide (nth Ls k < nth Ls (k - 1)) = false := decide_eq_false n2
            clear hxp m1 m3 h1 hk0
            generalize hy : nth Ls k = y at *
            have Hy := Lib.hid hy
            clear hy
            generalize nth Ls (k - 1) = x at *
            go_wp2_with fail
            have hne : Nonempty (SS _ _ _) := ⟨⟨_, hS⟩⟩
            refine wp_region_st (by kernel_rfl) (by kernel_rfl) hS ?_
            repeat (go_big_quiet_step (fail))
            refine wpQuiet_nil ?_
            rintro _ ⟨s2, rfl⟩
            have hS23 := s2.st
            generalize s2.w = w23 at hS23 ⊢
            have ck := (hS23.oldI Hrc.out).cell k hkl
            rw [Hy.out] at ck
            go_wp2_with fail
            go_roundw
            case rel => exact ⟨k + 1, by go_num, by omega, by rw [hsum.out, ← Int.add_assoc], hS23⟩
            case measure => simp [intOf]; omega
        · obtain rfl : k = Ls.length := by omega
          have hT3 : 3 + sumL (Ls.take Ls.length) = (P : Int) := by rw [List.take_length]; have := HE.out.2.1; omega
          rw [hT3]
          have f9 : ((P : Int) == (P : Int)) = true := eq_t rfl
          have hWF := HWF.out wr hS
          have d0 := (hS.oldBoxD Hbd22.out).1
          clear hT3
          go_wp2_with fail
          go_ret
          exact ⟨rfl, hWF⟩
end Go.Proofs.YtegmjlblehjccaaGreat
end

section
/- How arguments that come in read. How bytes that come in read. -/
namespace Go.Proofs.YtegmjlblehjccaaGreat
set_option linter.unusedSimpArgs false
set_option linter.unusedVariables false
open Go.RowKit


/-- what came in as a slice of integers: nothing, or a row of numbers that fit -/
def IsRow (k : IntKind) (w : World) (a : Option Addr) (len cap : Nat) (zs : List Int) : Prop :=
  (a = none ∧ len = 0 ∧ cap = 0 ∧ zs = []) ∨
  ∃ x, a = some x ∧ len ≤ cap ∧ cap ≤ maxLen ∧ zs.length = cap ∧ (∀ i, i < zs.length → w.cell? (x.add i) = some (.int k (zs.getD i 0))) ∧ ∀ n ∈ zs, (Lit.int k n).wf = true

theorem IsRow.rd {k : IntKind} {w : World} {a : Option Addr} {len cap : Nat} {zs : List Int} (h : IsRow k w a len cap zs) : Rd w (.slice a len cap) ((zs.take len).map (Value.int k)) := by
  rcases h with ⟨rfl, rfl, rfl, rfl⟩ | ⟨x, rfl, h1, h2, h3, h4, h5⟩
  · exact Rd.nil w
  · have hl : ((zs.take len).map (Value.int k)).length = len := by simp; omega
    refine ⟨⟨some x, cap, by rw [hl], by omega, h2, .inr (by simp)⟩, ?_⟩
    intro i u hu
    have hi : i < len := by have := (List.getElem?_eq_some_iff.1 hu).1; omega
    have := h4 i (by omega)
    simp only [List.getElem?_map, List.getElem?_take, hi, if_true] at hu
    rw [List.getElem?_eq_getElem (by omega)] at hu
    simp at hu
    simp only [el]
    rw [this, ← hu]
    simp [List.getD, List.getElem?_eq_getElem (show i < zs.length by omega)]


theorem IsRow.rdB {w : World} {a : Option Addr} {len cap : Nat} {zs : List Int} (h : IsRow .u8 w a len cap zs) : ∃ bs, RdB w (.slice a len cap) bs := by
  refine ⟨(zs.take len).map fun n => UInt8.ofNat n.toNat, ?_⟩
  have h1 := h.rd
  have hw : ∀ n ∈ zs, 0 ≤ n ∧ n ≤ 255 := by
    rcases h with ⟨_, _, _, rfl⟩ | ⟨_, _, _, _, _, _, h5⟩
    · simp
    · intro n hn; have := h5 n hn; simpa [Lit.wf, IntKind.min, IntKind.max, IntKind.signed, IntKind.bits] using this
  unfold RdB bv
  rw [List.map_map]
  rw [List.map_congr_left (g := Value.int .u8)]
  · exact h1
  · intro n hn
    have := hw n (List.mem_of_mem_take hn)
    simp only [Function.comp]
    congr 1
    rw [UInt8.toNat_ofNat']
    omega

end Go.Proofs.YtegmjlblehjccaaGreat
end

section
/- FnPasch holds: for every input the call returns true and leaves its arguments as they are. No condition. -/
namespace Go.Proofs.YtegmjlblehjccaaGreat.fnPasch
set_option linter.unusedSimpArgs false
set_option linter.unusedVariables false
open Go.ChangeShapes Go.WideShapes Go.ChangeAt Go.RowKit
set_option linter.unusedVariables false

theorem own : ownKnob Tryz.prog.godebug = none := by kernel_rfl
theorem laidOut : laidOutB Tryz.prog = true := by kernel_rfl

set_option maxRecDepth 100000 in
theorem lifted (os : Os) (started : os.Started) (H : Type) (enc : TypeId × Value → H) :
    ReturnsInHanded {} Tryz.checked os 3 .any (Rows.fnPaschSpec.pre6 enc Tryz.prog Tryz.f3 Rows.fnPaschRow.domain false) (Rows.fnPaschSpec.post enc Tryz.prog Tryz.f3 false true false false) := by
  refine returnsInHanded_of_change (C := Tryz.checked) own started (by kernel_rfl) Tryz.func3
    (ChangeSpec.witness6 (enc := enc) (C := Tryz.checked) false ⟨#[], #[.slice none 0 0, .slice none 0 0], []⟩ 8 (by kernel_rfl) (by kernel_rfl) (by kernel_rfl) (by kernel_rfl)) ?_
  intro W base args ds gs before hval0 hW hcnd _
  have hval : ∀ (j : Nat) t v, Tryz.f3.params[j]? = some t → args[j]? = some v → Value.okWide Tryz.prog W .any base t v := hval0
  have hW' := hW
  obtain ⟨p, q, hA0, hV, rfl, hfz, hnd⟩ := hW
  have hA : DataW.TrodAll enc Tryz.prog W 0 (fun _ => true) true Tryz.f3.params.toList args.toList ds p := hA0
  rw [Tryz.params3] at hA hval
  obtain ⟨v0, vs0, d0, ds0, p0, q0, hargs, rfl, rfl, h0, r0⟩ := trodAll_cons hA
  obtain ⟨v1, vs1, d1, ds1, p1, q1, rfl, rfl, rfl, h1, r1⟩ := trodAll_cons r0
  obtain ⟨rfl, rfl, rfl⟩ := trodAll_nil r1
  obtain rfl : args = #[v0, v1] := by cases args; simp_all
  obtain ⟨rfl, rfl⟩ := trodVars_none hV
  obtain ⟨a0, len0, cap0, rfl⟩ := okWide_slice Tryz.underlying22 (hval 0 22 v0 rfl rfl)
  have k0 := h0
  have lt0 : ∀ x ∈ p0, x.block < W.heap.size := by obtain ⟨m, hm⟩ := k0; exact DataW.trod_lt m _ _ _ hm
  obtain ⟨bs0, rd0⟩ : ∃ bs, RdB W (.slice a0 len0 cap0) bs := by
    obtain ⟨fuel, hf⟩ := h0
    rcases open_ints Tryz.underlying22 Tryz.underlying5 (by kernel_rfl) hf with ⟨hcs, _⟩ | ⟨x, l, c, zs, hcs, _, hl, hm, hz, _, hcell, hwz⟩
    · simp [Value.cells] at hcs
      obtain ⟨rfl, rfl, rfl⟩ := hcs
      exact IsRow.rdB (zs := []) (.inl ⟨rfl, rfl, rfl, rfl⟩)
    · simp [Value.cells] at hcs
      obtain ⟨rfl, rfl, rfl⟩ := hcs
      exact IsRow.rdB (zs := zs) (.inr ⟨_, rfl, hl, hm, by simpa using hz, hcell, hwz⟩)
  obtain ⟨a1, len1, cap1, rfl⟩ := okWide_slice Tryz.underlying22 (hval 1 22 v1 rfl rfl)
  have k1 := h1
  have lt1 : ∀ x ∈ p1, x.block < W.heap.size := by obtain ⟨m, hm⟩ := k1; exact DataW.trod_lt m _ _ _ hm
  obtain ⟨bs1, rd1⟩ : ∃ bs, RdB W (.slice a1 len1 cap1) bs := by
    obtain ⟨fuel, hf⟩ := h1
    rcases open_ints Tryz.underlying22 Tryz.underlying5 (by kernel_rfl) hf with ⟨hcs, _⟩ | ⟨x, l, c, zs, hcs, _, hl, hm, hz, _, hcell, hwz⟩
    · simp [Value.cells] at hcs
      obtain ⟨rfl, rfl, rfl⟩ := hcs
      exact IsRow.rdB (zs := []) (.inl ⟨rfl, rfl, rfl, rfl⟩)
    · simp [Value.cells] at hcs
      obtain ⟨rfl, rfl, rfl⟩ := hcs
      exact IsRow.rdB (zs := zs) (.inr ⟨_, rfl, hl, hm, by simpa using hz, hcell, hwz⟩)
  clear hA0 hval0
  refine (FnPasch_law W _ bs0 _ bs1 rd0 rd1).mono fun e W' ⟨he, hst⟩ => ?_
  have bel := hst.below
  subst he
  exact ⟨_, rfl, _, _, _, [], _, [], hW', trodAll_mk1 (shut_bool Tryz.underlying4 _), (trodAll_cons_mk (Below.trod laidOut (by kernel_rfl) (of_decide_eq_true (by kernel_rfl)) k0 bel lt0) (trodAll_cons_mk (Below.trod laidOut (by kernel_rfl) (of_decide_eq_true (by kernel_rfl)) k1 bel lt1) trodAll_mk0)), rfl, bel.frame _, fun h => by cases h⟩

theorem over : Rows.fnPaschRow.holds Tryz.pinned (OpenSpec.ofChange Rows.fnPaschSpec) :=
  OpenClaim.holds_of_wide 3 Tryz.f3 rfl rfl rfl rfl rfl rfl rfl ⟨rfl, rfl, rfl, rfl, rfl⟩ rfl rfl rfl rfl rfl (by kernel_rfl) Tryz.func3 (by kernel_rfl)
    (of_decide_eq_true (by kernel_rfl)) (by unfold Func.isWrapper; first | (rw [if_pos (by decide +kernel)]; kernel_rfl) | (rw [if_neg (by decide +kernel)]; exact ⟨rfl, rfl⟩))
    (fun os started H enc _ => lifted os started H enc)

theorem proved : Rows.FnPaschSaid := over
#print axioms proved
end Go.Proofs.YtegmjlblehjccaaGreat.fnPasch
end
