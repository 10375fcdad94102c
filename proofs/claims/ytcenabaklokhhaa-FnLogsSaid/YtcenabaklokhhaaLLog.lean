/- The law FnLogs, walked. -/
import Derived.Test.YtcenabaklokhhaaFd
import Derived.Test.YtcenabaklokhhaaFlg
import Derived.Test.YtcenabaklokhhaaSfo
namespace Go.Proofs.Ytcenabaklokhhaa
set_option linter.unusedSimpArgs false
set_option linter.unusedVariables false
open Go.RowKit
attribute [local go_sem ↓] Go.wp_at_zero Go.wp_at_succ

set_option maxHeartbeats 8000000 in
set_option maxRecDepth 100000 in
theorem FnLogs_law (w : World) (cv : Value) (bs : List UInt8) (hb : RdB w cv bs) :
    Calls Try.prog 8 #[cv] w (GivesB w true) := by
  have hlb := hb.len
  by_cases hlong : 1048576 < bs.length
  · go_enter Try.func8, Try.ntmps8
    go_wp2_with fail
    go_ret
    exact ⟨rfl, St.refl _⟩
  · go_enter Try.func8, Try.ntmps8
    go_wp2_with fail
    refine (V8Field_c w cv bs hb).mono ?_
    rintro e w1 ⟨p, D, v, fs, a, b, c, rfl, hf, ha, hb', hc, h1⟩
    obtain ⟨av, cv', rfl⟩ := (h1.rdI 0 rfl).shp'
    have rf := h1.rdI 0 rfl
    have hend := fun w' (L : List Ent) (h : St w1.heap.size w1 w' L) => Lib.hid (h1.out.call0 h.out)
    have hT0 := (St.refl w1).newboxF 25 #[.int .i64 p, .int .i64 D, .slice av fs.length cv']
    have HF := Lib.hid hf
    have hqq : p ^ D = (q1 p D : Int) + 1 := by have := q1_cast hf; omega
    have hq1 := q1_pos hf
    have hq64 : q1 p D + 1 ≤ 64 := by have := hf.q64; omega
    have p2 := hf.p2
    have p64 := hf.p64
    have KSz := fun W hv => Lib.hid (sFieldSize_c p D (.slice av fs.length cv') fs W hv hf)
    rw [hqq] at KSz
    have KL := fun W hv => Lib.hid (LogTable_c p D (.slice av fs.length cv') fs W hv hf)
    have KP := fun W hv => Lib.hid (PrimitiveElement_c p D (.slice av fs.length cv') fs W hv hf)
    have HG := Lib.hid (prim_ok hf)
    have KO := fun W hv => Lib.hid (FieldOrder_c p D (.slice av fs.length cv') fs (prF p D fs) W hv hf HG.out.el (by have := HG.out.pos; omega))
    rw [HG.out.ord] at KO
    have KPw := fun (n : Nat) (hn : n ≤ 1000000) W hv => Lib.hid (FieldPower_c p D (.slice av fs.length cv') fs (prF p D fs) n W hv hf HG.out.el (by omega))
    have KM := fun W hv => Lib.hid (sFieldMul_c p D (.slice av fs.length cv') fs a b W hv hf ha hb')
    have KA := fun W hv => Lib.hid (sFieldAdd_c p D (.slice av fs.length cv') fs a b W hv hf ha hb')
    have KT := fun W hv => Lib.hid (FieldTrace_c p D (.slice av fs.length cv') fs (fsum p D a b 1) W hv hf (fsum_el hf.fa.pos _ _ _))
    rw [trF_law hf ha hb'] at KT
    have KTa := fun W hv => Lib.hid (FieldTrace_c p D (.slice av fs.length cv') fs a W hv hf ha)
    have KTb := fun W hv => Lib.hid (FieldTrace_c p D (.slice av fs.length cv') fs b W hv hf hb')
    have hta := trF_lt hf ha
    have htb := trF_lt hf hb'
    have KS := fun W hv => Lib.hid (FieldSquares_c p D (.slice av fs.length cv') fs W hv hf)
    have HL := Lib.hid (log_ok hf)
    have Hmul := Lib.hid (fun a0 b0 => (log_ok hf).mul hf ha hb' a0 b0)
    have ha0 := ha.1
    have hb0 := hb'.1
    have ha1 := ha.2
    have hb1 := hb'.2
    have Hmel := Lib.hid (fmul_el hf.fa a b)
    rw [hqq] at ha1 hb1
    have HB := Lib.hid (fun S (h : SqOk p D fs S) => h)
    have haz : ∀ x : Int, (x != x) = false := fun x => by simp
    clear h1 hf ha hb' hc hqq HG
    generalize logL p D fs = L at *
    generalize hG : prF p D fs = g at *
    generalize trF p D fs D 0 a = ta at *
    generalize trF p D fs D 0 b = tb at *
    generalize fsum p D a b 1 = A at *
    generalize fmul p D fs a b = M at *
    have HGG := Lib.hid hG
    clear hG
    generalize hQ : q1 p D = Q at *
    have HQQ := Lib.hid hQ
    clear hQ
    unfold fv at *
    have b0 := hT0.bcell 0 rfl 0 rfl
    have b1 := hT0.bcell 0 rfl 1 rfl
    have b2 := hT0.bcell 0 rfl 2 rfl
    go_wp2_with fail
    refine (KSz _ (hT0.oldI rf)).out.mono ?_
    rintro e w2 ⟨rfl, h2⟩
    have hT2 := hT0.call0 h2
    clear hT0 h2 b0 b1 b2
    have b0 := hT2.bcell 0 rfl 0 rfl
    have b1 := hT2.bcell 0 rfl 1 rfl
    have b2 := hT2.bcell 0 rfl 2 rfl
    go_wp2_with fail
    refine (KL _ (hT2.oldI rf)).out.mono ?_
    rintro e w3 ⟨lt, rfl, h3⟩
    have hT3 := hT2.call h3
    clear hT2 h3 b0 b1 b2
    have b0 := hT3.bcell 0 rfl 0 rfl
    have b1 := hT3.bcell 0 rfl 1 rfl
    have b2 := hT3.bcell 0 rfl 2 rfl
    go_wp2_with fail
    refine (KP _ (hT3.oldI rf)).out.mono ?_
    rintro e w4 ⟨rfl, h4⟩
    have hT4 := hT3.call0 h4
    clear hT3 h4 b0 b1 b2
    have b0 := hT4.bcell 0 rfl 0 rfl
    have b1 := hT4.bcell 0 rfl 1 rfl
    have b2 := hT4.bcell 0 rfl 2 rfl
    have rl := hT4.rdI 1 rfl
    have hln := rl.len
    have hix := rl.ix
    have hll := HL.out.len
    rw [HQQ.out] at hll
    rw [hll] at hln hix
    have hc0 := rl.cell 0 (by omega)
    rw [HL.out.zero] at hc0
    have Hll := Lib.hid hll
    have hi0 := hix .i64 0 (by omega) (by omega)
    clear hll rl
    go_wp2_with (go_at_call 31; refine (KO _ (hT4.oldI rf)).out.mono ?_; rintro e w5 ⟨rfl, h5⟩; have hT5 := hT4.call0 h5)
    clear hT4 h5 b0 b1 b2 hc0
    go_loopw [10] (fun x wr => ∃ k : Nat, x = .int .i64 k ∧ 1 ≤ k ∧ k ≤ Q + 1 ∧ St w1.heap.size w1 wr [box 25 w1.heap.size [.int .i64 p, .int .i64 D, .slice av fs.length cv'], row 2 lt (iv L)]) (fun x _ => Q + 1 - (intOf x).toNat)
    case atStart => exact ⟨1, rfl, by omega, by omega, hT5⟩
    case round =>
      clear hT5
      obtain ⟨k, rfl, hk1, hk2, hS⟩ := hrel
      have b0 := hS.bcell 0 rfl 0 rfl
      have b1 := hS.bcell 0 rfl 1 rfl
      have b2 := hS.bcell 0 rfl 2 rfl
      by_cases hlt : k < Q + 1
      · have hL1 := HL.out.at' k hk1 (by rw [HQQ.out]; exact hlt)
        have hck := (hS.rdI 1 rfl).cell k (by rw [Hll.out]; exact hlt)
        obtain ⟨l0, l1, l2⟩ := hL1
        obtain ⟨x, hx⟩ := Int.eq_ofNat_of_zero_le l0
        rw [hx] at hck l1 l2
        rw [Int.toNat_natCast] at l2
        have KPk := fun W hv => KPw x (by have := HQQ.out; omega) W hv
        rw [l2] at KPk
        have hxQ : x < Q := by have := HQQ.out; omega
        have hxQ' : ¬ Q ≤ x := by omega
        have hw : IntKind.i64.wrap ((Q : Int) + 1 - 1) = Q := by rw [IntWalk.i64_in _ (by omega)]; omega
        have hw2 : IntKind.i64.wrap (Q : Int) = Q := IntWalk.i64_in _ (by omega)
        have hki : (k : Int) < (Q : Int) + 1 := by omega
        have hkx := hix .i64 (k : Int) (by omega) (by omega)
        rw [Int.toNat_natCast] at hkx
        have Hx := Lib.hid hx
        clear l0 l1 l2 hx hix
        go_wp2_with fail
        have hR := hS.drew
        go_region_held3 (fun w' => w'.cell? ⟨w1.heap.size, 0, none⟩ = some (.int .i64 p) ∧ w'.cell? ⟨w1.heap.size, 1, none⟩ = some (.int .i64 D) ∧ w'.cell? ⟨w1.heap.size, 2, none⟩ = some (.slice av fs.length cv') ∧ w'.cell? (el lt k) = some (.int .i64 (x : Int))) (((try dsimp only); (repeat' apply And.intro); all_goals (repeat (first | assumption | exact cell_dr (by assumption) | refine cell_dr ?_ | refine cell_al ?_ | refine cell_sc (by assumption) ?_))))
          (first | (go_at_call 29; refine (KPk _ (hR.oldI rf)).out.mono ?_; rintro e w6 ⟨rfl, h6⟩; have hS6 := hR.call0 h6; have d0 := hS6.bcell 0 rfl 0 rfl; have d1 := hS6.bcell 0 rfl 1 rfl; have d2 := hS6.bcell 0 rfl 2 rfl; have dk := (hS6.rdI 1 rfl).cell k (by rw [Hll.out]; exact hlt); rw [Hx.out] at dk))
        all_goals
          go_wp2_with fail
          go_roundw
          case rel => exact ⟨k + 1, by go_num, by omega, by omega, hS6⟩
          case measure => simp [intOf]; omega
      · obtain rfl : k = Q + 1 := by omega
        clear b0 b1 b2 KO KP hlt hk1 hk2
        by_cases hab : 0 < a ∧ 0 < b
        · obtain ⟨a0, b0'⟩ := hab
          obtain ⟨hm1, hm2⟩ := Hmul.out a0 b0'
          obtain ⟨A', rfl⟩ := Int.eq_ofNat_of_zero_le ha0
          obtain ⟨B', rfl⟩ := Int.eq_ofNat_of_zero_le hb0
          obtain ⟨M', hM'⟩ := Int.eq_ofNat_of_zero_le Hmel.out.1
          rw [hM', Int.toNat_natCast] at hm1 hm2
          rw [hM'] at KM
          rw [Int.toNat_natCast, Int.toNat_natCast] at hm1
          obtain ⟨x0, x1, _⟩ := HL.out.at' A' (by omega) (by rw [HQQ.out]; omega)
          obtain ⟨y0, y1, _⟩ := HL.out.at' B' (by omega) (by rw [HQQ.out]; omega)
          rw [HQQ.out] at x1 y1
          have hcA := (hS.rdI 1 rfl).cell A' (by rw [Hll.out]; omega)
          have hcB := (hS.rdI 1 rfl).cell B' (by rw [Hll.out]; omega)
          have hcM := (hS.rdI 1 rfl).cell M' (by rw [Hll.out]; omega)
          have hAi := hix .i64 (A' : Int) (by omega) (by omega)
          have hBi := hix .i64 (B' : Int) (by omega) (by omega)
          have hMi := hix .i64 (M' : Int) (by omega) (by omega)
          rw [Int.toNat_natCast] at hAi hBi hMi
          rw [hm1] at hcM
          have Hm1 := Lib.hid hm1
          generalize hla : nth L A' = la at *
          generalize hlb' : nth L B' = lb at *
          have Hla := Lib.hid hla
          have Hlb := Lib.hid hlb'
          clear hla hlb' hm1
          have hw : IntKind.i64.wrap ((Q : Int) + 1 - 1) = Q := by rw [IntWalk.i64_in _ (by omega)]; omega
          have hw2 : IntKind.i64.wrap (Q : Int) = Q := IntWalk.i64_in _ (by omega)
          have hw3 : IntKind.i64.wrap (la + lb) = la + lb := IntWalk.i64_in _ (by omega)
          have htm : (la + lb).tmod (Q : Int) = (la + lb) % (Q : Int) := Int.tmod_eq_emod_of_nonneg (by omega)
          have hQ0 : ¬ Q = 0 := by omega
          have hQ1 : ¬ (Q : Int) = 0 := by omega
          have a0' : 0 < A' := by omega
          have b0'' : 0 < B' := by omega
          have b0 := hS.bcell 0 rfl 0 rfl
          have b1 := hS.bcell 0 rfl 1 rfl
          have b2 := hS.bcell 0 rfl 2 rfl
          have hz0 : ((la + lb) % (Q : Int) != (la + lb) % (Q : Int)) = false := haz _
          have hA1 : A' < L.length := by rw [Hll.out]; omega
          have hB1 : B' < L.length := by rw [Hll.out]; omega
          have hM1 : M' < L.length := by rw [Hll.out]; exact hm2
          have HA1 := Lib.hid (And.intro hA1 (And.intro hB1 hM1))
          clear hA1 hB1 hM1
          have Hix := Lib.hid hix
          clear hix hM'
          have hR := hS.drew
          go_wp2_with fail
          go_region_held3 (fun w' => w'.cell? ⟨w1.heap.size, 0, none⟩ = some (.int .i64 p) ∧ w'.cell? ⟨w1.heap.size, 1, none⟩ = some (.int .i64 D) ∧ w'.cell? ⟨w1.heap.size, 2, none⟩ = some (.slice av fs.length cv') ∧ w'.cell? (el lt A') = some (.int .i64 la) ∧ w'.cell? (el lt B') = some (.int .i64 lb) ∧ w'.cell? (el lt M') = some (.int .i64 ((la + lb) % (Q : Int)))) (((try dsimp only); (repeat' apply And.intro); all_goals (repeat (first | assumption | exact cell_dr (by assumption) | refine cell_dr ?_ | refine cell_al ?_ | refine cell_sc (by assumption) ?_))))
            (first | (go_at_call 19; refine (KM _ (hR.oldI rf)).out.mono ?_; rintro e w10 ⟨rfl, g10⟩; have hS10 := hR.call0 g10; have d0 := hS10.bcell 0 rfl 0 rfl; have d1 := hS10.bcell 0 rfl 1 rfl; have d2 := hS10.bcell 0 rfl 2 rfl; have dA := (hS10.rdI 1 rfl).cell A' HA1.out.1; have dB := (hS10.rdI 1 rfl).cell B' HA1.out.2.1; have dM := (hS10.rdI 1 rfl).cell M' HA1.out.2.2; rw [Hla.out] at dA; rw [Hlb.out] at dB; rw [Hm1.out] at dM))
          all_goals
            clear b0 b1 b2 d0 d1 d2 dA dB dM hcA hcB hcM hR hS g10
            have hix := Hix.out
            go_wp2_with fail
            have b0 := hS10.bcell 0 rfl 0 rfl
            have b1 := hS10.bcell 0 rfl 1 rfl
            have b2 := hS10.bcell 0 rfl 2 rfl
            have hR := hS10.drew
            go_region_held3 (fun w' => w'.cell? ⟨w1.heap.size, 0, none⟩ = some (.int .i64 p) ∧ w'.cell? ⟨w1.heap.size, 1, none⟩ = some (.int .i64 D) ∧ w'.cell? ⟨w1.heap.size, 2, none⟩ = some (.slice av fs.length cv')) (((try dsimp only); (repeat' apply And.intro); all_goals (repeat (first | assumption | exact cell_dr (by assumption) | refine cell_dr ?_ | refine cell_al ?_ | refine cell_sc (by assumption) ?_))))
              (first
              | (have hz := hS20; clear hz; go_at_call 61; refine (KT _ (hS20.oldI rf)).out.mono ?_; rintro e w21 ⟨rfl, g21⟩; have hS21 := hS20.call0 g21; have e0 := hS21.bcell 0 rfl 0 rfl; have e1 := hS21.bcell 0 rfl 1 rfl; have e2 := hS21.bcell 0 rfl 2 rfl)
              | (go_at_call 62; refine (KA _ (hR.oldI rf)).out.mono ?_; rintro e w20 ⟨rfl, g20⟩; have hS20 := hR.call0 g20; have d0 := hS20.bcell 0 rfl 0 rfl; have d1 := hS20.bcell 0 rfl 1 rfl; have d2 := hS20.bcell 0 rfl 2 rfl))
            clear b0 b1 b2 d0 d1 d2 hS20 hR g20 g21
            obtain ⟨ta0, ta1⟩ := hta
            obtain ⟨tb0, tb1⟩ := htb
            go_wp2_with fail
            refine (KTa _ (hS21.oldI rf)).out.mono ?_
            rintro e w22 ⟨rfl, g22⟩
            have hS22 := hS21.call0 g22
            clear hS21 g22 e0 e1 e2
            have b0 := hS22.bcell 0 rfl 0 rfl
            have b1 := hS22.bcell 0 rfl 1 rfl
            have b2 := hS22.bcell 0 rfl 2 rfl
            go_wp2_with fail
            refine (KTb _ (hS22.oldI rf)).out.mono ?_
            rintro e w23 ⟨rfl, g23⟩
            have hS23 := hS22.call0 g23
            clear hS22 g23 b0 b1 b2
            have b0 := hS23.bcell 0 rfl 0 rfl
            have b1 := hS23.bcell 0 rfl 1 rfl
            have b2 := hS23.bcell 0 rfl 2 rfl
            have hta2 : ¬ p ≤ ta := by omega
            have hta3 : ¬ ta < 0 := by omega
            go_wp2_with fail
            refine (KS _ (hS23.oldI rf)).out.mono ?_
            rintro e w24 ⟨sv, S, rfl, hsq, g24⟩
            have hS24 := hS23.call g24
            clear hS23 g24 b0 b1 b2
            have b0 := hS24.bcell 0 rfl 0 rfl
            have HS := Lib.hid hsq
            have hsl := (hS24.rdI 2 rfl).len
            have hsx := (hS24.rdI 2 rfl).ix
            have hsc := (hS24.rdI 2 rfl).cell
            have hlc := (hS24.rdI 1 rfl).cell
            have hsle := (hS24.rdI 2 rfl).le
            have Hend := Lib.hid (hend _ _ hS24)
            have hsn := hsq.len
            rw [HQQ.out] at hsn
            by_cases hp2 : p = 2
            · have ep : (p == 2) = true := eq_t hp2
              have ep2 : ¬ 2 < p := by omega
              rw [if_pos hp2] at hsn
              rw [hsn] at hsl hsx hsc
              have Hsn := Lib.hid hsn
              have Hp2 := Lib.hid hp2
              clear hsq hsn hp2
              go_wp2_with fail
              go_loopw [16] (fun x wr => ∃ k : Nat, x = .int .i64 k ∧ k ≤ Q ∧ wr = w24) (fun x _ => Q - (intOf x).toNat)
              case atStart => exact ⟨0, rfl, by omega, rfl⟩
              case round =>
                obtain ⟨k, rfl, hk, rfl⟩ := hrel
                by_cases hkl : k < Q
                · have hck := hsc k hkl
                  have hbd := HS.out.bd _ (nth_mem (show k < S.length by rw [Hsn.out]; exact hkl))
                  rw [HQQ.out] at hbd
                  obtain ⟨x0, x1⟩ := hbd
                  generalize nth S k = x at *
                  have x2 : ¬ x < 1 := by omega
                  have x3 : ¬ (Q : Int) + 1 ≤ x := by omega
                  clear hsc hlc
                  go_wp2_with fail
                  go_roundw
                  case rel => exact ⟨k + 1, by go_num, by omega, by first | rfl | trivial⟩
                  case measure => simp [intOf]; omega
                · go_wp2_with fail
                  go_ret
                  exact ⟨rfl, Hend.out.out⟩
            · have ep : (p == 2) = false := eq_f hp2
              have ep2 : 2 < p := by omega
              rw [if_neg hp2] at hsn
              rw [hsn] at hsl hsx hsc
              have Hsn := Lib.hid hsn
              have Hev := Lib.hid (hsq.even hp2 L (by rw [HGG.out]; exact HL.out))
              clear hsq hsn hp2
              obtain ⟨N, hN⟩ : ∃ N, N = Q / 2 := ⟨_, rfl⟩
              rw [← hN] at hsl hsx hsc
              have HN := Lib.hid hN
              have hN2 : (Q : Int) / 2 = N := by omega
              clear hN
              go_wp2_with fail
              go_loopw [16] (fun x wr => ∃ k : Nat, x = .int .i64 k ∧ k ≤ N ∧ wr = w24) (fun x _ => N - (intOf x).toNat)
              case atStart => exact ⟨0, rfl, by omega, rfl⟩
              case round =>
                obtain ⟨k, rfl, hk, rfl⟩ := hrel
                by_cases hkl : k < N
                · have hck := hsc k hkl
                  have hmem := nth_mem (show k < S.length by rw [Hsn.out, ← HN.out]; exact hkl)
                  have hbd := HS.out.bd _ hmem
                  have hev := Hev.out _ hmem
                  rw [HQQ.out] at hbd
                  obtain ⟨x0, x1⟩ := hbd
                  generalize nth S k = x at *
                  obtain ⟨X, rfl⟩ := Int.eq_ofNat_of_zero_le (show 0 ≤ x by omega)
                  rw [Int.toNat_natCast] at hev
                  have hlX := hlc X (by rw [Hll.out]; omega)
                  obtain ⟨l0, _, _⟩ := HL.out.at' X (by omega) (by rw [HQQ.out]; omega)
                  have hXi := hix .i64 (X : Int) (by omega) (by omega)
                  rw [Int.toNat_natCast] at hXi
                  generalize nth L X = y at *
                  obtain ⟨Y, rfl⟩ := Int.eq_ofNat_of_zero_le l0
                  have hev' : Y % 2 = 0 := by omega
                  have ev2 : ((Y : Int) % 2 != 0) = false := ne_f hev
                  have x2 : ¬ (X : Int) < 1 := by omega
                  have x3 : ¬ (Q : Int) + 1 ≤ (X : Int) := by omega
                  have x4 : ¬ X < 1 := by omega
                  have x5 : ¬ Q + 1 ≤ X := by omega
                  clear hsc hlc hix hmem
                  go_wp2_with fail
                  go_roundw
                  case rel => exact ⟨k + 1, by go_num, by omega, by first | rfl | trivial⟩
                  case measure => simp [intOf]; omega
                · go_wp2_with fail
                  go_ret
                  exact ⟨rfl, Hend.out.out⟩
        · by_cases a0 : 0 < a
          · have b0' : ¬ 0 < b := fun h => hab ⟨a0, h⟩
            have b3 : decide (0 < b) = false := decide_eq_false b0'
            have a3 : decide (0 < a) = true := decide_eq_true a0
            clear hab
            go_wp2_with fail
            have hne : Nonempty (SS _ _ _) := ⟨⟨_, hS⟩⟩
            refine wp_region_st (by kernel_rfl) (by kernel_rfl) hS ?_
            repeat (go_big_quiet_step (fail))
            refine wpQuiet_nil ?_
            rintro _ ⟨s2, rfl⟩
            have hS10 := s2.st
            generalize s2.w = w10 at hS10 ⊢
            go_wp2_with fail
            have b0 := hS10.bcell 0 rfl 0 rfl
            have b1 := hS10.bcell 0 rfl 1 rfl
            have b2 := hS10.bcell 0 rfl 2 rfl
            have hR := hS10.drew
            go_region_held3 (fun w' => w'.cell? ⟨w1.heap.size, 0, none⟩ = some (.int .i64 p) ∧ w'.cell? ⟨w1.heap.size, 1, none⟩ = some (.int .i64 D) ∧ w'.cell? ⟨w1.heap.size, 2, none⟩ = some (.slice av fs.length cv')) (((try dsimp only); (repeat' apply And.intro); all_goals (repeat (first | assumption | exact cell_dr (by assumption) | refine cell_dr ?_ | refine cell_al ?_ | refine cell_sc (by assumption) ?_))))
              (first
              | (have hz := hS20; clear hz; go_at_call 61; refine (KT _ (hS20.oldI rf)).out.mono ?_; rintro e w21 ⟨rfl, g21⟩; have hS21 := hS20.call0 g21; have e0 := hS21.bcell 0 rfl 0 rfl; have e1 := hS21.bcell 0 rfl 1 rfl; have e2 := hS21.bcell 0 rfl 2 rfl)
              | (go_at_call 62; refine (KA _ (hR.oldI rf)).out.mono ?_; rintro e w20 ⟨rfl, g20⟩; have hS20 := hR.call0 g20; have d0 := hS20.bcell 0 rfl 0 rfl; have d1 := hS20.bcell 0 rfl 1 rfl; have d2 := hS20.bcell 0 rfl 2 rfl))
            clear b0 b1 b2 d0 d1 d2 hS20 hR g20 g21
            obtain ⟨ta0, ta1⟩ := hta
            obtain ⟨tb0, tb1⟩ := htb
            go_wp2_with fail
            refine (KTa _ (hS21.oldI rf)).out.mono ?_
            rintro e w22 ⟨rfl, g22⟩
            have hS22 := hS21.call0 g22
            clear hS21 g22 e0 e1 e2
            have b0 := hS22.bcell 0 rfl 0 rfl
            have b1 := hS22.bcell 0 rfl 1 rfl
            have b2 := hS22.bcell 0 rfl 2 rfl
            go_wp2_with fail
            refine (KTb _ (hS22.oldI rf)).out.mono ?_
            rintro e w23 ⟨rfl, g23⟩
            have hS23 := hS22.call0 g23
            clear hS22 g23 b0 b1 b2
            have b0 := hS23.bcell 0 rfl 0 rfl
            have b1 := hS23.bcell 0 rfl 1 rfl
            have b2 := hS23.bcell 0 rfl 2 rfl
            have hta2 : ¬ p ≤ ta := by omega
            have hta3 : ¬ ta < 0 := by omega
            go_wp2_with fail
            refine (KS _ (hS23.oldI rf)).out.mono ?_
            rintro e w24 ⟨sv, S, rfl, hsq, g24⟩
            have hS24 := hS23.call g24
            clear hS23 g24 b0 b1 b2
            have b0 := hS24.bcell 0 rfl 0 rfl
            have HS := Lib.hid hsq
            have hsl := (hS24.rdI 2 rfl).len
            have hsx := (hS24.rdI 2 rfl).ix
            have hsc := (hS24.rdI 2 rfl).cell
            have hlc := (hS24.rdI 1 rfl).cell
            have hsle := (hS24.rdI 2 rfl).le
            have Hend := Lib.hid (hend _ _ hS24)
            have hsn := hsq.len
            rw [HQQ.out] at hsn
            by_cases hp2 : p = 2
            · have ep : (p == 2) = true := eq_t hp2
              have ep2 : ¬ 2 < p := by omega
              rw [if_pos hp2] at hsn
              rw [hsn] at hsl hsx hsc
              have Hsn := Lib.hid hsn
              have Hp2 := Lib.hid hp2
              clear hsq hsn hp2
              go_wp2_with fail
              go_loopw [16] (fun x wr => ∃ k : Nat, x = .int .i64 k ∧ k ≤ Q ∧ wr = w24) (fun x _ => Q - (intOf x).toNat)
              case atStart => exact ⟨0, rfl, by omega, rfl⟩
              case round =>
                obtain ⟨k, rfl, hk, rfl⟩ := hrel
                by_cases hkl : k < Q
                · have hck := hsc k hkl
                  have hbd := HS.out.bd _ (nth_mem (show k < S.length by rw [Hsn.out]; exact hkl))
                  rw [HQQ.out] at hbd
                  obtain ⟨x0, x1⟩ := hbd
                  generalize nth S k = x at *
                  have x2 : ¬ x < 1 := by omega
                  have x3 : ¬ (Q : Int) + 1 ≤ x := by omega
                  clear hsc hlc
                  go_wp2_with fail
                  go_roundw
                  case rel => exact ⟨k + 1, by go_num, by omega, by first | rfl | trivial⟩
                  case measure => simp [intOf]; omega
                · go_wp2_with fail
                  go_ret
                  exact ⟨rfl, Hend.out.out⟩
            · have ep : (p == 2) = false := eq_f hp2
              have ep2 : 2 < p := by omega
              rw [if_neg hp2] at hsn
              rw [hsn] at hsl hsx hsc
              have Hsn := Lib.hid hsn
              have Hev := Lib.hid (hsq.even hp2 L (by rw [HGG.out]; exact HL.out))
              clear hsq hsn hp2
              obtain ⟨N, hN⟩ : ∃ N, N = Q / 2 := ⟨_, rfl⟩
              rw [← hN] at hsl hsx hsc
              have HN := Lib.hid hN
              have hN2 : (Q : Int) / 2 = N := by omega
              clear hN
              go_wp2_with fail
              go_loopw [16] (fun x wr => ∃ k : Nat, x = .int .i64 k ∧ k ≤ N ∧ wr = w24) (fun x _ => N - (intOf x).toNat)
              case atStart => exact ⟨0, rfl, by omega, rfl⟩
              case round =>
                obtain ⟨k, rfl, hk, rfl⟩ := hrel
                by_cases hkl : k < N
                · have hck := hsc k hkl
                  have hmem := nth_mem (show k < S.length by rw [Hsn.out, ← HN.out]; exact hkl)
                  have hbd := HS.out.bd _ hmem
                  have hev := Hev.out _ hmem
                  rw [HQQ.out] at hbd
                  obtain ⟨x0, x1⟩ := hbd
                  generalize nth S k = x at *
                  obtain ⟨X, rfl⟩ := Int.eq_ofNat_of_zero_le (show 0 ≤ x by omega)
                  rw [Int.toNat_natCast] at hev
                  have hlX := hlc X (by rw [Hll.out]; omega)
                  obtain ⟨l0, _, _⟩ := HL.out.at' X (by omega) (by rw [HQQ.out]; omega)
                  have hXi := hix .i64 (X : Int) (by omega) (by omega)
                  rw [Int.toNat_natCast] at hXi
                  generalize nth L X = y at *
                  obtain ⟨Y, rfl⟩ := Int.eq_ofNat_of_zero_le l0
                  have hev' : Y % 2 = 0 := by omega
                  have ev2 : ((Y : Int) % 2 != 0) = false := ne_f hev
                  have x2 : ¬ (X : Int) < 1 := by omega
                  have x3 : ¬ (Q : Int) + 1 ≤ (X : Int) := by omega
                  have x4 : ¬ X < 1 := by omega
                  have x5 : ¬ Q + 1 ≤ X := by omega
                  clear hsc hlc hix hmem
                  go_wp2_with fail
                  go_roundw
                  case rel => exact ⟨k + 1, by go_num, by omega, by first | rfl | trivial⟩
                  case measure => simp [intOf]; omega
                · go_wp2_with fail
                  go_ret
                  exact ⟨rfl, Hend.out.out⟩
          · clear hab
            have a3 : decide (0 < a) = false := decide_eq_false a0
            go_wp2_with fail
            have hne : Nonempty (SS _ _ _) := ⟨⟨_, hS⟩⟩
            refine wp_region_st (by kernel_rfl) (by kernel_rfl) hS ?_
            repeat (go_big_quiet_step (fail))
            refine wpQuiet_nil ?_
            rintro _ ⟨s2, rfl⟩
            have hS10 := s2.st
            generalize s2.w = w10 at hS10 ⊢
            go_wp2_with fail
            have b0 := hS10.bcell 0 rfl 0 rfl
            have b1 := hS10.bcell 0 rfl 1 rfl
            have b2 := hS10.bcell 0 rfl 2 rfl
            have hR := hS10.drew
            go_region_held3 (fun w' => w'.cell? ⟨w1.heap.size, 0, none⟩ = some (.int .i64 p) ∧ w'.cell? ⟨w1.heap.size, 1, none⟩ = some (.int .i64 D) ∧ w'.cell? ⟨w1.heap.size, 2, none⟩ = some (.slice av fs.length cv')) (((try dsimp only); (repeat' apply And.intro); all_goals (repeat (first | assumption | exact cell_dr (by assumption) | refine cell_dr ?_ | refine cell_al ?_ | refine cell_sc (by assumption) ?_))))
              (first
              | (have hz := hS20; clear hz; go_at_call 61; refine (KT _ (hS20.oldI rf)).out.mono ?_; rintro e w21 ⟨rfl, g21⟩; have hS21 := hS20.call0 g21; have e0 := hS21.bcell 0 rfl 0 rfl; have e1 := hS21.bcell 0 rfl 1 rfl; have e2 := hS21.bcell 0 rfl 2 rfl)
              | (go_at_call 62; refine (KA _ (hR.oldI rf)).out.mono ?_; rintro e w20 ⟨rfl, g20⟩; have hS20 := hR.call0 g20; have d0 := hS20.bcell 0 rfl 0 rfl; have d1 := hS20.bcell 0 rfl 1 rfl; have d2 := hS20.bcell 0 rfl 2 rfl))
            clear b0 b1 b2 d0 d1 d2 hS20 hR g20 g21
            obtain ⟨ta0, ta1⟩ := hta
            obtain ⟨tb0, tb1⟩ := htb
            go_wp2_with fail
            refine (KTa _ (hS21.oldI rf)).out.mono ?_
            rintro e w22 ⟨rfl, g22⟩
            have hS22 := hS21.call0 g22
            clear hS21 g22 e0 e1 e2
            have b0 := hS22.bcell 0 rfl 0 rfl
            have b1 := hS22.bcell 0 rfl 1 rfl
            have b2 := hS22.bcell 0 rfl 2 rfl
            go_wp2_with fail
            refine (KTb _ (hS22.oldI rf)).out.mono ?_
            rintro e w23 ⟨rfl, g23⟩
            have hS23 := hS22.call0 g23
            clear hS22 g23 b0 b1 b2
            have b0 := hS23.bcell 0 rfl 0 rfl
            have b1 := hS23.bcell 0 rfl 1 rfl
            have b2 := hS23.bcell 0 rfl 2 rfl
            have hta2 : ¬ p ≤ ta := by omega
            have hta3 : ¬ ta < 0 := by omega
            go_wp2_with fail
            refine (KS _ (hS23.oldI rf)).out.mono ?_
            rintro e w24 ⟨sv, S, rfl, hsq, g24⟩
            have hS24 := hS23.call g24
            clear hS23 g24 b0 b1 b2
            have b0 := hS24.bcell 0 rfl 0 rfl
            have HS := Lib.hid hsq
            have hsl := (hS24.rdI 2 rfl).len
            have hsx := (hS24.rdI 2 rfl).ix
            have hsc := (hS24.rdI 2 rfl).cell
            have hlc := (hS24.rdI 1 rfl).cell
            have hsle := (hS24.rdI 2 rfl).le
            have Hend := Lib.hid (hend _ _ hS24)
            have hsn := hsq.len
            rw [HQQ.out] at hsn
            by_cases hp2 : p = 2
            · have ep : (p == 2) = true := eq_t hp2
              have ep2 : ¬ 2 < p := by omega
              rw [if_pos hp2] at hsn
              rw [hsn] at hsl hsx hsc
              have Hsn := Lib.hid hsn
              have Hp2 := Lib.hid hp2
              clear hsq hsn hp2
              go_wp2_with fail
              go_loopw [16] (fun x wr => ∃ k : Nat, x = .int .i64 k ∧ k ≤ Q ∧ wr = w24) (fun x _ => Q - (intOf x).toNat)
              case atStart => exact ⟨0, rfl, by omega, rfl⟩
              case round =>
                obtain ⟨k, rfl, hk, rfl⟩ := hrel
                by_cases hkl : k < Q
                · have hck := hsc k hkl
                  have hbd := HS.out.bd _ (nth_mem (show k < S.length by rw [Hsn.out]; exact hkl))
                  rw [HQQ.out] at hbd
                  obtain ⟨x0, x1⟩ := hbd
                  generalize nth S k = x at *
                  have x2 : ¬ x < 1 := by omega
                  have x3 : ¬ (Q : Int) + 1 ≤ x := by omega
                  clear hsc hlc
                  go_wp2_with fail
                  go_roundw
                  case rel => exact ⟨k + 1, by go_num, by omega, by first | rfl | trivial⟩
                  case measure => simp [intOf]; omega
                · go_wp2_with fail
                  go_ret
                  exact ⟨rfl, Hend.out.out⟩
            · have ep : (p == 2) = false := eq_f hp2
              have ep2 : 2 < p := by omega
              rw [if_neg hp2] at hsn
              rw [hsn] at hsl hsx hsc
              have Hsn := Lib.hid hsn
              have Hev := Lib.hid (hsq.even hp2 L (by rw [HGG.out]; exact HL.out))
              clear hsq hsn hp2
              obtain ⟨N, hN⟩ : ∃ N, N = Q / 2 := ⟨_, rfl⟩
              rw [← hN] at hsl hsx hsc
              have HN := Lib.hid hN
              have hN2 : (Q : Int) / 2 = N := by omega
              clear hN
              go_wp2_with fail
              go_loopw [16] (fun x wr => ∃ k : Nat, x = .int .i64 k ∧ k ≤ N ∧ wr = w24) (fun x _ => N - (intOf x).toNat)
              case atStart => exact ⟨0, rfl, by omega, rfl⟩
              case round =>
                obtain ⟨k, rfl, hk, rfl⟩ := hrel
                by_cases hkl : k < N
                · have hck := hsc k hkl
                  have hmem := nth_mem (show k < S.length by rw [Hsn.out, ← HN.out]; exact hkl)
                  have hbd := HS.out.bd _ hmem
                  have hev := Hev.out _ hmem
                  rw [HQQ.out] at hbd
                  obtain ⟨x0, x1⟩ := hbd
                  generalize nth S k = x at *
                  obtain ⟨X, rfl⟩ := Int.eq_ofNat_of_zero_le (show 0 ≤ x by omega)
                  rw [Int.toNat_natCast] at hev
                  have hlX := hlc X (by rw [Hll.out]; omega)
                  obtain ⟨l0, _, _⟩ := HL.out.at' X (by omega) (by rw [HQQ.out]; omega)
                  have hXi := hix .i64 (X : Int) (by omega) (by omega)
                  rw [Int.toNat_natCast] at hXi
                  generalize nth L X = y at *
                  obtain ⟨Y, rfl⟩ := Int.eq_ofNat_of_zero_le l0
                  have hev' : Y % 2 = 0 := by omega
                  have ev2 : ((Y : Int) % 2 != 0) = false := ne_f hev
                  have x2 : ¬ (X : Int) < 1 := by omega
                  have x3 : ¬ (Q : Int) + 1 ≤ (X : Int) := by omega
                  have x4 : ¬ X < 1 := by omega
                  have x5 : ¬ Q + 1 ≤ X := by omega
                  clear hsc hlc hix hmem
                  go_wp2_with fail
                  go_roundw
                  case rel => exact ⟨k + 1, by go_num, by omega, by first | rfl | trivial⟩
                  case measure => simp [intOf]; omega
                · go_wp2_with fail
                  go_ret
                  exact ⟨rfl, Hend.out.out⟩
end Go.Proofs.Ytcenabaklokhhaa
