/- The texts of this claim, run 10: LPrj Prf PFnProjective. -/
import Derived.Test.YtdlmohigkkdegaaGreatK4
import Derived.Test.YtdlmohigkkdegaaGreatK6
import Derived.Test.YtdlmohigkkdegaaGreatK8
import Derived.Test.YtdlmohigkkdegaaGreatK9
import Derived.ProofKit
import Derived.OpenShut
import Derived.ShutString
import Derived.ChangeOld
import Derived.Below
section
/- The law FnProjective, walked. -/
namespace Go.Proofs.YtdlmohigkkdegaaGreat
set_option linter.unusedSimpArgs false
set_option linter.unusedVariables false
open Go.RowKit
attribute [local go_sem ↓] Go.wp_at_zero Go.wp_at_succ

theorem DrawProjectivePlane_c (w : World) (cv : Value) (bs : List UInt8) (hb : RdB w cv bs) : Calls Tryz.prog 7 #[cv] w fun e w' => ∃ q : Int, e = .returned (.int .i64 q) ∧ -1 ≤ q ∧ q ≤ 8 ∧ St w.heap.size w w' [] := by
  have HZ : ∀ W g (h : Src w W cv g 0 []), Calls Tryz.prog 44 #[.pointer (some ⟨g, 0, none⟩)] W fun e w' => ∃ q : Int, e = .returned (.int .i64 q) ∧ -1 ≤ q ∧ q ≤ 8 ∧ Src w w' cv g 2 [] := fun W g h => by
    go_enter Tryz.func44, Tryz.ntmps44
    go_wp2_with fail
    refine (pick_c w _ cv bs _ _ _ 10 hb h (by omega)).mono ?_
    rintro e w2 ⟨x, x0, x1, rfl, h2⟩
    have hx : x ≤ 9 := by omega
    clear x1
    go_wp2_with fail
    go_ret
    exact ⟨_, rfl, by omega, by omega, h2⟩
  have HZ := Lib.hid HZ
  go_enter Tryz.func7, Tryz.ntmps7
  go_wp2_with fail
  refine (l00From_c w cv bs hb).mono ?_
  rintro e w1 ⟨rfl, h1⟩
  go_wp2_with fail
  refine (HZ.out _ _ h1).mono ?_
  rintro e w2 ⟨q, rfl, q0, q1, h2⟩
  have hS := h2.st
  clear h1 h2
  go_wp2_with fail
  go_ret
  exact ⟨q, rfl, q0, q1, hS.out⟩
theorem tmod_two {n a x : Int} (h0 : 0 ≤ a) (h1 : a < n) (h2 : 0 ≤ x) (h3 : x < n - 1) : ∃ b : Int, (a + 1 + x).tmod n = b ∧ 0 ≤ b ∧ b < n ∧ b ≠ a := by
  rw [Int.tmod_eq_emod_of_nonneg (by omega)]
  rcases Int.lt_or_le (a + 1 + x) n with h | h
  · rw [Int.emod_eq_of_lt (by omega) h]
    exact ⟨_, rfl, by omega, by omega, by omega⟩
  · have : (a + 1 + x) % n = a + 1 + x - n := by
      rw [← Int.sub_emod_right, Int.emod_eq_of_lt (by omega) (by omega)]
    exact ⟨_, this, by omega, by omega, by omega⟩
/-- behind the cut: an affine plane in a box of its own -/
def CutJ (w : World) (Q q : Nat) (s17 s18 : Value) (w' : World) : Prop := ∃ (X : List (List Int)) (g : Nat) (v : Value) (u : List Value), s17 = .pointer (some ⟨g, 0, none⟩) ∧ s18 = .int .i64 0 ∧ dOk Q X = true ∧ ordP afV afK Q X = q ∧ RII w' v u X ∧ BoxD w' g Q v ∧ St w.heap.size w w' []
theorem RemoveJ_c (q V Q : Nat) (D : List (List Int)) (c : List Int) (hF : PjF q V D c) (hQ : q * q = Q) (q2 : 2 ≤ q) (v : Value) (us : List Value) (k : Nat) (hk : k < V) (w : World) (hv : RII w v us D) :
    Calls Tryz.prog 16 #[dv V v, .int .i64 k] w (fun e w' => ∃ (X : List (List Int)) (v2 : Value) (u2 : List Value), e = .returned (.tuple #[dv Q v2, .int .i64 0]) ∧ dOk Q X = true ∧ ordP afV afK Q X = q ∧ u2.length = X.length ∧ St w.heap.size w w' (own2 v2 u2 X)) := by
  have h := RemoveLine_c V v us D k w hv hF.ok (by rw [hF.len]; exact hk) (by rw [hF.ord]; omega) (hF.hne k hk) (hF.hn0 k hk)
  rw [hF.hnl k hk, hQ] at h
  have h1 := hF.rok k hk
  have h2 := hF.rord k hk
  rw [hQ] at h1 h2
  refine h.mono ?_
  rintro e w' ⟨v2, u2, rfl, hl, hS⟩
  exact ⟨_, v2, u2, rfl, h1, h2, hl, hS⟩
set_option maxHeartbeats 16000000 in
set_option maxRecDepth 100000 in
theorem FnProjective_law (w : World) (cv : Value) (bs : List UInt8) (cm : Value) (ms : List UInt8) (hb : RdB w cv bs) (hm : RdB w cm ms) :
    Calls Tryz.prog 3 #[cv, cm] w (GivesB w true) := by
  by_cases hlong : 1048576 < bs.length ∨ 1048576 < ms.length
  · by_cases h1 : 1048576 < bs.length
    · have hl' : decide (1048576 < bs.length) = true := by simpa using h1
      go_enter Tryz.func3, Tryz.ntmps3
      go_wp2_with fail
      refine (b10Long_c w cv bs hb).mono ?_
      rw [hl']
      rintro e w1 ⟨rfl, rfl⟩
      go_wp2_with fail
      go_ret
      exact ⟨rfl, St.refl _⟩
    · have hl' : decide (1048576 < bs.length) = false := by simpa using h1
      have hl2 : decide (1048576 < ms.length) = true := by simp; omega
      go_enter Tryz.func3, Tryz.ntmps3
      go_wp2_with fail
      refine (b10Long_c w cv bs hb).mono ?_
      rw [hl']
      rintro e w1 ⟨rfl, rfl⟩
      go_wp2_with (go_at_call 6; refine (b10Long_c w cm ms hm).mono ?_; rw [hl2]; rintro e w1 ⟨rfl, rfl⟩)
      go_ret
      exact ⟨rfl, St.refl _⟩
  have hl' : decide (1048576 < bs.length) = false := by simp; omega
  have hl2 : decide (1048576 < ms.length) = false := by simp; omega
  go_enter Tryz.func3, Tryz.ntmps3
  go_wp2_with fail
  refine (b10Long_c w cv bs hb).mono ?_
  rw [hl']
  rintro e w1 ⟨rfl, rfl⟩
  go_wp2_with (go_at_call 6; refine (b10Long_c w cm ms hm).mono ?_; rw [hl2]; rintro e w1 ⟨rfl, rfl⟩)
  refine (DrawProjectivePlane_c w cv bs hb).mono ?_
  rintro e w1 ⟨q, rfl, q0, q8, hT⟩
  have rM := hm.keep hT.below
  clear hlong hl' hl2 hb hm
  by_cases hbad : 5 < q ∨ mkOk q = false
  · have K1 := Lib.hid (ProjectivePlane_no q w1 hbad)
    have KP := fun W => Lib.hid (PrimePower_c q W)
    have hP : (pp (factors q)).1 = 0 ∨ 5 < q := by
      rcases hbad with h | h
      · exact .inr h
      · rcases pp_bad h with h | h
        · exact .inl h
        · exact .inr (by omega)
    generalize pp (factors q) = Pp at *
    clear hbad
    go_wp2_with fail
    refine K1.out.mono ?_
    rintro e w2 ⟨v2, us2, rfl, hl2, h2⟩
    obtain ⟨a2, c2, hv2⟩ := (h2.rd 0 (e := 32) (v := v2) (us := us2) rfl).sl.sh
    rw [show us2.length = 0 from hl2] at hv2
    subst hv2
    have hn := (newDz w2 0 (.slice a2 0 c2)).1
    have hT := (((hT.call0 h2.out).out).call0 hn).out
    clear h2 hn hl2 K1
    unfold dv
    go_wp2_with fail
    refine (KP _).out.mono ?_
    clear KP
    rintro e w3 ⟨rfl, h3⟩
    have hT := (hT.call0 h3).out
    clear h3
    rcases hP with hz | h5
    · have f1 : (Pp.1 == 0) = true := eq_t hz
      go_wp2_with fail
      go_ret
      exact ⟨rfl, hT⟩
    · by_cases hz : Pp.1 = 0
      · have f1 : (Pp.1 == 0) = true := eq_t hz
        go_wp2_with fail
        go_ret
        exact ⟨rfl, hT⟩
      · have f1 : (Pp.1 == 0) = false := eq_f hz
        go_wp2_with fail
        go_ret
        exact ⟨rfl, hT⟩
  · have hm : mkOk q = true := by
      cases h : mkOk q with
      | true => rfl
      | false => exact absurd (.inr h) hbad
    have hq5 : q ≤ 5 := by
      rcases Int.lt_or_le 5 q with h | h
      · exact absurd (.inl h) hbad
      · exact h
    obtain ⟨n, rfl, n2, -, -⟩ := mkOk_t hm
    have n5 : n ≤ 5 := by omega
    have hmem : n ∈ ([2, 3, 4, 5] : List Nat) := by simp only [List.mem_cons, List.not_mem_nil, or_false]; omega
    have HF := Lib.hid (pjF hmem)
    have K1 := Lib.hid (ProjectivePlane_c n w1 hm n2 n5 (pj_few n hmem))
    obtain ⟨n', p, Dg, fs, hn', hfq, h1, h2, h3, h4⟩ := mk_fq hm (by omega)
    obtain rfl : n' = n := by omega
    have HM := fun W => Lib.hid (MakeField_c n' W)
    rw [h1, h2, h3, h4] at HM
    have hcn : cnC n' = cnL p Dg fs n' n' := by rw [cnC, h1, h2, h3]; rfl
    rw [hcn] at HF
    have Hfv := Lib.hid hfq.fv
    have Hpw := Lib.hid hfq.pow
    clear hcn h1 h2 h3 h4 hfq hn'
    generalize pjD n' = D at *
    rw [HF.out.ap] at K1
    obtain ⟨V, hV⟩ : ∃ V : Nat, n' * n' + n' + 1 = V := ⟨_, rfl⟩
    have hV4 : 7 ≤ V ∧ V ≤ 31 := by
      have h1 : 2 * 2 ≤ n' * n' := Nat.mul_le_mul n2 n2
      have h2 : n' * n' ≤ 5 * 5 := Nat.mul_le_mul n5 n5
      omega
    have hVi : (n' : Int) * (n' : Int) + n' + 1 = (V : Int) := by omega
    rw [hV] at K1 HF
    obtain ⟨Q, hQ⟩ : ∃ Q : Nat, n' * n' = Q := ⟨_, rfl⟩
    have hQ4 : 4 ≤ Q ∧ Q ≤ 25 := by
      have h1 : 2 * 2 ≤ n' * n' := Nat.mul_le_mul n2 n2
      have h2 : n' * n' ≤ 5 * 5 := Nat.mul_le_mul n5 n5
      omega
    have hQi : (n' : Int) * (n' : Int) = (Q : Int) := by omega
    rw [hQi] at hVi
    have wq1 : IntKind.i64.wrap (Q : Int) = Q := IntWalk.i64_in _ (by omega)
    have wq2 : IntKind.i64.wrap ((Q : Int) + n') = (Q : Int) + n' := IntWalk.i64_in _ (by omega)
    have wq3 : IntKind.i64.wrap ((Q : Int) + n' + 1) = (V : Int) := by rw [hVi]; exact IntWalk.i64_in _ (by omega)
    clear hbad hm hq5 q0 q8 hV
    go_wp2_with fail
    refine K1.out.mono ?_
    clear K1
    rintro e w2 ⟨vd, ud, rfl, hld, h2⟩
    have rD := h2.rii hld
    obtain ⟨ad, cd, hvd⟩ := rD.1.sl.sh
    rw [hld, HF.out.len] at hvd
    subst hvd
    have hT := (hT.call0 h2.out).out
    obtain ⟨hn, bd⟩ := newDz w2 V (.slice ad V cd)
    have hT := (hT.call0 hn).out
    have rD := rD.keep hn.below
    have rM := (rM.keep h2.below).keep hn.below
    have KG := Lib.hid (MeetingsOf_c V (.slice ad V cd) ud D _ rD HF.out.ok)
    rw [HF.out.cmp] at KG
    have b0 := bd.1
    have b1 := bd.2
    clear h2 hn hld
    unfold dv at KG ⊢
    go_wp2_with fail
    refine KG.out.mono ?_
    clear KG b0 b1
    rintro e w3 ⟨vm, rfl, h3⟩
    have rD := rD.keep h3.below
    have rM := rM.keep h3.below
    have bd := bd.keep h3.below
    have hT := (hT.call0 h3.out).out
    have hX := (St.refl w3).lits [1] (by simp)
    have KN := Lib.hid (b10Nums_c vm _ [1] [1] _ ((h3.rdI 0 rfl).keep hX.below) (hX.rdI 0 rfl))
    rw [decide_eq_true rfl] at KN
    have KO := fun W h => Lib.hid (ProjectiveOrder_c V (.slice ad V cd) ud D W h HF.out.ok)
    rw [HF.out.ord] at KO
    have b0 := bd.1
    have b1 := bd.2
    clear h3
    unfold dv at KO
    go_wp2_with (first
      | (go_at_call 11; refine KN.out.mono ?_; rintro e w4 ⟨rfl, h4⟩; have hX4 := hX.call0 h4; have bd4 := bd.keep hX4.below; have c0 := bd4.1; have c1 := bd4.2; have rD4 := rD.keep hX4.below)
      | (go_at_call 12; refine (KO _ rD4).out.mono ?_; rintro e w5 ⟨rfl, h5⟩; have hX5 := hX4.call0 h5; have bd5 := bd.keep hX5.below; have d0 := bd5.1; have d1 := bd5.2))
    have rD := rD.keep hX5.below
    have rM := rM.keep hX5.below
    have hT := (hT.call0 hX5.out).out
    clear KN KO hX hX4 h4 h5 hX5 b0 b1 c0 c1 d0 d1 bd bd4 rD4
    refine (b10At_c _ cm ms 0 V rM (by omega) (by omega) (by omega)).mono ?_
    rintro e w6 ⟨x, rfl, x0, x1, rfl⟩
    have x1 : x < V := by omega
    obtain ⟨a, rfl⟩ := Int.eq_ofNat_of_zero_le x0
    have wa : IntKind.i64.wrap ((a : Int) + 1) = (a : Int) + 1 := IntWalk.i64_in _ (by omega)
    have wv : IntKind.i64.wrap ((V : Int) - 1) = (V : Int) - 1 := IntWalk.i64_in _ (by omega)
    go_wp2_with fail
    refine (b10At_c _ cm ms 1 ((V : Int) - 1) rM (by omega) (by omega) (by omega)).mono ?_
    rintro e w6 ⟨y, rfl, y0, y1, rfl⟩
    have y1 : y < (V : Int) - 1 := by omega
    have way : IntKind.i64.wrap ((a : Int) + 1 + y) = (a : Int) + 1 + y := IntWalk.i64_in _ (by omega)
    obtain ⟨bI, hbm, hb0, hb1, hba⟩ := tmod_two (n := V) (a := a) (x := y) (by omega) (by omega) y0 y1
    obtain ⟨b, rfl⟩ := Int.eq_ofNat_of_zero_le hb0
    have wb : IntKind.i64.wrap (b : Int) = b := IntWalk.i64_in _ (by omega)
    have hV0 : ¬ ((V : Int) = 0) := by omega
    obtain ⟨k, hkV, hk, hka, hkb⟩ := HF.out.lt a b (by omega) (by omega) (by omega)
    have b0 := bd5.1
    have b1 := bd5.2
    have KL := Lib.hid (LineThrough_c V (.slice ad V cd) ud D a b _ rD HF.out.ok (by omega) (by omega) k hk)
    have hkD : k < D.length := by rw [HF.out.len]; exact hkV
    have hka2 : decide ((a : Int) ∈ xat D k) = true := decide_eq_true hka
    have hkb2 : decide ((b : Int) ∈ xat D k) = true := decide_eq_true hkb
    have hk0 : ¬ ((k : Int) < 0) := by omega
    have hkV2 : ¬ ((V : Int) ≤ (k : Int)) := by omega
    have dk1 : decide (V ≤ k) = false := decide_eq_false (by omega)
    have dk2 : decide ((k : Int) < 0) = false := decide_eq_false (by omega)
    have dk3 : decide ((V : Int) ≤ (k : Int)) = false := decide_eq_false (by omega)
    have dk4 : ¬ (V ≤ k) := by omega
    unfold dv at KL
    clear hk hka hkb
    go_wp2_with (go_at_call 14; refine KL.out.mono ?_; rintro e w7 ⟨rfl, h7⟩; have bd7 := bd5.keep h7.below; have c0 := bd7.1; have c1 := bd7.2; have rD7 := rD.keep h7.below; have hck := rD7.cell k hkD; have hxk := rD7.ixe (k : Int) k rfl hkD)
    refine (b10Has_c (vat ud k) (xat D k) (a : Int) w7 (rD7.row k hkD)).mono ?_
    rw [hka2]
    rintro e w8 ⟨rfl, rfl⟩
    go_wp2_with (go_at_call 15; refine (b10Has_c (vat ud k) (xat D k) (b : Int) _ (rD7.row k hkD)).mono ?_; rw [hkb2]; rintro e w8 ⟨rfl, rfl⟩)
    have rM := rM.keep h7.below
    have hT := (hT.call0 h7).out
    clear KL b0 b1 hck hxk h7 rD bd5 hbm hba hka2 hkb2 hk0 hkV2 way wb
    have RJ := fun kx (h : kx < V) W h1 => Lib.hid (RemoveJ_c n' V Q D _ HF.out hQ n2 (.slice ad V cd) ud kx h W h1)
    have hlt7 : w2.heap.size < w7.heap.size := World.block_lt_of_cell? _ _ c0
    have n1 : w7.heap.size ≠ w2.heap.size := by omega
    have n2' : w2.heap.size ≠ w7.heap.size := by omega
    have hX := (St.refl w7).drew
    have hXb := ((St.refl w7).newboxF 27 #[.int .i64 0, .slice none 0 0]).drew
    have hXc : St w7.heap.size w7 (w7.drew.alloc (.cells #[.int .i64 0, .slice none 0 0] 27)) [box 27 w7.heap.size [.int .i64 0, .slice none 0 0]] := hX.newboxF 27 #[.int .i64 0, .slice none 0 0]
    have rDc := rD7.keep hXc.below
    have rDd := rD7.keep hX.below
    have rDb := rD7.keep hXb.below
    unfold dv at RJ
    go_cut [17, 18] from 139 (fun s17 s18 w' => CutJ w7 Q n' s17 s18 w')
    case first =>
      go_region_held3 (fun w' => w'.cell? ⟨w2.heap.size, 0, none⟩ = some (.int .i64 (V : Int)) ∧ w'.cell? ⟨w2.heap.size, 1, none⟩ = some (.slice ad V cd)) (((try dsimp only); (repeat' apply And.intro); all_goals (repeat (first | assumption | exact cell_dr (by assumption) | refine cell_dr ?_ | refine cell_al ?_ | refine cell_sc (by assumption) ?_)))) (first
        | (go_at_call 13; (first | (refine (b10At_c _ cm ms 2 V (rM.keep hX.below) (by omega) (by omega) (by omega)).mono ?_; rintro e w9 ⟨x, rfl, x0, x1', rfl⟩; have hU := hX; have rE9 := rDd; have d0 := cell_dr c0; have d1 := cell_dr c1) | (refine (b10At_c _ cm ms 2 V (rM.keep hXb.below) (by omega) (by omega) (by omega)).mono ?_; rintro e w9 ⟨x, rfl, x0, x1', rfl⟩; have hU := hXb; have rE9 := rDb; have d0 := cell_dr (cell_al c0); have d1 := cell_dr (cell_al c1)) | (refine (b10At_c _ cm ms 2 V (rM.keep hXc.below) (by omega) (by omega) (by omega)).mono ?_; rintro e w9 ⟨x, rfl, x0, x1', rfl⟩; have hU := hXc; have rE9 := rDc; have d0 := cell_al (o := .cells #[.int .i64 0, .slice none 0 0] 27) (cell_dr c0); have d1 := cell_al (o := .cells #[.int .i64 0, .slice none 0 0] 27) (cell_dr c1))); have hxV : x < V := (by omega); obtain ⟨kx, hkx⟩ := Int.eq_ofNat_of_zero_le x0; subst hkx)
        | (go_at_call 16; (first | (refine (RJ kx (by omega) _ rE9).out.mono ?_; rintro e w10 ⟨X, v10, u10, rfl, hXk, hXo, hl10, h10⟩; have hV := hU.call h10; have g0 := cell_keepF h10.below d0; have g1 := cell_keepF h10.below d1) | (refine (RJ kx (by omega) _ rDc).out.mono ?_; rintro e w10 ⟨X, v10, u10, rfl, hXk, hXo, hl10, h10⟩; have hV := hXc.call h10; have g0 := cell_keepF h10.below (cell_al d0); have g1 := cell_keepF h10.below (cell_al d1))); obtain ⟨a10, c10, hv10⟩ := (h10.rd 0 (e := 32) (v := v10) (us := u10) rfl).sl.sh; rw [hl10] at hv10; subst hv10; have Hl10 := Lib.hid hl10; clear hl10; have HXk := Lib.hid hXk; have HXo := Lib.hid hXo; clear hXk hXo; have hlt10 : w2.heap.size < w10.heap.size := World.block_lt_of_cell? _ _ g0; have n5 : w10.heap.size ≠ w2.heap.size := (by omega); have n6 : w2.heap.size ≠ w10.heap.size := (by omega); (first | (have y0 := hV.bfree 0 rfl; have y1 := hV.bcell 0 rfl 0 rfl; have y2 := hV.bcell 0 rfl 1 rfl) | skip)))
      all_goals
        go_wp2_with fail
        go_meet
        case rel =>
          first
          | exact ⟨X, _, _, u10, rfl, rfl, HXk.out, HXo.out, (((hV.bstore 0 rfl 0 (.int .i64 Q)).bstore 0 rfl 1 (.slice a10 X.length c10)).sub (.cons _ (.refl _))).rii Hl10.out, ⟨((hV.bstore 0 rfl 0 (.int .i64 Q)).bstore 0 rfl 1 (.slice a10 X.length c10)).bcell 0 rfl 0 rfl, ((hV.bstore 0 rfl 0 (.int .i64 Q)).bstore 0 rfl 1 (.slice a10 X.length c10)).bcell 0 rfl 1 rfl⟩, ((hV.bstore 0 rfl 0 (.int .i64 Q)).bstore 0 rfl 1 (.slice a10 X.length c10)).out⟩
          | exact ⟨X, _, _, u10, rfl, rfl, HXk.out, HXo.out, (h10.rii Hl10.out).keep (newDz w10 Q (.slice a10 X.length c10)).1.below, (newDz w10 Q (.slice a10 X.length c10)).2, (hV.call0 (newDz w10 Q (.slice a10 X.length c10)).1).out⟩
    obtain ⟨X, gf, vf, uf, rfl, rfl, hXk, hXo, rF, bF, hF⟩ := hcut
    have hT := (hT.call0 hF).out
    have rD := rD7.keep hF.below
    have bd := bd7.keep hF.below
    clear RJ hX hXb hXc rDc rDd rDb rM
    go_wp2_with fail
    refine (HM _).out.mono ?_
    clear HM
    rintro e w12 ⟨vf2, rfl, h12⟩
    obtain ⟨fa, fc, hfs⟩ := (h12.rdI 0 rfl).sl.sh
    rw [iv_len] at hfs
    subst hfs
    have rfs := h12.rdI 0 rfl
    have hN := (St.refl w12).newboxF 42 #[.int .i64 p, .int .i64 Dg, .slice fa fs.length fc]
    have f0 := hN.bcell 0 rfl 0 rfl
    have f1 := hN.bcell 0 rfl 1 rfl
    have f2 := hN.bcell 0 rfl 2 rfl
    have rfs := rfs.keep hN.below
    have rX := (rF.keep h12.below).keep hN.below
    have bX := (bF.keep h12.below).keep hN.below
    have rD := (rD.keep h12.below).keep hN.below
    have bd := (bd.keep h12.below).keep hN.below
    have hT := (((hT.call0 h12.out).out).call0 hN.out).out
    have KA := Lib.hid (AffineOrder_c Q vf uf X _ rX hXk)
    rw [hXo] at KA
    have x0 := bX.1
    have x1 := bX.2
    clear h12 hN rF bF rX
    unfold dv at KA
    unfold fv
    go_wp2_with (go_at_call 18; refine KA.out.mono ?_; rintro e w13 ⟨rfl, h13⟩)
    have rfs := rfs.keep h13.below
    have rD := rD.keep h13.below
    have bd := bd.keep h13.below
    have hT := (hT.call0 h13).out
    have f0 := cell_keepF h13.below f0
    have f1 := cell_keepF h13.below f1
    have f2 := cell_keepF h13.below f2
    have hS0 : St w13.heap.size w13 _ [row 2 (.slice (some ⟨w13.heap.size, 0, none⟩) 1 1) (iv (cnL p Dg fs n' 0))] := (St.refl w13).lits [0] (by simp)
    clear KA h13 x0 x1 bX hXk hXo
    go_loopw [22, 21] (fun i l wr => ∃ (j : Nat) (vl : Value), vl = l ∧ j ≤ n' ∧ i = .int .i64 j ∧ Hid ((cnL p Dg fs n' j).length = j + 1) ∧ St w13.heap.size w13 wr [row 2 vl (iv (cnL p Dg fs n' j))]) (fun i _ _ => n' - (intOf i).toNat)
    case atStart => exact ⟨0, _, rfl, by omega, rfl, rfl, hS0⟩
    case round =>
      clear hS0
      obtain ⟨j, vl, rfl, hj, rfl, hlj, hS⟩ := hrel
      have g0 := cell_keepF hS.below f0
      have g1 := cell_keepF hS.below f1
      have g2 := cell_keepF hS.below f2
      by_cases hjt : j < n'
      · have HN := Lib.hid (show cnL p Dg fs n' (j + 1) = cnL p Dg fs n' j ++ [1 + (n' : Int) + (n' : Int) * j + fmul p Dg fs j j] from rfl)
        have hel : El p Dg (j : Int) := ⟨by omega, by rw [Hpw.out]; omega⟩
        have hM := fmul_el (p := p) (D := Dg) Hfv.out.fa (j : Int) (j : Int)
        have hM0 := hM.1
        have hM1 := hM.2
        rw [Hpw.out] at hM1
        have KF := fun W hW => Lib.hid (FieldMul_c p Dg (.slice fa fs.length fc) fs j j W hW Hfv.out hel hel)
        have hnn : (n' : Int) * j ≤ 25 ∧ 0 ≤ (n' : Int) * j := by
          have : n' * j ≤ 5 * 5 := Nat.mul_le_mul n5 (by omega)
          omega
        obtain ⟨nj, hnj⟩ : ∃ nj : Int, (n' : Int) * j = nj := ⟨_, rfl⟩
        rw [hnj] at HN hnn
        clear hel hM
        generalize fmul p Dg fs j j = M at *
        have wA : IntKind.i64.wrap (1 + (n' : Int)) = 1 + (n' : Int) := IntWalk.i64_in _ (by omega)
        have wB : IntKind.i64.wrap nj = nj := IntWalk.i64_in _ (by omega)
        have wC : IntKind.i64.wrap (1 + (n' : Int) + nj) = 1 + (n' : Int) + nj := IntWalk.i64_in _ (by omega)
        have wD : IntKind.i64.wrap (1 + (n' : Int) + nj + M) = 1 + (n' : Int) + nj + M := IntWalk.i64_in _ (by omega)
        have hNl := Lib.hid (show (cnL p Dg fs n' j).length < 4294967296 by rw [hlj.out]; omega)
        unfold fv at KF
        go_wp2_with (first
          | (at_builtin; refine appI hS4 0 rfl hNl.out rfl _ _ rfl rfl _ (by first | rfl | simp [Act.eval, World.size_alloc]) ?_; intro v5 w5 hS5; simp only [List.set_cons_zero] at hS5)
          | (go_at_call 19; refine (KF _ (rfs.keep hS.below)).out.mono ?_; rintro e w14 ⟨rfl, h14⟩; have hS4 := hS.call0 h14))
        rw [← HN.out] at hS5
        go_roundw
        case rel => exact ⟨j + 1, _, rfl, by omega, by go_num, Lib.hid (by rw [HN.out]; simp [hlj.out]), hS5⟩
        case measure => simp [intOf]; omega
      · have hj' : n' = j := by omega
        subst hj'
        have rL := hS.rdI 0 rfl
        have rD := rD.keep hS.below
        have bd := bd.keep hS.below
        have hT := (hT.call0 hS.out).out
        have b0 := bd.1
        have b1 := bd.2
        have KI := Lib.hid (IsArc_c V (.slice ad V cd) vl ud D (cnL p Dg fs n' n') _ rD rL HF.out.ok HF.out.vs)
        rw [HF.out.arc] at KI
        unfold dv at KI
        clear g0 g1 g2 hS
        go_wp2_with (go_at_call 20; refine KI.out.mono ?_; rintro e w15 ⟨rfl, h15⟩)
        go_ret
        exact ⟨rfl, (hT.call0 h15).out⟩
end Go.Proofs.YtdlmohigkkdegaaGreat
end

section
/- How arguments that come in read. How bytes that come in read. -/
namespace Go.Proofs.YtdlmohigkkdegaaGreat
set_option linter.unusedSimpArgs false
set_option linter.unusedVariables false
open Go.RowKit


/-- what came in as a slice of integers: nothing, or a row of numbers that fit -/
def IsRow (k : IntKind) (w : World) (a : Option Addr) (len cap : Nat) (zs : List Int) : Prop :=
  (a = none ∧ len = 0 ∧ cap = 0 ∧ zs = []) ∨
  ∃ x, a = some x ∧ len ≤ cap ∧ cap ≤ maxLen ∧ zs.length = cap ∧ (∀ i, i < zs.length → w.cell? (x.add i) = some (.int k (zs.getD i 0))) ∧ ∀ n ∈ zs, (Lit.int k n).wf = true

theorem IsRow.rd {k : IntKind} {w : World} {a : Option Addr} {len cap : Nat} {zs : List Int} (h : IsRow k w a len cap zs) : Rd w (.slice a len cap) ((zs.take len).map (Value.int k)) := by
  rcases h with ⟨rfl, rfl, rfl, rfl⟩ | ⟨x, rfl, h1, h2, h3, h4, h5⟩
  · exact Rd.nil w
  · have hl : ((zs.take len).map (Value.int k)).length = len := by simp; omega
    refine ⟨⟨some x, cap, by rw [hl], by omega, h2, .inr (by simp)⟩, ?_⟩
    intro i u hu
    have hi : i < len := by have := (List.getElem?_eq_some_iff.1 hu).1; omega
    have := h4 i (by omega)
    simp only [List.getElem?_map, List.getElem?_take, hi, if_true] at hu
    rw [List.getElem?_eq_getElem (by omega)] at hu
    simp at hu
    simp only [el]
    rw [this, ← hu]
    simp [List.getD, List.getElem?_eq_getElem (show i < zs.length by omega)]


theorem IsRow.rdB {w : World} {a : Option Addr} {len cap : Nat} {zs : List Int} (h : IsRow .u8 w a len cap zs) : ∃ bs, RdB w (.slice a len cap) bs := by
  refine ⟨(zs.take len).map fun n => UInt8.ofNat n.toNat, ?_⟩
  have h1 := h.rd
  have hw : ∀ n ∈ zs, 0 ≤ n ∧ n ≤ 255 := by
    rcases h with ⟨_, _, _, rfl⟩ | ⟨_, _, _, _, _, _, h5⟩
    · simp
    · intro n hn; have := h5 n hn; simpa [Lit.wf, IntKind.min, IntKind.max, IntKind.signed, IntKind.bits] using this
  unfold RdB bv
  rw [List.map_map]
  rw [List.map_congr_left (g := Value.int .u8)]
  · exact h1
  · intro n hn
    have := hw n (List.mem_of_mem_take hn)
    simp only [Function.comp]
    congr 1
    rw [UInt8.toNat_ofNat']
    omega

end Go.Proofs.YtdlmohigkkdegaaGreat
end

section
/- FnProjective holds: for every input the call returns true and leaves its arguments as they are. No condition. -/
namespace Go.Proofs.YtdlmohigkkdegaaGreat.fnProjective
set_option linter.unusedSimpArgs false
set_option linter.unusedVariables false
open Go.ChangeShapes Go.WideShapes Go.ChangeAt Go.RowKit
set_option linter.unusedVariables false

theorem own : ownKnob Tryz.prog.godebug = none := by kernel_rfl
theorem laidOut : laidOutB Tryz.prog = true := by kernel_rfl

set_option maxRecDepth 100000 in
theorem lifted (os : Os) (started : os.Started) (H : Type) (enc : TypeId × Value → H) :
    ReturnsInHanded {} Tryz.checked os 3 .any (Rows.fnProjectiveSpec.pre6 enc Tryz.prog Tryz.f3 Rows.fnProjectiveRow.domain false) (Rows.fnProjectiveSpec.post enc Tryz.prog Tryz.f3 false true false false) := by
  refine returnsInHanded_of_change (C := Tryz.checked) own started (by kernel_rfl) Tryz.func3
    (ChangeSpec.witness6 (enc := enc) (C := Tryz.checked) false ⟨#[], #[.slice none 0 0, .slice none 0 0], []⟩ 8 (by kernel_rfl) (by kernel_rfl) (by kernel_rfl) (by kernel_rfl)) ?_
  intro W base args ds gs before hval0 hW hcnd _
  have hval : ∀ (j : Nat) t v, Tryz.f3.params[j]? = some t → args[j]? = some v → Value.okWide Tryz.prog W .any base t v := hval0
  have hW' := hW
  obtain ⟨p, q, hA0, hV, rfl, hfz, hnd⟩ := hW
  have hA : DataW.TrodAll enc Tryz.prog W 0 (fun _ => true) true Tryz.f3.params.toList args.toList ds p := hA0
  rw [Tryz.params3] at hA hval
  obtain ⟨v0, vs0, d0, ds0, p0, q0, hargs, rfl, rfl, h0, r0⟩ := trodAll_cons hA
  obtain ⟨v1, vs1, d1, ds1, p1, q1, rfl, rfl, rfl, h1, r1⟩ := trodAll_cons r0
  obtain ⟨rfl, rfl, rfl⟩ := trodAll_nil r1
  obtain rfl : args = #[v0, v1] := by cases args; simp_all
  obtain ⟨rfl, rfl⟩ := trodVars_none hV
  obtain ⟨a0, len0, cap0, rfl⟩ := okWide_slice Tryz.underlying22 (hval 0 22 v0 rfl rfl)
  have k0 := h0
  have lt0 : ∀ x ∈ p0, x.block < W.heap.size := by obtain ⟨m, hm⟩ := k0; exact DataW.trod_lt m _ _ _ hm
  obtain ⟨bs0, rd0⟩ : ∃ bs, RdB W (.slice a0 len0 cap0) bs := by
    obtain ⟨fuel, hf⟩ := h0
    rcases open_ints Tryz.underlying22 Tryz.underlying5 (by kernel_rfl) hf with ⟨hcs, _⟩ | ⟨x, l, c, zs, hcs, _, hl, hm, hz, _, hcell, hwz⟩
    · simp [Value.cells] at hcs
      obtain ⟨rfl, rfl, rfl⟩ := hcs
      exact IsRow.rdB (zs := []) (.inl ⟨rfl, rfl, rfl, rfl⟩)
    · simp [Value.cells] at hcs
      obtain ⟨rfl, rfl, rfl⟩ := hcs
      exact IsRow.rdB (zs := zs) (.inr ⟨_, rfl, hl, hm, by simpa using hz, hcell, hwz⟩)
  obtain ⟨a1, len1, cap1, rfl⟩ := okWide_slice Tryz.underlying22 (hval 1 22 v1 rfl rfl)
  have k1 := h1
  have lt1 : ∀ x ∈ p1, x.block < W.heap.size := by obtain ⟨m, hm⟩ := k1; exact DataW.trod_lt m _ _ _ hm
  obtain ⟨bs1, rd1⟩ : ∃ bs, RdB W (.slice a1 len1 cap1) bs := by
    obtain ⟨fuel, hf⟩ := h1
    rcases open_ints Tryz.underlying22 Tryz.underlying5 (by kernel_rfl) hf with ⟨hcs, _⟩ | ⟨x, l, c, zs, hcs, _, hl, hm, hz, _, hcell, hwz⟩
    · simp [Value.cells] at hcs
      obtain ⟨rfl, rfl, rfl⟩ := hcs
      exact IsRow.rdB (zs := []) (.inl ⟨rfl, rfl, rfl, rfl⟩)
    · simp [Value.cells] at hcs
      obtain ⟨rfl, rfl, rfl⟩ := hcs
      exact IsRow.rdB (zs := zs) (.inr ⟨_, rfl, hl, hm, by simpa using hz, hcell, hwz⟩)
  clear hA0 hval0
  refine (FnProjective_law W _ bs0 _ bs1 rd0 rd1).mono fun e W' ⟨he, hst⟩ => ?_
  have bel := hst.below
  subst he
  exact ⟨_, rfl, _, _, _, [], _, [], hW', trodAll_mk1 (shut_bool Tryz.underlying4 _), (trodAll_cons_mk (Below.trod laidOut (by kernel_rfl) (of_decide_eq_true (by kernel_rfl)) k0 bel lt0) (trodAll_cons_mk (Below.trod laidOut (by kernel_rfl) (of_decide_eq_true (by kernel_rfl)) k1 bel lt1) trodAll_mk0)), rfl, bel.frame _, fun h => by cases h⟩

theorem over : Rows.fnProjectiveRow.holds Tryz.pinned (OpenSpec.ofChange Rows.fnProjectiveSpec) :=
  OpenClaim.holds_of_wide 3 Tryz.f3 rfl rfl rfl rfl rfl rfl rfl ⟨rfl, rfl, rfl, rfl, rfl⟩ rfl rfl rfl rfl rfl (by kernel_rfl) Tryz.func3 (by kernel_rfl)
    (of_decide_eq_true (by kernel_rfl)) (by unfold Func.isWrapper; first | (rw [if_pos (by decide +kernel)]; kernel_rfl) | (rw [if_neg (by decide +kernel)]; exact ⟨rfl, rfl⟩))
    (fun os started H enc _ => lifted os started H enc)

theorem proved : Rows.FnProjectiveSaid := over
#print axioms proved
end Go.Proofs.YtdlmohigkkdegaaGreat.fnProjective
end
