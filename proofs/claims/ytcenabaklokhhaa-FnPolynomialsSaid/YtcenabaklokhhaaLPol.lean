/- The law FnPolynomials, walked. -/
import Derived.Test.YtcenabaklokhhaaPolL
import Derived.Test.YtcenabaklokhhaaDrw
import Derived.Test.YtcenabaklokhhaaSrc2
namespace Go.Proofs.Ytcenabaklokhhaa
set_option linter.unusedSimpArgs false
set_option linter.unusedVariables false
open Go.RowKit
attribute [local go_sem ↓] Go.wp_at_zero Go.wp_at_succ

/-- some number at most 1023, and less than n if there is one -/
theorem b10At_c (w : World) (cv : Value) (bs : List UInt8) (i n : Int) (hb : RdB w cv bs) (i0 : 0 ≤ i) (i1 : i ≤ 1000000) (n1 : n ≤ 1000000) :
    Calls Try.prog 47 #[cv, .int .i64 i, .int .i64 n] w fun e w' => ∃ x : Int, e = .returned (.int .i64 x) ∧ 0 ≤ x ∧ (x < n ∨ n ≤ 1 ∧ x = 0) ∧ w = w' := by
  have hln := hb.len
  have hix := hb.ix
  have hc := hb.cell
  have hle := hb.le
  by_cases h1 : n ≤ 1
  · go_enter Try.func47, Try.ntmps47
    go_wp2_with fail
    go_ret
    exact ⟨0, rfl, by omega, .inr ⟨h1, rfl⟩, rfl⟩
  · by_cases h2 : i < bs.length
    · obtain ⟨k, rfl⟩ := Int.eq_ofNat_of_zero_le i0
      have hck := hc k (by omega)
      have hbd := bnth_bd bs k
      go_enter Try.func47, Try.ntmps47
      go_wp2_with fail
      go_ret
      refine ⟨_, rfl, ?_, .inl ?_, rfl⟩
      · exact Int.emod_nonneg _ (by omega)
      · exact Int.emod_lt_of_pos _ (by omega)
    · go_enter Try.func47, Try.ntmps47
      go_wp2_with fail
      go_ret
      refine ⟨_, rfl, ?_, .inl ?_, rfl⟩
      · exact Int.emod_nonneg _ (by omega)
      · exact Int.emod_lt_of_pos _ (by omega)

/-- an array in a block of its own, and a code -/
def CutP (w : World) (L : List Ent) (l d cc : Int) (R : List (List Int)) (s0 s1 : Value) (w' : World) : Prop :=
  ∃ g a c us, s0 = .pointer (some ⟨g, 0, none⟩) ∧ s1 = .int .i64 cc ∧ us.length = R.length ∧ St w.heap.size w w' (box 47 g [.int .i64 l, .int .i64 d, .slice a R.length c] :: L ++ own2 (.slice a R.length c) us R)
def Some3 (R : World → Prop) (e : Ending) (w' : World) : Prop := ∃ x y z : Int, e = .returned (.tuple #[.int .i64 x, .int .i64 y, .int .i64 z]) ∧ R w'
set_option maxHeartbeats 1000000 in
set_option maxRecDepth 100000 in
theorem DrawPolynomialArray_c (w : World) (cv : Value) (bs : List UInt8) (hb : RdB w cv bs) :
    Calls Try.prog 42 #[cv] w (Some3 fun w' => St w.heap.size w w' []) := by
  go_enter Try.func42, Try.ntmps42
  go_wp2_with fail
  refine (l00From_c w cv bs hb).mono ?_
  rintro e w1 ⟨rfl, h1⟩
  go_wp2_with fail
  refine (among_lit [2, 3, 4, 5, 7, 8, 9, 16, 13, 6, 17, 1] w w1 cv bs _ _ [] hb h1 (by decide) (by omega)).mono ?_
  rintro e w2 ⟨q, _, rfl, h2⟩
  go_wp2_with fail
  refine (pick_c w w2 cv bs _ _ [] 4 hb h2 (by omega)).mono ?_
  rintro e w3 ⟨t, t0, t1, rfl, h3⟩
  go_wp2_with fail
  refine (one_c w w3 cv bs _ _ [] 6 hb h3 (by omega)).mono ?_
  rintro e w4 ⟨b, rfl, h4⟩
  cases b
  · go_wp2_with fail
    refine (pick_c w w4 cv bs _ _ [] 11 hb h4 (by omega)).mono ?_
    rintro e w5 ⟨c, c0, c1, rfl, h5⟩
    go_wp2_with fail
    refine bodyPost_ret (v := .tuple #[.int .i64 q, .int .i64 t, .int .i64 c]) (by simp [results, Try.results42, go_sem]) rfl ⟨_, _, _, rfl, h5.st⟩
  · go_wp2_with fail
    refine (pick_c w w4 cv bs _ _ [] 9 hb h4 (by omega)).mono ?_
    rintro e w5 ⟨u, u0, u1, rfl, h5⟩
    go_wp2_with fail
    refine (pick_c w w5 cv bs _ _ [] 11 hb h5 (by omega)).mono ?_
    rintro e w6 ⟨c, c0, c1, rfl, h6⟩
    go_wp2_with fail
    refine bodyPost_ret (v := .tuple #[.int .i64 q, .int .i64 u, .int .i64 c]) (by simp [results, Try.results42, go_sem]) rfl ⟨_, _, _, rfl, h6.st⟩

set_option maxHeartbeats 8000000 in
set_option maxRecDepth 100000 in
theorem FnPolynomials_law (w : World) (cv : Value) (bs : List UInt8) (cm : Value) (ms : List UInt8) (hb : RdB w cv bs) (hm : RdB w cm ms) :
    Calls Try.prog 6 #[cv, cm] w (GivesB w true) := by
  by_cases hlong : 1048576 < bs.length ∨ 1048576 < ms.length
  · by_cases h1 : 1048576 < bs.length
    · have hl' : decide (1048576 < bs.length) = true := by simpa using h1
      go_enter Try.func6, Try.ntmps6
      go_wp2_with fail
      refine (b10Long_c w cv bs hb).mono ?_
      rw [hl']
      rintro e w1 ⟨rfl, rfl⟩
      go_wp2_with fail
      go_ret
      exact ⟨rfl, St.refl _⟩
    · have hl' : decide (1048576 < bs.length) = false := by simpa using h1
      have hl2 : decide (1048576 < ms.length) = true := by simp; omega
      go_enter Try.func6, Try.ntmps6
      go_wp2_with fail
      refine (b10Long_c w cv bs hb).mono ?_
      rw [hl']
      rintro e w1 ⟨rfl, rfl⟩
      go_wp2_with (go_at_call 41; refine (b10Long_c w cm ms hm).mono ?_; rw [hl2]; rintro e w1 ⟨rfl, rfl⟩)
      go_ret
      exact ⟨rfl, St.refl _⟩
  · have hl' : decide (1048576 < bs.length) = false := by simp; omega
    have hl2 : decide (1048576 < ms.length) = false := by simp; omega
    go_enter Try.func6, Try.ntmps6
    go_wp2_with fail
    refine (b10Long_c w cv bs hb).mono ?_
    rw [hl']
    rintro e w1 ⟨rfl, rfl⟩
    go_wp2_with (go_at_call 41; refine (b10Long_c w cm ms hm).mono ?_; rw [hl2]; rintro e w1 ⟨rfl, rfl⟩)
    refine (DrawPolynomialArray_c w cv bs hb).mono ?_
    rintro e w1 ⟨q, t, c, rfl, h1⟩
    go_wp2_with fail
    have HP := Lib.hid (PolynomialArray_c q t c w1)
    by_cases hc : polyC q t c = 0
    · have PL := polLaw hc
      rw [hc] at HP
      clear hc
      generalize polyA q t c = A at *
      refine HP.out.mono ?_
      rintro e w2 ⟨v, us, rfl, hl, h2⟩
      obtain ⟨Alv, Aco, rows⟩ := A
      obtain ⟨lv, co, len, si, so, q2, q16, t1, t8, c1, c8, dr, jn5, jn⟩ := PL
      dsimp only at *
      subst lv
      subst co
      have Hl := Lib.hid hl
      have rA := h2.rii hl
      obtain ⟨a2, k2, hv2⟩ := rA.shp
      subst hv2
      have hT0 := (St.refl w2).newboxF 47 #[.int .i64 Alv, .int .i64 Aco, .slice a2 rows.length k2]
      have hend := fun w' (L : List Ent) (h : St w2.heap.size w2 w' L) => Lib.hid ((h1.call0 h2.out).call0 h.out)
      have rm := (hm.keep h1.below).keep h2.below
      have b0 := hT0.bcell 0 rfl 0 rfl
      have b1 := hT0.bcell 0 rfl 1 rfl
      have b2 := hT0.bcell 0 rfl 2 rfl
      have HSI := fun W hv => Lib.hid (StrengthIndex_c Alv Aco t (.slice a2 rows.length k2) us rows W hv)
      have HSO := fun W hv => Lib.hid (StrengthOf_c Alv Aco (.slice a2 rows.length k2) us rows W hv)
      rw [si.1, si.2] at HSI
      have hso : decide (strO Alv Aco rows < t) = false := decide_eq_false (by omega)
      clear h1 h2 si so hl HP
      generalize strO Alv Aco rows = S at *
      unfold av
      go_wp2_with fail
      refine (HSI _ (hT0.oldII rA)).out.mono ?_
      rintro e w3 ⟨rfl, h3⟩
      have hT3 := hT0.call0 h3
      clear hT0 h3 b0 b1 b2
      have b0 := hT3.bcell 0 rfl 0 rfl
      have b1 := hT3.bcell 0 rfl 1 rfl
      have b2 := hT3.bcell 0 rfl 2 rfl
      by_cases hc1 : 1 < Aco
      · by_cases ht1 : 1 < t
        · go_wp2_with (go_at_call 45; refine (HSO _ (hT3.oldII rA)).out.mono ?_; rintro e w4 ⟨rfl, h4⟩; have hT4 := hT3.call0 h4; have b0' := hT4.bcell 0 rfl 0 rfl; have b1' := hT4.bcell 0 rfl 1 rfl; have b2' := hT4.bcell 0 rfl 2 rfl)
          have rm4 := rm.keep hT4.below
          have l_0 := Nat.ne_of_gt (hT4.blt 0 rfl).2
          have m_0 := Nat.ne_of_lt (hT4.blt 0 rfl).2
          clear hT3
          go_cut [12, 13] from 12 (fun s0 s1 w' => ∃ R, strC Alv (Aco - 1) R (t - 1) = 0 ∧ strI Alv (Aco - 1) R (t - 1) = 1 ∧ CutP w2 [box 47 w2.heap.size [.int .i64 Alv, .int .i64 Aco, .slice a2 rows.length k2]] Alv (Aco - 1) 0 R s0 s1 w')
          case first =>
            go_region_held3 (fun w' => w'.cell? ⟨w2.heap.size, 0, none⟩ = some (.int .i64 Alv) ∧ w'.cell? ⟨w2.heap.size, 1, none⟩ = some (.int .i64 Aco) ∧ w'.cell? ⟨w2.heap.size, 2, none⟩ = some (.slice a2 rows.length k2)) (go_keep)
              (first
              | (go_at_call_of 47 (Value.int .i64 Aco); refine (b10At_c _ cm ms 0 Aco (by first | exact rm4.keep (St.refl _).drew.below | exact rm4.keep ((St.refl _).alloc' _).drew.below) (by omega) (by omega) (by omega)).mono ?_; rintro e wx ⟨x1, rfl, p0, p1, rfl⟩)
              | (go_at_call_of 47 (Value.int .i64 Alv); refine (b10At_c _ cm ms 1 Alv (by first | exact rm4.keep (St.refl _).drew.below | exact rm4.keep ((St.refl _).alloc' _).drew.below) (by omega) (by omega) (by omega)).mono ?_; rintro e wy ⟨x2, rfl, q0, q1, rfl⟩)
              | (go_at_call 46; obtain ⟨R7, d1, d2, d3, d4⟩ := dr hc1 ht1 x1 x2 p0 (by omega) q0 (by omega); have HD := fun W hv => Lib.hid (DeriveArray_c Alv Aco x1 x2 (.slice a2 rows.length k2) us rows W hv); rw [d1, d2] at HD; clear d1 d2; have Hd := Lib.hid (And.intro d3 d4); clear d3 d4; (first | (refine (HD _ (hT4.drew.oldII rA)).out.mono ?_; rintro e w7 ⟨v7, us7, rfl, hl7, h7⟩; have hU7 := hT4.drew.call h7; have r7 := h7.rii hl7; have Hl7 := Lib.hid hl7; obtain ⟨a7, c7, hv7⟩ := r7.shp; subst hv7; clear hl7; dsimp only at a7 c7 hU7 Hl7; unfold av; have b7 := hU7.bcell 0 rfl 0 rfl; have b8 := hU7.bcell 0 rfl 1 rfl; have b9 := hU7.bcell 0 rfl 2 rfl) | (refine (HD _ ((hT4.alloc' _).drew.oldII rA)).out.mono ?_; rintro e w7 ⟨v7, us7, rfl, hl7, h7⟩; have hU7 := (hT4.newbox 47 #[.int .i64 0, .int .i64 0, .slice none 0 0]).drew.call h7; have r7 := h7.rii hl7; have Hl7 := Lib.hid hl7; obtain ⟨a7, c7, hv7⟩ := r7.shp; subst hv7; clear hl7; dsimp only at a7 c7 hU7 Hl7; unfold av; have b7 := hU7.bcell 0 rfl 0 rfl; have b8 := hU7.bcell 0 rfl 1 rfl; have b9 := hU7.bcell 0 rfl 2 rfl; have y7 := hU7.bcell 1 rfl 0 rfl; have y8 := hU7.bcell 1 rfl 1 rfl; have y9 := hU7.bcell 1 rfl 2 rfl; have fy := hU7.bfree 1 rfl))))
            all_goals
              go_wp2_with fail
              go_meet
              case rel =>
                first
                | exact ⟨R7, Hd.out.1, Hd.out.2, _, a7, c7, us7, rfl, rfl, Hl7.out, (hU7.newboxF 47 #[.int .i64 Alv, .int .i64 (Aco - 1), .slice a7 R7.length c7]).perm (by (try simp only [own2, List.cons_append, List.nil_append, List.append_nil]); classical exact List.perm_iff_count.2 (fun a => by simp only [List.cons_append, List.nil_append, List.append_nil, List.count_append, List.count_cons, List.count_nil] <;> omega))⟩
                | exact ⟨R7, Hd.out.1, Hd.out.2, _, a7, c7, us7, rfl, rfl, Hl7.out, (((hU7.bstore 1 rfl 0 (.int .i64 Alv)).bstore 1 rfl 1 (.int .i64 (Aco - 1))).bstore 1 rfl 2 (.slice a7 R7.length c7)).perm (by simp only [List.cons_append, List.nil_append, List.append_nil, List.set_cons_succ, List.set_cons_zero]; exact (by (try simp only [own2, List.cons_append, List.nil_append, List.append_nil]); classical exact List.perm_iff_count.2 (fun a => by simp only [List.cons_append, List.nil_append, List.append_nil, List.count_append, List.count_cons, List.count_nil] <;> omega)))⟩
          obtain ⟨R7, d3, d4, g7, a7, c7, us7, rfl, rfl, hl7, hU7⟩ := hcut
          have hT8 := hU7.perm (L' := box 47 w2.heap.size [.int .i64 Alv, .int .i64 Aco, .slice a2 rows.length k2] :: box 47 g7 [.int .i64 Alv, .int .i64 (Aco - 1), .slice a7 R7.length c7] :: own2 (.slice a7 R7.length c7) us7 R7) (by (try simp only [own2, List.cons_append, List.nil_append, List.append_nil]); classical exact List.perm_iff_count.2 (fun a => by simp only [List.cons_append, List.nil_append, List.append_nil, List.count_append, List.count_cons, List.count_nil] <;> omega))
          have HSD := fun W hv => Lib.hid (StrengthIndex_c Alv (Aco - 1) (t - 1) (.slice a7 R7.length c7) us7 R7 W hv)
          rw [d3, d4] at HSD
          have r7 := (hT8.sub (((List.Sublist.refl _).cons _).cons _)).rii hl7
          have e0 := hT8.bcell 1 rfl 0 rfl
          have e1 := hT8.bcell 1 rfl 1 rfl
          have e2 := hT8.bcell 1 rfl 2 rfl
          clear hT4 hU7 b0' b1' b2' dr d3 d4 hl7
          go_wp2_with fail
          refine (HSD _ r7).out.mono ?_
          rintro e w9 ⟨rfl, h9⟩
          have hT9 := hT8.call0 h9
          clear hT8 h9 e0 e1 e2
          have b0' := hT9.bcell 0 rfl 0 rfl
          have b1' := hT9.bcell 0 rfl 1 rfl
          have b2' := hT9.bcell 0 rfl 2 rfl
          go_wp2_with fail
          by_cases h128 : 128 < rows.length
          · have h5 := jn5 h128
            have HJ := Lib.hid (JoinArrays_c Alv Aco Alv Aco (.slice a2 rows.length k2) (.slice a2 rows.length k2) us us rows rows w9 (hT9.oldII rA) (hT9.oldII rA))
            rw [h5] at HJ
            clear h5 jn5 jn
            generalize joinA Alv Aco rows Alv Aco rows = J at *
            refine HJ.out.mono ?_
            rintro e w20 ⟨v20, us20, rfl, hl20, h20⟩
            obtain ⟨a20, c20, hv20⟩ := (h20.rii hl20).shp
            subst hv20
            unfold av
            have hT20 := (hT9.call h20).newboxF 47 #[.int .i64 J.lv, .int .i64 J.co, .slice a20 J.rows.length c20]
            have b20 := hT20.bcell 1 rfl 2 rfl
            have hln := rA.len
            go_wp2_with fail
            go_ret
            exact ⟨ret_bool (by simp; omega), (hend _ _ hT20).out⟩
          · obtain ⟨j1, j2, j3, j4, j5⟩ := jn h128
            have HJ := Lib.hid (JoinArrays_c Alv Aco Alv Aco (.slice a2 rows.length k2) (.slice a2 rows.length k2) us us rows rows w9 (hT9.oldII rA) (hT9.oldII rA))
            rw [j1] at HJ
            clear jn5 jn j1
            generalize joinA Alv Aco rows Alv Aco rows = J at *
            obtain ⟨Jl, Jc, jr⟩ := J
            dsimp only at j2 j3 j4 j5
            subst j2
            subst j3
            refine HJ.out.mono ?_
            rintro e w20 ⟨v20, us20, rfl, hl20, h20⟩
            dsimp only at hl20
            have r20 := h20.rii hl20
            dsimp only at r20
            obtain ⟨a20, c20, hv20⟩ := r20.shp
            subst hv20
            have HS2 := fun W hv => Lib.hid (StrengthIndex_c Jl Jc t (.slice a20 jr.length c20) us20 jr W hv)
            rw [j4, j5] at HS2
            unfold av
            have hT20 := (hT9.call h20).newboxF 47 #[.int .i64 Jl, .int .i64 Jc, .slice a20 jr.length c20]
            have b20 := hT20.bcell 0 rfl 0 rfl
            have b21 := hT20.bcell 0 rfl 1 rfl
            have b22 := hT20.bcell 0 rfl 2 rfl
            go_wp2_with fail
            refine (HS2 _ (r20.keep ((St.refl w20).alloc' _).below)).out.mono ?_
            rintro e w21 ⟨rfl, h21⟩
            have hT21 := hT20.call0 h21
            go_wp2_with fail
            go_ret
            exact ⟨rfl, (hend _ _ hT21).out⟩
        · go_wp2_with (go_at_call 45; refine (HSO _ (hT3.oldII rA)).out.mono ?_; rintro e w4 ⟨rfl, h4⟩; have hT4 := hT3.call0 h4; have b0' := hT4.bcell 0 rfl 0 rfl; have b1' := hT4.bcell 0 rfl 1 rfl; have b2' := hT4.bcell 0 rfl 2 rfl)
          by_cases h128 : 128 < rows.length
          · have h5 := jn5 h128
            have HJ := Lib.hid (JoinArrays_c Alv Aco Alv Aco (.slice a2 rows.length k2) (.slice a2 rows.length k2) us us rows rows w4 (hT4.oldII rA) (hT4.oldII rA))
            rw [h5] at HJ
            clear h5 jn5 jn
            generalize joinA Alv Aco rows Alv Aco rows = J at *
            refine HJ.out.mono ?_
            rintro e w20 ⟨v20, us20, rfl, hl20, h20⟩
            obtain ⟨a20, c20, hv20⟩ := (h20.rii hl20).shp
            subst hv20
            unfold av
            have hT20 := (hT4.call h20).newboxF 47 #[.int .i64 J.lv, .int .i64 J.co, .slice a20 J.rows.length c20]
            have b20 := hT20.bcell 1 rfl 2 rfl
            have hln := rA.len
            go_wp2_with fail
            go_ret
            exact ⟨ret_bool (by simp; omega), (hend _ _ hT20).out⟩
          · obtain ⟨j1, j2, j3, j4, j5⟩ := jn h128
            have HJ := Lib.hid (JoinArrays_c Alv Aco Alv Aco (.slice a2 rows.length k2) (.slice a2 rows.length k2) us us rows rows w4 (hT4.oldII rA) (hT4.oldII rA))
            rw [j1] at HJ
            clear jn5 jn j1
            generalize joinA Alv Aco rows Alv Aco rows = J at *
            obtain ⟨Jl, Jc, jr⟩ := J
            dsimp only at j2 j3 j4 j5
            subst j2
            subst j3
            refine HJ.out.mono ?_
            rintro e w20 ⟨v20, us20, rfl, hl20, h20⟩
            dsimp only at hl20
            have r20 := h20.rii hl20
            dsimp only at r20
            obtain ⟨a20, c20, hv20⟩ := r20.shp
            subst hv20
            have HS2 := fun W hv => Lib.hid (StrengthIndex_c Jl Jc t (.slice a20 jr.length c20) us20 jr W hv)
            rw [j4, j5] at HS2
            unfold av
            have hT20 := (hT4.call h20).newboxF 47 #[.int .i64 Jl, .int .i64 Jc, .slice a20 jr.length c20]
            have b20 := hT20.bcell 0 rfl 0 rfl
            have b21 := hT20.bcell 0 rfl 1 rfl
            have b22 := hT20.bcell 0 rfl 2 rfl
            go_wp2_with fail
            refine (HS2 _ (r20.keep ((St.refl w20).alloc' _).below)).out.mono ?_
            rintro e w21 ⟨rfl, h21⟩
            have hT21 := hT20.call0 h21
            go_wp2_with fail
            go_ret
            exact ⟨rfl, (hend _ _ hT21).out⟩
      · go_wp2_with (go_at_call 45; refine (HSO _ (hT3.oldII rA)).out.mono ?_; rintro e w4 ⟨rfl, h4⟩; have hT4 := hT3.call0 h4; have b0' := hT4.bcell 0 rfl 0 rfl; have b1' := hT4.bcell 0 rfl 1 rfl; have b2' := hT4.bcell 0 rfl 2 rfl)
        by_cases h128 : 128 < rows.length
        · have h5 := jn5 h128
          have HJ := Lib.hid (JoinArrays_c Alv Aco Alv Aco (.slice a2 rows.length k2) (.slice a2 rows.length k2) us us rows rows w4 (hT4.oldII rA) (hT4.oldII rA))
          rw [h5] at HJ
          clear h5 jn5 jn
          generalize joinA Alv Aco rows Alv Aco rows = J at *
          refine HJ.out.mono ?_
          rintro e w20 ⟨v20, us20, rfl, hl20, h20⟩
          obtain ⟨a20, c20, hv20⟩ := (h20.rii hl20).shp
          subst hv20
          unfold av
          have hT20 := (hT4.call h20).newboxF 47 #[.int .i64 J.lv, .int .i64 J.co, .slice a20 J.rows.length c20]
          have b20 := hT20.bcell 1 rfl 2 rfl
          have hln := rA.len
          go_wp2_with fail
          go_ret
          exact ⟨ret_bool (by simp; omega), (hend _ _ hT20).out⟩
        · obtain ⟨j1, j2, j3, j4, j5⟩ := jn h128
          have HJ := Lib.hid (JoinArrays_c Alv Aco Alv Aco (.slice a2 rows.length k2) (.slice a2 rows.length k2) us us rows rows w4 (hT4.oldII rA) (hT4.oldII rA))
          rw [j1] at HJ
          clear jn5 jn j1
          generalize joinA Alv Aco rows Alv Aco rows = J at *
          obtain ⟨Jl, Jc, jr⟩ := J
          dsimp only at j2 j3 j4 j5
          subst j2
          subst j3
          refine HJ.out.mono ?_
          rintro e w20 ⟨v20, us20, rfl, hl20, h20⟩
          dsimp only at hl20
          have r20 := h20.rii hl20
          dsimp only at r20
          obtain ⟨a20, c20, hv20⟩ := r20.shp
          subst hv20
          have HS2 := fun W hv => Lib.hid (StrengthIndex_c Jl Jc t (.slice a20 jr.length c20) us20 jr W hv)
          rw [j4, j5] at HS2
          unfold av
          have hT20 := (hT4.call h20).newboxF 47 #[.int .i64 Jl, .int .i64 Jc, .slice a20 jr.length c20]
          have b20 := hT20.bcell 0 rfl 0 rfl
          have b21 := hT20.bcell 0 rfl 1 rfl
          have b22 := hT20.bcell 0 rfl 2 rfl
          go_wp2_with fail
          refine (HS2 _ (r20.keep ((St.refl w20).alloc' _).below)).out.mono ?_
          rintro e w21 ⟨rfl, h21⟩
          have hT21 := hT20.call0 h21
          go_wp2_with fail
          go_ret
          exact ⟨rfl, (hend _ _ hT21).out⟩
    · have hA := polyA_no hc
      have hcc : (polyC q t c != 0) = true := ne_t hc
      rw [hA] at HP
      clear hA hc
      generalize polyC q t c = C at *
      refine HP.out.mono ?_
      rintro e w2 ⟨v, us, rfl, hl, h2⟩
      obtain ⟨a2, k2, hv2⟩ := (h2.rii hl).shp
      subst hv2
      have hT0 := (h1.call0 h2.out).newboxF 47 #[.int .i64 0, .int .i64 0, .slice a2 noA.rows.length k2]
      have b2 := hT0.bcell 0 rfl 2 rfl
      have e0 : noA.rows.length = 0 := rfl
      have hln := ((h2.rii hl).keep (St.refl w2).below).len
      unfold av
      go_wp2_with fail
      go_ret
      exact ⟨rfl, hT0.out⟩
end Go.Proofs.Ytcenabaklokhhaa
