/- The texts of this claim, run 7: SqKd Po AnyR Bo Vs Pm6 SqB. -/
import Derived.Test.YtdlmohigkkdegaaK3
import Derived.Test.YtdlmohigkkdegaaK4
import Derived.Test.YtdlmohigkkdegaaK5
import Derived.Test.YtdlmohigkkdegaaK6

section
/- Walks: a Latin square is drawn. -/
namespace Go.Proofs.Ytdlmohigkkdegaa
set_option linter.unusedSimpArgs false
set_option linter.unusedVariables false
open Go.RowKit
attribute [local go_sem ↓] Go.wp_at_zero Go.wp_at_succ


set_option maxHeartbeats 16000000 in
set_option maxRecDepth 100000 in
theorem l06DrawSquareL_c (w0 w : World) (cv : Value) (bs : List UInt8) (g K : Nat) (L : List Ent) (n : Nat) (hb : RdB w0 cv bs) (h : Src w0 w cv g K L) (hK : K < 10000000000) (n1 : 1 ≤ n) (n2 : n ≤ 10) :
    Calls Try.prog 26 #[.pointer (some ⟨g, 0, none⟩), .int .i64 n] w (LqS w0 cv g (K + 200) n L) := by
  have C2 := fun W => Lib.hid (l06CyclicL_c 2 W (by omega) (by omega))
  have C3 := fun W => Lib.hid (l06CyclicL_c 3 W (by omega) (by omega))
  rw [show ((2 : Nat) : Int) = 2 from rfl] at C2
  rw [show ((3 : Nat) : Int) = 3 from rfl] at C3
  have h0 : ∃ t4 t6 t8 t9 : Bool, ((n : Int) == 4) = t4 ∧ ((n : Int) == 6) = t6 ∧ ((n : Int) == 8) = t8 ∧ ((n : Int) == 9) = t9 ∧ (t4 = true → n = 4) ∧ (t6 = true → n = 6) ∧ (t8 = true → n = 8) ∧ (t9 = true → n = 9) :=
    ⟨_, _, _, _, rfl, rfl, rfl, rfl, by simp; omega, by simp; omega, by simp; omega, by simp; omega⟩
  obtain ⟨t4, t6, t8, t9, f4, f6, f8, f9, g4, g6, g8, g9⟩ := h0
  have G4 := Lib.hid g4
  have G6 := Lib.hid g6
  have G8 := Lib.hid g8
  have G9 := Lib.hid g9
  clear g4 g6 g8 g9
  go_enter Try.func26, Try.ntmps26
  go_wp2_with fail
  refine (l06CyclicL_c n w n1 n2).mono ?_
  rintro e w1 ⟨v, us, A, rfl, hA, hl, h1⟩
  have h2 : Src w0 w1 cv g K (own2 v us A ++ L) := (h.call h1).perm List.perm_append_comm
  have HA := Lib.hid hA
  have Hl := Lib.hid hl
  clear h h1 hA hl
  have key : ∃ b : Bool, b = t4 := ⟨_, rfl⟩
  clear key
  cases t4
  · cases t6
    · cases t8
      · cases t9
        · have h5 := h2.mono (show K ≤ K + 4 by omega)
          clear h2
          go_wp2_with fail
          clear G4 G6 G8 G9 C2 C3
          refine (pick_c w0 _ cv bs g _ _ 4 hb h5 (by omega)).mono ?_
          rintro e wa ⟨kk, k0, k1, rfl, h6⟩
          obtain ⟨j, rfl⟩ := Int.eq_ofNat_of_zero_le k0
          have hj3 : j ≤ 3 := by omega
          clear k0 k1 h5
          go_wp2_with fail
          go_loopw [5, 6] (fun a kv wr => ∃ (j : Nat) (us : List Value) (A : List (List Int)), kv = .int .i64 j ∧ j ≤ 3 ∧ Hid (us.length = n) ∧ Hid (LatN n A) ∧ Src w0 wr cv g (K + 6 + 10 * (3 - j)) (own2 a us A ++ L)) (fun _ kv _ => (intOf kv).toNat)
          case atStart => exact ⟨j, _, _, rfl, hj3, Hl.out, HA.out, h6.mono (by omega)⟩
          case round =>
            clear h6 Hl HA hj3
            obtain ⟨j, us, A, rfl, hj3, Hl, HA, h6⟩ := hrel
            by_cases hj : 0 < j
            · go_wp2_with fail
              refine (l06SwitchL_c w0 _ cv bs g _ L n _ us A hb h6 Hl.out HA.out (by omega) n1 (by omega)).mono ?_
              rintro e wb ⟨vb, ub, Ab, rfl, hAb, hlb, h7⟩
              have HAb := Lib.hid hAb
              have Hlb := Lib.hid hlb
              clear hAb hlb
              go_wp2_with fail
              go_roundw
              case rel => exact ⟨j - 1, ub, Ab, by go_num, by omega, Hlb.out, HAb.out, h7.mono (by omega)⟩
              case measure => simp [intOf]; omega
            · obtain rfl : j = 0 := by omega
              go_wp2_with fail
              refine (l04DrawPerm_c w0 _ cv bs g _ _ n hb h6 (by omega) (by omega)).mono ?_
              rintro e wb ⟨rv, rs, rfl, rl, rp, h7⟩
              have Rl := Lib.hid rl
              have Rp := Lib.hid rp
              clear rl rp h6
              go_wp2_with fail
              refine (l04DrawPerm_c w0 _ cv bs g _ _ n hb h7 (by omega) (by omega)).mono ?_
              rintro e wc ⟨cv', cs, rfl, cl, cp, h8⟩
              have Cl := Lib.hid cl
              have Cp := Lib.hid cp
              clear cl cp h7
              go_wp2_with fail
              refine (l04DrawPerm_c w0 _ cv bs g _ _ n hb h8 (by omega) (by omega)).mono ?_
              rintro e wd ⟨sv, ss, rfl, sl, sp, h9⟩
              have Sl := Lib.hid sl
              have Sp := Lib.hid sp
              clear sl sp h8
              go_wp2_with fail
              refine (one_c w0 _ cv bs g _ _ 5 hb h9 (by omega)).mono ?_
              rintro e we ⟨b, rfl, h10⟩
              clear h9
              cases b
              · go_wp2_with fail
                refine (sIsotopeL_c _ rv cv' sv us A rs cs ss _ n (h10.riiS (((List.sublist_append_left _ _).cons _).cons _ |>.cons _) (by rw [Hl.out, HA.out.len])) (h10.rdI 2 rfl) (h10.rdI 1 rfl) (h10.rdI 0 rfl) HA.out Rp.out Cp.out Sp.out Rl.out Cl.out Sl.out (by omega)).mono ?_
                rintro e wf ⟨vz, uz, Az, rfl, hAz, hlz, h11⟩
                have h12 := h10.call h11
                have h13 := ((h12.perm List.perm_append_comm).sub (L' := own2 vz uz Az ++ L) (List.Sublist.append_left ((((List.sublist_append_right _ _).cons _).cons _).cons _) _)).mono (show _ ≤ K + 200 by omega)
                clear h10 h11 h12
                go_wp2_with fail
                go_ret
                exact ⟨vz, uz, Az, rfl, hAz, hlz, h13⟩
              · have h13 := (h10.sub (L' := own2 u5 us A ++ L) ((((List.Sublist.refl _).cons _).cons _).cons _)).mono (show _ ≤ K + 200 by omega)
                clear h10
                go_wp2_with fail
                go_ret
                exact ⟨_, us, A, rfl, HA.out, Hl.out, h13⟩
        · go_wp2_with fail
          refine (one_c w0 w1 cv bs g _ _ 2 hb h2 (by omega)).mono ?_
          rintro e w2 ⟨b, rfl, h3⟩
          clear h2
          cases b
          · have h5 := h3.mono (show K + 2 ≤ K + 4 by omega)
            clear h3
            go_wp2_with fail
            clear G4 G6 G8 G9 C2 C3
            refine (pick_c w0 _ cv bs g _ _ 4 hb h5 (by omega)).mono ?_
            rintro e wa ⟨kk, k0, k1, rfl, h6⟩
            obtain ⟨j, rfl⟩ := Int.eq_ofNat_of_zero_le k0
            have hj3 : j ≤ 3 := by omega
            clear k0 k1 h5
            go_wp2_with fail
            go_loopw [5, 6] (fun a kv wr => ∃ (j : Nat) (us : List Value) (A : List (List Int)), kv = .int .i64 j ∧ j ≤ 3 ∧ Hid (us.length = n) ∧ Hid (LatN n A) ∧ Src w0 wr cv g (K + 6 + 10 * (3 - j)) (own2 a us A ++ L)) (fun _ kv _ => (intOf kv).toNat)
            case atStart => exact ⟨j, _, _, rfl, hj3, Hl.out, HA.out, h6.mono (by omega)⟩
            case round =>
              clear h6 Hl HA hj3
              obtain ⟨j, us, A, rfl, hj3, Hl, HA, h6⟩ := hrel
              by_cases hj : 0 < j
              · go_wp2_with fail
                refine (l06SwitchL_c w0 _ cv bs g _ L n _ us A hb h6 Hl.out HA.out (by omega) n1 (by omega)).mono ?_
                rintro e wb ⟨vb, ub, Ab, rfl, hAb, hlb, h7⟩
                have HAb := Lib.hid hAb
                have Hlb := Lib.hid hlb
                clear hAb hlb
                go_wp2_with fail
                go_roundw
                case rel => exact ⟨j - 1, ub, Ab, by go_num, by omega, Hlb.out, HAb.out, h7.mono (by omega)⟩
                case measure => simp [intOf]; omega
              · obtain rfl : j = 0 := by omega
                go_wp2_with fail
                refine (l04DrawPerm_c w0 _ cv bs g _ _ n hb h6 (by omega) (by omega)).mono ?_
                rintro e wb ⟨rv, rs, rfl, rl, rp, h7⟩
                have Rl := Lib.hid rl
                have Rp := Lib.hid rp
                clear rl rp h6
                go_wp2_with fail
                refine (l04DrawPerm_c w0 _ cv bs g _ _ n hb h7 (by omega) (by omega)).mono ?_
                rintro e wc ⟨cv', cs, rfl, cl, cp, h8⟩
                have Cl := Lib.hid cl
                have Cp := Lib.hid cp
                clear cl cp h7
                go_wp2_with fail
                refine (l04DrawPerm_c w0 _ cv bs g _ _ n hb h8 (by omega) (by omega)).mono ?_
                rintro e wd ⟨sv, ss, rfl, sl, sp, h9⟩
                have Sl := Lib.hid sl
                have Sp := Lib.hid sp
                clear sl sp h8
                go_wp2_with fail
                refine (one_c w0 _ cv bs g _ _ 5 hb h9 (by omega)).mono ?_
                rintro e we ⟨b, rfl, h10⟩
                clear h9
                cases b
                · go_wp2_with fail
                  refine (sIsotopeL_c _ rv cv' sv us A rs cs ss _ n (h10.riiS (((List.sublist_append_left _ _).cons _).cons _ |>.cons _) (by rw [Hl.out, HA.out.len])) (h10.rdI 2 rfl) (h10.rdI 1 rfl) (h10.rdI 0 rfl) HA.out Rp.out Cp.out Sp.out Rl.out Cl.out Sl.out (by omega)).mono ?_
                  rintro e wf ⟨vz, uz, Az, rfl, hAz, hlz, h11⟩
                  have h12 := h10.call h11
                  have h13 := ((h12.perm List.perm_append_comm).sub (L' := own2 vz uz Az ++ L) (List.Sublist.append_left ((((List.sublist_append_right _ _).cons _).cons _).cons _) _)).mono (show _ ≤ K + 200 by omega)
                  clear h10 h11 h12
                  go_wp2_with fail
                  go_ret
                  exact ⟨vz, uz, Az, rfl, hAz, hlz, h13⟩
                · have h13 := (h10.sub (L' := own2 u5 us A ++ L) ((((List.Sublist.refl _).cons _).cons _).cons _)).mono (show _ ≤ K + 200 by omega)
                  clear h10
                  go_wp2_with fail
                  go_ret
                  exact ⟨_, us, A, rfl, HA.out, Hl.out, h13⟩
          · go_wp2_with fail
            refine (C3 _).out.mono ?_
            rintro e w3 ⟨v1, us1, A1, rfl, hA1, hl1, c1⟩
            have c2 := h3.call c1
            clear h3 c1
            have HA1 := Lib.hid hA1
            have Hl1 := Lib.hid hl1
            clear hA1 hl1
            go_wp2_with fail
            refine (C3 _).out.mono ?_
            rintro e w4 ⟨v2, us2, A2, rfl, hA2, hl2, c3⟩
            have c4 := c2.call c3
            clear c2 c3
            have HA2 := Lib.hid hA2
            have Hl2 := Lib.hid hl2
            clear hA2 hl2
            go_wp2_with fail
            refine (l06ProductL_c v1 v2 us1 us2 A1 A2 _ 3 3 (c4.riiS ((List.sublist_append_right _ _).trans (List.sublist_append_left _ _)) (by rw [Hl1.out, HA1.out.len])) (c4.riiS (List.sublist_append_right _ _) (by rw [Hl2.out, HA2.out.len])) HA1.out HA2.out (by omega) (by omega) (by omega)).mono ?_
            rintro e w5 ⟨v3, us3, A3, rfl, hA3, hl3, c5⟩
            have c6 := c4.call c5
            rw [show 3 * 3 = n from (G9.out (by simp)).symm] at hA3 hl3
            have h5 := ((c6.perm (L' := (own2 v3 us3 A3 ++ L) ++ (own2 v us A ++ own2 v1 us1 A1 ++ own2 v2 us2 A2)) (by (try simp only [own2, List.cons_append, List.nil_append, List.append_nil]); classical exact List.perm_iff_count.2 (fun a => by simp only [List.cons_append, List.nil_append, List.append_nil, List.count_append, List.count_cons, List.count_nil] <;> omega))).sub (List.sublist_append_left _ _)).mono (show K + 2 ≤ K + 4 by omega)
            clear c4 c5 c6 HA Hl HA1 HA2 Hl1 Hl2
            have HA := Lib.hid hA3
            have Hl := Lib.hid hl3
            clear hA3 hl3
            go_wp2_with fail
            clear G4 G6 G8 G9 C2 C3
            refine (pick_c w0 _ cv bs g _ _ 4 hb h5 (by omega)).mono ?_
            rintro e wa ⟨kk, k0, k1, rfl, h6⟩
            obtain ⟨j, rfl⟩ := Int.eq_ofNat_of_zero_le k0
            have hj3 : j ≤ 3 := by omega
            clear k0 k1 h5
            go_wp2_with fail
            go_loopw [5, 6] (fun a kv wr => ∃ (j : Nat) (us : List Value) (A : List (List Int)), kv = .int .i64 j ∧ j ≤ 3 ∧ Hid (us.length = n) ∧ Hid (LatN n A) ∧ Src w0 wr cv g (K + 6 + 10 * (3 - j)) (own2 a us A ++ L)) (fun _ kv _ => (intOf kv).toNat)
            case atStart => exact ⟨j, _, _, rfl, hj3, Hl.out, HA.out, h6.mono (by omega)⟩
            case round =>
              clear h6 Hl HA hj3
              obtain ⟨j, us, A, rfl, hj3, Hl, HA, h6⟩ := hrel
              by_cases hj : 0 < j
              · go_wp2_with fail
                refine (l06SwitchL_c w0 _ cv bs g _ L n _ us A hb h6 Hl.out HA.out (by omega) n1 (by omega)).mono ?_
                rintro e wb ⟨vb, ub, Ab, rfl, hAb, hlb, h7⟩
                have HAb := Lib.hid hAb
                have Hlb := Lib.hid hlb
                clear hAb hlb
                go_wp2_with fail
                go_roundw
                case rel => exact ⟨j - 1, ub, Ab, by go_num, by omega, Hlb.out, HAb.out, h7.mono (by omega)⟩
                case measure => simp [intOf]; omega
              · obtain rfl : j = 0 := by omega
                go_wp2_with fail
                refine (l04DrawPerm_c w0 _ cv bs g _ _ n hb h6 (by omega) (by omega)).mono ?_
                rintro e wb ⟨rv, rs, rfl, rl, rp, h7⟩
                have Rl := Lib.hid rl
                have Rp := Lib.hid rp
                clear rl rp h6
                go_wp2_with fail
                refine (l04DrawPerm_c w0 _ cv bs g _ _ n hb h7 (by omega) (by omega)).mono ?_
                rintro e wc ⟨cv', cs, rfl, cl, cp, h8⟩
                have Cl := Lib.hid cl
                have Cp := Lib.hid cp
                clear cl cp h7
                go_wp2_with fail
                refine (l04DrawPerm_c w0 _ cv bs g _ _ n hb h8 (by omega) (by omega)).mono ?_
                rintro e wd ⟨sv, ss, rfl, sl, sp, h9⟩
                have Sl := Lib.hid sl
                have Sp := Lib.hid sp
                clear sl sp h8
                go_wp2_with fail
                refine (one_c w0 _ cv bs g _ _ 5 hb h9 (by omega)).mono ?_
                rintro e we ⟨b, rfl, h10⟩
                clear h9
                cases b
                · go_wp2_with fail
                  refine (sIsotopeL_c _ rv cv' sv us A rs cs ss _ n (h10.riiS (((List.sublist_append_left _ _).cons _).cons _ |>.cons _) (by rw [Hl.out, HA.out.len])) (h10.rdI 2 rfl) (h10.rdI 1 rfl) (h10.rdI 0 rfl) HA.out Rp.out Cp.out Sp.out Rl.out Cl.out Sl.out (by omega)).mono ?_
                  rintro e wf ⟨vz, uz, Az, rfl, hAz, hlz, h11⟩
                  have h12 := h10.call h11
                  have h13 := ((h12.perm List.perm_append_comm).sub (L' := own2 vz uz Az ++ L) (List.Sublist.append_left ((((List.sublist_append_right _ _).cons _).cons _).cons _) _)).mono (show _ ≤ K + 200 by omega)
                  clear h10 h11 h12
                  go_wp2_with fail
                  go_ret
                  exact ⟨vz, uz, Az, rfl, hAz, hlz, h13⟩
                · have h13 := (h10.sub (L' := own2 u5 us A ++ L) ((((List.Sublist.refl _).cons _).cons _).cons _)).mono (show _ ≤ K + 200 by omega)
                  clear h10
                  go_wp2_with fail
                  go_ret
                  exact ⟨_, us, A, rfl, HA.out, Hl.out, h13⟩
      · go_wp2_with fail
        refine (one_c w0 w1 cv bs g _ _ 2 hb h2 (by omega)).mono ?_
        rintro e w2 ⟨b, rfl, h3⟩
        clear h2
        cases b
        · have h5 := h3.mono (show K + 2 ≤ K + 4 by omega)
          clear h3
          go_wp2_with fail
          clear G4 G6 G8 G9 C2 C3
          refine (pick_c w0 _ cv bs g _ _ 4 hb h5 (by omega)).mono ?_
          rintro e wa ⟨kk, k0, k1, rfl, h6⟩
          obtain ⟨j, rfl⟩ := Int.eq_ofNat_of_zero_le k0
          have hj3 : j ≤ 3 := by omega
          clear k0 k1 h5
          go_wp2_with fail
          go_loopw [5, 6] (fun a kv wr => ∃ (j : Nat) (us : List Value) (A : List (List Int)), kv = .int .i64 j ∧ j ≤ 3 ∧ Hid (us.length = n) ∧ Hid (LatN n A) ∧ Src w0 wr cv g (K + 6 + 10 * (3 - j)) (own2 a us A ++ L)) (fun _ kv _ => (intOf kv).toNat)
          case atStart => exact ⟨j, _, _, rfl, hj3, Hl.out, HA.out, h6.mono (by omega)⟩
          case round =>
            clear h6 Hl HA hj3
            obtain ⟨j, us, A, rfl, hj3, Hl, HA, h6⟩ := hrel
            by_cases hj : 0 < j
            · go_wp2_with fail
              refine (l06SwitchL_c w0 _ cv bs g _ L n _ us A hb h6 Hl.out HA.out (by omega) n1 (by omega)).mono ?_
              rintro e wb ⟨vb, ub, Ab, rfl, hAb, hlb, h7⟩
              have HAb := Lib.hid hAb
              have Hlb := Lib.hid hlb
              clear hAb hlb
              go_wp2_with fail
              go_roundw
              case rel => exact ⟨j - 1, ub, Ab, by go_num, by omega, Hlb.out, HAb.out, h7.mono (by omega)⟩
              case measure => simp [intOf]; omega
            · obtain rfl : j = 0 := by omega
              go_wp2_with fail
              refine (l04DrawPerm_c w0 _ cv bs g _ _ n hb h6 (by omega) (by omega)).mono ?_
              rintro e wb ⟨rv, rs, rfl, rl, rp, h7⟩
              have Rl := Lib.hid rl
              have Rp := Lib.hid rp
              clear rl rp h6
              go_wp2_with fail
              refine (l04DrawPerm_c w0 _ cv bs g _ _ n hb h7 (by omega) (by omega)).mono ?_
              rintro e wc ⟨cv', cs, rfl, cl, cp, h8⟩
              have Cl := Lib.hid cl
              have Cp := Lib.hid cp
              clear cl cp h7
              go_wp2_with fail
              refine (l04DrawPerm_c w0 _ cv bs g _ _ n hb h8 (by omega) (by omega)).mono ?_
              rintro e wd ⟨sv, ss, rfl, sl, sp, h9⟩
              have Sl := Lib.hid sl
              have Sp := Lib.hid sp
              clear sl sp h8
              go_wp2_with fail
              refine (one_c w0 _ cv bs g _ _ 5 hb h9 (by omega)).mono ?_
              rintro e we ⟨b, rfl, h10⟩
              clear h9
              cases b
              · go_wp2_with fail
                refine (sIsotopeL_c _ rv cv' sv us A rs cs ss _ n (h10.riiS (((List.sublist_append_left _ _).cons _).cons _ |>.cons _) (by rw [Hl.out, HA.out.len])) (h10.rdI 2 rfl) (h10.rdI 1 rfl) (h10.rdI 0 rfl) HA.out Rp.out Cp.out Sp.out Rl.out Cl.out Sl.out (by omega)).mono ?_
                rintro e wf ⟨vz, uz, Az, rfl, hAz, hlz, h11⟩
                have h12 := h10.call h11
                have h13 := ((h12.perm List.perm_append_comm).sub (L' := own2 vz uz Az ++ L) (List.Sublist.append_left ((((List.sublist_append_right _ _).cons _).cons _).cons _) _)).mono (show _ ≤ K + 200 by omega)
                clear h10 h11 h12
                go_wp2_with fail
                go_ret
                exact ⟨vz, uz, Az, rfl, hAz, hlz, h13⟩
              · have h13 := (h10.sub (L' := own2 u5 us A ++ L) ((((List.Sublist.refl _).cons _).cons _).cons _)).mono (show _ ≤ K + 200 by omega)
                clear h10
                go_wp2_with fail
                go_ret
                exact ⟨_, us, A, rfl, HA.out, Hl.out, h13⟩
        · go_wp2_with fail
          refine (C2 _).out.mono ?_
          rintro e w3 ⟨v1, us1, A1, rfl, hA1, hl1, c1⟩
          have c2 := h3.call c1
          clear h3 c1
          have HA1 := Lib.hid hA1
          have Hl1 := Lib.hid hl1
          clear hA1 hl1
          go_wp2_with fail
          refine (C2 _).out.mono ?_
          rintro e w4 ⟨v2, us2, A2, rfl, hA2, hl2, c3⟩
          have c4 := c2.call c3
          clear c2 c3
          have HA2 := Lib.hid hA2
          have Hl2 := Lib.hid hl2
          clear hA2 hl2
          go_wp2_with fail
          refine (l06ProductL_c v1 v2 us1 us2 A1 A2 _ 2 2 (c4.riiS ((List.sublist_append_right _ _).trans (List.sublist_append_left _ _)) (by rw [Hl1.out, HA1.out.len])) (c4.riiS (List.sublist_append_right _ _) (by rw [Hl2.out, HA2.out.len])) HA1.out HA2.out (by omega) (by omega) (by omega)).mono ?_
          rintro e w5 ⟨v3, us3, A3, rfl, hA3, hl3, c5⟩
          have c6 := c4.call c5
          clear c4 c5
          have HA3 := Lib.hid hA3
          have Hl3 := Lib.hid hl3
          clear hA3 hl3
          go_wp2_with fail
          refine (C2 _).out.mono ?_
          rintro e w6 ⟨v4, us4, A4, rfl, hA4, hl4, c7⟩
          have c8 := c6.call c7
          clear c6 c7
          have HA4 := Lib.hid hA4
          have Hl4 := Lib.hid hl4
          clear hA4 hl4
          go_wp2_with fail
          refine (l06ProductL_c v3 v4 us3 us4 A3 A4 _ (2 * 2) 2 (c8.riiS ((List.sublist_append_right _ _).trans (List.sublist_append_left _ _)) (by rw [Hl3.out, HA3.out.len])) (c8.riiS (List.sublist_append_right _ _) (by rw [Hl4.out, HA4.out.len])) HA3.out HA4.out (by omega) (by omega) (by omega)).mono ?_
          rintro e w7 ⟨v5, us5, A5, rfl, hA5, hl5, c9⟩
          have c10 := c8.call c9
          rw [show 2 * 2 * 2 = n from (G8.out (by simp)).symm] at hA5 hl5
          have h5 := ((c10.perm (L' := (own2 v5 us5 A5 ++ L) ++ (own2 v us A ++ own2 v1 us1 A1 ++ own2 v2 us2 A2 ++ own2 v3 us3 A3 ++ own2 v4 us4 A4)) (by (try simp only [own2, List.cons_append, List.nil_append, List.append_nil]); classical exact List.perm_iff_count.2 (fun a => by simp only [List.cons_append, List.nil_append, List.append_nil, List.count_append, List.count_cons, List.count_nil] <;> omega))).sub (List.sublist_append_left _ _)).mono (show K + 2 ≤ K + 4 by omega)
          clear c8 c9 c10 HA Hl HA1 HA2 Hl1 Hl2 HA3 HA4 Hl3 Hl4
          have HA := Lib.hid hA5
          have Hl := Lib.hid hl5
          clear hA5 hl5
          go_wp2_with fail
          clear G4 G6 G8 G9 C2 C3
          refine (pick_c w0 _ cv bs g _ _ 4 hb h5 (by omega)).mono ?_
          rintro e wa ⟨kk, k0, k1, rfl, h6⟩
          obtain ⟨j, rfl⟩ := Int.eq_ofNat_of_zero_le k0
          have hj3 : j ≤ 3 := by omega
          clear k0 k1 h5
          go_wp2_with fail
          go_loopw [5, 6] (fun a kv wr => ∃ (j : Nat) (us : List Value) (A : List (List Int)), kv = .int .i64 j ∧ j ≤ 3 ∧ Hid (us.length = n) ∧ Hid (LatN n A) ∧ Src w0 wr cv g (K + 6 + 10 * (3 - j)) (own2 a us A ++ L)) (fun _ kv _ => (intOf kv).toNat)
          case atStart => exact ⟨j, _, _, rfl, hj3, Hl.out, HA.out, h6.mono (by omega)⟩
          case round =>
            clear h6 Hl HA hj3
            obtain ⟨j, us, A, rfl, hj3, Hl, HA, h6⟩ := hrel
            by_cases hj : 0 < j
            · go_wp2_with fail
              refine (l06SwitchL_c w0 _ cv bs g _ L n _ us A hb h6 Hl.out HA.out (by omega) n1 (by omega)).mono ?_
              rintro e wb ⟨vb, ub, Ab, rfl, hAb, hlb, h7⟩
              have HAb := Lib.hid hAb
              have Hlb := Lib.hid hlb
              clear hAb hlb
              go_wp2_with fail
              go_roundw
              case rel => exact ⟨j - 1, ub, Ab, by go_num, by omega, Hlb.out, HAb.out, h7.mono (by omega)⟩
              case measure => simp [intOf]; omega
            · obtain rfl : j = 0 := by omega
              go_wp2_with fail
              refine (l04DrawPerm_c w0 _ cv bs g _ _ n hb h6 (by omega) (by omega)).mono ?_
              rintro e wb ⟨rv, rs, rfl, rl, rp, h7⟩
              have Rl := Lib.hid rl
              have Rp := Lib.hid rp
              clear rl rp h6
              go_wp2_with fail
              refine (l04DrawPerm_c w0 _ cv bs g _ _ n hb h7 (by omega) (by omega)).mono ?_
              rintro e wc ⟨cv', cs, rfl, cl, cp, h8⟩
              have Cl := Lib.hid cl
              have Cp := Lib.hid cp
              clear cl cp h7
              go_wp2_with fail
              refine (l04DrawPerm_c w0 _ cv bs g _ _ n hb h8 (by omega) (by omega)).mono ?_
              rintro e wd ⟨sv, ss, rfl, sl, sp, h9⟩
              have Sl := Lib.hid sl
              have Sp := Lib.hid sp
              clear sl sp h8
              go_wp2_with fail
              refine (one_c w0 _ cv bs g _ _ 5 hb h9 (by omega)).mono ?_
              rintro e we ⟨b, rfl, h10⟩
              clear h9
              cases b
              · go_wp2_with fail
                refine (sIsotopeL_c _ rv cv' sv us A rs cs ss _ n (h10.riiS (((List.sublist_append_left _ _).cons _).cons _ |>.cons _) (by rw [Hl.out, HA.out.len])) (h10.rdI 2 rfl) (h10.rdI 1 rfl) (h10.rdI 0 rfl) HA.out Rp.out Cp.out Sp.out Rl.out Cl.out Sl.out (by omega)).mono ?_
                rintro e wf ⟨vz, uz, Az, rfl, hAz, hlz, h11⟩
                have h12 := h10.call h11
                have h13 := ((h12.perm List.perm_append_comm).sub (L' := own2 vz uz Az ++ L) (List.Sublist.append_left ((((List.sublist_append_right _ _).cons _).cons _).cons _) _)).mono (show _ ≤ K + 200 by omega)
                clear h10 h11 h12
                go_wp2_with fail
                go_ret
                exact ⟨vz, uz, Az, rfl, hAz, hlz, h13⟩
              · have h13 := (h10.sub (L' := own2 u5 us A ++ L) ((((List.Sublist.refl _).cons _).cons _).cons _)).mono (show _ ≤ K + 200 by omega)
                clear h10
                go_wp2_with fail
                go_ret
                exact ⟨_, us, A, rfl, HA.out, Hl.out, h13⟩
    · go_wp2_with fail
      refine (one_c w0 w1 cv bs g _ _ 2 hb h2 (by omega)).mono ?_
      rintro e w2 ⟨b, rfl, h3⟩
      clear h2
      cases b
      · have h5 := h3.mono (show K + 2 ≤ K + 4 by omega)
        clear h3
        go_wp2_with fail
        clear G4 G6 G8 G9 C2 C3
        refine (pick_c w0 _ cv bs g _ _ 4 hb h5 (by omega)).mono ?_
        rintro e wa ⟨kk, k0, k1, rfl, h6⟩
        obtain ⟨j, rfl⟩ := Int.eq_ofNat_of_zero_le k0
        have hj3 : j ≤ 3 := by omega
        clear k0 k1 h5
        go_wp2_with fail
        go_loopw [5, 6] (fun a kv wr => ∃ (j : Nat) (us : List Value) (A : List (List Int)), kv = .int .i64 j ∧ j ≤ 3 ∧ Hid (us.length = n) ∧ Hid (LatN n A) ∧ Src w0 wr cv g (K + 6 + 10 * (3 - j)) (own2 a us A ++ L)) (fun _ kv _ => (intOf kv).toNat)
        case atStart => exact ⟨j, _, _, rfl, hj3, Hl.out, HA.out, h6.mono (by omega)⟩
        case round =>
          clear h6 Hl HA hj3
          obtain ⟨j, us, A, rfl, hj3, Hl, HA, h6⟩ := hrel
          by_cases hj : 0 < j
          · go_wp2_with fail
            refine (l06SwitchL_c w0 _ cv bs g _ L n _ us A hb h6 Hl.out HA.out (by omega) n1 (by omega)).mono ?_
            rintro e wb ⟨vb, ub, Ab, rfl, hAb, hlb, h7⟩
            have HAb := Lib.hid hAb
            have Hlb := Lib.hid hlb
            clear hAb hlb
            go_wp2_with fail
            go_roundw
            case rel => exact ⟨j - 1, ub, Ab, by go_num, by omega, Hlb.out, HAb.out, h7.mono (by omega)⟩
            case measure => simp [intOf]; omega
          · obtain rfl : j = 0 := by omega
            go_wp2_with fail
            refine (l04DrawPerm_c w0 _ cv bs g _ _ n hb h6 (by omega) (by omega)).mono ?_
            rintro e wb ⟨rv, rs, rfl, rl, rp, h7⟩
            have Rl := Lib.hid rl
            have Rp := Lib.hid rp
            clear rl rp h6
            go_wp2_with fail
            refine (l04DrawPerm_c w0 _ cv bs g _ _ n hb h7 (by omega) (by omega)).mono ?_
            rintro e wc ⟨cv', cs, rfl, cl, cp, h8⟩
            have Cl := Lib.hid cl
            have Cp := Lib.hid cp
            clear cl cp h7
            go_wp2_with fail
            refine (l04DrawPerm_c w0 _ cv bs g _ _ n hb h8 (by omega) (by omega)).mono ?_
            rintro e wd ⟨sv, ss, rfl, sl, sp, h9⟩
            have Sl := Lib.hid sl
            have Sp := Lib.hid sp
            clear sl sp h8
            go_wp2_with fail
            refine (one_c w0 _ cv bs g _ _ 5 hb h9 (by omega)).mono ?_
            rintro e we ⟨b, rfl, h10⟩
            clear h9
            cases b
            · go_wp2_with fail
              refine (sIsotopeL_c _ rv cv' sv us A rs cs ss _ n (h10.riiS (((List.sublist_append_left _ _).cons _).cons _ |>.cons _) (by rw [Hl.out, HA.out.len])) (h10.rdI 2 rfl) (h10.rdI 1 rfl) (h10.rdI 0 rfl) HA.out Rp.out Cp.out Sp.out Rl.out Cl.out Sl.out (by omega)).mono ?_
              rintro e wf ⟨vz, uz, Az, rfl, hAz, hlz, h11⟩
              have h12 := h10.call h11
              have h13 := ((h12.perm List.perm_append_comm).sub (L' := own2 vz uz Az ++ L) (List.Sublist.append_left ((((List.sublist_append_right _ _).cons _).cons _).cons _) _)).mono (show _ ≤ K + 200 by omega)
              clear h10 h11 h12
              go_wp2_with fail
              go_ret
              exact ⟨vz, uz, Az, rfl, hAz, hlz, h13⟩
            · have h13 := (h10.sub (L' := own2 u5 us A ++ L) ((((List.Sublist.refl _).cons _).cons _).cons _)).mono (show _ ≤ K + 200 by omega)
              clear h10
              go_wp2_with fail
              go_ret
              exact ⟨_, us, A, rfl, HA.out, Hl.out, h13⟩
      · go_wp2_with fail
        refine (C3 _).out.mono ?_
        rintro e w3 ⟨v1, us1, A1, rfl, hA1, hl1, c1⟩
        have c2 := h3.call c1
        clear h3 c1
        have HA1 := Lib.hid hA1
        have Hl1 := Lib.hid hl1
        clear hA1 hl1
        go_wp2_with fail
        refine (C2 _).out.mono ?_
        rintro e w4 ⟨v2, us2, A2, rfl, hA2, hl2, c3⟩
        have c4 := c2.call c3
        clear c2 c3
        have HA2 := Lib.hid hA2
        have Hl2 := Lib.hid hl2
        clear hA2 hl2
        go_wp2_with fail
        refine (l06ProductL_c v1 v2 us1 us2 A1 A2 _ 3 2 (c4.riiS ((List.sublist_append_right _ _).trans (List.sublist_append_left _ _)) (by rw [Hl1.out, HA1.out.len])) (c4.riiS (List.sublist_append_right _ _) (by rw [Hl2.out, HA2.out.len])) HA1.out HA2.out (by omega) (by omega) (by omega)).mono ?_
        rintro e w5 ⟨v3, us3, A3, rfl, hA3, hl3, c5⟩
        have c6 := c4.call c5
        rw [show 3 * 2 = n from (G6.out (by simp)).symm] at hA3 hl3
        have h5 := ((c6.perm (L' := (own2 v3 us3 A3 ++ L) ++ (own2 v us A ++ own2 v1 us1 A1 ++ own2 v2 us2 A2)) (by (try simp only [own2, List.cons_append, List.nil_append, List.append_nil]); classical exact List.perm_iff_count.2 (fun a => by simp only [List.cons_append, List.nil_append, List.append_nil, List.count_append, List.count_cons, List.count_nil] <;> omega))).sub (List.sublist_append_left _ _)).mono (show K + 2 ≤ K + 4 by omega)
        clear c4 c5 c6 HA Hl HA1 HA2 Hl1 Hl2
        have HA := Lib.hid hA3
        have Hl := Lib.hid hl3
        clear hA3 hl3
        go_wp2_with fail
        clear G4 G6 G8 G9 C2 C3
        refine (pick_c w0 _ cv bs g _ _ 4 hb h5 (by omega)).mono ?_
        rintro e wa ⟨kk, k0, k1, rfl, h6⟩
        obtain ⟨j, rfl⟩ := Int.eq_ofNat_of_zero_le k0
        have hj3 : j ≤ 3 := by omega
        clear k0 k1 h5
        go_wp2_with fail
        go_loopw [5, 6] (fun a kv wr => ∃ (j : Nat) (us : List Value) (A : List (List Int)), kv = .int .i64 j ∧ j ≤ 3 ∧ Hid (us.length = n) ∧ Hid (LatN n A) ∧ Src w0 wr cv g (K + 6 + 10 * (3 - j)) (own2 a us A ++ L)) (fun _ kv _ => (intOf kv).toNat)
        case atStart => exact ⟨j, _, _, rfl, hj3, Hl.out, HA.out, h6.mono (by omega)⟩
        case round =>
          clear h6 Hl HA hj3
          obtain ⟨j, us, A, rfl, hj3, Hl, HA, h6⟩ := hrel
          by_cases hj : 0 < j
          · go_wp2_with fail
            refine (l06SwitchL_c w0 _ cv bs g _ L n _ us A hb h6 Hl.out HA.out (by omega) n1 (by omega)).mono ?_
            rintro e wb ⟨vb, ub, Ab, rfl, hAb, hlb, h7⟩
            have HAb := Lib.hid hAb
            have Hlb := Lib.hid hlb
            clear hAb hlb
            go_wp2_with fail
            go_roundw
            case rel => exact ⟨j - 1, ub, Ab, by go_num, by omega, Hlb.out, HAb.out, h7.mono (by omega)⟩
            case measure => simp [intOf]; omega
          · obtain rfl : j = 0 := by omega
            go_wp2_with fail
            refine (l04DrawPerm_c w0 _ cv bs g _ _ n hb h6 (by omega) (by omega)).mono ?_
            rintro e wb ⟨rv, rs, rfl, rl, rp, h7⟩
            have Rl := Lib.hid rl
            have Rp := Lib.hid rp
            clear rl rp h6
            go_wp2_with fail
            refine (l04DrawPerm_c w0 _ cv bs g _ _ n hb h7 (by omega) (by omega)).mono ?_
            rintro e wc ⟨cv', cs, rfl, cl, cp, h8⟩
            have Cl := Lib.hid cl
            have Cp := Lib.hid cp
            clear cl cp h7
            go_wp2_with fail
            refine (l04DrawPerm_c w0 _ cv bs g _ _ n hb h8 (by omega) (by omega)).mono ?_
            rintro e wd ⟨sv, ss, rfl, sl, sp, h9⟩
            have Sl := Lib.hid sl
            have Sp := Lib.hid sp
            clear sl sp h8
            go_wp2_with fail
            refine (one_c w0 _ cv bs g _ _ 5 hb h9 (by omega)).mono ?_
            rintro e we ⟨b, rfl, h10⟩
            clear h9
            cases b
            · go_wp2_with fail
              refine (sIsotopeL_c _ rv cv' sv us A rs cs ss _ n (h10.riiS (((List.sublist_append_left _ _).cons _).cons _ |>.cons _) (by rw [Hl.out, HA.out.len])) (h10.rdI 2 rfl) (h10.rdI 1 rfl) (h10.rdI 0 rfl) HA.out Rp.out Cp.out Sp.out Rl.out Cl.out Sl.out (by omega)).mono ?_
              rintro e wf ⟨vz, uz, Az, rfl, hAz, hlz, h11⟩
              have h12 := h10.call h11
              have h13 := ((h12.perm List.perm_append_comm).sub (L' := own2 vz uz Az ++ L) (List.Sublist.append_left ((((List.sublist_append_right _ _).cons _).cons _).cons _) _)).mono (show _ ≤ K + 200 by omega)
              clear h10 h11 h12
              go_wp2_with fail
              go_ret
              exact ⟨vz, uz, Az, rfl, hAz, hlz, h13⟩
            · have h13 := (h10.sub (L' := own2 u5 us A ++ L) ((((List.Sublist.refl _).cons _).cons _).cons _)).mono (show _ ≤ K + 200 by omega)
              clear h10
              go_wp2_with fail
              go_ret
              exact ⟨_, us, A, rfl, HA.out, Hl.out, h13⟩
  · go_wp2_with fail
    refine (one_c w0 w1 cv bs g _ _ 2 hb h2 (by omega)).mono ?_
    rintro e w2 ⟨b, rfl, h3⟩
    clear h2
    cases b
    · have h5 := h3.mono (show K + 2 ≤ K + 4 by omega)
      clear h3
      go_wp2_with fail
      clear G4 G6 G8 G9 C2 C3
      refine (pick_c w0 _ cv bs g _ _ 4 hb h5 (by omega)).mono ?_
      rintro e wa ⟨kk, k0, k1, rfl, h6⟩
      obtain ⟨j, rfl⟩ := Int.eq_ofNat_of_zero_le k0
      have hj3 : j ≤ 3 := by omega
      clear k0 k1 h5
      go_wp2_with fail
      go_loopw [5, 6] (fun a kv wr => ∃ (j : Nat) (us : List Value) (A : List (List Int)), kv = .int .i64 j ∧ j ≤ 3 ∧ Hid (us.length = n) ∧ Hid (LatN n A) ∧ Src w0 wr cv g (K + 6 + 10 * (3 - j)) (own2 a us A ++ L)) (fun _ kv _ => (intOf kv).toNat)
      case atStart => exact ⟨j, _, _, rfl, hj3, Hl.out, HA.out, h6.mono (by omega)⟩
      case round =>
        clear h6 Hl HA hj3
        obtain ⟨j, us, A, rfl, hj3, Hl, HA, h6⟩ := hrel
        by_cases hj : 0 < j
        · go_wp2_with fail
          refine (l06SwitchL_c w0 _ cv bs g _ L n _ us A hb h6 Hl.out HA.out (by omega) n1 (by omega)).mono ?_
          rintro e wb ⟨vb, ub, Ab, rfl, hAb, hlb, h7⟩
          have HAb := Lib.hid hAb
          have Hlb := Lib.hid hlb
          clear hAb hlb
          go_wp2_with fail
          go_roundw
          case rel => exact ⟨j - 1, ub, Ab, by go_num, by omega, Hlb.out, HAb.out, h7.mono (by omega)⟩
          case measure => simp [intOf]; omega
        · obtain rfl : j = 0 := by omega
          go_wp2_with fail
          refine (l04DrawPerm_c w0 _ cv bs g _ _ n hb h6 (by omega) (by omega)).mono ?_
          rintro e wb ⟨rv, rs, rfl, rl, rp, h7⟩
          have Rl := Lib.hid rl
          have Rp := Lib.hid rp
          clear rl rp h6
          go_wp2_with fail
          refine (l04DrawPerm_c w0 _ cv bs g _ _ n hb h7 (by omega) (by omega)).mono ?_
          rintro e wc ⟨cv', cs, rfl, cl, cp, h8⟩
          have Cl := Lib.hid cl
          have Cp := Lib.hid cp
          clear cl cp h7
          go_wp2_with fail
          refine (l04DrawPerm_c w0 _ cv bs g _ _ n hb h8 (by omega) (by omega)).mono ?_
          rintro e wd ⟨sv, ss, rfl, sl, sp, h9⟩
          have Sl := Lib.hid sl
          have Sp := Lib.hid sp
          clear sl sp h8
          go_wp2_with fail
          refine (one_c w0 _ cv bs g _ _ 5 hb h9 (by omega)).mono ?_
          rintro e we ⟨b, rfl, h10⟩
          clear h9
          cases b
          · go_wp2_with fail
            refine (sIsotopeL_c _ rv cv' sv us A rs cs ss _ n (h10.riiS (((List.sublist_append_left _ _).cons _).cons _ |>.cons _) (by rw [Hl.out, HA.out.len])) (h10.rdI 2 rfl) (h10.rdI 1 rfl) (h10.rdI 0 rfl) HA.out Rp.out Cp.out Sp.out Rl.out Cl.out Sl.out (by omega)).mono ?_
            rintro e wf ⟨vz, uz, Az, rfl, hAz, hlz, h11⟩
            have h12 := h10.call h11
            have h13 := ((h12.perm List.perm_append_comm).sub (L' := own2 vz uz Az ++ L) (List.Sublist.append_left ((((List.sublist_append_right _ _).cons _).cons _).cons _) _)).mono (show _ ≤ K + 200 by omega)
            clear h10 h11 h12
            go_wp2_with fail
            go_ret
            exact ⟨vz, uz, Az, rfl, hAz, hlz, h13⟩
          · have h13 := (h10.sub (L' := own2 u5 us A ++ L) ((((List.Sublist.refl _).cons _).cons _).cons _)).mono (show _ ≤ K + 200 by omega)
            clear h10
            go_wp2_with fail
            go_ret
            exact ⟨_, us, A, rfl, HA.out, Hl.out, h13⟩
    · go_wp2_with fail
      refine (C2 _).out.mono ?_
      rintro e w3 ⟨v1, us1, A1, rfl, hA1, hl1, c1⟩
      have c2 := h3.call c1
      clear h3 c1
      have HA1 := Lib.hid hA1
      have Hl1 := Lib.hid hl1
      clear hA1 hl1
      go_wp2_with fail
      refine (C2 _).out.mono ?_
      rintro e w4 ⟨v2, us2, A2, rfl, hA2, hl2, c3⟩
      have c4 := c2.call c3
      clear c2 c3
      have HA2 := Lib.hid hA2
      have Hl2 := Lib.hid hl2
      clear hA2 hl2
      go_wp2_with fail
      refine (l06ProductL_c v1 v2 us1 us2 A1 A2 _ 2 2 (c4.riiS ((List.sublist_append_right _ _).trans (List.sublist_append_left _ _)) (by rw [Hl1.out, HA1.out.len])) (c4.riiS (List.sublist_append_right _ _) (by rw [Hl2.out, HA2.out.len])) HA1.out HA2.out (by omega) (by omega) (by omega)).mono ?_
      rintro e w5 ⟨v3, us3, A3, rfl, hA3, hl3, c5⟩
      have c6 := c4.call c5
      rw [show 2 * 2 = n from (G4.out (by simp)).symm] at hA3 hl3
      have h5 := ((c6.perm (L' := (own2 v3 us3 A3 ++ L) ++ (own2 v us A ++ own2 v1 us1 A1 ++ own2 v2 us2 A2)) (by (try simp only [own2, List.cons_append, List.nil_append, List.append_nil]); classical exact List.perm_iff_count.2 (fun a => by simp only [List.cons_append, List.nil_append, List.append_nil, List.count_append, List.count_cons, List.count_nil] <;> omega))).sub (List.sublist_append_left _ _)).mono (show K + 2 ≤ K + 4 by omega)
      clear c4 c5 c6 HA Hl HA1 HA2 Hl1 Hl2
      have HA := Lib.hid hA3
      have Hl := Lib.hid hl3
      clear hA3 hl3
      go_wp2_with fail
      clear G4 G6 G8 G9 C2 C3
      refine (pick_c w0 _ cv bs g _ _ 4 hb h5 (by omega)).mono ?_
      rintro e wa ⟨kk, k0, k1, rfl, h6⟩
      obtain ⟨j, rfl⟩ := Int.eq_ofNat_of_zero_le k0
      have hj3 : j ≤ 3 := by omega
      clear k0 k1 h5
      go_wp2_with fail
      go_loopw [5, 6] (fun a kv wr => ∃ (j : Nat) (us : List Value) (A : List (List Int)), kv = .int .i64 j ∧ j ≤ 3 ∧ Hid (us.length = n) ∧ Hid (LatN n A) ∧ Src w0 wr cv g (K + 6 + 10 * (3 - j)) (own2 a us A ++ L)) (fun _ kv _ => (intOf kv).toNat)
      case atStart => exact ⟨j, _, _, rfl, hj3, Hl.out, HA.out, h6.mono (by omega)⟩
      case round =>
        clear h6 Hl HA hj3
        obtain ⟨j, us, A, rfl, hj3, Hl, HA, h6⟩ := hrel
        by_cases hj : 0 < j
        · go_wp2_with fail
          refine (l06SwitchL_c w0 _ cv bs g _ L n _ us A hb h6 Hl.out HA.out (by omega) n1 (by omega)).mono ?_
          rintro e wb ⟨vb, ub, Ab, rfl, hAb, hlb, h7⟩
          have HAb := Lib.hid hAb
          have Hlb := Lib.hid hlb
          clear hAb hlb
          go_wp2_with fail
          go_roundw
          case rel => exact ⟨j - 1, ub, Ab, by go_num, by omega, Hlb.out, HAb.out, h7.mono (by omega)⟩
          case measure => simp [intOf]; omega
        · obtain rfl : j = 0 := by omega
          go_wp2_with fail
          refine (l04DrawPerm_c w0 _ cv bs g _ _ n hb h6 (by omega) (by omega)).mono ?_
          rintro e wb ⟨rv, rs, rfl, rl, rp, h7⟩
          have Rl := Lib.hid rl
          have Rp := Lib.hid rp
          clear rl rp h6
          go_wp2_with fail
          refine (l04DrawPerm_c w0 _ cv bs g _ _ n hb h7 (by omega) (by omega)).mono ?_
          rintro e wc ⟨cv', cs, rfl, cl, cp, h8⟩
          have Cl := Lib.hid cl
          have Cp := Lib.hid cp
          clear cl cp h7
          go_wp2_with fail
          refine (l04DrawPerm_c w0 _ cv bs g _ _ n hb h8 (by omega) (by omega)).mono ?_
          rintro e wd ⟨sv, ss, rfl, sl, sp, h9⟩
          have Sl := Lib.hid sl
          have Sp := Lib.hid sp
          clear sl sp h8
          go_wp2_with fail
          refine (one_c w0 _ cv bs g _ _ 5 hb h9 (by omega)).mono ?_
          rintro e we ⟨b, rfl, h10⟩
          clear h9
          cases b
          · go_wp2_with fail
            refine (sIsotopeL_c _ rv cv' sv us A rs cs ss _ n (h10.riiS (((List.sublist_append_left _ _).cons _).cons _ |>.cons _) (by rw [Hl.out, HA.out.len])) (h10.rdI 2 rfl) (h10.rdI 1 rfl) (h10.rdI 0 rfl) HA.out Rp.out Cp.out Sp.out Rl.out Cl.out Sl.out (by omega)).mono ?_
            rintro e wf ⟨vz, uz, Az, rfl, hAz, hlz, h11⟩
            have h12 := h10.call h11
            have h13 := ((h12.perm List.perm_append_comm).sub (L' := own2 vz uz Az ++ L) (List.Sublist.append_left ((((List.sublist_append_right _ _).cons _).cons _).cons _) _)).mono (show _ ≤ K + 200 by omega)
            clear h10 h11 h12
            go_wp2_with fail
            go_ret
            exact ⟨vz, uz, Az, rfl, hAz, hlz, h13⟩
          · have h13 := (h10.sub (L' := own2 u5 us A ++ L) ((((List.Sublist.refl _).cons _).cons _).cons _)).mono (show _ ≤ K + 200 by omega)
            clear h10
            go_wp2_with fail
            go_ret
            exact ⟨_, us, A, rfl, HA.out, Hl.out, h13⟩
end Go.Proofs.Ytdlmohigkkdegaa
end

section
/- Posts: a row and a code; a list of rows and a code. -/
namespace Go.Proofs.Ytdlmohigkkdegaa
set_option linter.unusedSimpArgs false
set_option linter.unusedVariables false
/-- a row of its own, and a code -/
def MakesC1 (w : World) (xs : List Int) (c : Int) (e : Ending) (w' : World) : Prop := ∃ v, e = .returned (.tuple #[v, .int .i64 c]) ∧ St w.heap.size w w' [row 2 v (iv xs)]
end Go.Proofs.Ytdlmohigkkdegaa
end

section
/- Walks: slices.ContainsFunc on rows of integers. -/
namespace Go.Proofs.Ytdlmohigkkdegaa
set_option linter.unusedSimpArgs false
set_option linter.unusedVariables false
open Go.RowKit

/-! slices.ContainsFunc on rows -/
def anyR (p : List Int → Bool) (xss : List (List Int)) : Bool := xss.any p
def idxR (p : List Int → Bool) (xss : List (List Int)) (k : Nat) : Int := match (xss.drop k).findIdx? p with | some j => (k + j : Nat) | none => -1
theorem idxR_step {p : List Int → Bool} {xs : List (List Int)} {k : Nat} (hk : k < xs.length) (h : p (xat xs k) = false) : idxR p xs k = idxR p xs (k + 1) := by
  unfold idxR
  rw [drop_xat hk, List.findIdx?_cons, h]
  cases (xs.drop (k + 1)).findIdx? p with
  | none => rfl
  | some j => simp; omega
theorem idxR_hit {p : List Int → Bool} {xs : List (List Int)} {k : Nat} (hk : k < xs.length) (h : p (xat xs k) = true) : idxR p xs k = k := by
  unfold idxR; rw [drop_xat hk, List.findIdx?_cons, h]; simp
theorem idxR_end {p : List Int → Bool} {xs : List (List Int)} {k : Nat} (hk : xs.length ≤ k) : idxR p xs k = -1 := by
  unfold idxR; rw [List.drop_of_length_le hk]; rfl
theorem idxR_any {p : List Int → Bool} {xs : List (List Int)} : decide (0 ≤ idxR p xs 0) = anyR p xs := by
  unfold idxR anyR
  rw [List.drop_zero]
  cases h : xs.findIdx? p with
  | none =>
    have hy : xs.any p = false := by
      rw [List.any_eq_false]
      intro x hx
      have := List.findIdx?_eq_none_iff.1 h x hx
      simp [this]
    rw [hy]; simp
  | some j =>
    have hy : xs.any p = true := by
      obtain ⟨hj, hp, _⟩ := List.findIdx?_eq_some_iff_getElem.1 h
      exact List.any_eq_true.2 ⟨_, List.getElem_mem hj, hp⟩
    rw [hy]; simp

set_option maxHeartbeats 1000000 in
set_option maxRecDepth 100000 in
theorem IndexFuncR_c (K : FuncId) (caps : Array Value) (p : List Int → Bool) (v : Value) (us : List Value) (xss : List (List Int)) (w : World) (hv : RII w v us xss)
    (hcf : ∀ (args : Array Value) (W : World), (callFunc K args).run Try.prog W = .ok (.enter K args) W)
    (hK : ∀ (j : Nat) (W : World), St w.heap.size w W [] → j < xss.length → Calls Try.prog K (#[vat us j] ++ caps) W (GivesB W (p (xat xss j)))) :
    Calls Try.prog 86 #[v, .func (.func K) #[] caps] w (GivesI w (idxR p xss 0)) := by
  have HK := Lib.hid hK
  clear hK
  have hln := hv.len
  have hix := hv.ix
  have hm := hv.le
  go_enter Try.func86, Try.ntmps86
  go_wp2_with fail
  go_loopw [5, 8] (fun _ i wr => ∃ k : Nat, k ≤ xss.length ∧ i = .int .i64 k ∧ Hid (idxR p xss 0 = idxR p xss k) ∧ St w.heap.size w wr []) (fun _ i _ => xss.length - (intOf i).toNat)
  case atStart => exact ⟨0, by omega, rfl, rfl, St.refl w⟩
  case round =>
    obtain ⟨k, hk, rfl, hI, hS⟩ := hrel
    by_cases hlt : k < xss.length
    · have hc := (hS.oldII hv).cell k hlt
      go_wp2_with fail
      refine (HK.out _ _ hS hlt).mono ?_
      cases hp : p (xat xss k)
      · have Hp := Lib.hid hp; clear hp
        rintro e w2 ⟨rfl, h2⟩
        have hS2 := hS.call0 h2
        go_wp2_with fail
        go_roundw
        case rel => exact ⟨k + 1, by omega, by go_num, by rw [Hid, hI.out, idxR_step hlt Hp.out], hS2⟩
        case measure => simp [intOf]; omega
      · have Hp := Lib.hid hp; clear hp
        rintro e w2 ⟨rfl, h2⟩
        have hS2 := hS.call0 h2
        go_wp2_with fail
        go_ret
        exact ⟨ret_i64 (by rw [hI.out, idxR_hit hlt Hp.out]), hS2⟩
    · go_wp2_with fail
      go_ret
      exact ⟨ret_i64 (by rw [hI.out, idxR_end (by omega)]), hS⟩
theorem ContainsFuncR_c (K : FuncId) (caps : Array Value) (p : List Int → Bool) (v : Value) (us : List Value) (xss : List (List Int)) (w : World) (hv : RII w v us xss)
    (hcf : ∀ (args : Array Value) (W : World), (callFunc K args).run Try.prog W = .ok (.enter K args) W)
    (hK : ∀ (j : Nat) (W : World), St w.heap.size w W [] → j < xss.length → Calls Try.prog K (#[vat us j] ++ caps) W (GivesB W (p (xat xss j)))) :
    Calls Try.prog 90 #[v, .func (.func K) #[] caps] w (GivesB w (anyR p xss)) := by
  have HK := Lib.hid hK
  clear hK
  go_enter Try.func90, Try.ntmps90
  go_wp2_with fail
  refine (IndexFuncR_c K caps p v us xss w hv hcf HK.out).mono ?_
  rintro e w1 ⟨rfl, h1⟩
  go_wp2_with fail
  go_ret
  exact ⟨ret_bool idxR_any, h1⟩

theorem szII_c (v : Value) (us : List Value) (xss : List (List Int)) (w : World) (hv : RII w v us xss) :
    Calls Try.prog 33 #[v] w fun e w' => e = .returned (.int .i64 xss.length) ∧ w = w' := by
  have hln := hv.len
  go_enter Try.func33, Try.ntmps33
  go_wp2_with fail
  go_ret
  exact ⟨rfl, rfl⟩
end Go.Proofs.Ytdlmohigkkdegaa
end

section
/- Slices of truth values. -/
namespace Go.Proofs.Ytdlmohigkkdegaa
set_option linter.unusedSimpArgs false
set_option linter.unusedVariables false
open Go.RowKit
/-- the cells of a list of truth values -/
def bo (xs : List Bool) : List Value := xs.map Value.bool
/-- element j -/
def bat (xs : List Bool) (j : Nat) : Bool := xs.getD j false
theorem bo_len (xs : List Bool) : (bo xs).length = xs.length := by simp [bo]
theorem bo_get {xs : List Bool} {j : Nat} (h : j < xs.length) : (bo xs).getD j undef = .bool (bat xs j) := by
  simp [bo, bat, List.getD, List.getElem?_eq_getElem h]
theorem bo_set (xs : List Bool) (j : Nat) (x : Bool) : (bo xs).set j (.bool x) = bo (xs.set j x) := by simp [bo, List.map_set]
theorem bo_rep (n : Nat) : List.replicate n (Value.bool false) = bo (List.replicate n false) := by simp [bo]
theorem bat_set {xs : List Bool} {i j : Nat} {x : Bool} (h : i < xs.length) : bat (xs.set i x) j = if i = j then x else bat xs j := by
  unfold bat
  rw [List.getD_eq_getElem?_getD, List.getElem?_set]
  split
  · rename_i e; subst e; simp [h]
  · simp
theorem bat_rep (n j : Nat) : bat (List.replicate n false) j = false := by
  unfold bat
  rw [List.getD_eq_getElem?_getD, List.getElem?_replicate]; split <;> rfl
def RdO (w : World) (v : Value) (xs : List Bool) : Prop := Rd w v (bo xs)
theorem Try.info_o : (Try.prog.info? 4).map (fun i => (i.zero, i.size, i.bytes)) = some (some (.bool false), 1, 1) := by kernel_rfl
theorem Try.size_o : (Try.prog.info? 4).map (·.size) = some 1 := by kernel_rfl
theorem Try.und_os : Try.prog.underlying 105 = some (.slice 4) := by kernel_rfl
section
variable {w w' : World} {v : Value} {xs : List Bool}
theorem RdO.le (h : RdO w v xs) : xs.length ≤ 9223372036854775807 := by have := h.sl.le; rwa [bo_len] at this
theorem RdO.len (h : RdO w v xs) (ty : TypeId) (W : World) : (Builtin.len_ #[105] ty #[v]).run Try.prog W = .ok (.int .i64 xs.length) W := by
  have := run_len_sl (P := Try.prog) h.sl 105 ty Try.und_os W; rwa [bo_len] at this
theorem RdO.ix (h : RdO w v xs) (k : IntKind) (i : Int) (h0 : 0 ≤ i) (hi : i < xs.length) (W : World) :
    (Instr.indexAt 105 v (.int k i)).run Try.prog W = .ok (.pointer (some (el v i.toNat))) W :=
  run_ix_sl (P := Try.prog) h.sl 105 Try.und_os Try.size_o k i h0 (by rw [bo_len]; exact hi) W
theorem RdO.ixe (h : RdO w v xs) (i : Int) (j : Nat) (hij : i = (j : Int)) (hj : j < xs.length) (W : World) :
    (Instr.indexAt 105 v (.int .i64 i)).run Try.prog W = .ok (.pointer (some (el v j))) W := by
  have := h.ix .i64 i (by omega) (by omega) W
  rwa [hij, Int.toNat_natCast, ← hij] at this
theorem RdO.cell (h : RdO w v xs) (j : Nat) (hj : j < xs.length) : w.cell? (el v j) = some (.bool (bat xs j)) := by
  rw [Rd.cell h (by rw [bo_len]; exact hj), bo_get hj]
theorem RdO.keep (h : RdO w v xs) (hb : Below w.heap.size w w') : RdO w' v xs := Rd.keep h hb
end
theorem St.rdO {B : Nat} {w0 w : World} {L : List Ent} (h : St B w0 w L) (i : Nat) {e : TypeId} {v : Value} {xs : List Bool} (hi : L[i]? = some (row e v (bo xs))) : RdO w v xs := h.rd i hi
section
variable {ops : Array Oper} {rest : List Oper} {o : Oper} {a : Act} {Q : Exit → Act → World → Prop} {B : Nat} {w0 w : World} {L : List Ent}
/-- a store into an owned row of truth values -/
theorem stoO (hS : St B w0 w L) (i : Nat) {v : Value} {xs : List Bool} (hi : L[i]? = some (row 4 v (bo xs))) (j : Nat) (hj : j < xs.length) (hg : o.guard = none) (x y : Operand)
    (hop : o.op = .store 4 x y) (hx : a.eval x = .pointer (some (el v j))) (n : Bool) (hy : a.eval y = .bool n)
    (hK : ∀ w', St B w0 w' (L.set i (row 4 v (bo (xs.set j n)))) → wpList Try.prog ops Q rest (a.put o.dst undef) w') :
    wpList Try.prog ops Q (o :: rest) a w :=
  wpList_st_store hg x y 4 hop Try.size_o hS i hi j (by rw [bo_len]; exact hj) (.bool n) hx hy rfl rfl (fun w' h => hK w' (by rw [← bo_set]; exact h))
/-- make([]bool, n) -/
theorem mkO (hS : St B w0 w L) (hg : o.guard = none) (x y : Operand) (hop : o.op = .makeSlice 105 x y) (kl kc : IntKind) (n : Nat) (hx : a.eval x = .int kl n) (hy : a.eval y = .int kc n) (hN : n ≤ 4294967296)
    (hK : ∀ v' w', St B w0 w' (L ++ [row 4 v' (bo (List.replicate n false))]) → wpList Try.prog ops Q rest (a.put o.dst v') w') :
    wpList Try.prog ops Q (o :: rest) a w :=
  wpList_st_make hg x y 105 hop 4 (.bool false) 1 Try.und_os Try.info_o rfl hS kl kc n hx hy (by omega) hN (fun v' w' h => hK v' w' (by rw [← bo_rep]; exact h))
end
theorem RdI.shz {w : World} {v : Value} {xs : List Int} (h : RdI w v xs) : ∃ a c, v = .slice a xs.length c := by
  obtain ⟨a, c, hv, _⟩ := h.sl
  rw [iv_len] at hv
  exact ⟨a, c, hv⟩
end Go.Proofs.Ytdlmohigkkdegaa
end

section
/- Walks: ValidSet of the program. -/
namespace Go.Proofs.Ytdlmohigkkdegaa
set_option linter.unusedSimpArgs false
set_option linter.unusedVariables false
open Go.RowKit

def validSetB (xs : List Int) (n : Int) : Bool := incB (-1) n xs && inB n 0 32

theorem incB_drop {xs : List Int} {k : Nat} (hk : k < xs.length) (last n : Int) :
    incB last n (xs.drop k) = if nth xs k ≤ last ∨ n ≤ nth xs k then false else incB (nth xs k) n (xs.drop (k + 1)) := by
  rw [drop_nth hk]; rfl

set_option maxHeartbeats 1000000 in
theorem ValidSet_c (v : Value) (xs : List Int) (n : Int) (w : World) (hv : RdI w v xs) :
    Calls Try.prog 40 #[v, .int .i64 n] w fun e w' => e = .returned (.bool (validSetB xs n)) ∧ w = w' := by
  have hln := hv.len
  have hix := hv.ix
  have hcell := hv.cell
  have hm := hv.le
  go_enter Try.func40, Try.ntmps40
  go_wp2_with fail
  go_loop [5, 7, 10] (fun l x i => ∃ (k : Nat) (last : Int), k ≤ xs.length ∧ i = .int .i64 k ∧ l = .int .i64 last ∧ Hid (incB (-1) n xs = incB last n (xs.drop k))) (fun _ _ i => xs.length - (intOf i).toNat)
  case atStart => exact ⟨0, -1, by omega, rfl, rfl, rfl⟩
  case round =>
    obtain ⟨k, last, hk, rfl, rfl, hI⟩ := hrel
    by_cases hlt : k < xs.length
    · have hd := Lib.hid (incB_drop hlt last n)
      by_cases h1 : nth xs k ≤ last
      · go_wp2_with fail
        go_ret
        exact ⟨ret_bool (by rw [validSetB, hI.out, hd.out]; simp [h1]), rfl⟩
      · by_cases h2 : n ≤ nth xs k
        · go_wp2_with fail
          go_ret
          exact ⟨ret_bool (by rw [validSetB, hI.out, hd.out]; simp [h2]), rfl⟩
        · go_wp2_with fail
          go_round
          case rel => exact ⟨k + 1, nth xs k, by omega, by go_num, rfl, by rw [Hid, hI.out, hd.out]; simp [h1, h2]⟩
          case measure => simp [intOf]; omega
    · go_wp2_with (go_at_call 49; refine (within_c _ _ _ _).mono ?_; rintro e w' ⟨rfl, rfl⟩)
      go_ret
      exact ⟨ret_bool (by rw [validSetB, hI.out, List.drop_of_length_le (by omega)]; simp [incB]), rfl⟩
end Go.Proofs.Ytdlmohigkkdegaa
end

section
/- Walks: the cycles of a permutation. Walks: SignOf; the law FnPermutations. Walks: CyclesOf, SignOf and OrderOfPermutation of any list, powers, permutations made of cycles, types. -/
namespace Go.Proofs.Ytdlmohigkkdegaa
set_option linter.unusedSimpArgs false
set_option linter.unusedVariables false
open Go.RowKit
attribute [local go_sem ↓] Go.wp_at_zero Go.wp_at_succ


def ofN (l : List Nat) : List Int := l.map fun k : Nat => (k : Int)
/-- the cycles that numbers below m lead -/
noncomputable def cyM (xs : List Int) (m : Nat) : List (List Int) := (cycs xs.length (pf xs) m).map ofN
/-- the first j numbers of the cycle of x -/
def cyP (xs : List Int) (x j : Nat) : List Int := (List.range j).map fun i => ((it (pf xs) i x : Nat) : Int)
theorem cyP_succ (xs : List Int) (x j : Nat) : cyP xs x (j + 1) = cyP xs x j ++ [((it (pf xs) j x : Nat) : Int)] := by simp [cyP, List.range_succ]
theorem cyP_len (xs : List Int) (x j : Nat) : (cyP xs x j).length = j := by simp [cyP]
theorem cyP_all (xs : List Int) (x : Nat) : cyP xs x (clen xs.length (pf xs) x) = ofN (cycL xs.length (pf xs) x) := by simp [cyP, ofN, cycL]
theorem cyM_yes {xs : List Int} {m : Nat} (h : Lead (pf xs) m) : cyM xs (m + 1) = cyM xs m ++ [cyP xs m (clen xs.length (pf xs) m)] := by
  unfold cyM; rw [cycs, if_pos h, cyP_all]; simp
theorem cyM_no {xs : List Int} {m : Nat} (h : ¬ Lead (pf xs) m) : cyM xs (m + 1) = cyM xs m := by
  unfold cyM; rw [cycs, if_neg h]; simp
theorem cyM_len (xs : List Int) (m : Nat) : (cyM xs m).length ≤ m := by
  unfold cyM; rw [List.length_map, cycs_len]
  induction m with
  | zero => simp [cyc]
  | succ m ih => rw [cyc]; split <;> omega
/-- what is seen: all cycles that numbers below m lead, and the first j numbers of that of m -/
def Seen (xs : List Int) (m j : Nat) (s : List Bool) : Prop := s.length = xs.length ∧ ∀ y, y < xs.length → (bat s y = true ↔ y ∈ (cycs xs.length (pf xs) m).flatten ∨ ∃ i, i < j ∧ y = it (pf xs) i m)
theorem Seen.start (xs : List Int) : Seen xs 0 0 (List.replicate xs.length false) := ⟨by simp, fun y hy => by rw [bat_rep]; simp [cycs]⟩
theorem Seen.step {xs : List Int} {m j : Nat} {s : List Bool} (h : Seen xs m j s) (hp : IsP xs) (hm : m < xs.length) : Seen xs m (j + 1) (s.set (it (pf xs) j m) true) := by
  have hlt := it_lt hp.bij hm j
  refine ⟨by rw [List.length_set]; exact h.1, fun y hy => ?_⟩
  rw [bat_set (by rw [h.1]; exact hlt)]
  by_cases e : it (pf xs) j m = y
  · rw [if_pos e]; exact ⟨fun _ => .inr ⟨j, by omega, e.symm⟩, fun _ => rfl⟩
  · rw [if_neg e, h.2 y hy]
    constructor
    · rintro (h1 | ⟨i, hi, e2⟩)
      · exact .inl h1
      · exact .inr ⟨i, by omega, e2⟩
    · rintro (h1 | ⟨i, hi, e2⟩)
      · exact .inl h1
      · refine .inr ⟨i, ?_, e2⟩
        refine Nat.lt_of_le_of_ne (by omega) fun e3 => e ?_
        rw [e2, e3]
theorem Seen.no {xs : List Int} {m : Nat} {s : List Bool} (h : Seen xs m 0 s) (hp : IsP xs) (hm : m < xs.length) (hL : ¬ Lead (pf xs) m) : bat s m = true ∧ Seen xs (m + 1) 0 s := by
  have hs := fun hh => hL ((lead_seen hp.bij hm).2 hh)
  refine ⟨(h.2 m hm).2 (.inl (Classical.byContradiction hs)), h.1, fun y hy => ?_⟩
  rw [h.2 y hy, cycs, if_neg hL]; simp
theorem Seen.fresh {xs : List Int} {m j : Nat} {s : List Bool} (h : Seen xs m j s) (hp : IsP xs) (hm : m < xs.length) (hL : Lead (pf xs) m) (hj : j < clen xs.length (pf xs) m) : bat s (it (pf xs) j m) = false := by
  have hlt := it_lt hp.bij hm j
  have hc := clen_ok hp.bij hm
  cases e : bat s (it (pf xs) j m) with
  | false => rfl
  | true =>
    rcases (h.2 _ hlt).1 e with h1 | ⟨i, hi, e2⟩
    · exact absurd h1 (lead_fresh hp.bij hm hL ((mem_cycL hp.bij hm).2 ⟨j, rfl⟩))
    · have := hc.inj hp.bij hm hj (by omega) e2; omega
theorem Seen.back {xs : List Int} {m : Nat} {s : List Bool} (h : Seen xs m (clen xs.length (pf xs) m) s) (hp : IsP xs) (hm : m < xs.length) (hL : Lead (pf xs) m) : bat s (it (pf xs) (clen xs.length (pf xs) m) m) = true ∧ Seen xs (m + 1) 0 s := by
  have hc := clen_ok hp.bij hm
  have hb := hc.back
  refine ⟨?_, h.1, fun y hy => ?_⟩
  · rw [hb]; exact (h.2 m hm).2 (.inr ⟨0, hc.pos, rfl⟩)
  · rw [h.2 y hy, cycs, if_pos hL]
    simp only [List.flatten_append, List.flatten_cons, List.flatten_nil, List.append_nil, List.mem_append]
    constructor
    · rintro (h1 | ⟨i, hi, rfl⟩)
      · exact .inl (.inl h1)
      · exact .inl (.inr ((mem_cycL hp.bij hm).2 ⟨i, rfl⟩))
    · rintro ((h1 | h1) | ⟨i, hi, _⟩)
      · exact .inl h1
      · unfold cycL at h1
        obtain ⟨i, hi, rfl⟩ := List.mem_map.1 h1
        exact .inr ⟨i, List.mem_range.1 hi, rfl⟩
      · omega
theorem rowsI_snoc {us : List Value} {R : List (List Int)} (hl : us.length = R.length) (u : Value) (xs : List Int) : rowsI (us ++ [u]) (R ++ [xs]) = rowsI us R ++ [row 2 u (iv xs)] := rowsI_app hl u xs
set_option maxHeartbeats 4000000 in
set_option maxRecDepth 100000 in
theorem cyclesOf_c (v : Value) (xs : List Int) (w : World) (hv : RdI w v xs) (hp : IsP xs) (hN : xs.length ≤ 1000) : Calls Try.prog 109 #[v] w (MakesII w (cyM xs xs.length)) := by
  have hlx := hv.len
  have hix := hv.ix
  have HP := Lib.hid hp
  clear hp
  go_enter Try.func109, Try.ntmps109
  go_wp2_with (at_make; refine mkO (St.refl w) rfl _ _ rfl _ _ xs.length rfl rfl (by omega) ?_; intro sv w1 hS1; have hr := hS1.rdO 0 rfl; have hsx := hr.ix; simp only [List.length_replicate] at hsx; clear hr)
  go_loopw [4, 5, 6, 7, 13] (fun c _ _ _ x wr => ∃ (k : Nat) (us : List Value) (s : List Bool), k ≤ xs.length ∧ x = .int .i64 k ∧ Hid (us.length = (cyM xs k).length) ∧ Hid (Seen xs k 0 s) ∧ St w.heap.size w wr (row 4 sv (bo s) :: row 28 c us :: rowsI us (cyM xs k))) (fun _ _ _ _ x _ => xs.length - (intOf x).toNat)
  case atStart => exact ⟨0, [], _, by omega, rfl, rfl, Seen.start xs, hS1.newnil 28⟩
  case round =>
    clear hS1
    obtain ⟨k, us, s, hk, rfl, hus, hse, hS⟩ := hrel
    by_cases hlt : k < xs.length
    · have hck := (hS.rdO 0 rfl).cell k (by rw [hse.out.1]; exact hlt)
      by_cases hL : Lead (pf xs) k
      · have HL := Lib.hid hL
        have Hc := Lib.hid (clen_ok HP.out.bij hlt)
        have hcp := Hc.out.pos
        have Hcl := Lib.hid Hc.out.le
        have hS2 : St w.heap.size w wr (row 2 (.slice none 0 0) (iv (cyP xs k 0)) :: row 4 sv (bo s) :: row 28 u4 us :: rowsI us (cyM xs k)) := (hS.newnil 2).perm List.perm_append_comm
        have hcl' : clen xs.length (pf xs) k ≤ 1000 := by have := Hcl.out; omega
        clear hL
        go_wp2_with fail
        go_loopw [6, 7] (fun c y wr => ∃ (j : Nat) (s : List Bool) (a : Option Addr) (cap : Nat), j ≤ clen xs.length (pf xs) k ∧ c = .slice a j cap ∧ y = .int .i64 (it (pf xs) j k : Nat) ∧ Hid (Seen xs k j s) ∧ St w.heap.size w wr (row 2 c (iv (cyP xs k j)) :: row 4 sv (bo s) :: row 28 u4 us :: rowsI us (cyM xs k))) (fun c _ _ => clen xs.length (pf xs) k - (match c with | .slice _ n _ => n | _ => 0))
        case atStart => exact ⟨0, s, none, 0, by omega, rfl, rfl, hse, hS2⟩
        case round =>
          clear hS hS2 hck
          obtain ⟨j, s, a, cap, hj, rfl, rfl, hse, hS⟩ := hrel
          have hyl := it_lt HP.out.bij hlt j
          have hcy := (hS.rdO 1 rfl).cell (it (pf xs) j k) (by rw [hse.out.1]; exact hyl)
          by_cases hjl : j < clen xs.length (pf xs) k
          · rw [hse.out.fresh HP.out hlt HL.out hjl] at hcy
            have hcx := (hS.oldI hv).cell (it (pf xs) j k) hyl
            rw [nth_pf HP.out hyl, show pf xs (it (pf xs) j k) = it (pf xs) (j + 1) k from rfl] at hcx
            have Hst := Lib.hid (hse.out.step HP.out hlt)
            have hyl' := Lib.hid (show it (pf xs) j k < s.length by rw [hse.out.1]; exact hyl)
            have Hlen := Lib.hid (cyP_len xs k j)
            have Hsuc := Lib.hid (cyP_succ xs k j)
            have hcP : ∀ (wz : World) (sz : List Bool) (c2 : Value), St w.heap.size w wz (row 2 c2 (iv (cyP xs k j ++ [((it (pf xs) j k : Nat) : Int)])) :: row 4 sv (bo sz) :: row 28 u4 us :: rowsI us (cyM xs k)) → wz.cell? (el v (it (pf xs) j k)) = some (.int .i64 ((it (pf xs) (j + 1) k : Nat) : Int)) := fun wz sz c2 h => by
              have := (h.oldI hv).cell (it (pf xs) j k) hyl
              rwa [nth_pf HP.out hyl] at this
            clear hcx
            generalize it (pf xs) j k = y at *
            generalize hy' : it (pf xs) (j + 1) k = y' at *
            have Hy' := Lib.hid hy'
            clear hy'
            go_wp2_with (first
              | (at_builtin; refine appI hS2 0 rfl (by rw [Hlen.out]; omega) rfl _ _ rfl rfl _ rfl ?_; intro c2 w3 hS3; have hcz := hcP _ _ _ hS3)
              | (refine stoO hS 1 rfl y hyl'.out rfl _ _ rfl rfl true rfl ?_; intro w2 hS2))
            simp only [List.set_cons_zero, List.set_cons_succ] at hS3
            obtain ⟨a3, c3, hv3⟩ := (hS3.rdI 0 rfl).shz
            rw [List.length_append, Hlen.out] at hv3
            simp only [List.length_cons, List.length_nil, Nat.zero_add] at hv3
            subst hv3
            go_roundw
            case rel => exact ⟨j + 1, _, a3, c3, by omega, rfl, by rw [Hy'.out], Hst.out, by rw [Hsuc.out]; exact hS3⟩
            case measure => simp; omega
          · obtain rfl : j = clen xs.length (pf xs) k := by omega
            have hb := hse.out.back HP.out hlt HL.out
            rw [hb.1] at hcy
            have Hb := Lib.hid hb.2
            have Hyes := Lib.hid (cyM_yes HL.out)
            have hlu := Lib.hid (show us.length < 4294967296 by have := cyM_len xs k; rw [hus.out]; omega)
            have hjp : (0 : Int) < (clen xs.length (pf xs) k : Nat) := by omega
            clear hb hse
            go_wp2_with (at_builtin; refine appII hS 2 rfl hlu.out rfl _ _ rfl rfl _ rfl rfl ?_; intro c2 w3 hS3)
            simp only [List.set_cons_zero, List.set_cons_succ] at hS3
            go_roundw
            case rel => exact ⟨k + 1, us ++ [.slice a (clen xs.length (pf xs) k) cap], s, by omega, by go_num, by unfold Hid; rw [Hyes.out]; simp; exact hus.out, Hb.out, by
              rw [Hyes.out, rowsI_snoc hus.out]
              exact hS3.perm (by (try simp only [own2, List.cons_append, List.nil_append, List.append_nil]); classical exact List.perm_iff_count.2 (fun a => by simp only [List.cons_append, List.nil_append, List.append_nil, List.count_append, List.count_cons, List.count_nil] <;> omega))⟩
            case measure => simp [intOf]; omega
      · have Hno := Lib.hid (hse.out.no HP.out hlt hL)
        have Hq := Lib.hid (cyM_no hL)
        rw [Hno.out.1] at hck
        clear hL hse
        go_wp2_with fail
        go_loopw [6, 7] (fun c y wr' => c = .slice none 0 0 ∧ y = .int .i64 k ∧ wr' = wr) (fun _ _ _ => 0)
        case atStart => exact ⟨rfl, rfl, rfl⟩
        case round =>
          obtain ⟨rfl, rfl, rfl⟩ := hrel
          go_wp2_with fail
          go_roundw
          case rel => exact ⟨k + 1, us, s, by omega, by go_num, by unfold Hid; rw [Hq.out]; exact hus.out, Hno.out.2, by rw [Hq.out]; exact hS⟩
          case measure => simp [intOf]; omega
    · obtain rfl : k = xs.length := by omega
      go_wp2_with fail
      go_ret
      exact ⟨_, us, rfl, hus.out, hS.sub (List.sublist_cons_self _ _)⟩


theorem cyM_cyc (xs : List Int) (m : Nat) : (cyM xs m).length = cyc m (pf xs) := by unfold cyM; rw [List.length_map, cycs_len]
theorem sgL_eq (xs : List Int) : sgL xs = if (xs.length - (cyM xs xs.length).length) % 2 = 0 then 1 else -1 := by unfold sgL sgn; rw [cyM_cyc]
set_option maxHeartbeats 2000000 in
set_option maxRecDepth 100000 in
theorem SignOf_c (v : Value) (xs : List Int) (w : World) (hv : RdI w v xs) (hp : pvB xs = true) : Calls Try.prog 94 #[v] w (GivesI w (sgL xs)) := by
  have hlx := hv.len
  have hpp := pvB_t hp
  have HX := Lib.hid (ValidPermutation_c v xs w hv (by omega))
  rw [hp] at HX
  have HC := fun W (hv : RdI W v xs) => Lib.hid (cyclesOf_c v xs W hv hpp.2 (by omega))
  have hcl := cyM_len xs xs.length
  have HS := Lib.hid (sgL_eq xs)
  have h32 := hpp.1
  clear hp hpp
  generalize sgL xs = S at *
  generalize cyM xs xs.length = C at *
  go_enter Try.func94, Try.ntmps94
  go_wp2_with fail
  refine HX.out.mono ?_
  rintro e w1 ⟨rfl, hS1⟩
  go_wp2_with fail
  refine (HC _ (hS1.oldI hv)).out.mono ?_
  rintro e w2 ⟨u, us, rfl, hl, h2⟩
  have hln := (h2.rii hl).len
  have hS2 := hS1.call0 h2.out
  have Hl := Lib.hid hl
  clear hl h2
  by_cases hm : (xs.length - C.length) % 2 = 0
  · have e1 : (((xs.length : Int) - (C.length : Int)) % 2 == 0) = true := eq_t (by omega)
    rw [if_pos hm] at HS
    clear hm
    go_wp2_with fail
    go_ret
    exact ⟨ret_i64 HS.out.symm, hS2⟩
  · have e1 : (((xs.length : Int) - (C.length : Int)) % 2 == 0) = false := eq_f (by omega)
    rw [if_neg hm] at HS
    clear hm
    go_wp2_with fail
    go_ret
    exact ⟨ret_i64 HS.out.symm, hS2⟩

/-- what the list of cycles is -/
structure CyOk (xs : List Int) (C : List (List Int)) : Prop where
  shape : ∀ t, t < C.length → ∃ m, m < xs.length ∧ xat C t = cyP xs m (clen xs.length (pf xs) m)
  all : ∀ y, y < xs.length → ∃ t k, t < C.length ∧ k < (xat C t).length ∧ nth (xat C t) k = (y : Int)
  nodup : C.flatten.Nodup
  sum : C.flatten.length = xs.length
theorem nth_cyP {xs : List Int} {m j k : Nat} (h : k < j) : nth (cyP xs m j) k = ((it (pf xs) k m : Nat) : Int) := by simp [cyP, nth, h]
/-- a cycle, number by number -/
structure Cyc (xs : List Int) (c : List Int) : Prop where
  pos : 1 ≤ c.length
  le : c.length ≤ xs.length
  el : ∀ k, k < c.length → 0 ≤ nth c k ∧ nth c k < xs.length
  next : ∀ k, k < c.length → nth c ((k + 1) % c.length) = nth xs (nth c k).toNat
  pw : ∀ k (e : Int), k < c.length → nth c (((k : Int) + e) % (c.length : Int)).toNat = ((ipw xs.length (pf xs) e (nth c k).toNat : Nat) : Int)
  len : ∀ k, k < c.length → clen xs.length (pf xs) (nth c k).toNat = c.length
theorem CyOk.cyc {xs : List Int} {C : List (List Int)} (h : CyOk xs C) (hp : IsP xs) {t : Nat} (ht : t < C.length) : Cyc xs (xat C t) := by
  obtain ⟨m, hm, e⟩ := h.shape t ht
  have hc := clen_ok hp.bij hm
  have hl : (xat C t).length = clen xs.length (pf xs) m := by rw [e, cyP_len]
  have hpos := hc.pos
  refine ⟨by rw [hl]; exact hc.pos, by rw [hl]; exact hc.le, fun k hk => ?_, fun k hk => ?_, fun k E hk => ?_, fun k hk => ?_⟩
  · rw [hl] at hk
    rw [e, nth_cyP hk]
    have := it_lt hp.bij hm k; omega
  · rw [hl] at hk ⊢
    rw [e, nth_cyP hk, nth_cyP (Nat.mod_lt _ (by omega)), Int.toNat_natCast, hc.mod, nth_pf hp (it_lt hp.bij hm k)]
    rfl
  · rw [hl] at hk ⊢
    have h1 := Int.emod_nonneg ((k : Int) + E) (show (clen xs.length (pf xs) m : Int) ≠ 0 by omega)
    have h2 := Int.emod_lt_of_pos ((k : Int) + E) (show 0 < (clen xs.length (pf xs) m : Int) by omega)
    rw [e, nth_cyP hk, nth_cyP (by omega), Int.toNat_natCast, ipw_cyc hp.bij hm]
  · rw [hl] at hk ⊢
    rw [e, nth_cyP hk, Int.toNat_natCast]
    exact (clen_ok hp.bij (it_lt hp.bij hm k)).uniq (hc.it hp.bij hm k)
/-- a number of a later place is not among those of earlier ones -/
theorem CyOk.fresh {xs : List Int} {C : List (List Int)} (h : CyOk xs C) {t k : Nat} (ht : t < C.length) (hk : k < (xat C t).length) : nth (xat C t) k ∉ (C.take t).flatten ++ (xat C t).take k := by
  have hs : C.flatten = (C.take t).flatten ++ ((xat C t).take k ++ (nth (xat C t) k :: ((xat C t).drop (k + 1) ++ (C.drop (t + 1)).flatten))) := by
    conv => lhs; rw [← List.take_append_drop t C, drop_xat ht]
    rw [List.flatten_append, List.flatten_cons]
    congr 1
    rw [← List.cons_append, ← drop_nth hk, ← List.append_assoc, List.take_append_drop]
  have hn := h.nodup
  rw [hs, ← List.append_assoc, List.nodup_append] at hn
  exact fun hm => hn.2.2 _ hm _ (by simp) rfl
/-! ### the least common multiple, bounded -/
theorem sz_c (v : Value) (xs : List Int) (w : World) (hv : RdI w v xs) : Calls Try.prog 97 #[v] w fun e w' => e = .returned (.int .i64 xs.length) ∧ w = w' := by
  have hln := hv.len
  go_enter Try.func97, Try.ntmps97
  go_wp2_with fail
  go_ret
  exact ⟨rfl, rfl⟩
end Go.Proofs.Ytdlmohigkkdegaa
end

section
/- Walks: valid Latin squares, isotopes, of the program. Walks: isotopes of the program. -/
namespace Go.Proofs.Ytdlmohigkkdegaa
set_option linter.unusedSimpArgs false
set_option linter.unusedVariables false
open Go.RowKit
attribute [local go_sem ↓] Go.wp_at_zero Go.wp_at_succ


/-- a permutation of n numbers -/
noncomputable def pvN (n : Nat) (xs : List Int) : Bool := decide (xs.length = n) && pvB xs
set_option maxHeartbeats 2000000 in
set_option maxRecDepth 100000 in
theorem areP1_c (v : Value) (xs : List Int) (n : Nat) (g : Nat) (w : World) (hv : RdI w v xs) (hb : w.cell? ⟨g, 0, none⟩ = some (.int .i64 n)) (hN : xs.length ≤ 1048576) :
    Calls Try.prog 96 #[v, .pointer (some ⟨g, 0, none⟩)] w (GivesB w (!pvN n xs)) := by
  have hq : ∀ s : SS w.heap.size w [], s.w.cell? ⟨g, 0, none⟩ = some (.int .i64 n) := fun s => by rw [s.st.below.cell (World.block_lt_of_cell? _ _ hb)]; exact hb
  have HZ := fun s : SS w.heap.size w [] => Lib.hid (sz_c v xs s.w (s.st.oldI hv))
  have HV := fun s : SS w.heap.size w [] => Lib.hid (ValidPermutation_c v xs s.w (s.st.oldI hv) hN)
  have hS := St.refl w
  by_cases h : xs.length = n
  · have f1 : ((xs.length : Int) != (n : Int)) = false := ne_f (by omega)
    have He : Hid ((!pvN n xs) = !pvB xs) := Lib.hid (by rw [pvN, decide_eq_true h]; rfl)
    rw [He.out]
    generalize pvB xs = b at *
    clear h He
    go_enter Try.func96, Try.ntmps96
    go_wp2_with fail
    have hne : Nonempty (SS _ _ _) := ⟨⟨_, hS⟩⟩
    refine wp_region_st (by kernel_rfl) (by kernel_rfl) hS ?_
    repeat (go_big_quiet_step ((first | (go_at_call 97; exact st_quiet0 (HZ _).out) | (go_at_call 75; exact st_quiet (HV _).out))))
    refine wpQuiet_nil ?_
    rintro _ ⟨s2, rfl⟩
    have hS2 := s2.st
    generalize s2.w = w2 at hS2 ⊢
    go_wp2_with fail
    go_ret
    exact ⟨rfl, hS2⟩
  · have f1 : ((xs.length : Int) != (n : Int)) = true := ne_t (by omega)
    have He : Hid ((!pvN n xs) = true) := Lib.hid (by rw [pvN, decide_eq_false h]; rfl)
    rw [He.out]
    clear h He
    go_enter Try.func96, Try.ntmps96
    go_wp2_with fail
    have hne : Nonempty (SS _ _ _) := ⟨⟨_, hS⟩⟩
    refine wp_region_st (by kernel_rfl) (by kernel_rfl) hS ?_
    repeat (go_big_quiet_step ((first | (go_at_call 97; exact st_quiet0 (HZ _).out) | (go_at_call 75; exact st_quiet (HV _).out))))
    refine wpQuiet_nil ?_
    rintro _ ⟨s2, rfl⟩
    have hS2 := s2.st
    generalize s2.w = w2 at hS2 ⊢
    go_wp2_with fail
    go_ret
    exact ⟨rfl, hS2⟩
/-- all rows are permutations of n numbers -/
noncomputable def allP (n : Nat) (A : List (List Int)) : Bool := !anyR (fun r => !pvN n r) A
theorem allP_at {n : Nat} {A : List (List Int)} (h : allP n A = true) {x : Nat} (hx : x < A.length) : (xat A x).length = n ∧ pvB (xat A x) = true := by
  unfold allP anyR at h
  have h' : A.any (fun r => !pvN n r) = false := by simpa using h
  have := List.any_eq_false.1 h' _ (xat_mem hx)
  simpa [pvN] using this
theorem allP_of {n : Nat} {A : List (List Int)} (h : ∀ x, x < A.length → (xat A x).length = n ∧ pvB (xat A x) = true) : allP n A = true := by
  unfold allP anyR
  have : A.any (fun r => !pvN n r) = false := by
    rw [List.any_eq_false]
    intro r hr
    obtain ⟨x, hx, rfl⟩ := List.getElem_of_mem hr
    have := h x hx
    rw [xat_eq hx] at this
    simp [pvN, this]
  rw [this]; rfl
set_option maxHeartbeats 2000000 in
set_option maxRecDepth 100000 in
theorem arePermutations_c (n : Nat) (v : Value) (us : List Value) (A : List (List Int)) (w : World) (hv : RII w v us A) (hN : ∀ x, x < A.length → (xat A x).length ≤ 1048576) :
    Calls Try.prog 74 #[.int .i64 n, v] w (GivesB w (allP n A)) := by
  have hS1 := (St.refl w).newboxF 2 #[.int .i64 n]
  have hcf := callFunc_go Try.func96 (by kernel_rfl) (by kernel_rfl)
  have hmf : ∀ (fn : Fn) (first cap : Array Value) (w : World), (Instr.makeFunc fn first cap).run Try.prog w = .ok (.func fn first cap) w := fun _ _ _ _ => rfl
  have hcall := Lib.hid (ContainsFuncR_c 96 #[.pointer (some ⟨w.heap.size, 0, none⟩)] (fun r => !pvN n r) v us A _ (hS1.oldII hv) hcf (fun j W hW hj => areP1_c (vat us j) (xat A j) n w.heap.size W ((hW.oldII (hS1.oldII hv)).row j hj) (by
    rw [hW.below.cell (World.block_lt_of_cell? _ _ (hS1.bcell 0 rfl 0 rfl))]; exact hS1.bcell 0 rfl 0 rfl) (hN j hj)))
  clear hcf hN
  go_enter Try.func74, Try.ntmps74
  go_wp2_with fail
  refine hcall.out.mono ?_
  rintro e w1 ⟨rfl, h1⟩
  have hS2 := hS1.call0 h1
  go_wp2_with fail
  go_ret
  exact ⟨rfl, hS2.out⟩
theorem Lat.mk' {A : List (List Int)} (h1 : 1 ≤ A.length) (h2 : A.length ≤ 10) (ha : allP A.length A = true) (hc : ∀ y, y < A.length → pvB (colL A y) = true) : Lat A :=
  ⟨h1, h2, fun _ hx => (allP_at ha hx).1, fun _ hx => (pvB_t (allP_at ha hx).2).2, fun y hy => (pvB_t (hc y hy)).2⟩
theorem Lat.allP {A : List (List Int)} (h : Lat A) : allP A.length A = true := allP_of fun x hx => ⟨h.len x hx, pvB_yes (by rw [h.len x hx]; have := h.le; omega) (h.row x hx)⟩
theorem Lat.colP {A : List (List Int)} (h : Lat A) {y : Nat} (hy : y < A.length) : pvB (colL A y) = true := pvB_yes (by rw [colL_len]; have := h.le; omega) (h.col y hy)
theorem col_take {A : List (List Int)} {y k : Nat} (h : k < A.length) : (colL A y).take (k + 1) = (colL A y).take k ++ [at2 A k y] := by
  rw [take_nth (by rw [colL_len]; exact h), nth_colL h]
set_option maxHeartbeats 4000000 in
set_option maxRecDepth 100000 in
theorem ValidSquare_c (v : Value) (us : List Value) (A : List (List Int)) (w : World) (hv : RII w v us A) (hN : ∀ x, x < A.length → (xat A x).length ≤ 1048576) :
    Calls Try.prog 32 #[v] w (GivesB w (latB A)) := by
  have hln := hv.len
  have hix := hv.ix
  have HZ := fun W (h : RII W v us A) => Lib.hid (szII_c v us A W h)
  have HA := fun W (h : RII W v us A) => Lib.hid (arePermutations_c A.length v us A W h hN)
  by_cases hn : 1 ≤ (A.length : Int) ∧ (A.length : Int) ≤ 10
  · have i1 := inB_true hn
    cases ha : allP A.length A
    · have Hl := Lib.hid (latB_no (A := A) fun h => by rw [h.allP] at ha; cases ha)
      rw [ha] at HA
      clear ha
      go_enter Try.func32, Try.ntmps32
      go_wp2_with fail
      refine (HZ _ hv).out.mono ?_
      rintro e w1 ⟨rfl, rfl⟩
      go_wp2_with (first
        | (go_at_call 74; refine (HA _ hv).out.mono ?_; rintro e w3 ⟨rfl, h3⟩)
        | (go_at_call 49; refine (within_c _ _ _ _).mono ?_; rw [i1]; rintro e w2 ⟨rfl, rfl⟩))
      go_ret
      exact ⟨ret_bool Hl.out.symm, h3⟩
    · have hlt2 : A.length ≤ 10 := by omega
      have HL := Lib.hid (fun h => Lat.mk' (A := A) (by omega) hlt2 ha h)
      have Hc := fun y (hy : y < A.length) (h : pvB (colL A y) = false) => Lib.hid (latB_no (A := A) fun hl => by rw [hl.colP hy] at h; cases h)
      have Hrl := fun x (hx : x < A.length) => Lib.hid (allP_at ha hx).1
      rw [ha] at HA
      clear ha
      go_enter Try.func32, Try.ntmps32
      go_wp2_with fail
      refine (HZ _ hv).out.mono ?_
      rintro e w1 ⟨rfl, rfl⟩
      go_wp2_with (first
        | (go_at_call 74; refine (HA _ hv).out.mono ?_; rintro e w3 ⟨rfl, h3⟩)
        | (go_at_call 49; refine (within_c _ _ _ _).mono ?_; rw [i1]; rintro e w2 ⟨rfl, rfl⟩))
      go_loopw [4, 5, 6, 20, 25] (fun _ _ _ i _ wr => ∃ k : Nat, k ≤ A.length ∧ i = .int .i64 k ∧ Hid (∀ y, y < k → pvB (colL A y) = true) ∧ St w.heap.size w wr []) (fun _ _ _ i _ _ => A.length - (intOf i).toNat)
      case atStart => exact ⟨0, by omega, rfl, fun y hy => by omega, h3⟩
      case round =>
        clear h3
        obtain ⟨k, hk, rfl, hI, hS⟩ := hrel
        by_cases hlt : k < A.length
        · have hS1 := hS.emp
          have Hcl := Lib.hid (colL_len A k)
          have Hct := fun m (h : m < A.length) => Lib.hid (col_take (A := A) (y := k) h)
          have Htl := fun m => Lib.hid (show ((colL A k).take m).length < 4294967296 by rw [List.length_take, colL_len]; omega)
          have HV := fun W u (h : RdI W u (colL A k)) => Lib.hid (ValidPermutation_c u _ W h (by rw [colL_len]; omega))
          have Hck := Hc k hlt
          have Hta := Lib.hid (show (colL A k).take A.length = colL A k by rw [← Hcl.out, List.take_length])
          have Ht0 := Lib.hid (show (colL A k).take 0 = [] from rfl)
          have HI1 := Lib.hid (show pvB (colL A k) = true → ∀ y, y < k + 1 → pvB (colL A y) = true from fun h y hy => by
            by_cases e : y = k
            · rw [e]; exact h
            · exact hI.out y (by omega))
          generalize colL A k = C at *
          go_wp2_with fail
          go_loopw [5, 6, 25] (fun c _ j wr' => ∃ m : Nat, m ≤ A.length ∧ j = .int .i64 m ∧ St w.heap.size w wr' [row 2 c (iv (C.take m))]) (fun _ _ j _ => A.length - (intOf j).toNat)
          case atStart => exact ⟨0, by omega, rfl, by rw [Ht0.out]; exact hS1⟩
          case round =>
            clear hS hS1
            obtain ⟨m, hm, rfl, hS⟩ := hrel
            by_cases hml : m < A.length
            · have hR := hS.oldII hv
              have hcm := hR.cell m hml
              have hrl := (Hrl m hml).out
              have hxm := (hR.row m hml).ixe (k : Int) k rfl (by rw [hrl]; exact hlt)
              have hcx : wr.cell? (el (vat us m) k) = some (.int .i64 (at2 A m k)) := (hR.row m hml).cell k (by rw [hrl]; exact hlt)
              have Hst := Hct m hml
              have HtL := Htl m
              clear hR hrl
              generalize at2 A m k = z at *
              go_wp2_with (at_builtin; refine appI hS 0 rfl HtL.out rfl _ _ rfl rfl _ rfl ?_; intro v' w2 hS2)
              simp only [List.set_cons_zero] at hS2
              rw [← Hst.out] at hS2
              go_roundw
              case rel => exact ⟨m + 1, by omega, by go_num, hS2⟩
              case measure => simp [intOf]; omega
            · obtain rfl : m = A.length := by omega
              rw [Hta.out] at hS
              have hV := HV _ _ (hS.rdI 0 rfl)
              cases hp : pvB C
              · rw [hp] at hV
                have Hno := Hck hp
                clear hp
                go_wp2_with fail
                refine hV.out.mono ?_
                rintro e w4 ⟨rfl, h4⟩
                have hS4 := hS.call0 h4
                go_wp2_with fail
                go_ret
                exact ⟨ret_bool Hno.out.symm, hS4.out⟩
              · rw [hp] at hV
                have HI2 := Lib.hid (HI1.out hp)
                clear hp
                go_wp2_with fail
                refine hV.out.mono ?_
                rintro e w4 ⟨rfl, h4⟩
                have hS4 := hS.call0 h4
                go_wp2_with fail
                go_roundw
                case rel => exact ⟨k + 1, by omega, by go_num, HI2.out, hS4.out⟩
                case measure => simp [intOf]; omega
        · obtain rfl : k = A.length := by omega
          have Hy := Lib.hid (latB_yes (HL.out hI.out))
          go_wp2_with fail
          go_ret
          exact ⟨ret_bool Hy.out.symm, hS⟩
  · have i1 := inB_false hn
    have Hl := Lib.hid (latB_no (A := A) fun h => hn (by have := h.pos; have := h.le; omega))
    clear hn
    go_enter Try.func32, Try.ntmps32
    go_wp2_with fail
    refine (HZ _ hv).out.mono ?_
    rintro e w1 ⟨rfl, rfl⟩
    go_wp2_with (go_at_call 49; refine (within_c _ _ _ _).mono ?_; rw [i1]; rintro e w2 ⟨rfl, rfl⟩)
    go_ret
    exact ⟨ret_bool Hl.out.symm, St.refl _⟩


set_option maxHeartbeats 4000000 in
set_option maxRecDepth 100000 in
theorem l06Ok_c (v : Value) (us : List Value) (A : List (List Int)) (w : World) (hv : RII w v us A) : Calls Try.prog 53 #[v] w (GivesB w (latB A)) := by
  have hln := hv.len
  have hix := hv.ix
  by_cases hn1 : A.length < 1
  · have Hl := Lib.hid (latB_no (A := A) fun h => by have := h.pos; omega)
    go_enter Try.func53, Try.ntmps53
    go_wp2_with fail
    go_ret
    exact ⟨ret_bool Hl.out.symm, St.refl w⟩
  · by_cases hn2 : 10 < A.length
    · have Hl := Lib.hid (latB_no (A := A) fun h => by have := h.le; omega)
      go_enter Try.func53, Try.ntmps53
      go_wp2_with fail
      go_ret
      exact ⟨ret_bool Hl.out.symm, St.refl w⟩
    · have Hrow := fun x (hx : x < A.length) (hb : ¬ ((xat A x).length = A.length ∧ pvB (xat A x) = true)) => Lib.hid (latB_no (A := A) fun h => hb ⟨h.len x hx, pvB_yes (by rw [h.len x hx]; omega) (h.row x hx)⟩)
      have Hc := fun y (hy : y < A.length) (h : pvB (colL A y) = false) => Lib.hid (latB_no (A := A) fun hl => by rw [hl.colP hy] at h; cases h)
      have HL := fun (ha : ∀ x, x < A.length → (xat A x).length = A.length ∧ pvB (xat A x) = true) hc => Lib.hid (latB_yes (Lat.mk' (A := A) (by omega) (by omega) (allP_of ha) hc))
      go_enter Try.func53, Try.ntmps53
      go_wp2_with fail
      go_loopw [4] (fun i wr => ∃ k : Nat, k ≤ A.length ∧ i = .int .i64 k ∧ Hid (∀ x, x < k → (xat A x).length = A.length ∧ pvB (xat A x) = true) ∧ St w.heap.size w wr []) (fun i _ => A.length - (intOf i).toNat)
      case atStart => exact ⟨0, by omega, rfl, fun x hx => by omega, St.refl w⟩
      case round =>
        obtain ⟨k, hk, rfl, hI, hS⟩ := hrel
        by_cases hlt : k < A.length
        · have ck := (hS.oldII hv).cell k hlt
          have hr := (hS.oldII hv).row k hlt
          have hrl := hr.len
          have HV := Lib.hid (l04Ok_c (vat us k) (xat A k) wr hr)
          have HI1 := Lib.hid (show (xat A k).length = A.length → pvB (xat A k) = true → ∀ x, x < k + 1 → (xat A x).length = A.length ∧ pvB (xat A x) = true from fun h1 h2 x hx => by
            by_cases e : x = k
            · rw [e]; exact ⟨h1, h2⟩
            · exact hI.out x (by omega))
          have HR := Hrow k hlt
          clear hr
          generalize hX : xat A k = X at *
          clear hX
          by_cases hxl : X.length = A.length
          · have f1 : ((X.length : Int) != (A.length : Int)) = false := ne_f (by omega)
            have Hxl := Lib.hid hxl
            clear hxl
            cases hp : pvB X
            · rw [hp] at HV
              have Hno := HR (fun h => by rw [hp] at h; cases h.2)
              clear hp
              go_wp2_with (go_at_call 57; refine HV.out.mono ?_; rintro e w2 ⟨rfl, h2⟩; have hS2 := hS.call0 h2)
              go_ret
              exact ⟨ret_bool Hno.out.symm, hS2⟩
            · rw [hp] at HV
              have HI2 := Lib.hid (HI1.out Hxl.out hp)
              clear hp
              go_wp2_with (go_at_call 57; refine HV.out.mono ?_; rintro e w2 ⟨rfl, h2⟩; have hS2 := hS.call0 h2)
              go_roundw
              case rel => exact ⟨k + 1, by omega, by go_num, HI2.out, hS2⟩
              case measure => simp [intOf]; omega
          · have f1 : ((X.length : Int) != (A.length : Int)) = true := ne_t (by omega)
            have Hno := HR (fun h => hxl h.1)
            clear hxl
            go_wp2_with fail
            go_ret
            exact ⟨ret_bool Hno.out.symm, hS⟩
        · obtain rfl : k = A.length := by omega
          have HL2 := fun hc => HL hI.out hc
          have Hrl := fun x (hx : x < A.length) => Lib.hid (hI.out x hx).1
          clear hI Hrow HL
          go_wp2_with fail
          go_loopw [5, 6, 7] (fun i _ _ wr => ∃ k : Nat, k ≤ A.length ∧ i = .int .i64 k ∧ Hid (∀ y, y < k → pvB (colL A y) = true) ∧ St w.heap.size w wr []) (fun i _ _ _ => A.length - (intOf i).toNat)
          case atStart => exact ⟨0, by omega, rfl, fun y hy => by omega, hS⟩
          case round =>
            clear hS
            obtain ⟨k, hk, rfl, hI, hS⟩ := hrel
            by_cases hlt : k < A.length
            · have hS1 := hS.call St.emp0
              simp only [List.nil_append] at hS1
              have Hcl := Lib.hid (colL_len A k)
              have Hct := fun m (h : m < A.length) => Lib.hid (col_take (A := A) (y := k) h)
              have Htl := fun m => Lib.hid (show ((colL A k).take m).length < 4294967296 by rw [List.length_take, colL_len]; omega)
              have HV := fun W u (h : RdI W u (colL A k)) => Lib.hid (l04Ok_c u _ W h)
              have Hck := Hc k hlt
              have Hta := Lib.hid (show (colL A k).take A.length = colL A k by rw [← Hcl.out, List.take_length])
              have Ht0 := Lib.hid (show (colL A k).take 0 = [] from rfl)
              have HI1 := Lib.hid (show pvB (colL A k) = true → ∀ y, y < k + 1 → pvB (colL A y) = true from fun h y hy => by
                by_cases e : y = k
                · rw [e]; exact h
                · exact hI.out y (by omega))
              generalize colL A k = C at *
              go_wp2_with fail
              go_loopw [6, 7] (fun c j wr' => ∃ m : Nat, m ≤ A.length ∧ j = .int .i64 m ∧ St w.heap.size w wr' [row 2 c (iv (C.take m))]) (fun _ j _ => A.length - (intOf j).toNat)
              case atStart => exact ⟨0, by omega, rfl, by rw [Ht0.out]; exact hS1⟩
              case round =>
                clear hS hS1
                obtain ⟨m, hm, rfl, hS⟩ := hrel
                by_cases hml : m < A.length
                · have hR := hS.oldII hv
                  have hcm := hR.cell m hml
                  have hrl := (Hrl m hml).out
                  have hxm := (hR.row m hml).ixe (k : Int) k rfl (by rw [hrl]; exact hlt)
                  have hcx : wr.cell? (el (vat us m) k) = some (.int .i64 (at2 A m k)) := (hR.row m hml).cell k (by rw [hrl]; exact hlt)
                  have Hst := Hct m hml
                  have HtL := Htl m
                  clear hR hrl
                  generalize at2 A m k = z at *
                  go_wp2_with (at_builtin; refine appI hS 0 rfl HtL.out rfl _ _ rfl rfl _ rfl ?_; intro v' w2 hS2)
                  simp only [List.set_cons_zero] at hS2
                  rw [← Hst.out] at hS2
                  go_roundw
                  case rel => exact ⟨m + 1, by omega, by go_num, hS2⟩
                  case measure => simp [intOf]; omega
                · obtain rfl : m = A.length := by omega
                  rw [Hta.out] at hS
                  have hV := HV _ _ (hS.rdI 0 rfl)
                  cases hp : pvB C
                  · rw [hp] at hV
                    have Hno := Hck hp
                    clear hp
                    go_wp2_with fail
                    refine hV.out.mono ?_
                    rintro e w4 ⟨rfl, h4⟩
                    have hS4 := hS.call0 h4
                    go_wp2_with fail
                    go_ret
                    exact ⟨ret_bool Hno.out.symm, hS4.out⟩
                  · rw [hp] at hV
                    have HI2 := Lib.hid (HI1.out hp)
                    clear hp
                    go_wp2_with fail
                    refine hV.out.mono ?_
                    rintro e w4 ⟨rfl, h4⟩
                    have hS4 := hS.call0 h4
                    go_wp2_with fail
                    go_roundw
                    case rel => exact ⟨k + 1, by omega, by go_num, HI2.out, hS4.out⟩
                    case measure => simp [intOf]; omega
            · obtain rfl : k = A.length := by omega
              have Hy := HL2 hI.out
              go_wp2_with fail
              go_ret
              exact ⟨ret_bool Hy.out.symm, hS⟩
theorem sValidSquare_c (v : Value) (us : List Value) (A : List (List Int)) (w : World) (hv : RII w v us A) : Calls Try.prog 20 #[v] w (GivesB w (latB A)) := by
  go_enter Try.func20, Try.ntmps20
  go_wp2_with fail
  refine (l06Ok_c v us A w hv).mono ?_
  rintro e w1 ⟨rfl, h1⟩
  go_wp2_with fail
  go_ret
  exact ⟨rfl, h1⟩
/-- a square and a code -/
def IIK (w : World) (A : List (List Int)) (c : Int) (e : Ending) (w' : World) : Prop := ∃ v us, e = .returned (.tuple #[v, .int .i64 c]) ∧ us.length = A.length ∧ St w.heap.size w w' (own2 v us A)
theorem IIK.no {w w' : World} {L : List Ent} {c : Int} (h : St w.heap.size w w' L) : IIK w [] c (.returned (.tuple #[.slice none 0 0, .int .i64 c])) w' := ⟨_, [], rfl, rfl, h.out.newnil _⟩
end Go.Proofs.Ytdlmohigkkdegaa
end
