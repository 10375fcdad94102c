/- The texts of this claim, run 9: SqKd It4 Set2 SetN V8l Eqs8 LQg Prf PFnQuasigroups. -/
import Derived.Test.YtdlmohigkkdegaaK3
import Derived.Test.YtdlmohigkkdegaaK4
import Derived.Test.YtdlmohigkkdegaaK5
import Derived.Test.YtdlmohigkkdegaaK6
import Derived.Test.YtdlmohigkkdegaaK7
import Derived.Test.YtdlmohigkkdegaaK8
import Derived.ProofKit
import Derived.OpenShut
import Derived.ShutString
import Derived.ChangeOld
import Derived.Below
section
/- Walks: a Latin square is drawn. -/
namespace Go.Proofs.Ytdlmohigkkdegaa
set_option linter.unusedSimpArgs false
set_option linter.unusedVariables false
open Go.RowKit
attribute [local go_sem ↓] Go.wp_at_zero Go.wp_at_succ


set_option maxHeartbeats 16000000 in
set_option maxRecDepth 100000 in
theorem l06DrawSquareL_c (w0 w : World) (cv : Value) (bs : List UInt8) (g K : Nat) (L : List Ent) (n : Nat) (hb : RdB w0 cv bs) (h : Src w0 w cv g K L) (hK : K < 10000000000) (n1 : 1 ≤ n) (n2 : n ≤ 10) :
    Calls Try.prog 26 #[.pointer (some ⟨g, 0, none⟩), .int .i64 n] w (LqS w0 cv g (K + 200) n L) := by
  have C2 := fun W => Lib.hid (l06CyclicL_c 2 W (by omega) (by omega))
  have C3 := fun W => Lib.hid (l06CyclicL_c 3 W (by omega) (by omega))
  rw [show ((2 : Nat) : Int) = 2 from rfl] at C2
  rw [show ((3 : Nat) : Int) = 3 from rfl] at C3
  have h0 : ∃ t4 t6 t8 t9 : Bool, ((n : Int) == 4) = t4 ∧ ((n : Int) == 6) = t6 ∧ ((n : Int) == 8) = t8 ∧ ((n : Int) == 9) = t9 ∧ (t4 = true → n = 4) ∧ (t6 = true → n = 6) ∧ (t8 = true → n = 8) ∧ (t9 = true → n = 9) :=
    ⟨_, _, _, _, rfl, rfl, rfl, rfl, by simp; omega, by simp; omega, by simp; omega, by simp; omega⟩
  obtain ⟨t4, t6, t8, t9, f4, f6, f8, f9, g4, g6, g8, g9⟩ := h0
  have G4 := Lib.hid g4
  have G6 := Lib.hid g6
  have G8 := Lib.hid g8
  have G9 := Lib.hid g9
  clear g4 g6 g8 g9
  go_enter Try.func26, Try.ntmps26
  go_wp2_with fail
  refine (l06CyclicL_c n w n1 n2).mono ?_
  rintro e w1 ⟨v, us, A, rfl, hA, hl, h1⟩
  have h2 : Src w0 w1 cv g K (own2 v us A ++ L) := (h.call h1).perm List.perm_append_comm
  have HA := Lib.hid hA
  have Hl := Lib.hid hl
  clear h h1 hA hl
  have key : ∃ b : Bool, b = t4 := ⟨_, rfl⟩
  clear key
  cases t4
  · cases t6
    · cases t8
      · cases t9
        · have h5 := h2.mono (show K ≤ K + 4 by omega)
          clear h2
          go_wp2_with fail
          clear G4 G6 G8 G9 C2 C3
          refine (pick_c w0 _ cv bs g _ _ 4 hb h5 (by omega)).mono ?_
          rintro e wa ⟨kk, k0, k1, rfl, h6⟩
          obtain ⟨j, rfl⟩ := Int.eq_ofNat_of_zero_le k0
          have hj3 : j ≤ 3 := by omega
          clear k0 k1 h5
          go_wp2_with fail
          go_loopw [5, 6] (fun a kv wr => ∃ (j : Nat) (us : List Value) (A : List (List Int)), kv = .int .i64 j ∧ j ≤ 3 ∧ Hid (us.length = n) ∧ Hid (LatN n A) ∧ Src w0 wr cv g (K + 6 + 10 * (3 - j)) (own2 a us A ++ L)) (fun _ kv _ => (intOf kv).toNat)
          case atStart => exact ⟨j, _, _, rfl, hj3, Hl.out, HA.out, h6.mono (by omega)⟩
          case round =>
            clear h6 Hl HA hj3
            obtain ⟨j, us, A, rfl, hj3, Hl, HA, h6⟩ := hrel
            by_cases hj : 0 < j
            · go_wp2_with fail
              refine (l06SwitchL_c w0 _ cv bs g _ L n _ us A hb h6 Hl.out HA.out (by omega) n1 (by omega)).mono ?_
              rintro e wb ⟨vb, ub, Ab, rfl, hAb, hlb, h7⟩
              have HAb := Lib.hid hAb
              have Hlb := Lib.hid hlb
              clear hAb hlb
              go_wp2_with fail
              go_roundw
              case rel => exact ⟨j - 1, ub, Ab, by go_num, by omega, Hlb.out, HAb.out, h7.mono (by omega)⟩
              case measure => simp [intOf]; omega
            · obtain rfl : j = 0 := by omega
              go_wp2_with fail
              refine (l04DrawPerm_c w0 _ cv bs g _ _ n hb h6 (by omega) (by omega)).mono ?_
              rintro e wb ⟨rv, rs, rfl, rl, rp, h7⟩
              have Rl := Lib.hid rl
              have Rp := Lib.hid rp
              clear rl rp h6
              go_wp2_with fail
              refine (l04DrawPerm_c w0 _ cv bs g _ _ n hb h7 (by omega) (by omega)).mono ?_
              rintro e wc ⟨cv', cs, rfl, cl, cp, h8⟩
              have Cl := Lib.hid cl
              have Cp := Lib.hid cp
              clear cl cp h7
              go_wp2_with fail
              refine (l04DrawPerm_c w0 _ cv bs g _ _ n hb h8 (by omega) (by omega)).mono ?_
              rintro e wd ⟨sv, ss, rfl, sl, sp, h9⟩
              have Sl := Lib.hid sl
              have Sp := Lib.hid sp
              clear sl sp h8
              go_wp2_with fail
              refine (one_c w0 _ cv bs g _ _ 5 hb h9 (by omega)).mono ?_
              rintro e we ⟨b, rfl, h10⟩
              clear h9
              cases b
              · go_wp2_with fail
                refine (sIsotopeL_c _ rv cv' sv us A rs cs ss _ n (h10.riiS (((List.sublist_append_left _ _).cons _).cons _ |>.cons _) (by rw [Hl.out, HA.out.len])) (h10.rdI 2 rfl) (h10.rdI 1 rfl) (h10.rdI 0 rfl) HA.out Rp.out Cp.out Sp.out Rl.out Cl.out Sl.out (by omega)).mono ?_
                rintro e wf ⟨vz, uz, Az, rfl, hAz, hlz, h11⟩
                have h12 := h10.call h11
                have h13 := ((h12.perm List.perm_append_comm).sub (L' := own2 vz uz Az ++ L) (List.Sublist.append_left ((((List.sublist_append_right _ _).cons _).cons _).cons _) _)).mono (show _ ≤ K + 200 by omega)
                clear h10 h11 h12
                go_wp2_with fail
                go_ret
                exact ⟨vz, uz, Az, rfl, hAz, hlz, h13⟩
              · have h13 := (h10.sub (L' := own2 u5 us A ++ L) ((((List.Sublist.refl _).cons _).cons _).cons _)).mono (show _ ≤ K + 200 by omega)
                clear h10
                go_wp2_with fail
                go_ret
                exact ⟨_, us, A, rfl, HA.out, Hl.out, h13⟩
        · go_wp2_with fail
          refine (one_c w0 w1 cv bs g _ _ 2 hb h2 (by omega)).mono ?_
          rintro e w2 ⟨b, rfl, h3⟩
          clear h2
          cases b
          · have h5 := h3.mono (show K + 2 ≤ K + 4 by omega)
            clear h3
            go_wp2_with fail
            clear G4 G6 G8 G9 C2 C3
            refine (pick_c w0 _ cv bs g _ _ 4 hb h5 (by omega)).mono ?_
            rintro e wa ⟨kk, k0, k1, rfl, h6⟩
            obtain ⟨j, rfl⟩ := Int.eq_ofNat_of_zero_le k0
            have hj3 : j ≤ 3 := by omega
            clear k0 k1 h5
            go_wp2_with fail
            go_loopw [5, 6] (fun a kv wr => ∃ (j : Nat) (us : List Value) (A : List (List Int)), kv = .int .i64 j ∧ j ≤ 3 ∧ Hid (us.length = n) ∧ Hid (LatN n A) ∧ Src w0 wr cv g (K + 6 + 10 * (3 - j)) (own2 a us A ++ L)) (fun _ kv _ => (intOf kv).toNat)
            case atStart => exact ⟨j, _, _, rfl, hj3, Hl.out, HA.out, h6.mono (by omega)⟩
            case round =>
              clear h6 Hl HA hj3
              obtain ⟨j, us, A, rfl, hj3, Hl, HA, h6⟩ := hrel
              by_cases hj : 0 < j
              · go_wp2_with fail
                refine (l06SwitchL_c w0 _ cv bs g _ L n _ us A hb h6 Hl.out HA.out (by omega) n1 (by omega)).mono ?_
                rintro e wb ⟨vb, ub, Ab, rfl, hAb, hlb, h7⟩
                have HAb := Lib.hid hAb
                have Hlb := Lib.hid hlb
                clear hAb hlb
                go_wp2_with fail
                go_roundw
                case rel => exact ⟨j - 1, ub, Ab, by go_num, by omega, Hlb.out, HAb.out, h7.mono (by omega)⟩
                case measure => simp [intOf]; omega
              · obtain rfl : j = 0 := by omega
                go_wp2_with fail
                refine (l04DrawPerm_c w0 _ cv bs g _ _ n hb h6 (by omega) (by omega)).mono ?_
                rintro e wb ⟨rv, rs, rfl, rl, rp, h7⟩
                have Rl := Lib.hid rl
                have Rp := Lib.hid rp
                clear rl rp h6
                go_wp2_with fail
                refine (l04DrawPerm_c w0 _ cv bs g _ _ n hb h7 (by omega) (by omega)).mono ?_
                rintro e wc ⟨cv', cs, rfl, cl, cp, h8⟩
                have Cl := Lib.hid cl
                have Cp := Lib.hid cp
                clear cl cp h7
                go_wp2_with fail
                refine (l04DrawPerm_c w0 _ cv bs g _ _ n hb h8 (by omega) (by omega)).mono ?_
                rintro e wd ⟨sv, ss, rfl, sl, sp, h9⟩
                have Sl := Lib.hid sl
                have Sp := Lib.hid sp
                clear sl sp h8
                go_wp2_with fail
                refine (one_c w0 _ cv bs g _ _ 5 hb h9 (by omega)).mono ?_
                rintro e we ⟨b, rfl, h10⟩
                clear h9
                cases b
                · go_wp2_with fail
                  refine (sIsotopeL_c _ rv cv' sv us A rs cs ss _ n (h10.riiS (((List.sublist_append_left _ _).cons _).cons _ |>.cons _) (by rw [Hl.out, HA.out.len])) (h10.rdI 2 rfl) (h10.rdI 1 rfl) (h10.rdI 0 rfl) HA.out Rp.out Cp.out Sp.out Rl.out Cl.out Sl.out (by omega)).mono ?_
                  rintro e wf ⟨vz, uz, Az, rfl, hAz, hlz, h11⟩
                  have h12 := h10.call h11
                  have h13 := ((h12.perm List.perm_append_comm).sub (L' := own2 vz uz Az ++ L) (List.Sublist.append_left ((((List.sublist_append_right _ _).cons _).cons _).cons _) _)).mono (show _ ≤ K + 200 by omega)
                  clear h10 h11 h12
                  go_wp2_with fail
                  go_ret
                  exact ⟨vz, uz, Az, rfl, hAz, hlz, h13⟩
                · have h13 := (h10.sub (L' := own2 u5 us A ++ L) ((((List.Sublist.refl _).cons _).cons _).cons _)).mono (show _ ≤ K + 200 by omega)
                  clear h10
                  go_wp2_with fail
                  go_ret
                  exact ⟨_, us, A, rfl, HA.out, Hl.out, h13⟩
          · go_wp2_with fail
            refine (C3 _).out.mono ?_
            rintro e w3 ⟨v1, us1, A1, rfl, hA1, hl1, c1⟩
            have c2 := h3.call c1
            clear h3 c1
            have HA1 := Lib.hid hA1
            have Hl1 := Lib.hid hl1
            clear hA1 hl1
            go_wp2_with fail
            refine (C3 _).out.mono ?_
            rintro e w4 ⟨v2, us2, A2, rfl, hA2, hl2, c3⟩
            have c4 := c2.call c3
            clear c2 c3
            have HA2 := Lib.hid hA2
            have Hl2 := Lib.hid hl2
            clear hA2 hl2
            go_wp2_with fail
            refine (l06ProductL_c v1 v2 us1 us2 A1 A2 _ 3 3 (c4.riiS ((List.sublist_append_right _ _).trans (List.sublist_append_left _ _)) (by rw [Hl1.out, HA1.out.len])) (c4.riiS (List.sublist_append_right _ _) (by rw [Hl2.out, HA2.out.len])) HA1.out HA2.out (by omega) (by omega) (by omega)).mono ?_
            rintro e w5 ⟨v3, us3, A3, rfl, hA3, hl3, c5⟩
            have c6 := c4.call c5
            rw [show 3 * 3 = n from (G9.out (by simp)).symm] at hA3 hl3
            have h5 := ((c6.perm (L' := (own2 v3 us3 A3 ++ L) ++ (own2 v us A ++ own2 v1 us1 A1 ++ own2 v2 us2 A2)) (by (try simp only [own2, List.cons_append, List.nil_append, List.append_nil]); classical exact List.perm_iff_count.2 (fun a => by simp only [List.cons_append, List.nil_append, List.append_nil, List.count_append, List.count_cons, List.count_nil] <;> omega))).sub (List.sublist_append_left _ _)).mono (show K + 2 ≤ K + 4 by omega)
            clear c4 c5 c6 HA Hl HA1 HA2 Hl1 Hl2
            have HA := Lib.hid hA3
            have Hl := Lib.hid hl3
            clear hA3 hl3
            go_wp2_with fail
            clear G4 G6 G8 G9 C2 C3
            refine (pick_c w0 _ cv bs g _ _ 4 hb h5 (by omega)).mono ?_
            rintro e wa ⟨kk, k0, k1, rfl, h6⟩
            obtain ⟨j, rfl⟩ := Int.eq_ofNat_of_zero_le k0
            have hj3 : j ≤ 3 := by omega
            clear k0 k1 h5
            go_wp2_with fail
            go_loopw [5, 6] (fun a kv wr => ∃ (j : Nat) (us : List Value) (A : List (List Int)), kv = .int .i64 j ∧ j ≤ 3 ∧ Hid (us.length = n) ∧ Hid (LatN n A) ∧ Src w0 wr cv g (K + 6 + 10 * (3 - j)) (own2 a us A ++ L)) (fun _ kv _ => (intOf kv).toNat)
            case atStart => exact ⟨j, _, _, rfl, hj3, Hl.out, HA.out, h6.mono (by omega)⟩
            case round =>
              clear h6 Hl HA hj3
              obtain ⟨j, us, A, rfl, hj3, Hl, HA, h6⟩ := hrel
              by_cases hj : 0 < j
              · go_wp2_with fail
                refine (l06SwitchL_c w0 _ cv bs g _ L n _ us A hb h6 Hl.out HA.out (by omega) n1 (by omega)).mono ?_
                rintro e wb ⟨vb, ub, Ab, rfl, hAb, hlb, h7⟩
                have HAb := Lib.hid hAb
                have Hlb := Lib.hid hlb
                clear hAb hlb
                go_wp2_with fail
                go_roundw
                case rel => exact ⟨j - 1, ub, Ab, by go_num, by omega, Hlb.out, HAb.out, h7.mono (by omega)⟩
                case measure => simp [intOf]; omega
              · obtain rfl : j = 0 := by omega
                go_wp2_with fail
                refine (l04DrawPerm_c w0 _ cv bs g _ _ n hb h6 (by omega) (by omega)).mono ?_
                rintro e wb ⟨rv, rs, rfl, rl, rp, h7⟩
                have Rl := Lib.hid rl
                have Rp := Lib.hid rp
                clear rl rp h6
                go_wp2_with fail
                refine (l04DrawPerm_c w0 _ cv bs g _ _ n hb h7 (by omega) (by omega)).mono ?_
                rintro e wc ⟨cv', cs, rfl, cl, cp, h8⟩
                have Cl := Lib.hid cl
                have Cp := Lib.hid cp
                clear cl cp h7
                go_wp2_with fail
                refine (l04DrawPerm_c w0 _ cv bs g _ _ n hb h8 (by omega) (by omega)).mono ?_
                rintro e wd ⟨sv, ss, rfl, sl, sp, h9⟩
                have Sl := Lib.hid sl
                have Sp := Lib.hid sp
                clear sl sp h8
                go_wp2_with fail
                refine (one_c w0 _ cv bs g _ _ 5 hb h9 (by omega)).mono ?_
                rintro e we ⟨b, rfl, h10⟩
                clear h9
                cases b
                · go_wp2_with fail
                  refine (sIsotopeL_c _ rv cv' sv us A rs cs ss _ n (h10.riiS (((List.sublist_append_left _ _).cons _).cons _ |>.cons _) (by rw [Hl.out, HA.out.len])) (h10.rdI 2 rfl) (h10.rdI 1 rfl) (h10.rdI 0 rfl) HA.out Rp.out Cp.out Sp.out Rl.out Cl.out Sl.out (by omega)).mono ?_
                  rintro e wf ⟨vz, uz, Az, rfl, hAz, hlz, h11⟩
                  have h12 := h10.call h11
                  have h13 := ((h12.perm List.perm_append_comm).sub (L' := own2 vz uz Az ++ L) (List.Sublist.append_left ((((List.sublist_append_right _ _).cons _).cons _).cons _) _)).mono (show _ ≤ K + 200 by omega)
                  clear h10 h11 h12
                  go_wp2_with fail
                  go_ret
                  exact ⟨vz, uz, Az, rfl, hAz, hlz, h13⟩
                · have h13 := (h10.sub (L' := own2 u5 us A ++ L) ((((List.Sublist.refl _).cons _).cons _).cons _)).mono (show _ ≤ K + 200 by omega)
                  clear h10
                  go_wp2_with fail
                  go_ret
                  exact ⟨_, us, A, rfl, HA.out, Hl.out, h13⟩
      · go_wp2_with fail
        refine (one_c w0 w1 cv bs g _ _ 2 hb h2 (by omega)).mono ?_
        rintro e w2 ⟨b, rfl, h3⟩
        clear h2
        cases b
        · have h5 := h3.mono (show K + 2 ≤ K + 4 by omega)
          clear h3
          go_wp2_with fail
          clear G4 G6 G8 G9 C2 C3
          refine (pick_c w0 _ cv bs g _ _ 4 hb h5 (by omega)).mono ?_
          rintro e wa ⟨kk, k0, k1, rfl, h6⟩
          obtain ⟨j, rfl⟩ := Int.eq_ofNat_of_zero_le k0
          have hj3 : j ≤ 3 := by omega
          clear k0 k1 h5
          go_wp2_with fail
          go_loopw [5, 6] (fun a kv wr => ∃ (j : Nat) (us : List Value) (A : List (List Int)), kv = .int .i64 j ∧ j ≤ 3 ∧ Hid (us.length = n) ∧ Hid (LatN n A) ∧ Src w0 wr cv g (K + 6 + 10 * (3 - j)) (own2 a us A ++ L)) (fun _ kv _ => (intOf kv).toNat)
          case atStart => exact ⟨j, _, _, rfl, hj3, Hl.out, HA.out, h6.mono (by omega)⟩
          case round =>
            clear h6 Hl HA hj3
            obtain ⟨j, us, A, rfl, hj3, Hl, HA, h6⟩ := hrel
            by_cases hj : 0 < j
            · go_wp2_with fail
              refine (l06SwitchL_c w0 _ cv bs g _ L n _ us A hb h6 Hl.out HA.out (by omega) n1 (by omega)).mono ?_
              rintro e wb ⟨vb, ub, Ab, rfl, hAb, hlb, h7⟩
              have HAb := Lib.hid hAb
              have Hlb := Lib.hid hlb
              clear hAb hlb
              go_wp2_with fail
              go_roundw
              case rel => exact ⟨j - 1, ub, Ab, by go_num, by omega, Hlb.out, HAb.out, h7.mono (by omega)⟩
              case measure => simp [intOf]; omega
            · obtain rfl : j = 0 := by omega
              go_wp2_with fail
              refine (l04DrawPerm_c w0 _ cv bs g _ _ n hb h6 (by omega) (by omega)).mono ?_
              rintro e wb ⟨rv, rs, rfl, rl, rp, h7⟩
              have Rl := Lib.hid rl
              have Rp := Lib.hid rp
              clear rl rp h6
              go_wp2_with fail
              refine (l04DrawPerm_c w0 _ cv bs g _ _ n hb h7 (by omega) (by omega)).mono ?_
              rintro e wc ⟨cv', cs, rfl, cl, cp, h8⟩
              have Cl := Lib.hid cl
              have Cp := Lib.hid cp
              clear cl cp h7
              go_wp2_with fail
              refine (l04DrawPerm_c w0 _ cv bs g _ _ n hb h8 (by omega) (by omega)).mono ?_
              rintro e wd ⟨sv, ss, rfl, sl, sp, h9⟩
              have Sl := Lib.hid sl
              have Sp := Lib.hid sp
              clear sl sp h8
              go_wp2_with fail
              refine (one_c w0 _ cv bs g _ _ 5 hb h9 (by omega)).mono ?_
              rintro e we ⟨b, rfl, h10⟩
              clear h9
              cases b
              · go_wp2_with fail
                refine (sIsotopeL_c _ rv cv' sv us A rs cs ss _ n (h10.riiS (((List.sublist_append_left _ _).cons _).cons _ |>.cons _) (by rw [Hl.out, HA.out.len])) (h10.rdI 2 rfl) (h10.rdI 1 rfl) (h10.rdI 0 rfl) HA.out Rp.out Cp.out Sp.out Rl.out Cl.out Sl.out (by omega)).mono ?_
                rintro e wf ⟨vz, uz, Az, rfl, hAz, hlz, h11⟩
                have h12 := h10.call h11
                have h13 := ((h12.perm List.perm_append_comm).sub (L' := own2 vz uz Az ++ L) (List.Sublist.append_left ((((List.sublist_append_right _ _).cons _).cons _).cons _) _)).mono (show _ ≤ K + 200 by omega)
                clear h10 h11 h12
                go_wp2_with fail
                go_ret
                exact ⟨vz, uz, Az, rfl, hAz, hlz, h13⟩
              · have h13 := (h10.sub (L' := own2 u5 us A ++ L) ((((List.Sublist.refl _).cons _).cons _).cons _)).mono (show _ ≤ K + 200 by omega)
                clear h10
                go_wp2_with fail
                go_ret
                exact ⟨_, us, A, rfl, HA.out, Hl.out, h13⟩
        · go_wp2_with fail
          refine (C2 _).out.mono ?_
          rintro e w3 ⟨v1, us1, A1, rfl, hA1, hl1, c1⟩
          have c2 := h3.call c1
          clear h3 c1
          have HA1 := Lib.hid hA1
          have Hl1 := Lib.hid hl1
          clear hA1 hl1
          go_wp2_with fail
          refine (C2 _).out.mono ?_
          rintro e w4 ⟨v2, us2, A2, rfl, hA2, hl2, c3⟩
          have c4 := c2.call c3
          clear c2 c3
          have HA2 := Lib.hid hA2
          have Hl2 := Lib.hid hl2
          clear hA2 hl2
          go_wp2_with fail
          refine (l06ProductL_c v1 v2 us1 us2 A1 A2 _ 2 2 (c4.riiS ((List.sublist_append_right _ _).trans (List.sublist_append_left _ _)) (by rw [Hl1.out, HA1.out.len])) (c4.riiS (List.sublist_append_right _ _) (by rw [Hl2.out, HA2.out.len])) HA1.out HA2.out (by omega) (by omega) (by omega)).mono ?_
          rintro e w5 ⟨v3, us3, A3, rfl, hA3, hl3, c5⟩
          have c6 := c4.call c5
          clear c4 c5
          have HA3 := Lib.hid hA3
          have Hl3 := Lib.hid hl3
          clear hA3 hl3
          go_wp2_with fail
          refine (C2 _).out.mono ?_
          rintro e w6 ⟨v4, us4, A4, rfl, hA4, hl4, c7⟩
          have c8 := c6.call c7
          clear c6 c7
          have HA4 := Lib.hid hA4
          have Hl4 := Lib.hid hl4
          clear hA4 hl4
          go_wp2_with fail
          refine (l06ProductL_c v3 v4 us3 us4 A3 A4 _ (2 * 2) 2 (c8.riiS ((List.sublist_append_right _ _).trans (List.sublist_append_left _ _)) (by rw [Hl3.out, HA3.out.len])) (c8.riiS (List.sublist_append_right _ _) (by rw [Hl4.out, HA4.out.len])) HA3.out HA4.out (by omega) (by omega) (by omega)).mono ?_
          rintro e w7 ⟨v5, us5, A5, rfl, hA5, hl5, c9⟩
          have c10 := c8.call c9
          rw [show 2 * 2 * 2 = n from (G8.out (by simp)).symm] at hA5 hl5
          have h5 := ((c10.perm (L' := (own2 v5 us5 A5 ++ L) ++ (own2 v us A ++ own2 v1 us1 A1 ++ own2 v2 us2 A2 ++ own2 v3 us3 A3 ++ own2 v4 us4 A4)) (by (try simp only [own2, List.cons_append, List.nil_append, List.append_nil]); classical exact List.perm_iff_count.2 (fun a => by simp only [List.cons_append, List.nil_append, List.append_nil, List.count_append, List.count_cons, List.count_nil] <;> omega))).sub (List.sublist_append_left _ _)).mono (show K + 2 ≤ K + 4 by omega)
          clear c8 c9 c10 HA Hl HA1 HA2 Hl1 Hl2 HA3 HA4 Hl3 Hl4
          have HA := Lib.hid hA5
          have Hl := Lib.hid hl5
          clear hA5 hl5
          go_wp2_with fail
          clear G4 G6 G8 G9 C2 C3
          refine (pick_c w0 _ cv bs g _ _ 4 hb h5 (by omega)).mono ?_
          rintro e wa ⟨kk, k0, k1, rfl, h6⟩
          obtain ⟨j, rfl⟩ := Int.eq_ofNat_of_zero_le k0
          have hj3 : j ≤ 3 := by omega
          clear k0 k1 h5
          go_wp2_with fail
          go_loopw [5, 6] (fun a kv wr => ∃ (j : Nat) (us : List Value) (A : List (List Int)), kv = .int .i64 j ∧ j ≤ 3 ∧ Hid (us.length = n) ∧ Hid (LatN n A) ∧ Src w0 wr cv g (K + 6 + 10 * (3 - j)) (own2 a us A ++ L)) (fun _ kv _ => (intOf kv).toNat)
          case atStart => exact ⟨j, _, _, rfl, hj3, Hl.out, HA.out, h6.mono (by omega)⟩
          case round =>
            clear h6 Hl HA hj3
            obtain ⟨j, us, A, rfl, hj3, Hl, HA, h6⟩ := hrel
            by_cases hj : 0 < j
            · go_wp2_with fail
              refine (l06SwitchL_c w0 _ cv bs g _ L n _ us A hb h6 Hl.out HA.out (by omega) n1 (by omega)).mono ?_
              rintro e wb ⟨vb, ub, Ab, rfl, hAb, hlb, h7⟩
              have HAb := Lib.hid hAb
              have Hlb := Lib.hid hlb
              clear hAb hlb
              go_wp2_with fail
              go_roundw
              case rel => exact ⟨j - 1, ub, Ab, by go_num, by omega, Hlb.out, HAb.out, h7.mono (by omega)⟩
              case measure => simp [intOf]; omega
            · obtain rfl : j = 0 := by omega
              go_wp2_with fail
              refine (l04DrawPerm_c w0 _ cv bs g _ _ n hb h6 (by omega) (by omega)).mono ?_
              rintro e wb ⟨rv, rs, rfl, rl, rp, h7⟩
              have Rl := Lib.hid rl
              have Rp := Lib.hid rp
              clear rl rp h6
              go_wp2_with fail
              refine (l04DrawPerm_c w0 _ cv bs g _ _ n hb h7 (by omega) (by omega)).mono ?_
              rintro e wc ⟨cv', cs, rfl, cl, cp, h8⟩
              have Cl := Lib.hid cl
              have Cp := Lib.hid cp
              clear cl cp h7
              go_wp2_with fail
              refine (l04DrawPerm_c w0 _ cv bs g _ _ n hb h8 (by omega) (by omega)).mono ?_
              rintro e wd ⟨sv, ss, rfl, sl, sp, h9⟩
              have Sl := Lib.hid sl
              have Sp := Lib.hid sp
              clear sl sp h8
              go_wp2_with fail
              refine (one_c w0 _ cv bs g _ _ 5 hb h9 (by omega)).mono ?_
              rintro e we ⟨b, rfl, h10⟩
              clear h9
              cases b
              · go_wp2_with fail
                refine (sIsotopeL_c _ rv cv' sv us A rs cs ss _ n (h10.riiS (((List.sublist_append_left _ _).cons _).cons _ |>.cons _) (by rw [Hl.out, HA.out.len])) (h10.rdI 2 rfl) (h10.rdI 1 rfl) (h10.rdI 0 rfl) HA.out Rp.out Cp.out Sp.out Rl.out Cl.out Sl.out (by omega)).mono ?_
                rintro e wf ⟨vz, uz, Az, rfl, hAz, hlz, h11⟩
                have h12 := h10.call h11
                have h13 := ((h12.perm List.perm_append_comm).sub (L' := own2 vz uz Az ++ L) (List.Sublist.append_left ((((List.sublist_append_right _ _).cons _).cons _).cons _) _)).mono (show _ ≤ K + 200 by omega)
                clear h10 h11 h12
                go_wp2_with fail
                go_ret
                exact ⟨vz, uz, Az, rfl, hAz, hlz, h13⟩
              · have h13 := (h10.sub (L' := own2 u5 us A ++ L) ((((List.Sublist.refl _).cons _).cons _).cons _)).mono (show _ ≤ K + 200 by omega)
                clear h10
                go_wp2_with fail
                go_ret
                exact ⟨_, us, A, rfl, HA.out, Hl.out, h13⟩
    · go_wp2_with fail
      refine (one_c w0 w1 cv bs g _ _ 2 hb h2 (by omega)).mono ?_
      rintro e w2 ⟨b, rfl, h3⟩
      clear h2
      cases b
      · have h5 := h3.mono (show K + 2 ≤ K + 4 by omega)
        clear h3
        go_wp2_with fail
        clear G4 G6 G8 G9 C2 C3
        refine (pick_c w0 _ cv bs g _ _ 4 hb h5 (by omega)).mono ?_
        rintro e wa ⟨kk, k0, k1, rfl, h6⟩
        obtain ⟨j, rfl⟩ := Int.eq_ofNat_of_zero_le k0
        have hj3 : j ≤ 3 := by omega
        clear k0 k1 h5
        go_wp2_with fail
        go_loopw [5, 6] (fun a kv wr => ∃ (j : Nat) (us : List Value) (A : List (List Int)), kv = .int .i64 j ∧ j ≤ 3 ∧ Hid (us.length = n) ∧ Hid (LatN n A) ∧ Src w0 wr cv g (K + 6 + 10 * (3 - j)) (own2 a us A ++ L)) (fun _ kv _ => (intOf kv).toNat)
        case atStart => exact ⟨j, _, _, rfl, hj3, Hl.out, HA.out, h6.mono (by omega)⟩
        case round =>
          clear h6 Hl HA hj3
          obtain ⟨j, us, A, rfl, hj3, Hl, HA, h6⟩ := hrel
          by_cases hj : 0 < j
          · go_wp2_with fail
            refine (l06SwitchL_c w0 _ cv bs g _ L n _ us A hb h6 Hl.out HA.out (by omega) n1 (by omega)).mono ?_
            rintro e wb ⟨vb, ub, Ab, rfl, hAb, hlb, h7⟩
            have HAb := Lib.hid hAb
            have Hlb := Lib.hid hlb
            clear hAb hlb
            go_wp2_with fail
            go_roundw
            case rel => exact ⟨j - 1, ub, Ab, by go_num, by omega, Hlb.out, HAb.out, h7.mono (by omega)⟩
            case measure => simp [intOf]; omega
          · obtain rfl : j = 0 := by omega
            go_wp2_with fail
            refine (l04DrawPerm_c w0 _ cv bs g _ _ n hb h6 (by omega) (by omega)).mono ?_
            rintro e wb ⟨rv, rs, rfl, rl, rp, h7⟩
            have Rl := Lib.hid rl
            have Rp := Lib.hid rp
            clear rl rp h6
            go_wp2_with fail
            refine (l04DrawPerm_c w0 _ cv bs g _ _ n hb h7 (by omega) (by omega)).mono ?_
            rintro e wc ⟨cv', cs, rfl, cl, cp, h8⟩
            have Cl := Lib.hid cl
            have Cp := Lib.hid cp
            clear cl cp h7
            go_wp2_with fail
            refine (l04DrawPerm_c w0 _ cv bs g _ _ n hb h8 (by omega) (by omega)).mono ?_
            rintro e wd ⟨sv, ss, rfl, sl, sp, h9⟩
            have Sl := Lib.hid sl
            have Sp := Lib.hid sp
            clear sl sp h8
            go_wp2_with fail
            refine (one_c w0 _ cv bs g _ _ 5 hb h9 (by omega)).mono ?_
            rintro e we ⟨b, rfl, h10⟩
            clear h9
            cases b
            · go_wp2_with fail
              refine (sIsotopeL_c _ rv cv' sv us A rs cs ss _ n (h10.riiS (((List.sublist_append_left _ _).cons _).cons _ |>.cons _) (by rw [Hl.out, HA.out.len])) (h10.rdI 2 rfl) (h10.rdI 1 rfl) (h10.rdI 0 rfl) HA.out Rp.out Cp.out Sp.out Rl.out Cl.out Sl.out (by omega)).mono ?_
              rintro e wf ⟨vz, uz, Az, rfl, hAz, hlz, h11⟩
              have h12 := h10.call h11
              have h13 := ((h12.perm List.perm_append_comm).sub (L' := own2 vz uz Az ++ L) (List.Sublist.append_left ((((List.sublist_append_right _ _).cons _).cons _).cons _) _)).mono (show _ ≤ K + 200 by omega)
              clear h10 h11 h12
              go_wp2_with fail
              go_ret
              exact ⟨vz, uz, Az, rfl, hAz, hlz, h13⟩
            · have h13 := (h10.sub (L' := own2 u5 us A ++ L) ((((List.Sublist.refl _).cons _).cons _).cons _)).mono (show _ ≤ K + 200 by omega)
              clear h10
              go_wp2_with fail
              go_ret
              exact ⟨_, us, A, rfl, HA.out, Hl.out, h13⟩
      · go_wp2_with fail
        refine (C3 _).out.mono ?_
        rintro e w3 ⟨v1, us1, A1, rfl, hA1, hl1, c1⟩
        have c2 := h3.call c1
        clear h3 c1
        have HA1 := Lib.hid hA1
        have Hl1 := Lib.hid hl1
        clear hA1 hl1
        go_wp2_with fail
        refine (C2 _).out.mono ?_
        rintro e w4 ⟨v2, us2, A2, rfl, hA2, hl2, c3⟩
        have c4 := c2.call c3
        clear c2 c3
        have HA2 := Lib.hid hA2
        have Hl2 := Lib.hid hl2
        clear hA2 hl2
        go_wp2_with fail
        refine (l06ProductL_c v1 v2 us1 us2 A1 A2 _ 3 2 (c4.riiS ((List.sublist_append_right _ _).trans (List.sublist_append_left _ _)) (by rw [Hl1.out, HA1.out.len])) (c4.riiS (List.sublist_append_right _ _) (by rw [Hl2.out, HA2.out.len])) HA1.out HA2.out (by omega) (by omega) (by omega)).mono ?_
        rintro e w5 ⟨v3, us3, A3, rfl, hA3, hl3, c5⟩
        have c6 := c4.call c5
        rw [show 3 * 2 = n from (G6.out (by simp)).symm] at hA3 hl3
        have h5 := ((c6.perm (L' := (own2 v3 us3 A3 ++ L) ++ (own2 v us A ++ own2 v1 us1 A1 ++ own2 v2 us2 A2)) (by (try simp only [own2, List.cons_append, List.nil_append, List.append_nil]); classical exact List.perm_iff_count.2 (fun a => by simp only [List.cons_append, List.nil_append, List.append_nil, List.count_append, List.count_cons, List.count_nil] <;> omega))).sub (List.sublist_append_left _ _)).mono (show K + 2 ≤ K + 4 by omega)
        clear c4 c5 c6 HA Hl HA1 HA2 Hl1 Hl2
        have HA := Lib.hid hA3
        have Hl := Lib.hid hl3
        clear hA3 hl3
        go_wp2_with fail
        clear G4 G6 G8 G9 C2 C3
        refine (pick_c w0 _ cv bs g _ _ 4 hb h5 (by omega)).mono ?_
        rintro e wa ⟨kk, k0, k1, rfl, h6⟩
        obtain ⟨j, rfl⟩ := Int.eq_ofNat_of_zero_le k0
        have hj3 : j ≤ 3 := by omega
        clear k0 k1 h5
        go_wp2_with fail
        go_loopw [5, 6] (fun a kv wr => ∃ (j : Nat) (us : List Value) (A : List (List Int)), kv = .int .i64 j ∧ j ≤ 3 ∧ Hid (us.length = n) ∧ Hid (LatN n A) ∧ Src w0 wr cv g (K + 6 + 10 * (3 - j)) (own2 a us A ++ L)) (fun _ kv _ => (intOf kv).toNat)
        case atStart => exact ⟨j, _, _, rfl, hj3, Hl.out, HA.out, h6.mono (by omega)⟩
        case round =>
          clear h6 Hl HA hj3
          obtain ⟨j, us, A, rfl, hj3, Hl, HA, h6⟩ := hrel
          by_cases hj : 0 < j
          · go_wp2_with fail
            refine (l06SwitchL_c w0 _ cv bs g _ L n _ us A hb h6 Hl.out HA.out (by omega) n1 (by omega)).mono ?_
            rintro e wb ⟨vb, ub, Ab, rfl, hAb, hlb, h7⟩
            have HAb := Lib.hid hAb
            have Hlb := Lib.hid hlb
            clear hAb hlb
            go_wp2_with fail
            go_roundw
            case rel => exact ⟨j - 1, ub, Ab, by go_num, by omega, Hlb.out, HAb.out, h7.mono (by omega)⟩
            case measure => simp [intOf]; omega
          · obtain rfl : j = 0 := by omega
            go_wp2_with fail
            refine (l04DrawPerm_c w0 _ cv bs g _ _ n hb h6 (by omega) (by omega)).mono ?_
            rintro e wb ⟨rv, rs, rfl, rl, rp, h7⟩
            have Rl := Lib.hid rl
            have Rp := Lib.hid rp
            clear rl rp h6
            go_wp2_with fail
            refine (l04DrawPerm_c w0 _ cv bs g _ _ n hb h7 (by omega) (by omega)).mono ?_
            rintro e wc ⟨cv', cs, rfl, cl, cp, h8⟩
            have Cl := Lib.hid cl
            have Cp := Lib.hid cp
            clear cl cp h7
            go_wp2_with fail
            refine (l04DrawPerm_c w0 _ cv bs g _ _ n hb h8 (by omega) (by omega)).mono ?_
            rintro e wd ⟨sv, ss, rfl, sl, sp, h9⟩
            have Sl := Lib.hid sl
            have Sp := Lib.hid sp
            clear sl sp h8
            go_wp2_with fail
            refine (one_c w0 _ cv bs g _ _ 5 hb h9 (by omega)).mono ?_
            rintro e we ⟨b, rfl, h10⟩
            clear h9
            cases b
            · go_wp2_with fail
              refine (sIsotopeL_c _ rv cv' sv us A rs cs ss _ n (h10.riiS (((List.sublist_append_left _ _).cons _).cons _ |>.cons _) (by rw [Hl.out, HA.out.len])) (h10.rdI 2 rfl) (h10.rdI 1 rfl) (h10.rdI 0 rfl) HA.out Rp.out Cp.out Sp.out Rl.out Cl.out Sl.out (by omega)).mono ?_
              rintro e wf ⟨vz, uz, Az, rfl, hAz, hlz, h11⟩
              have h12 := h10.call h11
              have h13 := ((h12.perm List.perm_append_comm).sub (L' := own2 vz uz Az ++ L) (List.Sublist.append_left ((((List.sublist_append_right _ _).cons _).cons _).cons _) _)).mono (show _ ≤ K + 200 by omega)
              clear h10 h11 h12
              go_wp2_with fail
              go_ret
              exact ⟨vz, uz, Az, rfl, hAz, hlz, h13⟩
            · have h13 := (h10.sub (L' := own2 u5 us A ++ L) ((((List.Sublist.refl _).cons _).cons _).cons _)).mono (show _ ≤ K + 200 by omega)
              clear h10
              go_wp2_with fail
              go_ret
              exact ⟨_, us, A, rfl, HA.out, Hl.out, h13⟩
  · go_wp2_with fail
    refine (one_c w0 w1 cv bs g _ _ 2 hb h2 (by omega)).mono ?_
    rintro e w2 ⟨b, rfl, h3⟩
    clear h2
    cases b
    · have h5 := h3.mono (show K + 2 ≤ K + 4 by omega)
      clear h3
      go_wp2_with fail
      clear G4 G6 G8 G9 C2 C3
      refine (pick_c w0 _ cv bs g _ _ 4 hb h5 (by omega)).mono ?_
      rintro e wa ⟨kk, k0, k1, rfl, h6⟩
      obtain ⟨j, rfl⟩ := Int.eq_ofNat_of_zero_le k0
      have hj3 : j ≤ 3 := by omega
      clear k0 k1 h5
      go_wp2_with fail
      go_loopw [5, 6] (fun a kv wr => ∃ (j : Nat) (us : List Value) (A : List (List Int)), kv = .int .i64 j ∧ j ≤ 3 ∧ Hid (us.length = n) ∧ Hid (LatN n A) ∧ Src w0 wr cv g (K + 6 + 10 * (3 - j)) (own2 a us A ++ L)) (fun _ kv _ => (intOf kv).toNat)
      case atStart => exact ⟨j, _, _, rfl, hj3, Hl.out, HA.out, h6.mono (by omega)⟩
      case round =>
        clear h6 Hl HA hj3
        obtain ⟨j, us, A, rfl, hj3, Hl, HA, h6⟩ := hrel
        by_cases hj : 0 < j
        · go_wp2_with fail
          refine (l06SwitchL_c w0 _ cv bs g _ L n _ us A hb h6 Hl.out HA.out (by omega) n1 (by omega)).mono ?_
          rintro e wb ⟨vb, ub, Ab, rfl, hAb, hlb, h7⟩
          have HAb := Lib.hid hAb
          have Hlb := Lib.hid hlb
          clear hAb hlb
          go_wp2_with fail
          go_roundw
          case rel => exact ⟨j - 1, ub, Ab, by go_num, by omega, Hlb.out, HAb.out, h7.mono (by omega)⟩
          case measure => simp [intOf]; omega
        · obtain rfl : j = 0 := by omega
          go_wp2_with fail
          refine (l04DrawPerm_c w0 _ cv bs g _ _ n hb h6 (by omega) (by omega)).mono ?_
          rintro e wb ⟨rv, rs, rfl, rl, rp, h7⟩
          have Rl := Lib.hid rl
          have Rp := Lib.hid rp
          clear rl rp h6
          go_wp2_with fail
          refine (l04DrawPerm_c w0 _ cv bs g _ _ n hb h7 (by omega) (by omega)).mono ?_
          rintro e wc ⟨cv', cs, rfl, cl, cp, h8⟩
          have Cl := Lib.hid cl
          have Cp := Lib.hid cp
          clear cl cp h7
          go_wp2_with fail
          refine (l04DrawPerm_c w0 _ cv bs g _ _ n hb h8 (by omega) (by omega)).mono ?_
          rintro e wd ⟨sv, ss, rfl, sl, sp, h9⟩
          have Sl := Lib.hid sl
          have Sp := Lib.hid sp
          clear sl sp h8
          go_wp2_with fail
          refine (one_c w0 _ cv bs g _ _ 5 hb h9 (by omega)).mono ?_
          rintro e we ⟨b, rfl, h10⟩
          clear h9
          cases b
          · go_wp2_with fail
            refine (sIsotopeL_c _ rv cv' sv us A rs cs ss _ n (h10.riiS (((List.sublist_append_left _ _).cons _).cons _ |>.cons _) (by rw [Hl.out, HA.out.len])) (h10.rdI 2 rfl) (h10.rdI 1 rfl) (h10.rdI 0 rfl) HA.out Rp.out Cp.out Sp.out Rl.out Cl.out Sl.out (by omega)).mono ?_
            rintro e wf ⟨vz, uz, Az, rfl, hAz, hlz, h11⟩
            have h12 := h10.call h11
            have h13 := ((h12.perm List.perm_append_comm).sub (L' := own2 vz uz Az ++ L) (List.Sublist.append_left ((((List.sublist_append_right _ _).cons _).cons _).cons _) _)).mono (show _ ≤ K + 200 by omega)
            clear h10 h11 h12
            go_wp2_with fail
            go_ret
            exact ⟨vz, uz, Az, rfl, hAz, hlz, h13⟩
          · have h13 := (h10.sub (L' := own2 u5 us A ++ L) ((((List.Sublist.refl _).cons _).cons _).cons _)).mono (show _ ≤ K + 200 by omega)
            clear h10
            go_wp2_with fail
            go_ret
            exact ⟨_, us, A, rfl, HA.out, Hl.out, h13⟩
    · go_wp2_with fail
      refine (C2 _).out.mono ?_
      rintro e w3 ⟨v1, us1, A1, rfl, hA1, hl1, c1⟩
      have c2 := h3.call c1
      clear h3 c1
      have HA1 := Lib.hid hA1
      have Hl1 := Lib.hid hl1
      clear hA1 hl1
      go_wp2_with fail
      refine (C2 _).out.mono ?_
      rintro e w4 ⟨v2, us2, A2, rfl, hA2, hl2, c3⟩
      have c4 := c2.call c3
      clear c2 c3
      have HA2 := Lib.hid hA2
      have Hl2 := Lib.hid hl2
      clear hA2 hl2
      go_wp2_with fail
      refine (l06ProductL_c v1 v2 us1 us2 A1 A2 _ 2 2 (c4.riiS ((List.sublist_append_right _ _).trans (List.sublist_append_left _ _)) (by rw [Hl1.out, HA1.out.len])) (c4.riiS (List.sublist_append_right _ _) (by rw [Hl2.out, HA2.out.len])) HA1.out HA2.out (by omega) (by omega) (by omega)).mono ?_
      rintro e w5 ⟨v3, us3, A3, rfl, hA3, hl3, c5⟩
      have c6 := c4.call c5
      rw [show 2 * 2 = n from (G4.out (by simp)).symm] at hA3 hl3
      have h5 := ((c6.perm (L' := (own2 v3 us3 A3 ++ L) ++ (own2 v us A ++ own2 v1 us1 A1 ++ own2 v2 us2 A2)) (by (try simp only [own2, List.cons_append, List.nil_append, List.append_nil]); classical exact List.perm_iff_count.2 (fun a => by simp only [List.cons_append, List.nil_append, List.append_nil, List.count_append, List.count_cons, List.count_nil] <;> omega))).sub (List.sublist_append_left _ _)).mono (show K + 2 ≤ K + 4 by omega)
      clear c4 c5 c6 HA Hl HA1 HA2 Hl1 Hl2
      have HA := Lib.hid hA3
      have Hl := Lib.hid hl3
      clear hA3 hl3
      go_wp2_with fail
      clear G4 G6 G8 G9 C2 C3
      refine (pick_c w0 _ cv bs g _ _ 4 hb h5 (by omega)).mono ?_
      rintro e wa ⟨kk, k0, k1, rfl, h6⟩
      obtain ⟨j, rfl⟩ := Int.eq_ofNat_of_zero_le k0
      have hj3 : j ≤ 3 := by omega
      clear k0 k1 h5
      go_wp2_with fail
      go_loopw [5, 6] (fun a kv wr => ∃ (j : Nat) (us : List Value) (A : List (List Int)), kv = .int .i64 j ∧ j ≤ 3 ∧ Hid (us.length = n) ∧ Hid (LatN n A) ∧ Src w0 wr cv g (K + 6 + 10 * (3 - j)) (own2 a us A ++ L)) (fun _ kv _ => (intOf kv).toNat)
      case atStart => exact ⟨j, _, _, rfl, hj3, Hl.out, HA.out, h6.mono (by omega)⟩
      case round =>
        clear h6 Hl HA hj3
        obtain ⟨j, us, A, rfl, hj3, Hl, HA, h6⟩ := hrel
        by_cases hj : 0 < j
        · go_wp2_with fail
          refine (l06SwitchL_c w0 _ cv bs g _ L n _ us A hb h6 Hl.out HA.out (by omega) n1 (by omega)).mono ?_
          rintro e wb ⟨vb, ub, Ab, rfl, hAb, hlb, h7⟩
          have HAb := Lib.hid hAb
          have Hlb := Lib.hid hlb
          clear hAb hlb
          go_wp2_with fail
          go_roundw
          case rel => exact ⟨j - 1, ub, Ab, by go_num, by omega, Hlb.out, HAb.out, h7.mono (by omega)⟩
          case measure => simp [intOf]; omega
        · obtain rfl : j = 0 := by omega
          go_wp2_with fail
          refine (l04DrawPerm_c w0 _ cv bs g _ _ n hb h6 (by omega) (by omega)).mono ?_
          rintro e wb ⟨rv, rs, rfl, rl, rp, h7⟩
          have Rl := Lib.hid rl
          have Rp := Lib.hid rp
          clear rl rp h6
          go_wp2_with fail
          refine (l04DrawPerm_c w0 _ cv bs g _ _ n hb h7 (by omega) (by omega)).mono ?_
          rintro e wc ⟨cv', cs, rfl, cl, cp, h8⟩
          have Cl := Lib.hid cl
          have Cp := Lib.hid cp
          clear cl cp h7
          go_wp2_with fail
          refine (l04DrawPerm_c w0 _ cv bs g _ _ n hb h8 (by omega) (by omega)).mono ?_
          rintro e wd ⟨sv, ss, rfl, sl, sp, h9⟩
          have Sl := Lib.hid sl
          have Sp := Lib.hid sp
          clear sl sp h8
          go_wp2_with fail
          refine (one_c w0 _ cv bs g _ _ 5 hb h9 (by omega)).mono ?_
          rintro e we ⟨b, rfl, h10⟩
          clear h9
          cases b
          · go_wp2_with fail
            refine (sIsotopeL_c _ rv cv' sv us A rs cs ss _ n (h10.riiS (((List.sublist_append_left _ _).cons _).cons _ |>.cons _) (by rw [Hl.out, HA.out.len])) (h10.rdI 2 rfl) (h10.rdI 1 rfl) (h10.rdI 0 rfl) HA.out Rp.out Cp.out Sp.out Rl.out Cl.out Sl.out (by omega)).mono ?_
            rintro e wf ⟨vz, uz, Az, rfl, hAz, hlz, h11⟩
            have h12 := h10.call h11
            have h13 := ((h12.perm List.perm_append_comm).sub (L' := own2 vz uz Az ++ L) (List.Sublist.append_left ((((List.sublist_append_right _ _).cons _).cons _).cons _) _)).mono (show _ ≤ K + 200 by omega)
            clear h10 h11 h12
            go_wp2_with fail
            go_ret
            exact ⟨vz, uz, Az, rfl, hAz, hlz, h13⟩
          · have h13 := (h10.sub (L' := own2 u5 us A ++ L) ((((List.Sublist.refl _).cons _).cons _).cons _)).mono (show _ ≤ K + 200 by omega)
            clear h10
            go_wp2_with fail
            go_ret
            exact ⟨_, us, A, rfl, HA.out, Hl.out, h13⟩
end Go.Proofs.Ytdlmohigkkdegaa
end

section
/- Walks: squares and isotopes that are drawn, maps between rows, compositions, columns of a symbol, parities. -/
namespace Go.Proofs.Ytdlmohigkkdegaa
set_option linter.unusedSimpArgs false
set_option linter.unusedVariables false
open Go.RowKit
attribute [local go_sem ↓] Go.wp_at_zero Go.wp_at_succ

/-- some Latin square of at most 6 rows -/
def MakesL6 (w : World) (e : Ending) (w' : World) : Prop := ∃ v us A, e = .returned v ∧ Lat A ∧ A.length ≤ 6 ∧ us.length = A.length ∧ St w.heap.size w w' (own2 v us A)
set_option maxHeartbeats 2000000 in
theorem V8Square_c (w : World) (cv : Value) (bs : List UInt8) (hb : RdB w cv bs) : Calls Try.prog 6 #[cv] w (MakesL6 w) := by
  go_enter Try.func6, Try.ntmps6
  go_wp2_with fail
  refine (l00From_c w cv bs hb).mono ?_
  rintro e w1 ⟨rfl, h1⟩
  go_wp2_with fail
  refine (pick_c w w1 cv bs _ _ _ 6 hb h1 (by omega)).mono ?_
  rintro e w2 ⟨z, z0, z1, rfl, h2⟩
  obtain ⟨k, rfl⟩ := Int.eq_ofNat_of_zero_le z0
  have hk : k ≤ 5 := by omega
  have q1 : IntKind.i64.wrap (1 + (k : Int)) = ((1 + k : Nat) : Int) := by rw [IntWalk.i64_in _ (by omega)]; omega
  clear h1 z0 z1
  go_wp2_with fail
  refine (l06DrawSquareL_c w w2 cv bs _ _ _ (1 + k) hb h2 (by omega) (by omega) (by omega)).mono ?_
  rintro e w3 ⟨v, us, A, rfl, hA, hl, h3⟩
  have hS := h3.st
  rw [List.append_nil] at hS
  clear h2 h3
  go_wp2_with fail
  go_ret
  exact ⟨v, us, A, rfl, hA.lat, by rw [hA.len]; omega, by rw [hl, hA.len], hS⟩
/-- some isotope of A -/
def MakesIso (w : World) (A : List (List Int)) (e : Ending) (w' : World) : Prop := ∃ v us r c s, e = .returned v ∧ IsP r ∧ IsP c ∧ IsP s ∧ r.length = A.length ∧ c.length = A.length ∧ s.length = A.length ∧ us.length = A.length ∧ St w.heap.size w w' (own2 v us (isoL A r c s))
set_option maxHeartbeats 4000000 in
set_option maxRecDepth 100000 in
theorem V8Isotope_c (w : World) (cv v : Value) (bs : List UInt8) (us : List Value) (A : List (List Int)) (hb : RdB w cv bs) (hv : RII w v us A) (hA : Lat A) : Calls Try.prog 7 #[cv, v] w (MakesIso w A) := by
  have hln := hv.len
  have hle := hA.le
  go_enter Try.func7, Try.ntmps7
  go_wp2_with fail
  refine (l00From_c w cv bs hb).mono ?_
  rintro e w1 ⟨rfl, h1⟩
  go_wp2_with fail
  refine (l04DrawPerm_c w _ cv bs _ _ _ A.length hb h1 (by omega) (by omega)).mono ?_
  rintro e wb ⟨rv, rs, rfl, rl, rp, h7⟩
  have Rl := Lib.hid rl
  have Rp := Lib.hid rp
  clear rl rp h1
  go_wp2_with fail
  refine (l04DrawPerm_c w _ cv bs _ _ _ A.length hb h7 (by omega) (by omega)).mono ?_
  rintro e wc ⟨cv', cs, rfl, cl, cp, h8⟩
  have Cl := Lib.hid cl
  have Cp := Lib.hid cp
  clear cl cp h7
  go_wp2_with fail
  refine (l04DrawPerm_c w _ cv bs _ _ _ A.length hb h8 (by omega) (by omega)).mono ?_
  rintro e wd ⟨sv, ss, rfl, sl, sp, h9⟩
  have Sl := Lib.hid sl
  have Sp := Lib.hid sp
  clear sl sp h8
  have hS := h9.st
  go_wp2_with fail
  refine (sIsotopeX_c v rv cv' sv us A rs cs ss _ A.length (hS.oldII hv) (hS.rdI 2 rfl) (hS.rdI 1 rfl) (hS.rdI 0 rfl) hA.sq0 Rp.out Cp.out Sp.out Rl.out Cl.out Sl.out (by omega)).mono ?_
  rintro e wf ⟨vz, uz, rfl, hlz, h11⟩
  rw [isoL_len] at hlz
  have h12 := (hS.call h11).sub (List.sublist_append_right _ _)
  clear h9 hS h11
  go_wp2_with fail
  go_ret
  exact ⟨vz, uz, rs, cs, ss, rfl, Rp.out, Cp.out, Sp.out, Rl.out, Cl.out, Sl.out, hlz, h12⟩
/-! ### maps between rows -/
/-! ### the columns of a symbol -/
end Go.Proofs.Ytdlmohigkkdegaa
end

section
/- Walks: operations on sets, and what the law on sets draws. -/
namespace Go.Proofs.Ytdlmohigkkdegaa
set_option linter.unusedSimpArgs false
set_option linter.unusedVariables false
open Go.RowKit
set_option maxHeartbeats 2000000 in
set_option maxRecDepth 100000 in
theorem l00Rises_c (v : Value) (xs : List Int) (lo hi : Int) (w : World) (hv : RdI w v xs) :
    Calls Try.prog 45 #[v, .int .i64 lo, .int .i64 hi] w (GivesB w (incB (lo - 1) (hi + 1) xs)) := by
  have hln := hv.len
  have hix := hv.ix
  have hm := hv.le
  go_enter Try.func45, Try.ntmps45
  go_wp2_with fail
  go_loopw [7] (fun i wr => ∃ (k : Nat) (last : Int), k ≤ xs.length ∧ i = .int .i64 k ∧ Hid (incB (lo - 1) (hi + 1) xs = incB last (hi + 1) (xs.drop k)) ∧ Hid (k = 0 → last = lo - 1) ∧ Hid (0 < k → last = nth xs (k - 1)) ∧ lo - 1 ≤ last ∧ St w.heap.size w wr []) (fun i _ => xs.length - (intOf i).toNat)
  case atStart => exact ⟨0, lo - 1, by omega, rfl, rfl, fun _ => rfl, fun h => by omega, by omega, St.refl w⟩
  case round =>
    obtain ⟨k, last, hk, rfl, hI, hl0, hl1, hll, hS⟩ := hrel
    by_cases hlt : k < xs.length
    · have hd := Lib.hid (incB_drop hlt last (hi + 1))
      have hq := fun s : SS w.heap.size w [] => (s.st.oldI hv).cell k hlt
      by_cases h1 : lo ≤ nth xs k ∧ nth xs k ≤ hi
      · have i1 := inB_true h1
        obtain ⟨h1a, h1b⟩ := h1
        by_cases h0 : 0 < k
        · have Hl := Lib.hid (hl1.out h0)
          have hix1 := hv.ixe ((k : Int) - 1) (k - 1) (by omega) (by omega)
          have hq1 := fun s : SS w.heap.size w [] => (s.st.oldI hv).cell (k - 1) (by omega)
          by_cases h2 : nth xs k ≤ nth xs (k - 1)
          · go_wp2_with fail
            have hne : Nonempty (SS _ _ _) := ⟨⟨_, hS⟩⟩
            refine wp_region_st (by kernel_rfl) (by kernel_rfl) hS ?_
            repeat (go_big_quiet_step ((go_at_call 44; exact st_quiet0 (l00In_c _ _ _ _))))
            refine wpQuiet_nil ?_
            rintro _ ⟨s2, rfl⟩
            have hS2 := s2.st
            generalize s2.w = w2 at hS2 ⊢
            go_wp2_with fail
            go_ret
            exact ⟨ret_bool (by rw [hI.out, hd.out, Hl.out]; simp [h2]), hS2⟩
          · go_wp2_with fail
            have hne : Nonempty (SS _ _ _) := ⟨⟨_, hS⟩⟩
            refine wp_region_st (by kernel_rfl) (by kernel_rfl) hS ?_
            repeat (go_big_quiet_step ((go_at_call 44; exact st_quiet0 (l00In_c _ _ _ _))))
            refine wpQuiet_nil ?_
            rintro _ ⟨s2, rfl⟩
            have hS2 := s2.st
            generalize s2.w = w2 at hS2 ⊢
            go_wp2_with fail
            go_roundw
            case rel => exact ⟨k + 1, nth xs k, by omega, by go_num, by rw [Hid, hI.out, hd.out, Hl.out, if_neg (by omega)], fun h => by omega, fun _ => rfl, by omega, hS2⟩
            case measure => simp [intOf]; omega
        · have Hl := Lib.hid (hl0.out (by omega))
          go_wp2_with fail
          have hne : Nonempty (SS _ _ _) := ⟨⟨_, hS⟩⟩
          refine wp_region_st (by kernel_rfl) (by kernel_rfl) hS ?_
          repeat (go_big_quiet_step ((go_at_call 44; exact st_quiet0 (l00In_c _ _ _ _))))
          refine wpQuiet_nil ?_
          rintro _ ⟨s2, rfl⟩
          have hS2 := s2.st
          generalize s2.w = w2 at hS2 ⊢
          go_wp2_with fail
          go_roundw
          case rel => exact ⟨k + 1, nth xs k, by omega, by go_num, by rw [Hid, hI.out, hd.out, Hl.out, if_neg (by omega)], fun h => by omega, fun _ => rfl, by omega, hS2⟩
          case measure => simp [intOf]; omega
      · have i1 := inB_false h1
        have H1 := Lib.hid h1; clear h1
        go_wp2_with fail
        have hne : Nonempty (SS _ _ _) := ⟨⟨_, hS⟩⟩
        refine wp_region_st (by kernel_rfl) (by kernel_rfl) hS ?_
        repeat (go_big_quiet_step ((go_at_call 44; exact st_quiet0 (l00In_c _ _ _ _))))
        refine wpQuiet_nil ?_
        rintro _ ⟨s2, rfl⟩
        have hS2 := s2.st
        generalize s2.w = w2 at hS2 ⊢
        go_wp2_with fail
        go_ret
        exact ⟨ret_bool (by rw [hI.out, hd.out, if_pos (by have := H1.out; omega)]), hS2⟩
    · go_wp2_with fail
      go_ret
      exact ⟨ret_bool (by rw [hI.out, List.drop_of_length_le (by omega)]; simp [incB]), hS⟩

end Go.Proofs.Ytdlmohigkkdegaa
end

section
/- Walks: ValidSet of the reference for sets of at most 32 points. -/
namespace Go.Proofs.Ytdlmohigkkdegaa
set_option linter.unusedSimpArgs false
set_option linter.unusedVariables false
open Go.RowKit
set_option maxHeartbeats 2000000 in
set_option maxRecDepth 100000 in
theorem sValidSetM_c (v : Value) (xs : List Int) (n : Int) (w : World) (hv : RdI w v xs) (h0 : 0 ≤ n ∧ n ≤ 32) : Calls Try.prog 12 #[v, .int .i64 n] w (GivesB w (incB (-1) n xs)) := by
  have i1 := inB_true h0
  have H := l00Rises_c v xs 0 (n - 1) w hv
  rw [show (n - 1 + 1) = n by omega, show (0 : Int) - 1 = -1 from rfl] at H
  have H := Lib.hid H
  obtain ⟨n0, n1⟩ := h0
  go_enter Try.func12, Try.ntmps12
  go_wp2_with fail
  refine (l00In_c _ _ _ _).mono ?_
  rw [i1]
  rintro e w1 ⟨rfl, rfl⟩
  go_wp2_with fail
  refine H.out.mono ?_
  rintro e w1 ⟨rfl, h1⟩
  go_wp2_with fail
  go_ret
  exact ⟨rfl, h1⟩
end Go.Proofs.Ytdlmohigkkdegaa
end

section
/- Walks: v8Long, v8At of the laws. -/
namespace Go.Proofs.Ytdlmohigkkdegaa
set_option linter.unusedSimpArgs false
set_option linter.unusedVariables false
open Go.RowKit

set_option maxHeartbeats 2000000 in
theorem v8Long_c (va vb : Value) (xs bs : List UInt8) (w : World) (ha : RdB w va xs) (hb : RdB w vb bs) :
    Calls Try.prog 5 #[va, vb] w fun e w' => e = .returned (.bool (decide (1048576 < (xs.length : Int)) || decide (1048576 < (bs.length : Int)))) ∧ w = w' := by
  have hla := ha.len
  have hlb := hb.len
  have hea := ha.le
  have heb := hb.le
  by_cases h1 : 1048576 < (xs.length : Int)
  · rw [decide_eq_true h1, Bool.true_or]
    go_enter Try.func5, Try.ntmps5
    go_wp2_with fail
    go_ret
    exact ⟨rfl, rfl⟩
  · rw [decide_eq_false h1, Bool.false_or]
    by_cases h2 : 1048576 < (bs.length : Int)
    · rw [decide_eq_true h2]
      go_enter Try.func5, Try.ntmps5
      go_wp2_with fail
      go_ret
      exact ⟨by simp [h1, h2], rfl⟩
    · rw [decide_eq_false h2]
      go_enter Try.func5, Try.ntmps5
      go_wp2_with fail
      go_ret
      exact ⟨by simp [h1, h2], rfl⟩
set_option maxHeartbeats 2000000 in
theorem v8At_c (v : Value) (bs : List UInt8) (k : Nat) (n : Int) (w : World) (hb : RdB w v bs) (hk : k ≤ 1000000) :
    Calls Try.prog 11 #[v, .int .i64 k, .int .i64 n] w (AnInt 0 (max (n - 1) 0) fun w' => w = w') := by
  have hln := hb.len
  have hle := hb.le
  by_cases h1 : n ≤ 1
  · go_enter Try.func11, Try.ntmps11
    go_wp2_with fail
    go_ret
    exact ⟨0, by omega, by omega, rfl, rfl⟩
  · by_cases h2 : k < bs.length
    · have hc := hb.cell k h2
      have hx := hb.ix .i64 (k : Int) (by omega) (by omega)
      rw [Int.toNat_natCast] at hx
      obtain ⟨b0, b1⟩ := bnth_bd bs k
      go_enter Try.func11, Try.ntmps11
      go_wp2_with fail
      go_ret
      have := Int.emod_nonneg (bnth bs k) (show n ≠ 0 by omega)
      have := Int.emod_lt_of_pos (bnth bs k) (show 0 < n by omega)
      exact ⟨_, by omega, by omega, rfl, rfl⟩
    · go_enter Try.func11, Try.ntmps11
      go_wp2_with fail
      go_ret
      exact ⟨0, by omega, by omega, rfl, rfl⟩
end Go.Proofs.Ytdlmohigkkdegaa
end

section
/- Walks: the laws' own comparisons of lists. -/
namespace Go.Proofs.Ytdlmohigkkdegaa
set_option linter.unusedSimpArgs false
set_option linter.unusedVariables false
open Go.RowKit

set_option maxHeartbeats 1000000 in
set_option maxRecDepth 100000 in
theorem v8Same_c (va vb : Value) (xs ys : List Int) (w : World) (ha : RdI w va xs) (hb : RdI w vb ys) :
    Calls Try.prog 16 #[va, vb] w (GivesB w (decide (xs = ys))) := by
  have hla := ha.len
  have hlb := hb.len
  have hia := ha.ix
  have hib := hb.ix
  have hma := ha.le
  by_cases hne : xs.length = ys.length
  · have f0 : ((xs.length : Int) != (ys.length : Int)) = false := ne_f (by omega)
    have hle : xs.length ≤ ys.length := by omega
    have Hne := Lib.hid hne; clear hne
    go_enter Try.func16, Try.ntmps16
    go_wp2_with fail
    go_loopw [5] (fun i wr => ∃ k : Nat, k ≤ xs.length ∧ i = .int .i64 k ∧ Hid (∀ j, j < k → nth xs j = nth ys j) ∧ St w.heap.size w wr []) (fun i _ => xs.length - (intOf i).toNat)
    case atStart => exact ⟨0, by omega, rfl, fun j hj => by omega, St.refl w⟩
    case round =>
      obtain ⟨k, hk, rfl, hI, hS⟩ := hrel
      by_cases hlt : k < xs.length
      · have hqa := fun s : SS w.heap.size w [] => (s.st.oldI ha).cell k hlt
        have hqb := fun s : SS w.heap.size w [] => (s.st.oldI hb).cell k (by omega)
        have hk2 : k < ys.length := by omega
        by_cases h1 : nth xs k = nth ys k
        · have f1 := ne_f h1
          have H1 := Lib.hid h1; clear h1
          go_wp2_with fail
          have hne : Nonempty (SS _ _ _) := ⟨⟨_, hS⟩⟩
          refine wp_region_st (by kernel_rfl) (by kernel_rfl) hS ?_
          repeat (go_big_quiet_step (fail))
          refine wpQuiet_nil ?_
          rintro _ ⟨s2, rfl⟩
          have hS2 := s2.st
          generalize s2.w = w2 at hS2 ⊢
          go_wp2_with fail
          go_roundw
          case rel => exact ⟨k + 1, by omega, by go_num, fun j hj => by
            by_cases e : j = k
            · subst e; exact H1.out
            · exact hI.out j (by omega), hS2⟩
          case measure => simp [intOf]; omega
        · have f1 := ne_t h1
          have H1 := Lib.hid h1; clear h1
          go_wp2_with fail
          have hne : Nonempty (SS _ _ _) := ⟨⟨_, hS⟩⟩
          refine wp_region_st (by kernel_rfl) (by kernel_rfl) hS ?_
          repeat (go_big_quiet_step (fail))
          refine wpQuiet_nil ?_
          rintro _ ⟨s2, rfl⟩
          have hS2 := s2.st
          generalize s2.w = w2 at hS2 ⊢
          go_wp2_with fail
          go_ret
          exact ⟨ret_bool (by symm; rw [decide_eq_false_iff_not]; intro e; subst e; exact H1.out rfl), hS2⟩
      · go_wp2_with fail
        go_ret
        refine ⟨ret_bool ?_, hS⟩
        symm; rw [decide_eq_true_iff]
        apply List.ext_getElem Hne.out
        intro j h1 h2
        have := hI.out j (by omega)
        rwa [nth_eq h1, nth_eq h2] at this
  · have f0 : ((xs.length : Int) != (ys.length : Int)) = true := ne_t (by omega)
    have Hne := Lib.hid hne; clear hne
    go_enter Try.func16, Try.ntmps16
    go_wp2_with fail
    go_ret
    exact ⟨ret_bool (by symm; rw [decide_eq_false_iff_not]; intro e; exact Hne.out (by rw [e])), St.refl w⟩

end Go.Proofs.Ytdlmohigkkdegaa
end

section
/- The law FnQuasigroups, walked. -/
namespace Go.Proofs.Ytdlmohigkkdegaa
set_option linter.unusedSimpArgs false
set_option linter.unusedVariables false
open Go.RowKit
attribute [local go_sem ↓] Go.wp_at_zero Go.wp_at_succ

theorem mem_tk {I : List Int} {t : Nat} {x : Int} (h : t < I.length) : decide (x ∈ I.take (t + 1)) = (decide (x ∈ I.take t) || (nth I t == x)) := by
  rw [take_nth h, Bool.eq_iff_iff, Bool.or_eq_true, decide_eq_true_iff, decide_eq_true_iff, beq_iff_eq, List.mem_append, List.mem_singleton]
  constructor
  · rintro (h | h)
    · exact .inl h
    · exact .inr h.symm
  · rintro (h | h)
    · exact .inl h
    · exact .inr h.symm
open Classical in
theorem grp_bool (A : List (List Int)) : ∃ b : Bool, b = true ↔ GrpB A := ⟨decide (GrpB A), by simp⟩
set_option maxHeartbeats 16000000 in
set_option maxRecDepth 100000 in
theorem FnQuasigroups_law (w : World) (cv : Value) (bs : List UInt8) (cm : Value) (ms : List UInt8) (hb : RdB w cv bs) (hm : RdB w cm ms) :
    Calls Try.prog 3 #[cv, cm] w (GivesB w true) := by
  have KL := Lib.hid (v8Long_c cv cm bs ms w hb hm)
  by_cases hlo : (decide (1048576 < (bs.length : Int)) || decide (1048576 < (ms.length : Int))) = true
  · rw [hlo] at KL
    clear hlo
    go_enter Try.func3, Try.ntmps3
    go_wp2_with (go_at_call 5; refine KL.out.mono ?_; rintro e w2 ⟨rfl, rfl⟩)
    go_ret
    exact ⟨rfl, St.refl _⟩
  · rw [Bool.not_eq_true] at hlo
    rw [hlo] at KL
    clear hlo
    go_enter Try.func3, Try.ntmps3
    go_wp2_with (go_at_call 5; refine KL.out.mono ?_; rintro e w2 ⟨rfl, rfl⟩)
    refine (V8Square_c w cv bs hb).mono ?_
    clear KL
    rintro e w1 ⟨va, ua, A, rfl, hA, hn6, hl, h1⟩
    have ra := h1.rii (v := va) hl
    have st1 := h1.out
    have hm1 := hm.keep h1.below
    obtain ⟨aa, ac, hsh⟩ := ra.1.sl.sh
    rw [ra.2.1] at hsh
    subst hsh
    have HA := Lib.hid hA
    clear hA h1 hl hb hm
    go_wp2_with fail
    refine (V8Isotope_c w1 cm _ ms ua A hm1 ra HA.out).mono ?_
    rintro e w2 ⟨vb, ub, pr, pc, ps, rfl, i1, i2, i3, i4, i5, i6, hl2, h2⟩
    have HB := Lib.hid (HA.out.iso i1 i2 i3 i4 i5 i6)
    have HG := Lib.hid (GrpB.iso HA.out i1 i2 i3 i4 i5 i6)
    have hlB := isoL_len A pr pc ps
    have rb := h2.rii (v := vb) (hl2.trans hlB.symm)
    obtain ⟨ba, bc, hshb⟩ := rb.1.sl.sh
    rw [rb.2.1] at hshb
    subst hshb
    have ra2 := ra.keep h2.below
    have st2 := (st1.call0 h2.out).out
    have hm2 := hm1.keep h2.below
    obtain ⟨b, hbb⟩ := grp_bool A
    have Hbb := Lib.hid hbb
    have KG1 := fun W (h : RII W (.slice aa A.length ac) ua A) => Lib.hid (IsGroupBased_c aa ac ua A W h HA.out b hbb)
    have KG2 := fun W (h : RII W (.slice aa A.length ac) ua A) => Lib.hid (QuadranglesHold_c aa ac ua A W h HA.out b hbb)
    have KG3 := fun W (h : RII W (.slice ba (isoL A pr pc ps).length bc) ub (isoL A pr pc ps)) => Lib.hid (IsGroupBased_c ba bc ub (isoL A pr pc ps) W h HB.out b (hbb.trans HG.out.symm))
    clear i1 i2 i3 i4 i5 i6 hl2 h2 ra st1 hm1 HB HG hbb hlB
    generalize isoL A pr pc ps = B at *
    have fbb : (b != b) = false := by cases b <;> rfl
    have hln := ra2.len
    go_wp2_with (first
      | (go_at_call_of 8 (Value.slice ba B.length bc); have hz := st5; clear hz; refine (KG3 _ (st5.oldII rb)).out.mono ?_; rintro e w6 ⟨rfl, h6⟩; have st6 := st5.call0 h6)
      | (go_at_call_of 8 (Value.slice aa A.length ac); refine (KG1 _ ra2).out.mono ?_; rintro e w4 ⟨rfl, st4⟩)
      | (go_at_call 9; refine (KG2 _ (st4.oldII ra2)).out.mono ?_; rintro e w5 ⟨rfl, h5⟩; have st5 := st4.call0 h5))
    have hE := (st2.call0 st6).out
    have ra6 := ra2.keep st6.below
    have hm6 := hm2.keep st6.below
    have hA1 := HA.out.pos
    have KA := Lib.hid (v8At_c cm ms 0 (A.length : Int) w6 hm6 (by omega))
    rw [show ((0 : Nat) : Int) = 0 from rfl] at KA
    clear KG1 KG2 KG3 rb ra2 st2 hm2 st4 st5 st6 h5 h6 hm6
    refine KA.out.mono ?_
    rintro e w7 ⟨z, z0, z1, rfl, rfl⟩
    have hS7 := (St.refl w6).new 2 #[.int .i64 z] (by simp [maxLen])
    have rz := hS7.rdI (e := 2) (v := .slice (some ⟨w6.heap.size, 0, none⟩) 1 1) (xs := [z]) 0 rfl
    have hz : 0 ≤ z ∧ z < A.length := by omega
    have hvz : validSetB [z] A.length = true := by
      unfold validSetB
      rw [inB_true (by have := HA.out.le; omega), Bool.and_true]
      simp only [incB]
      rw [if_neg (by omega)]
    have KC := Lib.hid (ClosureIn_c aa ac ua A (.slice (some ⟨w6.heap.size, 0, none⟩) 1 1) [z] _ (hS7.oldII ra6) rz HA.out hvz)
    have hz0 : z ∈ [z] := by simp
    clear KA z0 z1 hz rz hvz
    go_wp2_with fail
    refine KC.out.mono ?_
    rintro e w8 ⟨vC, C, rfl, hC, h8⟩
    have hE8 := ((hE.call0 hS7.out).call0 h8.out).out
    have ra8 := (hS7.call0 h8.out).oldII ra6
    have rC := h8.rdI 0 rfl
    have hCz := hC.sub z hz0
    have hC0 : 0 < C.length := List.length_pos_of_mem hCz
    have HC := Lib.hid hC
    clear KC h8 hS7 hE ra6 hC hCz hz0
    have lnC := rC.len
    have ixC := rC.ixe
    have leC := rC.le
    have f0 : ((C.length : Int) == 0) = false := eq_f (by omega)
    have KVS := Lib.hid (sValidSetM_c vC C (A.length : Int) w8 rC (by have := HA.out.le; omega))
    rw [vset_inc HC.out.set] at KVS
    go_wp2_with (go_at_call 12; refine KVS.out.mono ?_; rintro e w9 ⟨rfl, st9⟩)
    have hE9 := (hE8.call0 st9).out
    have ra9 := ra8.keep st9.below
    have rC9 := rC.keep st9.below
    have HCl := Lib.hid (show ∀ x ∈ C, 0 ≤ x ∧ x < A.length from (vset_pw HC.out.set).2)
    have ixA := ra9.ixe
    clear hE8 ra8 rC st9 KVS fbb
    go_loopw [11, 12, 13, 14] (fun i _ _ _ wr => ∃ k : Nat, k ≤ C.length ∧ i = .int .i64 k ∧ St w9.heap.size w9 wr []) (fun i _ _ _ _ => C.length - (intOf i).toNat)
    case atStart => exact ⟨0, by omega, rfl, St.refl w9⟩
    case round =>
      obtain ⟨k, hk, rfl, hS⟩ := hrel
      by_cases hlt : k < C.length
      · have hki : (k : Int) < (C.length : Int) := by omega
        have hxk := ixC (k : Int) k rfl hlt
        go_wp2_with fail
        go_loopw [12, 13, 14] (fun i _ _ wr => ∃ j : Nat, j ≤ C.length ∧ i = .int .i64 j ∧ St w9.heap.size w9 wr []) (fun i _ _ _ => C.length - (intOf i).toNat)
        case atStart => exact ⟨0, by omega, rfl, hS⟩
        case round =>
          clear hS
          obtain ⟨j, hj, rfl, hS⟩ := hrel
          by_cases hlj : j < C.length
          · have hji : (j : Int) < (C.length : Int) := by omega
            have hxj := ixC (j : Int) j rfl hlj
            obtain ⟨x, hxe, hxn⟩ : ∃ x : Nat, nth C k = (x : Int) ∧ x < A.length := by
              have := HCl.out _ (nth_mem hlt)
              exact ⟨(nth C k).toNat, by omega, by omega⟩
            obtain ⟨y, hye, hyn⟩ : ∃ y : Nat, nth C j = (y : Int) ∧ y < A.length := by
              have := HCl.out _ (nth_mem hlj)
              exact ⟨(nth C j).toNat, by omega, by omega⟩
            have hmem : at2 A x y ∈ C := by
              have := HC.out.cl _ (nth_mem hlt) _ (nth_mem hlj)
              rw [hxe, hye] at this; exact this
            have hrl := HA.out.len x hxn
            have c1 := fun q : SS w9.heap.size w9 [] => (q.st.oldI rC9).cell k hlt
            have c2 := fun q : SS w9.heap.size w9 [] => (q.st.oldI rC9).cell j hlj
            rw [hxe] at c1
            rw [hye] at c2
            have c3 := fun q : SS w9.heap.size w9 [] => (q.st.oldII ra9).cell x hxn
            have c4 := fun q : SS w9.heap.size w9 [] => ((q.st.oldII ra9).row x hxn).cell y (by rw [hrl]; exact hyn)
            rw [show nth (xat A x) y = at2 A x y from rfl] at c4
            have x1 := ixA (x : Int) x rfl hxn
            have x2 := (ra9.row x hxn).ixe (y : Int) y rfl (by rw [hrl]; exact hyn)
            have Hmem := Lib.hid hmem
            generalize at2 A x y = s at *
            clear hrl hmem hxe hye
            go_wp2_with fail
            go_loopw [13, 14] (fun f i wr => ∃ t : Nat, t ≤ C.length ∧ i = .int .i64 t ∧ f = .bool (decide (s ∈ C.take t)) ∧ St w9.heap.size w9 wr []) (fun _ i _ => C.length - (intOf i).toNat)
            case atStart => exact ⟨0, by omega, rfl, by simp, hS⟩
            case round =>
              clear hS
              obtain ⟨t, ht, rfl, rfl, hS⟩ := hrel
              by_cases hlt2 : t < C.length
              · have hti : (t : Int) < (C.length : Int) := by omega
                have hxt := ixC (t : Int) t rfl hlt2
                have c5 := fun q : SS w9.heap.size w9 [] => (q.st.oldI rC9).cell t hlt2
                have HT := Lib.hid (show decide (s ∈ C.take (t + 1)) = (decide (s ∈ C.take t) || (nth C t == s)) by
                  rw [take_nth hlt2, Bool.eq_iff_iff, Bool.or_eq_true, decide_eq_true_iff, decide_eq_true_iff, beq_iff_eq, List.mem_append, List.mem_singleton]
                  constructor
                  · rintro (h | h)
                    · exact .inl h
                    · exact .inr h.symm
                  · rintro (h | h)
                    · exact .inl h
                    · exact .inr h.symm)
                generalize nth C t = q at *
                cases hd : decide (s ∈ C.take t)
                · rw [hd, Bool.false_or] at HT
                  clear hd
                  go_wp2_with fail
                  have hne : Nonempty (SS _ _ _) := ⟨⟨_, hS⟩⟩
                  refine wp_region_st (by kernel_rfl) (by kernel_rfl) hS ?_
                  repeat (go_big_quiet_step (fail))
                  refine wpQuiet_nil ?_
                  rintro _ ⟨s2, rfl⟩
                  have hS10 := s2.st
                  generalize s2.w = w10 at hS10 ⊢
                  go_wp2_with fail
                  go_roundw
                  case rel => exact ⟨t + 1, by omega, by go_num, by rw [HT.out], hS10⟩
                  case measure => simp [intOf]; omega
                · rw [hd, Bool.true_or] at HT
                  clear hd
                  go_wp2_with fail
                  have hne : Nonempty (SS _ _ _) := ⟨⟨_, hS⟩⟩
                  refine wp_region_st (by kernel_rfl) (by kernel_rfl) hS ?_
                  repeat (go_big_quiet_step (fail))
                  refine wpQuiet_nil ?_
                  rintro _ ⟨s2, rfl⟩
                  have hS10 := s2.st
                  generalize s2.w = w10 at hS10 ⊢
                  go_wp2_with fail
                  go_roundw
                  case rel => exact ⟨t + 1, by omega, by go_num, by rw [HT.out], hS10⟩
                  case measure => simp [intOf]; omega
              · obtain rfl : t = C.length := by omega
                have hd : decide (s ∈ C.take C.length) = true := by rw [List.take_length]; exact decide_eq_true Hmem.out
                rw [hd]
                clear hd
                go_wp2_with fail
                go_roundw
                case rel => exact ⟨j + 1, by omega, by go_num, hS⟩
                case measure => simp [intOf]; omega
          · obtain rfl : j = C.length := by omega
            go_wp2_with fail
            go_roundw
            case rel => exact ⟨k + 1, by omega, by go_num, hS⟩
            case measure => simp [intOf]; omega
      · obtain rfl : k = C.length := by omega
        have KC := Lib.hid (ClosureIn_c aa ac ua A vC C wr (hS.oldII ra9) (hS.oldI rC9) HA.out HC.out.set)
        clear hk hlt
        go_wp2_with fail
        refine KC.out.mono ?_
        clear KC
        rintro e w11 ⟨vD, D, rfl, hD, h11⟩
        have hDe := hD.same HC.out.cl
        subst hDe
        have rD := h11.rdI 0 rfl
        have st11 := (hS.call0 h11.out).out
        clear hD h11 hS
        have KI := Lib.hid (IdentitiesOf_c aa ac ua A w11 (st11.oldII ra9) HA.out)
        go_wp2_with fail
        refine KI.out.mono ?_
        clear KI
        rintro e w12 ⟨vI, rfl, h12⟩
        have rI := h12.rdI 0 rfl
        have rD := rD.keep h12.below
        have st12 := (st11.call0 h12.out).out
        have hI8 := kdL_len A 8
        clear h12 st11
        have KU := Lib.hid (UnitOf_c aa ac ua A w12 (st12.oldII ra9) HA.out)
        obtain ⟨u1, u2, u3⟩ := unit_law A hA1
        generalize (if 0 ≤ luI A ∧ ruI A = luI A then luI A else 0) = u at *
        generalize decide (0 ≤ luI A ∧ ruI A = luI A) = ok at *
        have Hu1 := Lib.hid u1
        clear u1
        go_wp2_with fail
        refine KU.out.mono ?_
        clear KU
        rintro e w13 ⟨rfl, h13⟩
        have rI := rI.keep h13.below
        have rD := rD.keep h13.below
        have st13 := st12.call0 h13
        have lnI := rI.len
        have ixI := rI.ixe
        have HK := Lib.hid (show ∀ x ∈ kdL A 8, (∃ k : Nat, x = k ∧ 1 ≤ k ∧ k ≤ 8) ∧ (x = 6 → b = true) from fun x hx => ⟨kd_rng hx, fun e => by
          subst e
          exact Hbb.out.2 (GrpB.of_asc HA.out ((ascB_iff HA.out.sq0).1 (kd6 hx)))⟩)
        generalize kdL A 8 = I at *
        clear st12 h13
        cases b
        all_goals
          go_wp2_with fail
          go_loopw [21, 22, 23] (fun l r i wr => ∃ t : Nat, t ≤ I.length ∧ i = .int .i64 t ∧ l = .bool (decide ((4 : Int) ∈ I.take t)) ∧ r = .bool (decide ((5 : Int) ∈ I.take t)) ∧ St w13.heap.size w13 wr []) (fun _ _ i _ => I.length - (intOf i).toNat)
          case atStart => exact ⟨0, by omega, rfl, by simp, by simp, St.refl w13⟩
          case round =>
            obtain ⟨t, ht, rfl, rfl, rfl, hS⟩ := hrel
            by_cases hlt : t < I.length
            · have hti : (t : Int) < (I.length : Int) := by omega
              have ct := (hS.oldI rI).cell t hlt
              have xt := ixI (t : Int) t rfl hlt
              obtain ⟨⟨q, hq, q1, q8⟩, h6⟩ := HK.out _ (nth_mem hlt)
              have H4 := Lib.hid (mem_tk (x := (4 : Int)) hlt)
              have H5 := Lib.hid (mem_tk (x := (5 : Int)) hlt)
              rw [hq] at ct h6 H4 H5
              have KN := Lib.hid (IdentityName_c q wr q1 q8)
              clear hq q1 q8
              by_cases h6' : (q : Int) = 6
              · have hbt := h6 h6'
                first
                  | exact absurd hbt (by decide)
                  | (clear hbt
                     have f6 : ((q : Int) == 6) = true := eq_t h6'
                     have f4 : ((q : Int) == 4) = false := eq_f (by omega)
                     have f5 : ((q : Int) == 5) = false := eq_f (by omega)
                     rw [f4, Bool.or_false] at H4
                     rw [f5, Bool.or_false] at H5
                     clear h6 h6'
                     generalize decide ((4 : Int) ∈ I.take t) = z4 at *
                     generalize decide ((5 : Int) ∈ I.take t) = z5 at *
                     cases z4 <;> cases z5
                     all_goals
                       go_wp2_with (go_at_call 15; refine KN.out.mono ?_; rintro e14 w14 ⟨s, rfl, hs, h14⟩; have hS14 := hS.call0 h14)
                       first
                         | exact ⟨⟨t + 1, by omega, by go_num, by rw [H4.out], by rw [H5.out], hS14⟩, by simp [intOf]; omega⟩
                         | (go_roundw
                            case rel => exact ⟨t + 1, by omega, by go_num, by rw [H4.out], by rw [H5.out], hS14⟩
                            case measure => simp [intOf]; omega))
              · have f6 : ((q : Int) == 6) = false := eq_f h6'
                clear h6 h6'
                by_cases h4 : (q : Int) = 4
                · have f4 : ((q : Int) == 4) = true := eq_t h4
                  have f5 : ((q : Int) == 5) = false := eq_f (by omega)
                  rw [f4, Bool.or_true] at H4
                  rw [f5, Bool.or_false] at H5
                  clear h4
                  generalize decide ((4 : Int) ∈ I.take t) = z4 at *
                  generalize decide ((5 : Int) ∈ I.take t) = z5 at *
                  cases z4 <;> cases z5
                  all_goals
                    go_wp2_with (go_at_call 15; refine KN.out.mono ?_; rintro e14 w14 ⟨s, rfl, hs, h14⟩; have hS14 := hS.call0 h14)
                    first
                      | exact ⟨⟨t + 1, by omega, by go_num, by rw [H4.out], by rw [H5.out], hS14⟩, by simp [intOf]; omega⟩
                      | (go_roundw
                         case rel => exact ⟨t + 1, by omega, by go_num, by rw [H4.out], by rw [H5.out], hS14⟩
                         case measure => simp [intOf]; omega)
                · have f4 : ((q : Int) == 4) = false := eq_f h4
                  rw [f4, Bool.or_false] at H4
                  clear h4
                  generalize hf5 : ((q : Int) == 5) = z6 at *
                  generalize decide ((4 : Int) ∈ I.take t) = z4 at *
                  generalize decide ((5 : Int) ∈ I.take t) = z5 at *
                  cases z4 <;> cases z5 <;> cases z6
                  all_goals
                    simp only [Bool.or_false, Bool.or_true, Bool.false_or, Bool.true_or] at H5
                    go_wp2_with (go_at_call 15; refine KN.out.mono ?_; rintro e14 w14 ⟨s, rfl, hs, h14⟩; have hS14 := hS.call0 h14)
                    first
                      | exact ⟨⟨t + 1, by omega, by go_num, by rw [H4.out], by rw [H5.out], hS14⟩, by simp [intOf]; omega⟩
                      | (go_roundw
                         case rel => exact ⟨t + 1, by omega, by go_num, by rw [H4.out], by rw [H5.out], hS14⟩
                         case measure => simp [intOf]; omega)
            · obtain rfl : t = I.length := by omega
              rw [List.take_length]
              have KV := fun W (h : St w13.heap.size w13 W []) => Lib.hid (v8Same_c vD vC _ _ W (h.oldI rD) ((st13.call0 h).out.oldI rC9))
              rw [decide_eq_true rfl] at KV
              have KQ := fun W (h : St w13.heap.size w13 W []) => Lib.hid (IsSubsquare_c _ vC vC ua A _ _ W ((st13.call0 h).out.oldII ra9) ((st13.call0 h).out.oldI rC9) ((st13.call0 h).out.oldI rC9) HA.out HC.out.set HC.out.set rfl hC0)
              rw [dcn_cl HA.out HC.out.set HC.out.cl hC0, decide_eq_true rfl] at KQ
              rw [Hu1.out]
              have Hfin := Lib.hid (show ∀ W, St w13.heap.size w13 W [] → St w.heap.size w W [] from fun W h => (hE9.call0 (st13.call0 h)).out)
              generalize decide ((4 : Int) ∈ I) = z4 at *
              generalize decide ((5 : Int) ∈ I) = z5 at *
              have gu : (u ≥ 0) = True := by simp only [ge_iff_le, u2]
              cases z4 <;> cases z5
              all_goals
                simp only [Bool.and_true, Bool.and_false, Bool.true_and, Bool.false_and]
                go_wp2_with (first
                  | (go_at_call 16; refine (KV _ hS).out.mono ?_; rintro e14 w14 ⟨rfl, h14⟩; have hS14 := hS.call0 h14)
                  | (go_at_call 17; refine (KQ _ hS14).out.mono ?_; rintro e15 w15 ⟨rfl, h15⟩; have hS15 := hS14.call0 h15))
                go_ret
                exact ⟨by first | rfl | exact ret_bool (by simp [u2, u3]), Hfin.out _ hS15⟩
end Go.Proofs.Ytdlmohigkkdegaa
end

section
/- How arguments that come in read. How bytes that come in read. -/
namespace Go.Proofs.Ytdlmohigkkdegaa
set_option linter.unusedSimpArgs false
set_option linter.unusedVariables false
open Go.RowKit


/-- what came in as a slice of integers: nothing, or a row of numbers that fit -/
def IsRow (k : IntKind) (w : World) (a : Option Addr) (len cap : Nat) (zs : List Int) : Prop :=
  (a = none ∧ len = 0 ∧ cap = 0 ∧ zs = []) ∨
  ∃ x, a = some x ∧ len ≤ cap ∧ cap ≤ maxLen ∧ zs.length = cap ∧ (∀ i, i < zs.length → w.cell? (x.add i) = some (.int k (zs.getD i 0))) ∧ ∀ n ∈ zs, (Lit.int k n).wf = true

theorem IsRow.rd {k : IntKind} {w : World} {a : Option Addr} {len cap : Nat} {zs : List Int} (h : IsRow k w a len cap zs) : Rd w (.slice a len cap) ((zs.take len).map (Value.int k)) := by
  rcases h with ⟨rfl, rfl, rfl, rfl⟩ | ⟨x, rfl, h1, h2, h3, h4, h5⟩
  · exact Rd.nil w
  · have hl : ((zs.take len).map (Value.int k)).length = len := by simp; omega
    refine ⟨⟨some x, cap, by rw [hl], by omega, h2, .inr (by simp)⟩, ?_⟩
    intro i u hu
    have hi : i < len := by have := (List.getElem?_eq_some_iff.1 hu).1; omega
    have := h4 i (by omega)
    simp only [List.getElem?_map, List.getElem?_take, hi, if_true] at hu
    rw [List.getElem?_eq_getElem (by omega)] at hu
    simp at hu
    simp only [el]
    rw [this, ← hu]
    simp [List.getD, List.getElem?_eq_getElem (show i < zs.length by omega)]


theorem IsRow.rdB {w : World} {a : Option Addr} {len cap : Nat} {zs : List Int} (h : IsRow .u8 w a len cap zs) : ∃ bs, RdB w (.slice a len cap) bs := by
  refine ⟨(zs.take len).map fun n => UInt8.ofNat n.toNat, ?_⟩
  have h1 := h.rd
  have hw : ∀ n ∈ zs, 0 ≤ n ∧ n ≤ 255 := by
    rcases h with ⟨_, _, _, rfl⟩ | ⟨_, _, _, _, _, _, h5⟩
    · simp
    · intro n hn; have := h5 n hn; simpa [Lit.wf, IntKind.min, IntKind.max, IntKind.signed, IntKind.bits] using this
  unfold RdB bv
  rw [List.map_map]
  rw [List.map_congr_left (g := Value.int .u8)]
  · exact h1
  · intro n hn
    have := hw n (List.mem_of_mem_take hn)
    simp only [Function.comp]
    congr 1
    rw [UInt8.toNat_ofNat']
    omega

end Go.Proofs.Ytdlmohigkkdegaa
end

section
/- FnQuasigroups holds: for every input the call returns true and leaves its arguments as they are. No condition. -/
namespace Go.Proofs.Ytdlmohigkkdegaa.fnQuasigroups
set_option linter.unusedSimpArgs false
set_option linter.unusedVariables false
open Go.ChangeShapes Go.WideShapes Go.ChangeAt Go.RowKit
set_option linter.unusedVariables false

theorem own : ownKnob Try.prog.godebug = none := by kernel_rfl
theorem laidOut : laidOutB Try.prog = true := by kernel_rfl

set_option maxRecDepth 100000 in
theorem lifted (os : Os) (started : os.Started) (H : Type) (enc : TypeId × Value → H) :
    ReturnsInHanded {} Try.checked os 3 .any (Rows.fnQuasigroupsSpec.pre6 enc Try.prog Try.f3 Rows.fnQuasigroupsRow.domain false) (Rows.fnQuasigroupsSpec.post enc Try.prog Try.f3 false true false false) := by
  refine returnsInHanded_of_change (C := Try.checked) own started (by kernel_rfl) Try.func3
    (ChangeSpec.witness6 (enc := enc) (C := Try.checked) false ⟨#[], #[.slice none 0 0, .slice none 0 0], []⟩ 8 (by kernel_rfl) (by kernel_rfl) (by kernel_rfl) (by kernel_rfl)) ?_
  intro W base args ds gs before hval0 hW hcnd _
  have hval : ∀ (j : Nat) t v, Try.f3.params[j]? = some t → args[j]? = some v → Value.okWide Try.prog W .any base t v := hval0
  have hW' := hW
  obtain ⟨p, q, hA0, hV, rfl, hfz, hnd⟩ := hW
  have hA : DataW.TrodAll enc Try.prog W 0 (fun _ => true) true Try.f3.params.toList args.toList ds p := hA0
  rw [Try.params3] at hA hval
  obtain ⟨v0, vs0, d0, ds0, p0, q0, hargs, rfl, rfl, h0, r0⟩ := trodAll_cons hA
  obtain ⟨v1, vs1, d1, ds1, p1, q1, rfl, rfl, rfl, h1, r1⟩ := trodAll_cons r0
  obtain ⟨rfl, rfl, rfl⟩ := trodAll_nil r1
  obtain rfl : args = #[v0, v1] := by cases args; simp_all
  obtain ⟨rfl, rfl⟩ := trodVars_none hV
  obtain ⟨a0, len0, cap0, rfl⟩ := okWide_slice Try.underlying22 (hval 0 22 v0 rfl rfl)
  have k0 := h0
  have lt0 : ∀ x ∈ p0, x.block < W.heap.size := by obtain ⟨m, hm⟩ := k0; exact DataW.trod_lt m _ _ _ hm
  obtain ⟨bs0, rd0⟩ : ∃ bs, RdB W (.slice a0 len0 cap0) bs := by
    obtain ⟨fuel, hf⟩ := h0
    rcases open_ints Try.underlying22 Try.underlying5 (by kernel_rfl) hf with ⟨hcs, _⟩ | ⟨x, l, c, zs, hcs, _, hl, hm, hz, _, hcell, hwz⟩
    · simp [Value.cells] at hcs
      obtain ⟨rfl, rfl, rfl⟩ := hcs
      exact IsRow.rdB (zs := []) (.inl ⟨rfl, rfl, rfl, rfl⟩)
    · simp [Value.cells] at hcs
      obtain ⟨rfl, rfl, rfl⟩ := hcs
      exact IsRow.rdB (zs := zs) (.inr ⟨_, rfl, hl, hm, by simpa using hz, hcell, hwz⟩)
  obtain ⟨a1, len1, cap1, rfl⟩ := okWide_slice Try.underlying22 (hval 1 22 v1 rfl rfl)
  have k1 := h1
  have lt1 : ∀ x ∈ p1, x.block < W.heap.size := by obtain ⟨m, hm⟩ := k1; exact DataW.trod_lt m _ _ _ hm
  obtain ⟨bs1, rd1⟩ : ∃ bs, RdB W (.slice a1 len1 cap1) bs := by
    obtain ⟨fuel, hf⟩ := h1
    rcases open_ints Try.underlying22 Try.underlying5 (by kernel_rfl) hf with ⟨hcs, _⟩ | ⟨x, l, c, zs, hcs, _, hl, hm, hz, _, hcell, hwz⟩
    · simp [Value.cells] at hcs
      obtain ⟨rfl, rfl, rfl⟩ := hcs
      exact IsRow.rdB (zs := []) (.inl ⟨rfl, rfl, rfl, rfl⟩)
    · simp [Value.cells] at hcs
      obtain ⟨rfl, rfl, rfl⟩ := hcs
      exact IsRow.rdB (zs := zs) (.inr ⟨_, rfl, hl, hm, by simpa using hz, hcell, hwz⟩)
  clear hA0 hval0
  refine (FnQuasigroups_law W _ bs0 _ bs1 rd0 rd1).mono fun e W' ⟨he, hst⟩ => ?_
  have bel := hst.below
  subst he
  exact ⟨_, rfl, _, _, _, [], _, [], hW', trodAll_mk1 (shut_bool Try.underlying4 _), (trodAll_cons_mk (Below.trod laidOut (by kernel_rfl) (of_decide_eq_true (by kernel_rfl)) k0 bel lt0) (trodAll_cons_mk (Below.trod laidOut (by kernel_rfl) (of_decide_eq_true (by kernel_rfl)) k1 bel lt1) trodAll_mk0)), rfl, bel.frame _, fun h => by cases h⟩

theorem over : Rows.fnQuasigroupsRow.holds Try.pinned (OpenSpec.ofChange Rows.fnQuasigroupsSpec) :=
  OpenClaim.holds_of_wide 3 Try.f3 rfl rfl rfl rfl rfl rfl rfl ⟨rfl, rfl, rfl, rfl, rfl⟩ rfl rfl rfl rfl rfl (by kernel_rfl) Try.func3 (by kernel_rfl)
    (of_decide_eq_true (by kernel_rfl)) (by unfold Func.isWrapper; first | (rw [if_pos (by decide +kernel)]; kernel_rfl) | (rw [if_neg (by decide +kernel)]; exact ⟨rfl, rfl⟩))
    (fun os started H enc _ => lifted os started H enc)

theorem proved : Rows.FnQuasigroupsSaid := over
#print axioms proved
end Go.Proofs.Ytdlmohigkkdegaa.fnQuasigroups
end
