/- The texts of this claim, run 13: SqG. -/
import Derived.Test.YtdgmaodnkbgolaaGreatK12

section
/- Walks: squares that the reference draws, whole or not. Walks: squares that the reference draws, whole or not; isotopes and conjugates that are drawn. -/
namespace Go.Proofs.YtdgmaodnkbgolaaGreat
set_option linter.unusedSimpArgs false
set_option linter.unusedVariables false
open Go.RowKit
attribute [local go_sem ↓] Go.wp_at_zero Go.wp_at_succ


/-- a row cut at place k -/
theorem St.shrink {B : Nat} {w0 w : World} {L : List Ent} (h : St B w0 w L) (i : Nat) {e : TypeId} {v : Value} {us : List Value} (hi : L[i]? = some (row e v us)) (k : Nat) (hk : k ≤ us.length) : St B w0 w (L.set i (row e (rsl v 0 k) (us.take k))) := by
  have hg : ∀ r, w.grownBy w r := fun r => ⟨rfl, rfl, rfl, Nat.le_refl _, fun _ _ _ => rfl⟩
  have hx := h.ok _ (List.mem_of_getElem? hi)
  rcases hx with ⟨hp, _⟩ | ⟨_, hv, hu⟩ | ⟨_, g, cap, cur, hv, hB, hh, h1, h2, h3, h4⟩
  · simp [row] at hp
  · simp only [row] at hv hu
    subst hv; subst hu
    have hk0 : k = 0 := by simpa using hk
    subst hk0
    exact h.put i hi (hg _) _ (.inr (.inl ⟨rfl, rfl, rfl⟩)) (.inl rfl)
  · simp only [row] at hv h1 h4 hh
    have e1 : rsl v 0 k = .slice (some ⟨g, 0, none⟩) k cap := by
      rw [hv]
      simp only [rsl, sliced, Nat.zero_mul, Nat.sub_zero, Option.map_some]
      rw [add_mk]; simp
    have hl : (us.take k).length = k := by rw [List.length_take]; omega
    rw [e1]
    refine h.put i hi (hg _) (row e (.slice (some ⟨g, 0, none⟩) k cap) (us.take k)) (.inr (.inr ⟨rfl, g, cap, cur, ?_, hB, hh, ?_, h2, h3, ?_⟩)) (.inl ?_)
    · simp only [row]; rw [hl]
    · simp only [row]; rw [hl]; omega
    · simp only [row]; rw [hl, ← h4, List.take_take, Nat.min_eq_left hk]
    · simp only [row]; rw [hv]; rfl
set_option maxHeartbeats 16000000 in
set_option maxRecDepth 100000 in
theorem l06DrawSquare_c (w0 w : World) (cv : Value) (bs : List UInt8) (g K : Nat) (L : List Ent) (n : Nat) (hb : RdB w0 cv bs) (h : Src w0 w cv g K L) (hK : K < 10000000000) (n1 : 1 ≤ n) (n2 : n ≤ 10) :
    Calls Tryz.prog 67 #[.pointer (some ⟨g, 0, none⟩), .int .i64 n] w (SqS w0 cv g (K + 200) n L) := by
  have C2 := fun W => Lib.hid (l06Cyclic_c 2 W (by omega))
  have C3 := fun W => Lib.hid (l06Cyclic_c 3 W (by omega))
  rw [show ((2 : Nat) : Int) = 2 from rfl] at C2
  rw [show ((3 : Nat) : Int) = 3 from rfl] at C3
  have h0 : ∃ t4 t6 t8 t9 : Bool, ((n : Int) == 4) = t4 ∧ ((n : Int) == 6) = t6 ∧ ((n : Int) == 8) = t8 ∧ ((n : Int) == 9) = t9 ∧ (t4 = true → n = 4) ∧ (t6 = true → n = 6) ∧ (t8 = true → n = 8) ∧ (t9 = true → n = 9) :=
    ⟨_, _, _, _, rfl, rfl, rfl, rfl, by simp; omega, by simp; omega, by simp; omega, by simp; omega⟩
  obtain ⟨t4, t6, t8, t9, f4, f6, f8, f9, g4, g6, g8, g9⟩ := h0
  have G4 := Lib.hid g4
  have G6 := Lib.hid g6
  have G8 := Lib.hid g8
  have G9 := Lib.hid g9
  clear g4 g6 g8 g9
  go_enter Tryz.func67, Tryz.ntmps67
  go_wp2_with fail
  refine (l06Cyclic_c n w (by omega)).mono ?_
  rintro e w1 ⟨v, us, A, rfl, hA, hl, h1⟩
  have h2 : Src w0 w1 cv g K (own2 v us A ++ L) := (h.call h1).perm List.perm_append_comm
  have HA := Lib.hid hA
  have Hl := Lib.hid hl
  clear h h1 hA hl
  have key : ∃ b : Bool, b = t4 := ⟨_, rfl⟩
  clear key
  cases t4
  · cases t6
    · cases t8
      · cases t9
        · have h5 := h2.mono (show K ≤ K + 4 by omega)
          clear h2
          go_wp2_with fail
          clear G4 G6 G8 G9 C2 C3
          refine (pick_c w0 _ cv bs g _ _ 4 hb h5 (by omega)).mono ?_
          rintro e wa ⟨kk, k0, k1, rfl, h6⟩
          obtain ⟨j, rfl⟩ := Int.eq_ofNat_of_zero_le k0
          have hj3 : j ≤ 3 := by omega
          clear k0 k1 h5
          go_wp2_with fail
          go_loopw [5, 6] (fun a kv wr => ∃ (j : Nat) (us : List Value) (A : List (List Int)), kv = .int .i64 j ∧ j ≤ 3 ∧ Hid (us.length = n) ∧ Hid (Sq0 n A) ∧ Src w0 wr cv g (K + 6 + 10 * (3 - j)) (own2 a us A ++ L)) (fun _ kv _ => (intOf kv).toNat)
          case atStart => exact ⟨j, _, _, rfl, hj3, Hl.out, HA.out, h6.mono (by omega)⟩
          case round =>
            clear h6 Hl HA hj3
            obtain ⟨j, us, A, rfl, hj3, Hl, HA, h6⟩ := hrel
            by_cases hj : 0 < j
            · go_wp2_with fail
              refine (l06Switch_c w0 _ cv bs g _ L n _ us A hb h6 Hl.out HA.out (by omega) n1 (by omega)).mono ?_
              rintro e wb ⟨vb, ub, Ab, rfl, hAb, hlb, h7⟩
              have HAb := Lib.hid hAb
              have Hlb := Lib.hid hlb
              clear hAb hlb
              go_wp2_with fail
              go_roundw
              case rel => exact ⟨j - 1, ub, Ab, by go_num, by omega, Hlb.out, HAb.out, h7.mono (by omega)⟩
              case measure => simp [intOf]; omega
            · obtain rfl : j = 0 := by omega
              go_wp2_with fail
              refine (l04DrawPerm_c w0 _ cv bs g _ _ n hb h6 (by omega) (by omega)).mono ?_
              rintro e wb ⟨rv, rs, rfl, rl, rp, h7⟩
              have Rl := Lib.hid rl
              have Rp := Lib.hid rp
              clear rl rp h6
              go_wp2_with fail
              refine (l04DrawPerm_c w0 _ cv bs g _ _ n hb h7 (by omega) (by omega)).mono ?_
              rintro e wc ⟨cv', cs, rfl, cl, cp, h8⟩
              have Cl := Lib.hid cl
              have Cp := Lib.hid cp
              clear cl cp h7
              go_wp2_with fail
              refine (l04DrawPerm_c w0 _ cv bs g _ _ n hb h8 (by omega) (by omega)).mono ?_
              rintro e wd ⟨sv, ss, rfl, sl, sp, h9⟩
              have Sl := Lib.hid sl
              have Sp := Lib.hid sp
              clear sl sp h8
              go_wp2_with fail
              refine (one_c w0 _ cv bs g _ _ 5 hb h9 (by omega)).mono ?_
              rintro e we ⟨b, rfl, h10⟩
              clear h9
              cases b
              · go_wp2_with fail
                refine (sIsotope_c _ rv cv' sv us A rs cs ss _ n (h10.riiS (((List.sublist_append_left _ _).cons _).cons _ |>.cons _) (by rw [Hl.out, HA.out.len])) (h10.rdI 2 rfl) (h10.rdI 1 rfl) (h10.rdI 0 rfl) HA.out Rp.out Cp.out Sp.out Rl.out Cl.out Sl.out (by omega)).mono ?_
                rintro e wf ⟨vz, uz, Az, rfl, hAz, hlz, h11⟩
                have h12 := h10.call h11
                have h13 := ((h12.perm List.perm_append_comm).sub (L' := own2 vz uz Az ++ L) (List.Sublist.append_left ((((List.sublist_append_right _ _).cons _).cons _).cons _) _)).mono (show _ ≤ K + 200 by omega)
                clear h10 h11 h12
                go_wp2_with fail
                go_ret
                exact ⟨vz, uz, Az, rfl, hAz, hlz, h13⟩
              · have h13 := (h10.sub (L' := own2 u5 us A ++ L) ((((List.Sublist.refl _).cons _).cons _).cons _)).mono (show _ ≤ K + 200 by omega)
                clear h10
                go_wp2_with fail
                go_ret
                exact ⟨_, us, A, rfl, HA.out, Hl.out, h13⟩
        · go_wp2_with fail
          refine (one_c w0 w1 cv bs g _ _ 2 hb h2 (by omega)).mono ?_
          rintro e w2 ⟨b, rfl, h3⟩
          clear h2
          cases b
          · have h5 := h3.mono (show K + 2 ≤ K + 4 by omega)
            clear h3
            go_wp2_with fail
            clear G4 G6 G8 G9 C2 C3
            refine (pick_c w0 _ cv bs g _ _ 4 hb h5 (by omega)).mono ?_
            rintro e wa ⟨kk, k0, k1, rfl, h6⟩
            obtain ⟨j, rfl⟩ := Int.eq_ofNat_of_zero_le k0
            have hj3 : j ≤ 3 := by omega
            clear k0 k1 h5
            go_wp2_with fail
            go_loopw [5, 6] (fun a kv wr => ∃ (j : Nat) (us : List Value) (A : List (List Int)), kv = .int .i64 j ∧ j ≤ 3 ∧ Hid (us.length = n) ∧ Hid (Sq0 n A) ∧ Src w0 wr cv g (K + 6 + 10 * (3 - j)) (own2 a us A ++ L)) (fun _ kv _ => (intOf kv).toNat)
            case atStart => exact ⟨j, _, _, rfl, hj3, Hl.out, HA.out, h6.mono (by omega)⟩
            case round =>
              clear h6 Hl HA hj3
              obtain ⟨j, us, A, rfl, hj3, Hl, HA, h6⟩ := hrel
              by_cases hj : 0 < j
              · go_wp2_with fail
                refine (l06Switch_c w0 _ cv bs g _ L n _ us A hb h6 Hl.out HA.out (by omega) n1 (by omega)).mono ?_
                rintro e wb ⟨vb, ub, Ab, rfl, hAb, hlb, h7⟩
                have HAb := Lib.hid hAb
                have Hlb := Lib.hid hlb
                clear hAb hlb
                go_wp2_with fail
                go_roundw
                case rel => exact ⟨j - 1, ub, Ab, by go_num, by omega, Hlb.out, HAb.out, h7.mono (by omega)⟩
                case measure => simp [intOf]; omega
              · obtain rfl : j = 0 := by omega
                go_wp2_with fail
                refine (l04DrawPerm_c w0 _ cv bs g _ _ n hb h6 (by omega) (by omega)).mono ?_
                rintro e wb ⟨rv, rs, rfl, rl, rp, h7⟩
                have Rl := Lib.hid rl
                have Rp := Lib.hid rp
                clear rl rp h6
                go_wp2_with fail
                refine (l04DrawPerm_c w0 _ cv bs g _ _ n hb h7 (by omega) (by omega)).mono ?_
                rintro e wc ⟨cv', cs, rfl, cl, cp, h8⟩
                have Cl := Lib.hid cl
                have Cp := Lib.hid cp
                clear cl cp h7
                go_wp2_with fail
                refine (l04DrawPerm_c w0 _ cv bs g _ _ n hb h8 (by omega) (by omega)).mono ?_
                rintro e wd ⟨sv, ss, rfl, sl, sp, h9⟩
                have Sl := Lib.hid sl
                have Sp := Lib.hid sp
                clear sl sp h8
                go_wp2_with fail
                refine (one_c w0 _ cv bs g _ _ 5 hb h9 (by omega)).mono ?_
                rintro e we ⟨b, rfl, h10⟩
                clear h9
                cases b
                · go_wp2_with fail
                  refine (sIsotope_c _ rv cv' sv us A rs cs ss _ n (h10.riiS (((List.sublist_append_left _ _).cons _).cons _ |>.cons _) (by rw [Hl.out, HA.out.len])) (h10.rdI 2 rfl) (h10.rdI 1 rfl) (h10.rdI 0 rfl) HA.out Rp.out Cp.out Sp.out Rl.out Cl.out Sl.out (by omega)).mono ?_
                  rintro e wf ⟨vz, uz, Az, rfl, hAz, hlz, h11⟩
                  have h12 := h10.call h11
                  have h13 := ((h12.perm List.perm_append_comm).sub (L' := own2 vz uz Az ++ L) (List.Sublist.append_left ((((List.sublist_append_right _ _).cons _).cons _).cons _) _)).mono (show _ ≤ K + 200 by omega)
                  clear h10 h11 h12
                  go_wp2_with fail
                  go_ret
                  exact ⟨vz, uz, Az, rfl, hAz, hlz, h13⟩
                · have h13 := (h10.sub (L' := own2 u5 us A ++ L) ((((List.Sublist.refl _).cons _).cons _).cons _)).mono (show _ ≤ K + 200 by omega)
                  clear h10
                  go_wp2_with fail
                  go_ret
                  exact ⟨_, us, A, rfl, HA.out, Hl.out, h13⟩
          · go_wp2_with fail
            refine (C3 _).out.mono ?_
            rintro e w3 ⟨v1, us1, A1, rfl, hA1, hl1, c1⟩
            have c2 := h3.call c1
            clear h3 c1
            have HA1 := Lib.hid hA1
            have Hl1 := Lib.hid hl1
            clear hA1 hl1
            go_wp2_with fail
            refine (C3 _).out.mono ?_
            rintro e w4 ⟨v2, us2, A2, rfl, hA2, hl2, c3⟩
            have c4 := c2.call c3
            clear c2 c3
            have HA2 := Lib.hid hA2
            have Hl2 := Lib.hid hl2
            clear hA2 hl2
            go_wp2_with fail
            refine (l06Product_c v1 v2 us1 us2 A1 A2 _ 3 3 (c4.riiS ((List.sublist_append_right _ _).trans (List.sublist_append_left _ _)) (by rw [Hl1.out, HA1.out.len])) (c4.riiS (List.sublist_append_right _ _) (by rw [Hl2.out, HA2.out.len])) HA1.out HA2.out (by omega) (by omega)).mono ?_
            rintro e w5 ⟨v3, us3, A3, rfl, hA3, hl3, c5⟩
            have c6 := c4.call c5
            rw [show 3 * 3 = n from (G9.out (by simp)).symm] at hA3 hl3
            have h5 := ((c6.perm (L' := (own2 v3 us3 A3 ++ L) ++ (own2 v us A ++ own2 v1 us1 A1 ++ own2 v2 us2 A2)) (by (try simp only [own2, List.cons_append, List.nil_append, List.append_nil]); classical exact List.perm_iff_count.2 (fun a => by simp only [List.cons_append, List.nil_append, List.append_nil, List.count_append, List.count_cons, List.count_nil] <;> omega))).sub (List.sublist_append_left _ _)).mono (show K + 2 ≤ K + 4 by omega)
            clear c4 c5 c6 HA Hl HA1 HA2 Hl1 Hl2
            have HA := Lib.hid hA3
            have Hl := Lib.hid hl3
            clear hA3 hl3
            go_wp2_with fail
            clear G4 G6 G8 G9 C2 C3
            refine (pick_c w0 _ cv bs g _ _ 4 hb h5 (by omega)).mono ?_
            rintro e wa ⟨kk, k0, k1, rfl, h6⟩
            obtain ⟨j, rfl⟩ := Int.eq_ofNat_of_zero_le k0
            have hj3 : j ≤ 3 := by omega
            clear k0 k1 h5
            go_wp2_with fail
            go_loopw [5, 6] (fun a kv wr => ∃ (j : Nat) (us : List Value) (A : List (List Int)), kv = .int .i64 j ∧ j ≤ 3 ∧ Hid (us.length = n) ∧ Hid (Sq0 n A) ∧ Src w0 wr cv g (K + 6 + 10 * (3 - j)) (own2 a us A ++ L)) (fun _ kv _ => (intOf kv).toNat)
            case atStart => exact ⟨j, _, _, rfl, hj3, Hl.out, HA.out, h6.mono (by omega)⟩
            case round =>
              clear h6 Hl HA hj3
              obtain ⟨j, us, A, rfl, hj3, Hl, HA, h6⟩ := hrel
              by_cases hj : 0 < j
              · go_wp2_with fail
                refine (l06Switch_c w0 _ cv bs g _ L n _ us A hb h6 Hl.out HA.out (by omega) n1 (by omega)).mono ?_
                rintro e wb ⟨vb, ub, Ab, rfl, hAb, hlb, h7⟩
                have HAb := Lib.hid hAb
                have Hlb := Lib.hid hlb
                clear hAb hlb
                go_wp2_with fail
                go_roundw
                case rel => exact ⟨j - 1, ub, Ab, by go_num, by omega, Hlb.out, HAb.out, h7.mono (by omega)⟩
                case measure => simp [intOf]; omega
              · obtain rfl : j = 0 := by omega
                go_wp2_with fail
                refine (l04DrawPerm_c w0 _ cv bs g _ _ n hb h6 (by omega) (by omega)).mono ?_
                rintro e wb ⟨rv, rs, rfl, rl, rp, h7⟩
                have Rl := Lib.hid rl
                have Rp := Lib.hid rp
                clear rl rp h6
                go_wp2_with fail
                refine (l04DrawPerm_c w0 _ cv bs g _ _ n hb h7 (by omega) (by omega)).mono ?_
                rintro e wc ⟨cv', cs, rfl, cl, cp, h8⟩
                have Cl := Lib.hid cl
                have Cp := Lib.hid cp
                clear cl cp h7
                go_wp2_with fail
                refine (l04DrawPerm_c w0 _ cv bs g _ _ n hb h8 (by omega) (by omega)).mono ?_
                rintro e wd ⟨sv, ss, rfl, sl, sp, h9⟩
                have Sl := Lib.hid sl
                have Sp := Lib.hid sp
                clear sl sp h8
                go_wp2_with fail
                refine (one_c w0 _ cv bs g _ _ 5 hb h9 (by omega)).mono ?_
                rintro e we ⟨b, rfl, h10⟩
                clear h9
                cases b
                · go_wp2_with fail
                  refine (sIsotope_c _ rv cv' sv us A rs cs ss _ n (h10.riiS (((List.sublist_append_left _ _).cons _).cons _ |>.cons _) (by rw [Hl.out, HA.out.len])) (h10.rdI 2 rfl) (h10.rdI 1 rfl) (h10.rdI 0 rfl) HA.out Rp.out Cp.out Sp.out Rl.out Cl.out Sl.out (by omega)).mono ?_
                  rintro e wf ⟨vz, uz, Az, rfl, hAz, hlz, h11⟩
                  have h12 := h10.call h11
                  have h13 := ((h12.perm List.perm_append_comm).sub (L' := own2 vz uz Az ++ L) (List.Sublist.append_left ((((List.sublist_append_right _ _).cons _).cons _).cons _) _)).mono (show _ ≤ K + 200 by omega)
                  clear h10 h11 h12
                  go_wp2_with fail
                  go_ret
                  exact ⟨vz, uz, Az, rfl, hAz, hlz, h13⟩
                · have h13 := (h10.sub (L' := own2 u5 us A ++ L) ((((List.Sublist.refl _).cons _).cons _).cons _)).mono (show _ ≤ K + 200 by omega)
                  clear h10
                  go_wp2_with fail
                  go_ret
                  exact ⟨_, us, A, rfl, HA.out, Hl.out, h13⟩
      · go_wp2_with fail
        refine (one_c w0 w1 cv bs g _ _ 2 hb h2 (by omega)).mono ?_
        rintro e w2 ⟨b, rfl, h3⟩
        clear h2
        cases b
        · have h5 := h3.mono (show K + 2 ≤ K + 4 by omega)
          clear h3
          go_wp2_with fail
          clear G4 G6 G8 G9 C2 C3
          refine (pick_c w0 _ cv bs g _ _ 4 hb h5 (by omega)).mono ?_
          rintro e wa ⟨kk, k0, k1, rfl, h6⟩
          obtain ⟨j, rfl⟩ := Int.eq_ofNat_of_zero_le k0
          have hj3 : j ≤ 3 := by omega
          clear k0 k1 h5
          go_wp2_with fail
          go_loopw [5, 6] (fun a kv wr => ∃ (j : Nat) (us : List Value) (A : List (List Int)), kv = .int .i64 j ∧ j ≤ 3 ∧ Hid (us.length = n) ∧ Hid (Sq0 n A) ∧ Src w0 wr cv g (K + 6 + 10 * (3 - j)) (own2 a us A ++ L)) (fun _ kv _ => (intOf kv).toNat)
          case atStart => exact ⟨j, _, _, rfl, hj3, Hl.out, HA.out, h6.mono (by omega)⟩
          case round =>
            clear h6 Hl HA hj3
            obtain ⟨j, us, A, rfl, hj3, Hl, HA, h6⟩ := hrel
            by_cases hj : 0 < j
            · go_wp2_with fail
              refine (l06Switch_c w0 _ cv bs g _ L n _ us A hb h6 Hl.out HA.out (by omega) n1 (by omega)).mono ?_
              rintro e wb ⟨vb, ub, Ab, rfl, hAb, hlb, h7⟩
              have HAb := Lib.hid hAb
              have Hlb := Lib.hid hlb
              clear hAb hlb
              go_wp2_with fail
              go_roundw
              case rel => exact ⟨j - 1, ub, Ab, by go_num, by omega, Hlb.out, HAb.out, h7.mono (by omega)⟩
              case measure => simp [intOf]; omega
            · obtain rfl : j = 0 := by omega
              go_wp2_with fail
              refine (l04DrawPerm_c w0 _ cv bs g _ _ n hb h6 (by omega) (by omega)).mono ?_
              rintro e wb ⟨rv, rs, rfl, rl, rp, h7⟩
              have Rl := Lib.hid rl
              have Rp := Lib.hid rp
              clear rl rp h6
              go_wp2_with fail
              refine (l04DrawPerm_c w0 _ cv bs g _ _ n hb h7 (by omega) (by omega)).mono ?_
              rintro e wc ⟨cv', cs, rfl, cl, cp, h8⟩
              have Cl := Lib.hid cl
              have Cp := Lib.hid cp
              clear cl cp h7
              go_wp2_with fail
              refine (l04DrawPerm_c w0 _ cv bs g _ _ n hb h8 (by omega) (by omega)).mono ?_
              rintro e wd ⟨sv, ss, rfl, sl, sp, h9⟩
              have Sl := Lib.hid sl
              have Sp := Lib.hid sp
              clear sl sp h8
              go_wp2_with fail
              refine (one_c w0 _ cv bs g _ _ 5 hb h9 (by omega)).mono ?_
              rintro e we ⟨b, rfl, h10⟩
              clear h9
              cases b
              · go_wp2_with fail
                refine (sIsotope_c _ rv cv' sv us A rs cs ss _ n (h10.riiS (((List.sublist_append_left _ _).cons _).cons _ |>.cons _) (by rw [Hl.out, HA.out.len])) (h10.rdI 2 rfl) (h10.rdI 1 rfl) (h10.rdI 0 rfl) HA.out Rp.out Cp.out Sp.out Rl.out Cl.out Sl.out (by omega)).mono ?_
                rintro e wf ⟨vz, uz, Az, rfl, hAz, hlz, h11⟩
                have h12 := h10.call h11
                have h13 := ((h12.perm List.perm_append_comm).sub (L' := own2 vz uz Az ++ L) (List.Sublist.append_left ((((List.sublist_append_right _ _).cons _).cons _).cons _) _)).mono (show _ ≤ K + 200 by omega)
                clear h10 h11 h12
                go_wp2_with fail
                go_ret
                exact ⟨vz, uz, Az, rfl, hAz, hlz, h13⟩
              · have h13 := (h10.sub (L' := own2 u5 us A ++ L) ((((List.Sublist.refl _).cons _).cons _).cons _)).mono (show _ ≤ K + 200 by omega)
                clear h10
                go_wp2_with fail
                go_ret
                exact ⟨_, us, A, rfl, HA.out, Hl.out, h13⟩
        · go_wp2_with fail
          refine (C2 _).out.mono ?_
          rintro e w3 ⟨v1, us1, A1, rfl, hA1, hl1, c1⟩
          have c2 := h3.call c1
          clear h3 c1
          have HA1 := Lib.hid hA1
          have Hl1 := Lib.hid hl1
          clear hA1 hl1
          go_wp2_with fail
          refine (C2 _).out.mono ?_
          rintro e w4 ⟨v2, us2, A2, rfl, hA2, hl2, c3⟩
          have c4 := c2.call c3
          clear c2 c3
          have HA2 := Lib.hid hA2
          have Hl2 := Lib.hid hl2
          clear hA2 hl2
          go_wp2_with fail
          refine (l06Product_c v1 v2 us1 us2 A1 A2 _ 2 2 (c4.riiS ((List.sublist_append_right _ _).trans (List.sublist_append_left _ _)) (by rw [Hl1.out, HA1.out.len])) (c4.riiS (List.sublist_append_right _ _) (by rw [Hl2.out, HA2.out.len])) HA1.out HA2.out (by omega) (by omega)).mono ?_
          rintro e w5 ⟨v3, us3, A3, rfl, hA3, hl3, c5⟩
          have c6 := c4.call c5
          clear c4 c5
          have HA3 := Lib.hid hA3
          have Hl3 := Lib.hid hl3
          clear hA3 hl3
          go_wp2_with fail
          refine (C2 _).out.mono ?_
          rintro e w6 ⟨v4, us4, A4, rfl, hA4, hl4, c7⟩
          have c8 := c6.call c7
          clear c6 c7
          have HA4 := Lib.hid hA4
          have Hl4 := Lib.hid hl4
          clear hA4 hl4
          go_wp2_with fail
          refine (l06Product_c v3 v4 us3 us4 A3 A4 _ (2 * 2) 2 (c8.riiS ((List.sublist_append_right _ _).trans (List.sublist_append_left _ _)) (by rw [Hl3.out, HA3.out.len])) (c8.riiS (List.sublist_append_right _ _) (by rw [Hl4.out, HA4.out.len])) HA3.out HA4.out (by omega) (by omega)).mono ?_
          rintro e w7 ⟨v5, us5, A5, rfl, hA5, hl5, c9⟩
          have c10 := c8.call c9
          rw [show 2 * 2 * 2 = n from (G8.out (by simp)).symm] at hA5 hl5
          have h5 := ((c10.perm (L' := (own2 v5 us5 A5 ++ L) ++ (own2 v us A ++ own2 v1 us1 A1 ++ own2 v2 us2 A2 ++ own2 v3 us3 A3 ++ own2 v4 us4 A4)) (by (try simp only [own2, List.cons_append, List.nil_append, List.append_nil]); classical exact List.perm_iff_count.2 (fun a => by simp only [List.cons_append, List.nil_append, List.append_nil, List.count_append, List.count_cons, List.count_nil] <;> omega))).sub (List.sublist_append_left _ _)).mono (show K + 2 ≤ K + 4 by omega)
          clear c8 c9 c10 HA Hl HA1 HA2 Hl1 Hl2 HA3 HA4 Hl3 Hl4
          have HA := Lib.hid hA5
          have Hl := Lib.hid hl5
          clear hA5 hl5
          go_wp2_with fail
          clear G4 G6 G8 G9 C2 C3
          refine (pick_c w0 _ cv bs g _ _ 4 hb h5 (by omega)).mono ?_
          rintro e wa ⟨kk, k0, k1, rfl, h6⟩
          obtain ⟨j, rfl⟩ := Int.eq_ofNat_of_zero_le k0
          have hj3 : j ≤ 3 := by omega
          clear k0 k1 h5
          go_wp2_with fail
          go_loopw [5, 6] (fun a kv wr => ∃ (j : Nat) (us : List Value) (A : List (List Int)), kv = .int .i64 j ∧ j ≤ 3 ∧ Hid (us.length = n) ∧ Hid (Sq0 n A) ∧ Src w0 wr cv g (K + 6 + 10 * (3 - j)) (own2 a us A ++ L)) (fun _ kv _ => (intOf kv).toNat)
          case atStart => exact ⟨j, _, _, rfl, hj3, Hl.out, HA.out, h6.mono (by omega)⟩
          case round =>
            clear h6 Hl HA hj3
            obtain ⟨j, us, A, rfl, hj3, Hl, HA, h6⟩ := hrel
            by_cases hj : 0 < j
            · go_wp2_with fail
              refine (l06Switch_c w0 _ cv bs g _ L n _ us A hb h6 Hl.out HA.out (by omega) n1 (by omega)).mono ?_
              rintro e wb ⟨vb, ub, Ab, rfl, hAb, hlb, h7⟩
              have HAb := Lib.hid hAb
              have Hlb := Lib.hid hlb
              clear hAb hlb
              go_wp2_with fail
              go_roundw
              case rel => exact ⟨j - 1, ub, Ab, by go_num, by omega, Hlb.out, HAb.out, h7.mono (by omega)⟩
              case measure => simp [intOf]; omega
            · obtain rfl : j = 0 := by omega
              go_wp2_with fail
              refine (l04DrawPerm_c w0 _ cv bs g _ _ n hb h6 (by omega) (by omega)).mono ?_
              rintro e wb ⟨rv, rs, rfl, rl, rp, h7⟩
              have Rl := Lib.hid rl
              have Rp := Lib.hid rp
              clear rl rp h6
              go_wp2_with fail
              refine (l04DrawPerm_c w0 _ cv bs g _ _ n hb h7 (by omega) (by omega)).mono ?_
              rintro e wc ⟨cv', cs, rfl, cl, cp, h8⟩
              have Cl := Lib.hid cl
              have Cp := Lib.hid cp
              clear cl cp h7
              go_wp2_with fail
              refine (l04DrawPerm_c w0 _ cv bs g _ _ n hb h8 (by omega) (by omega)).mono ?_
              rintro e wd ⟨sv, ss, rfl, sl, sp, h9⟩
              have Sl := Lib.hid sl
              have Sp := Lib.hid sp
              clear sl sp h8
              go_wp2_with fail
              refine (one_c w0 _ cv bs g _ _ 5 hb h9 (by omega)).mono ?_
              rintro e we ⟨b, rfl, h10⟩
              clear h9
              cases b
              · go_wp2_with fail
                refine (sIsotope_c _ rv cv' sv us A rs cs ss _ n (h10.riiS (((List.sublist_append_left _ _).cons _).cons _ |>.cons _) (by rw [Hl.out, HA.out.len])) (h10.rdI 2 rfl) (h10.rdI 1 rfl) (h10.rdI 0 rfl) HA.out Rp.out Cp.out Sp.out Rl.out Cl.out Sl.out (by omega)).mono ?_
                rintro e wf ⟨vz, uz, Az, rfl, hAz, hlz, h11⟩
                have h12 := h10.call h11
                have h13 := ((h12.perm List.perm_append_comm).sub (L' := own2 vz uz Az ++ L) (List.Sublist.append_left ((((List.sublist_append_right _ _).cons _).cons _).cons _) _)).mono (show _ ≤ K + 200 by omega)
                clear h10 h11 h12
                go_wp2_with fail
                go_ret
                exact ⟨vz, uz, Az, rfl, hAz, hlz, h13⟩
              · have h13 := (h10.sub (L' := own2 u5 us A ++ L) ((((List.Sublist.refl _).cons _).cons _).cons _)).mono (show _ ≤ K + 200 by omega)
                clear h10
                go_wp2_with fail
                go_ret
                exact ⟨_, us, A, rfl, HA.out, Hl.out, h13⟩
    · go_wp2_with fail
      refine (one_c w0 w1 cv bs g _ _ 2 hb h2 (by omega)).mono ?_
      rintro e w2 ⟨b, rfl, h3⟩
      clear h2
      cases b
      · have h5 := h3.mono (show K + 2 ≤ K + 4 by omega)
        clear h3
        go_wp2_with fail
        clear G4 G6 G8 G9 C2 C3
        refine (pick_c w0 _ cv bs g _ _ 4 hb h5 (by omega)).mono ?_
        rintro e wa ⟨kk, k0, k1, rfl, h6⟩
        obtain ⟨j, rfl⟩ := Int.eq_ofNat_of_zero_le k0
        have hj3 : j ≤ 3 := by omega
        clear k0 k1 h5
        go_wp2_with fail
        go_loopw [5, 6] (fun a kv wr => ∃ (j : Nat) (us : List Value) (A : List (List Int)), kv = .int .i64 j ∧ j ≤ 3 ∧ Hid (us.length = n) ∧ Hid (Sq0 n A) ∧ Src w0 wr cv g (K + 6 + 10 * (3 - j)) (own2 a us A ++ L)) (fun _ kv _ => (intOf kv).toNat)
        case atStart => exact ⟨j, _, _, rfl, hj3, Hl.out, HA.out, h6.mono (by omega)⟩
        case round =>
          clear h6 Hl HA hj3
          obtain ⟨j, us, A, rfl, hj3, Hl, HA, h6⟩ := hrel
          by_cases hj : 0 < j
          · go_wp2_with fail
            refine (l06Switch_c w0 _ cv bs g _ L n _ us A hb h6 Hl.out HA.out (by omega) n1 (by omega)).mono ?_
            rintro e wb ⟨vb, ub, Ab, rfl, hAb, hlb, h7⟩
            have HAb := Lib.hid hAb
            have Hlb := Lib.hid hlb
            clear hAb hlb
            go_wp2_with fail
            go_roundw
            case rel => exact ⟨j - 1, ub, Ab, by go_num, by omega, Hlb.out, HAb.out, h7.mono (by omega)⟩
            case measure => simp [intOf]; omega
          · obtain rfl : j = 0 := by omega
            go_wp2_with fail
            refine (l04DrawPerm_c w0 _ cv bs g _ _ n hb h6 (by omega) (by omega)).mono ?_
            rintro e wb ⟨rv, rs, rfl, rl, rp, h7⟩
            have Rl := Lib.hid rl
            have Rp := Lib.hid rp
            clear rl rp h6
            go_wp2_with fail
            refine (l04DrawPerm_c w0 _ cv bs g _ _ n hb h7 (by omega) (by omega)).mono ?_
            rintro e wc ⟨cv', cs, rfl, cl, cp, h8⟩
            have Cl := Lib.hid cl
            have Cp := Lib.hid cp
            clear cl cp h7
            go_wp2_with fail
            refine (l04DrawPerm_c w0 _ cv bs g _ _ n hb h8 (by omega) (by omega)).mono ?_
            rintro e wd ⟨sv, ss, rfl, sl, sp, h9⟩
            have Sl := Lib.hid sl
            have Sp := Lib.hid sp
            clear sl sp h8
            go_wp2_with fail
            refine (one_c w0 _ cv bs g _ _ 5 hb h9 (by omega)).mono ?_
            rintro e we ⟨b, rfl, h10⟩
            clear h9
            cases b
            · go_wp2_with fail
              refine (sIsotope_c _ rv cv' sv us A rs cs ss _ n (h10.riiS (((List.sublist_append_left _ _).cons _).cons _ |>.cons _) (by rw [Hl.out, HA.out.len])) (h10.rdI 2 rfl) (h10.rdI 1 rfl) (h10.rdI 0 rfl) HA.out Rp.out Cp.out Sp.out Rl.out Cl.out Sl.out (by omega)).mono ?_
              rintro e wf ⟨vz, uz, Az, rfl, hAz, hlz, h11⟩
              have h12 := h10.call h11
              have h13 := ((h12.perm List.perm_append_comm).sub (L' := own2 vz uz Az ++ L) (List.Sublist.append_left ((((List.sublist_append_right _ _).cons _).cons _).cons _) _)).mono (show _ ≤ K + 200 by omega)
              clear h10 h11 h12
              go_wp2_with fail
              go_ret
              exact ⟨vz, uz, Az, rfl, hAz, hlz, h13⟩
            · have h13 := (h10.sub (L' := own2 u5 us A ++ L) ((((List.Sublist.refl _).cons _).cons _).cons _)).mono (show _ ≤ K + 200 by omega)
              clear h10
              go_wp2_with fail
              go_ret
              exact ⟨_, us, A, rfl, HA.out, Hl.out, h13⟩
      · go_wp2_with fail
        refine (C3 _).out.mono ?_
        rintro e w3 ⟨v1, us1, A1, rfl, hA1, hl1, c1⟩
        have c2 := h3.call c1
        clear h3 c1
        have HA1 := Lib.hid hA1
        have Hl1 := Lib.hid hl1
        clear hA1 hl1
        go_wp2_with fail
        refine (C2 _).out.mono ?_
        rintro e w4 ⟨v2, us2, A2, rfl, hA2, hl2, c3⟩
        have c4 := c2.call c3
        clear c2 c3
        have HA2 := Lib.hid hA2
        have Hl2 := Lib.hid hl2
        clear hA2 hl2
        go_wp2_with fail
        refine (l06Product_c v1 v2 us1 us2 A1 A2 _ 3 2 (c4.riiS ((List.sublist_append_right _ _).trans (List.sublist_append_left _ _)) (by rw [Hl1.out, HA1.out.len])) (c4.riiS (List.sublist_append_right _ _) (by rw [Hl2.out, HA2.out.len])) HA1.out HA2.out (by omega) (by omega)).mono ?_
        rintro e w5 ⟨v3, us3, A3, rfl, hA3, hl3, c5⟩
        have c6 := c4.call c5
        rw [show 3 * 2 = n from (G6.out (by simp)).symm] at hA3 hl3
        have h5 := ((c6.perm (L' := (own2 v3 us3 A3 ++ L) ++ (own2 v us A ++ own2 v1 us1 A1 ++ own2 v2 us2 A2)) (by (try simp only [own2, List.cons_append, List.nil_append, List.append_nil]); classical exact List.perm_iff_count.2 (fun a => by simp only [List.cons_append, List.nil_append, List.append_nil, List.count_append, List.count_cons, List.count_nil] <;> omega))).sub (List.sublist_append_left _ _)).mono (show K + 2 ≤ K + 4 by omega)
        clear c4 c5 c6 HA Hl HA1 HA2 Hl1 Hl2
        have HA := Lib.hid hA3
        have Hl := Lib.hid hl3
        clear hA3 hl3
        go_wp2_with fail
        clear G4 G6 G8 G9 C2 C3
        refine (pick_c w0 _ cv bs g _ _ 4 hb h5 (by omega)).mono ?_
        rintro e wa ⟨kk, k0, k1, rfl, h6⟩
        obtain ⟨j, rfl⟩ := Int.eq_ofNat_of_zero_le k0
        have hj3 : j ≤ 3 := by omega
        clear k0 k1 h5
        go_wp2_with fail
        go_loopw [5, 6] (fun a kv wr => ∃ (j : Nat) (us : List Value) (A : List (List Int)), kv = .int .i64 j ∧ j ≤ 3 ∧ Hid (us.length = n) ∧ Hid (Sq0 n A) ∧ Src w0 wr cv g (K + 6 + 10 * (3 - j)) (own2 a us A ++ L)) (fun _ kv _ => (intOf kv).toNat)
        case atStart => exact ⟨j, _, _, rfl, hj3, Hl.out, HA.out, h6.mono (by omega)⟩
        case round =>
          clear h6 Hl HA hj3
          obtain ⟨j, us, A, rfl, hj3, Hl, HA, h6⟩ := hrel
          by_cases hj : 0 < j
          · go_wp2_with fail
            refine (l06Switch_c w0 _ cv bs g _ L n _ us A hb h6 Hl.out HA.out (by omega) n1 (by omega)).mono ?_
            rintro e wb ⟨vb, ub, Ab, rfl, hAb, hlb, h7⟩
            have HAb := Lib.hid hAb
            have Hlb := Lib.hid hlb
            clear hAb hlb
            go_wp2_with fail
            go_roundw
            case rel => exact ⟨j - 1, ub, Ab, by go_num, by omega, Hlb.out, HAb.out, h7.mono (by omega)⟩
            case measure => simp [intOf]; omega
          · obtain rfl : j = 0 := by omega
            go_wp2_with fail
            refine (l04DrawPerm_c w0 _ cv bs g _ _ n hb h6 (by omega) (by omega)).mono ?_
            rintro e wb ⟨rv, rs, rfl, rl, rp, h7⟩
            have Rl := Lib.hid rl
            have Rp := Lib.hid rp
            clear rl rp h6
            go_wp2_with fail
            refine (l04DrawPerm_c w0 _ cv bs g _ _ n hb h7 (by omega) (by omega)).mono ?_
            rintro e wc ⟨cv', cs, rfl, cl, cp, h8⟩
            have Cl := Lib.hid cl
            have Cp := Lib.hid cp
            clear cl cp h7
            go_wp2_with fail
            refine (l04DrawPerm_c w0 _ cv bs g _ _ n hb h8 (by omega) (by omega)).mono ?_
            rintro e wd ⟨sv, ss, rfl, sl, sp, h9⟩
            have Sl := Lib.hid sl
            have Sp := Lib.hid sp
            clear sl sp h8
            go_wp2_with fail
            refine (one_c w0 _ cv bs g _ _ 5 hb h9 (by omega)).mono ?_
            rintro e we ⟨b, rfl, h10⟩
            clear h9
            cases b
            · go_wp2_with fail
              refine (sIsotope_c _ rv cv' sv us A rs cs ss _ n (h10.riiS (((List.sublist_append_left _ _).cons _).cons _ |>.cons _) (by rw [Hl.out, HA.out.len])) (h10.rdI 2 rfl) (h10.rdI 1 rfl) (h10.rdI 0 rfl) HA.out Rp.out Cp.out Sp.out Rl.out Cl.out Sl.out (by omega)).mono ?_
              rintro e wf ⟨vz, uz, Az, rfl, hAz, hlz, h11⟩
              have h12 := h10.call h11
              have h13 := ((h12.perm List.perm_append_comm).sub (L' := own2 vz uz Az ++ L) (List.Sublist.append_left ((((List.sublist_append_right _ _).cons _).cons _).cons _) _)).mono (show _ ≤ K + 200 by omega)
              clear h10 h11 h12
              go_wp2_with fail
              go_ret
              exact ⟨vz, uz, Az, rfl, hAz, hlz, h13⟩
            · have h13 := (h10.sub (L' := own2 u5 us A ++ L) ((((List.Sublist.refl _).cons _).cons _).cons _)).mono (show _ ≤ K + 200 by omega)
              clear h10
              go_wp2_with fail
              go_ret
              exact ⟨_, us, A, rfl, HA.out, Hl.out, h13⟩
  · go_wp2_with fail
    refine (one_c w0 w1 cv bs g _ _ 2 hb h2 (by omega)).mono ?_
    rintro e w2 ⟨b, rfl, h3⟩
    clear h2
    cases b
    · have h5 := h3.mono (show K + 2 ≤ K + 4 by omega)
      clear h3
      go_wp2_with fail
      clear G4 G6 G8 G9 C2 C3
      refine (pick_c w0 _ cv bs g _ _ 4 hb h5 (by omega)).mono ?_
      rintro e wa ⟨kk, k0, k1, rfl, h6⟩
      obtain ⟨j, rfl⟩ := Int.eq_ofNat_of_zero_le k0
      have hj3 : j ≤ 3 := by omega
      clear k0 k1 h5
      go_wp2_with fail
      go_loopw [5, 6] (fun a kv wr => ∃ (j : Nat) (us : List Value) (A : List (List Int)), kv = .int .i64 j ∧ j ≤ 3 ∧ Hid (us.length = n) ∧ Hid (Sq0 n A) ∧ Src w0 wr cv g (K + 6 + 10 * (3 - j)) (own2 a us A ++ L)) (fun _ kv _ => (intOf kv).toNat)
      case atStart => exact ⟨j, _, _, rfl, hj3, Hl.out, HA.out, h6.mono (by omega)⟩
      case round =>
        clear h6 Hl HA hj3
        obtain ⟨j, us, A, rfl, hj3, Hl, HA, h6⟩ := hrel
        by_cases hj : 0 < j
        · go_wp2_with fail
          refine (l06Switch_c w0 _ cv bs g _ L n _ us A hb h6 Hl.out HA.out (by omega) n1 (by omega)).mono ?_
          rintro e wb ⟨vb, ub, Ab, rfl, hAb, hlb, h7⟩
          have HAb := Lib.hid hAb
          have Hlb := Lib.hid hlb
          clear hAb hlb
          go_wp2_with fail
          go_roundw
          case rel => exact ⟨j - 1, ub, Ab, by go_num, by omega, Hlb.out, HAb.out, h7.mono (by omega)⟩
          case measure => simp [intOf]; omega
        · obtain rfl : j = 0 := by omega
          go_wp2_with fail
          refine (l04DrawPerm_c w0 _ cv bs g _ _ n hb h6 (by omega) (by omega)).mono ?_
          rintro e wb ⟨rv, rs, rfl, rl, rp, h7⟩
          have Rl := Lib.hid rl
          have Rp := Lib.hid rp
          clear rl rp h6
          go_wp2_with fail
          refine (l04DrawPerm_c w0 _ cv bs g _ _ n hb h7 (by omega) (by omega)).mono ?_
          rintro e wc ⟨cv', cs, rfl, cl, cp, h8⟩
          have Cl := Lib.hid cl
          have Cp := Lib.hid cp
          clear cl cp h7
          go_wp2_with fail
          refine (l04DrawPerm_c w0 _ cv bs g _ _ n hb h8 (by omega) (by omega)).mono ?_
          rintro e wd ⟨sv, ss, rfl, sl, sp, h9⟩
          have Sl := Lib.hid sl
          have Sp := Lib.hid sp
          clear sl sp h8
          go_wp2_with fail
          refine (one_c w0 _ cv bs g _ _ 5 hb h9 (by omega)).mono ?_
          rintro e we ⟨b, rfl, h10⟩
          clear h9
          cases b
          · go_wp2_with fail
            refine (sIsotope_c _ rv cv' sv us A rs cs ss _ n (h10.riiS (((List.sublist_append_left _ _).cons _).cons _ |>.cons _) (by rw [Hl.out, HA.out.len])) (h10.rdI 2 rfl) (h10.rdI 1 rfl) (h10.rdI 0 rfl) HA.out Rp.out Cp.out Sp.out Rl.out Cl.out Sl.out (by omega)).mono ?_
            rintro e wf ⟨vz, uz, Az, rfl, hAz, hlz, h11⟩
            have h12 := h10.call h11
            have h13 := ((h12.perm List.perm_append_comm).sub (L' := own2 vz uz Az ++ L) (List.Sublist.append_left ((((List.sublist_append_right _ _).cons _).cons _).cons _) _)).mono (show _ ≤ K + 200 by omega)
            clear h10 h11 h12
            go_wp2_with fail
            go_ret
            exact ⟨vz, uz, Az, rfl, hAz, hlz, h13⟩
          · have h13 := (h10.sub (L' := own2 u5 us A ++ L) ((((List.Sublist.refl _).cons _).cons _).cons _)).mono (show _ ≤ K + 200 by omega)
            clear h10
            go_wp2_with fail
            go_ret
            exact ⟨_, us, A, rfl, HA.out, Hl.out, h13⟩
    · go_wp2_with fail
      refine (C2 _).out.mono ?_
      rintro e w3 ⟨v1, us1, A1, rfl, hA1, hl1, c1⟩
      have c2 := h3.call c1
      clear h3 c1
      have HA1 := Lib.hid hA1
      have Hl1 := Lib.hid hl1
      clear hA1 hl1
      go_wp2_with fail
      refine (C2 _).out.mono ?_
      rintro e w4 ⟨v2, us2, A2, rfl, hA2, hl2, c3⟩
      have c4 := c2.call c3
      clear c2 c3
      have HA2 := Lib.hid hA2
      have Hl2 := Lib.hid hl2
      clear hA2 hl2
      go_wp2_with fail
      refine (l06Product_c v1 v2 us1 us2 A1 A2 _ 2 2 (c4.riiS ((List.sublist_append_right _ _).trans (List.sublist_append_left _ _)) (by rw [Hl1.out, HA1.out.len])) (c4.riiS (List.sublist_append_right _ _) (by rw [Hl2.out, HA2.out.len])) HA1.out HA2.out (by omega) (by omega)).mono ?_
      rintro e w5 ⟨v3, us3, A3, rfl, hA3, hl3, c5⟩
      have c6 := c4.call c5
      rw [show 2 * 2 = n from (G4.out (by simp)).symm] at hA3 hl3
      have h5 := ((c6.perm (L' := (own2 v3 us3 A3 ++ L) ++ (own2 v us A ++ own2 v1 us1 A1 ++ own2 v2 us2 A2)) (by (try simp only [own2, List.cons_append, List.nil_append, List.append_nil]); classical exact List.perm_iff_count.2 (fun a => by simp only [List.cons_append, List.nil_append, List.append_nil, List.count_append, List.count_cons, List.count_nil] <;> omega))).sub (List.sublist_append_left _ _)).mono (show K + 2 ≤ K + 4 by omega)
      clear c4 c5 c6 HA Hl HA1 HA2 Hl1 Hl2
      have HA := Lib.hid hA3
      have Hl := Lib.hid hl3
      clear hA3 hl3
      go_wp2_with fail
      clear G4 G6 G8 G9 C2 C3
      refine (pick_c w0 _ cv bs g _ _ 4 hb h5 (by omega)).mono ?_
      rintro e wa ⟨kk, k0, k1, rfl, h6⟩
      obtain ⟨j, rfl⟩ := Int.eq_ofNat_of_zero_le k0
      have hj3 : j ≤ 3 := by omega
      clear k0 k1 h5
      go_wp2_with fail
      go_loopw [5, 6] (fun a kv wr => ∃ (j : Nat) (us : List Value) (A : List (List Int)), kv = .int .i64 j ∧ j ≤ 3 ∧ Hid (us.length = n) ∧ Hid (Sq0 n A) ∧ Src w0 wr cv g (K + 6 + 10 * (3 - j)) (own2 a us A ++ L)) (fun _ kv _ => (intOf kv).toNat)
      case atStart => exact ⟨j, _, _, rfl, hj3, Hl.out, HA.out, h6.mono (by omega)⟩
      case round =>
        clear h6 Hl HA hj3
        obtain ⟨j, us, A, rfl, hj3, Hl, HA, h6⟩ := hrel
        by_cases hj : 0 < j
        · go_wp2_with fail
          refine (l06Switch_c w0 _ cv bs g _ L n _ us A hb h6 Hl.out HA.out (by omega) n1 (by omega)).mono ?_
          rintro e wb ⟨vb, ub, Ab, rfl, hAb, hlb, h7⟩
          have HAb := Lib.hid hAb
          have Hlb := Lib.hid hlb
          clear hAb hlb
          go_wp2_with fail
          go_roundw
          case rel => exact ⟨j - 1, ub, Ab, by go_num, by omega, Hlb.out, HAb.out, h7.mono (by omega)⟩
          case measure => simp [intOf]; omega
        · obtain rfl : j = 0 := by omega
          go_wp2_with fail
          refine (l04DrawPerm_c w0 _ cv bs g _ _ n hb h6 (by omega) (by omega)).mono ?_
          rintro e wb ⟨rv, rs, rfl, rl, rp, h7⟩
          have Rl := Lib.hid rl
          have Rp := Lib.hid rp
          clear rl rp h6
          go_wp2_with fail
          refine (l04DrawPerm_c w0 _ cv bs g _ _ n hb h7 (by omega) (by omega)).mono ?_
          rintro e wc ⟨cv', cs, rfl, cl, cp, h8⟩
          have Cl := Lib.hid cl
          have Cp := Lib.hid cp
          clear cl cp h7
          go_wp2_with fail
          refine (l04DrawPerm_c w0 _ cv bs g _ _ n hb h8 (by omega) (by omega)).mono ?_
          rintro e wd ⟨sv, ss, rfl, sl, sp, h9⟩
          have Sl := Lib.hid sl
          have Sp := Lib.hid sp
          clear sl sp h8
          go_wp2_with fail
          refine (one_c w0 _ cv bs g _ _ 5 hb h9 (by omega)).mono ?_
          rintro e we ⟨b, rfl, h10⟩
          clear h9
          cases b
          · go_wp2_with fail
            refine (sIsotope_c _ rv cv' sv us A rs cs ss _ n (h10.riiS (((List.sublist_append_left _ _).cons _).cons _ |>.cons _) (by rw [Hl.out, HA.out.len])) (h10.rdI 2 rfl) (h10.rdI 1 rfl) (h10.rdI 0 rfl) HA.out Rp.out Cp.out Sp.out Rl.out Cl.out Sl.out (by omega)).mono ?_
            rintro e wf ⟨vz, uz, Az, rfl, hAz, hlz, h11⟩
            have h12 := h10.call h11
            have h13 := ((h12.perm List.perm_append_comm).sub (L' := own2 vz uz Az ++ L) (List.Sublist.append_left ((((List.sublist_append_right _ _).cons _).cons _).cons _) _)).mono (show _ ≤ K + 200 by omega)
            clear h10 h11 h12
            go_wp2_with fail
            go_ret
            exact ⟨vz, uz, Az, rfl, hAz, hlz, h13⟩
          · have h13 := (h10.sub (L' := own2 u5 us A ++ L) ((((List.Sublist.refl _).cons _).cons _).cons _)).mono (show _ ≤ K + 200 by omega)
            clear h10
            go_wp2_with fail
            go_ret
            exact ⟨_, us, A, rfl, HA.out, Hl.out, h13⟩


theorem vat_put {us : List Value} {j k : Nat} {u : Value} (h : j < us.length) : vat (us.set j u) k = if j = k then u else vat us k := by
  unfold vat
  rw [List.getD_eq_getElem?_getD, List.getElem?_set]
  split
  · rename_i e; subst e; simp [h]
  · simp
theorem xat_put {A : List (List Int)} {j k : Nat} {r : List Int} (h : j < A.length) : xat (A.set j r) k = if j = k then r else xat A k := by
  unfold xat
  rw [List.getD_eq_getElem?_getD, List.getElem?_set]
  split
  · rename_i e; subst e; simp [h]
  · simp
theorem rowsI_put {us : List Value} {R : List (List Int)} (hl : us.length = R.length) {j : Nat} (hj : j < R.length) (u : Value) (r : List Int) : (rowsI us R).set j (row 2 u (iv r)) = rowsI (us.set j u) (R.set j r) := by
  have hl' : (us.set j u).length = (R.set j r).length := by simpa using hl
  apply List.ext_getElem?
  intro k
  rw [List.getElem?_set]
  by_cases hk : k < R.length
  · rw [rowsI_get hl' (by simpa using hk), vat_put (by omega), xat_put hj]
    by_cases e : j = k
    · subst e; rw [if_pos rfl, if_pos rfl, if_pos rfl, if_pos (by rw [rowsI_len hl]; exact hj)]
    · rw [if_neg e, if_neg e, if_neg e, rowsI_get hl hk]
  · have hj' : j ≠ k := by omega
    rw [if_neg hj', List.getElem?_eq_none (by rw [rowsI_len hl]; omega), List.getElem?_eq_none (by rw [rowsI_len hl']; simp; omega)]
theorem rowsI_take {us : List Value} {R : List (List Int)} (k : Nat) : (rowsI (us.take k) (R.take k)).Sublist (rowsI us R) := by
  unfold rowsI
  rw [← List.take_zipWith]
  exact List.take_sublist _ _
/-- rows, not more than 10, of not more than 10 numbers each -/
structure SmA (A : List (List Int)) : Prop where
  len : A.length ≤ 10
  row : ∀ x, x < A.length → (xat A x).length ≤ 10
theorem Sq0.sm {n : Nat} {A : List (List Int)} (h : Sq0 n A) (hn : n ≤ 10) : SmA A := ⟨by rw [h.len]; exact hn, fun x hx => by rw [h.row x (by rw [← h.len]; exact hx)]; exact hn⟩
theorem SmA.put {A : List (List Int)} (h : SmA A) {x : Nat} (hx : x < A.length) {r : List Int} (hr : r.length ≤ 10) : SmA (A.set x r) :=
  ⟨by rw [List.length_set]; exact h.len, fun t ht => by
    rw [List.length_set] at ht
    rw [xat_put hx]; split
    · exact hr
    · exact h.row t ht⟩
theorem SmA.take {A : List (List Int)} (h : SmA A) (k : Nat) : SmA (A.take k) :=
  ⟨by rw [List.length_take]; have := h.len; omega, fun x hx => by
    have hx' : x < A.length := by rw [List.length_take] at hx; omega
    have : xat (A.take k) x = xat A x := by rw [xat_eq hx, xat_eq hx', List.getElem_take]
    rw [this]; exact h.row x hx'⟩
/-- some small rows, and the source goes on -/
def SqL (w0 : World) (cv : Value) (g K : Nat) (L : List Ent) (e : Ending) (w' : World) : Prop := ∃ v us A, e = .returned v ∧ SmA A ∧ us.length = A.length ∧ Src w0 w' cv g K (own2 v us A ++ L)
set_option maxHeartbeats 16000000 in
set_option maxRecDepth 100000 in
theorem l06Draw_c (w0 w : World) (cv : Value) (bs : List UInt8) (g K : Nat) (L : List Ent) (hb : RdB w0 cv bs) (h : Src w0 w cv g K L) (hK : K < 1000000000) :
    Calls Tryz.prog 24 #[.pointer (some ⟨g, 0, none⟩)] w (SqL w0 cv g (K + 300) L) := by
  go_enter Tryz.func24, Tryz.ntmps24
  go_wp2_with fail
  refine (pick_c w0 w cv bs g _ _ 7 hb h (by omega)).mono ?_
  rintro e w1 ⟨x, x0, x1, rfl, h1⟩
  clear h
  go_wp2_with fail
  refine (one_c w0 w1 cv bs g _ _ 4 hb h1 (by omega)).mono ?_
  rintro e w2 ⟨b, rfl, h2⟩
  clear h1
  cases b
  · go_wp2_with fail
    generalize hz : x + 1 = z
    obtain ⟨n, rfl⟩ := Int.eq_ofNat_of_zero_le (show 0 ≤ z by omega)
    have n1 : 1 ≤ n := by omega
    have n2 : n ≤ 10 := by omega
    have h3 := h2.mono (show K + 2 + 2 ≤ K + 6 by omega)
    clear hz x0 x1 h2
    refine (l06DrawSquare_c w0 _ cv bs g _ L n hb h3 (by omega) n1 n2).mono ?_
    rintro e w4 ⟨v, us, A, rfl, hA, hl, h4⟩
    have HA := Lib.hid hA
    have Hl := Lib.hid hl
    clear hA hl h3
    go_wp2_with fail
    refine (pick_c w0 _ cv bs g _ _ 10 hb h4 (by omega)).mono ?_
    rintro e w5 ⟨q, q0, q1, rfl, h5⟩
    clear h4
    by_cases e0 : q = 0
    · subst e0
      go_wp2_with fail
      refine (pick_c w0 _ cv bs g _ _ n hb h5 (by omega)).mono ?_
      rintro e w6 ⟨x, x0, x1, rfl, h6⟩
      obtain ⟨x, rfl⟩ := Int.eq_ofNat_of_zero_le x0
      have hxn : x < n := by omega
      clear x0 x1 h5 q0 q1
      go_wp2_with fail
      refine (pick_c w0 _ cv bs g _ _ n hb h6 (by omega)).mono ?_
      rintro e w7 ⟨y, y0, y1, rfl, h7⟩
      obtain ⟨y, rfl⟩ := Int.eq_ofNat_of_zero_le y0
      have hyn : y < n := by omega
      clear y0 y1 h6
      have hlS : us.length = A.length := by rw [Hl.out, HA.out.len]
      have hR := h7.riiS (List.sublist_append_left _ _) hlS
      have c1 := hR.cell x (by rw [HA.out.len]; exact hxn)
      have i1 := hR.ixe (x : Int) x rfl (by rw [HA.out.len]; exact hxn)
      have j1 := (hR.row x (by rw [HA.out.len]; exact hxn)).ixe (y : Int) y rfl (by rw [HA.out.row x hxn]; exact hyn)
      have q1 : IntKind.i64.wrap ((n : Int) - 1) = (n : Int) - 1 := IntWalk.i64_in _ (by omega)
      have h8 := h7.drew
      clear hR h7
      go_wp2_with fail
      refine regionG (fun w' => w'.cell? (el v x) = some (vat us x)) 12 (by kernel_rfl) (cell_dr c1) (fun hHeld => ?_)
      refine takeP (i := 0) (v := ?_) rfl (by kernel_rfl) (fun _ _ _ h => h) (by rfl) ?_ (by assumption) ?_
      case refine_2 => (intro w'; go_simp; first | done | with_reducible rfl)
      try simp only [Act.put, List.setIfInBounds_toArray, List.set_cons_zero, List.set_cons_succ]
      refine takeP (i := 1) (v := ?_) rfl (by kernel_rfl) (fun _ _ _ h => h) (by rfl) ?_ (by assumption) ?_
      case refine_2 => (intro w'; go_simp; first | done | with_reducible rfl)
      try simp only [Act.put, List.setIfInBounds_toArray, List.set_cons_zero, List.set_cons_succ]
      refine takeP (i := 2) (v := ?_) rfl (by kernel_rfl) (fun _ _ _ h => h) (by rfl) ?_ (by assumption) ?_
      case refine_2 => (intro w'; go_simp; first | done | with_reducible rfl)
      try simp only [Act.put, List.setIfInBounds_toArray, List.set_cons_zero, List.set_cons_succ]
      refine takeH (i := 3) [11] (v := ?_) rfl (by kernel_rfl) (fun _ _ _ h => h) (by rfl) ?_ (by assumption) ?_
      case refine_2 => (intro w' hSw; (try dsimp only at hSw); go_simp; first | done | with_reducible rfl)
      try simp only [Act.put, List.setIfInBounds_toArray, List.set_cons_zero, List.set_cons_succ]
      refine takeP (i := 4) (v := ?_) rfl (by kernel_rfl) (fun _ _ _ h => h) (by rfl) ?_ (by assumption) ?_
      case refine_2 => (intro w'; go_simp; first | done | with_reducible rfl)
      try simp only [Act.put, List.setIfInBounds_toArray, List.set_cons_zero, List.set_cons_succ]
      refine takeP (i := 5) (v := ?_) rfl (by kernel_rfl) (fun _ _ _ h => h) (by rfl) ?_ (by assumption) ?_
      case refine_2 => (intro w'; go_simp; first | done | with_reducible rfl)
      try simp only [Act.put, List.setIfInBounds_toArray, List.set_cons_zero, List.set_cons_succ]
      refine takeP (i := 6) (v := ?_) rfl (by kernel_rfl) (fun _ _ _ h => h) (by rfl) ?_ (by assumption) ?_
      case refine_2 => (intro w'; go_simp; first | done | with_reducible rfl)
      try simp only [Act.put, List.setIfInBounds_toArray, List.set_cons_zero, List.set_cons_succ]
      refine takeP (i := 7) (v := ?_) rfl (by kernel_rfl) (fun _ _ _ h => h) (by rfl) ?_ (by assumption) ?_
      case refine_2 => (intro w'; go_simp; first | done | with_reducible rfl)
      try simp only [Act.put, List.setIfInBounds_toArray, List.set_cons_zero, List.set_cons_succ]
      refine takeP (i := 8) (v := ?_) rfl (by kernel_rfl) (fun _ _ _ h => h) (by rfl) ?_ (by assumption) ?_
      case refine_2 => (intro w'; go_simp; first | done | with_reducible rfl)
      try simp only [Act.put, List.setIfInBounds_toArray, List.set_cons_zero, List.set_cons_succ]
      refine readyG (rs := [9]) (by kernel_rfl) (by simp) ?_
      refine AllG.cons rfl (fun K hK => ?_) AllG.nil
      go_simp
      have hlit := h8.lit [-1, (n : Int), 0, (n : Int) - 1] (by simp)
      have c2 := ((hlit.riiS (((List.sublist_append_left _ _).cons _)) hlS)).cell x (by rw [HA.out.len]; exact hxn)
      refine hK.out _ _ c2 (fun hHeld => ?_)
      clear hK K hlit c2
      try simp only [Act.put, List.setIfInBounds_toArray, List.set_cons_zero, List.set_cons_succ]
      refine readyG (rs := [10]) (by kernel_rfl) (by simp) ?_
      refine AllG.cons rfl (fun K hK => ?_) AllG.nil
      go_simp
      go_at_call 20
      refine (among_lit [-1, (n : Int), 0, (n : Int) - 1] w0 _ cv bs g _ _ hb h8 (by simp) (by omega)).mono ?_
      rintro e w8 ⟨zz, _, rfl, h9⟩
      have c3 := (h9.riiS (List.sublist_append_left _ _) hlS).cell x (by rw [HA.out.len]; exact hxn)
      refine hK.out _ _ c3 (fun hHeld => ?_)
      clear hK K h8
      try simp only [Act.put, List.setIfInBounds_toArray, List.set_cons_zero, List.set_cons_succ]
      refine takeP (i := 11) (v := ?_) rfl (by kernel_rfl) (fun _ _ _ h => h) (by rfl) ?_ (by assumption) ?_
      case refine_2 => (intro w'; go_simp; first | done | with_reducible rfl)
      try simp only [Act.put, List.setIfInBounds_toArray, List.set_cons_zero, List.set_cons_succ]
      obtain ⟨pp, ss, p0, p1, hS⟩ := h9
      have hS1 : St w0.heap.size w0 w8 (own2 v us A ++ (box 95 g [cv, .int .i64 pp, .int .u64 ss] :: L)) := hS.perm (by (try simp only [own2, List.cons_append, List.nil_append, List.append_nil]); classical exact List.perm_iff_count.2 (fun a => by simp only [List.cons_append, List.nil_append, List.append_nil, List.count_append, List.count_cons, List.count_nil] <;> omega))
      have hat := hS1.at_row hlS (j := x) (by rw [HA.out.len]; exact hxn)
      have u1 := hS1.unfrozen (x + 1) hat (j := y) (by rw [iv_len, HA.out.row x hxn]; exact hyn)
      have co1 := (hS1.rdI (x + 1) hat).cell y (by rw [HA.out.row x hxn]; exact hyn)
      refine readyG (rs := [12]) (by kernel_rfl) (by simp) ?_
      refine AllG.last rfl (by kernel_rfl) (fun K hK => ?_) AllG.nil
      go_simp
      refine hK.out _ _ ?_
      clear hK K
      try simp only [Act.put, List.setIfInBounds_toArray, List.set_cons_zero, List.set_cons_succ]
      refine doneG (by kernel_rfl) ?_ _
      refine NoPanic.normal ?_
      have hS9 := hS1.store (x + 1) hat (j := y) (by rw [iv_len, HA.out.row x hxn]; exact hyn) (.int .i64 zz)
      rw [iv_set, own2_set hlS (by rw [HA.out.len]; exact hxn)] at hS9
      have hS10 := hS9.perm (L' := box 95 g [cv, .int .i64 pp, .int .u64 ss] :: (own2 v us (A.set x ((xat A x).set y zz)) ++ L)) (by (try simp only [own2, List.cons_append, List.nil_append, List.append_nil]); classical exact List.perm_iff_count.2 (fun a => by simp only [List.cons_append, List.nil_append, List.append_nil, List.count_append, List.count_cons, List.count_nil] <;> omega))
      have HP := Lib.hid (And.intro p0 p1)
      clear hS hS1 hat hS9 c1 i1 j1 c3 u1 co1 p0 p1
      go_wp2_with fail
      go_ret
      exact ⟨v, us, _, rfl, (HA.out.sm n2).put (by rw [HA.out.len]; exact hxn) (by rw [List.length_set, HA.out.row x hxn]; exact n2), by rw [List.length_set]; exact hlS, pp, ss, HP.out.1, by have := HP.out.2; omega, hS10⟩
    · have f0 := eq_f e0
      by_cases e1 : q = 1
      · subst e1
        go_wp2_with fail
        refine (one_c w0 _ cv bs g _ _ 3 hb h5 (by omega)).mono ?_
        rintro e w6 ⟨b, rfl, h6⟩
        clear h5 q0 q1 e0 f0
        cases b
        · go_wp2_with fail
          refine (one_c w0 _ cv bs g _ _ 2 hb h6 (by omega)).mono ?_
          rintro e w7 ⟨b, rfl, h7⟩
          clear h6
          cases b
          · have h8 := h7.mono (show _ ≤ K + 300 by omega)
            clear h7
            go_wp2_with fail
            go_ret
            exact ⟨v, us, A, rfl, HA.out.sm n2, by rw [Hl.out, HA.out.len], h8⟩
          · have hlS : us.length = A.length := by rw [Hl.out, HA.out.len]
            have hsl := rslII_hi (h7.rd 0 (by rfl) : Rd w7 v us) (n - 1) (by rw [Hl.out]; omega)
            rw [show ((n - 1 : Nat) : Int) = (n : Int) - 1 by omega] at hsl
            obtain ⟨pp, ss, p0, p1, hS⟩ := h7
            have hS1 := hS.shrink 1 (e := 48) (v := v) (us := us) rfl (n - 1) (by rw [Hl.out]; omega)
            simp only [List.set_cons_succ, own2, List.cons_append, List.set_cons_zero] at hS1
            have hS2 := hS1.sub (L' := box 95 g [cv, .int .i64 pp, .int .u64 ss] :: (own2 (rsl v 0 (n - 1)) (us.take (n - 1)) (A.take (n - 1)) ++ L)) (((rowsI_take (n - 1)).append_right _).cons_cons _ |>.cons_cons _)
            have HP := Lib.hid (And.intro p0 p1)
            have HlS := Lib.hid hlS
            clear hS hS1 p0 p1 hlS
            go_wp2_with fail
            go_ret
            exact ⟨_, _, _, rfl, (HA.out.sm n2).take (n - 1), by rw [List.length_take, List.length_take, HlS.out], pp, ss, HP.out.1, by have := HP.out.2; omega, hS2⟩
        · go_wp2_with fail
          refine (pick_c w0 _ cv bs g _ _ n hb h6 (by omega)).mono ?_
          rintro e w7 ⟨x, x0, x1, rfl, h7⟩
          obtain ⟨x, rfl⟩ := Int.eq_ofNat_of_zero_le x0
          have hxn : x < n := by omega
          clear x0 x1 h6
          have hlS : us.length = A.length := by rw [Hl.out, HA.out.len]
          have hR := h7.riiS (List.sublist_append_left _ _) hlS
          have c1 := hR.cell x (by rw [HA.out.len]; exact hxn)
          have i1 := hR.ixe (x : Int) x rfl (by rw [HA.out.len]; exact hxn)
          have Hsl := Lib.hid (fun y (hy : y < n) => And.intro (rsl_hi (hR.row x (by rw [HA.out.len]; exact hxn)) y (by rw [HA.out.row x hxn]; omega)) (rsl_rd (hR.row x (by rw [HA.out.len]; exact hxn)) (Nat.zero_le y) (by rw [HA.out.row x hxn]; omega)).shq)
          have h8 := h7.drew
          clear hR h7
          go_wp2_with fail
          refine regionG (fun w' => w'.cell? (el v x) = some (vat us x)) 11 (by kernel_rfl) (cell_dr c1) (fun hHeld => ?_)
          refine takeP (i := 0) (v := ?_) rfl (by kernel_rfl) (fun _ _ _ h => h) (by rfl) ?_ (by assumption) ?_
          case refine_2 => (intro w'; go_simp; first | done | with_reducible rfl)
          try simp only [Act.put, List.setIfInBounds_toArray, List.set_cons_zero, List.set_cons_succ]
          refine takeP (i := 1) (v := ?_) rfl (by kernel_rfl) (fun _ _ _ h => h) (by rfl) ?_ (by assumption) ?_
          case refine_2 => (intro w'; go_simp; first | done | with_reducible rfl)
          try simp only [Act.put, List.setIfInBounds_toArray, List.set_cons_zero, List.set_cons_succ]
          refine takeP (i := 2) (v := ?_) rfl (by kernel_rfl) (fun _ _ _ h => h) (by rfl) ?_ (by assumption) ?_
          case refine_2 => (intro w'; go_simp; first | done | with_reducible rfl)
          try simp only [Act.put, List.setIfInBounds_toArray, List.set_cons_zero, List.set_cons_succ]
          refine takeP (i := 3) (v := ?_) rfl (by kernel_rfl) (fun _ _ _ h => h) (by rfl) ?_ (by assumption) ?_
          case refine_2 => (intro w'; go_simp; first | done | with_reducible rfl)
          try simp only [Act.put, List.setIfInBounds_toArray, List.set_cons_zero, List.set_cons_succ]
          refine takeP (i := 4) (v := ?_) rfl (by kernel_rfl) (fun _ _ _ h => h) (by rfl) ?_ (by assumption) ?_
          case refine_2 => (intro w'; go_simp; first | done | with_reducible rfl)
          try simp only [Act.put, List.setIfInBounds_toArray, List.set_cons_zero, List.set_cons_succ]
          refine takeH (i := 5) [9] (v := ?_) rfl (by kernel_rfl) (fun _ _ _ h => h) (by rfl) ?_ (by assumption) ?_
          case refine_2 => (intro w' hSw; (try dsimp only at hSw); go_simp; first | done | with_reducible rfl)
          try simp only [Act.put, List.setIfInBounds_toArray, List.set_cons_zero, List.set_cons_succ]
          refine takeP (i := 6) (v := ?_) rfl (by kernel_rfl) (fun _ _ _ h => h) (by rfl) ?_ (by assumption) ?_
          case refine_2 => (intro w'; go_simp; first | done | with_reducible rfl)
          try simp only [Act.put, List.setIfInBounds_toArray, List.set_cons_zero, List.set_cons_succ]
          refine takeP (i := 7) (v := ?_) rfl (by kernel_rfl) (fun _ _ _ h => h) (by rfl) ?_ (by assumption) ?_
          case refine_2 => (intro w'; go_simp; first | done | with_reducible rfl)
          try simp only [Act.put, List.setIfInBounds_toArray, List.set_cons_zero, List.set_cons_succ]
          refine readyG (rs := [8]) (by kernel_rfl) (by simp) ?_
          refine AllG.cons rfl (fun K hK => ?_) AllG.nil
          go_simp
          go_at_call 22
          refine (pick_c w0 _ cv bs g _ _ n hb h8 (by omega)).mono ?_
          rintro e w8 ⟨y, y0, y1, rfl, h9⟩
          obtain ⟨y, rfl⟩ := Int.eq_ofNat_of_zero_le y0
          have hyn : y < n := by omega
          have c3 := (h9.riiS (List.sublist_append_left _ _) hlS).cell x (by rw [HA.out.len]; exact hxn)
          obtain ⟨hsl, ra, rc, hre⟩ := Hsl.out y hyn
          rw [show (((xat A x).take y).drop 0).length = y by rw [List.drop_zero, List.length_take, HA.out.row x hxn]; omega] at hre
          clear Hsl
          rw [hre] at hsl
          refine hK.out _ _ c3 (fun hHeld => ?_)
          clear hK K h8 y0 y1
          try simp only [Act.put, List.setIfInBounds_toArray, List.set_cons_zero, List.set_cons_succ]
          refine takeP (i := 9) (v := ?_) rfl (by kernel_rfl) (fun _ _ _ h => h) (by rfl) ?_ (by assumption) ?_
          case refine_2 => (intro w'; go_simp; first | done | with_reducible rfl)
          try simp only [Act.put, List.setIfInBounds_toArray, List.set_cons_zero, List.set_cons_succ]
          refine takeP (i := 10) (v := ?_) rfl (by kernel_rfl) (fun _ _ _ h => h) (by rfl) ?_ (by assumption) ?_
          case refine_2 => (intro w'; go_simp; first | done | with_reducible rfl)
          try simp only [Act.put, List.setIfInBounds_toArray, List.set_cons_zero, List.set_cons_succ]
          obtain ⟨pp, ss, p0, p1, hS⟩ := h9
          have hS1 : St w0.heap.size w0 w8 (own2 v us A ++ (box 95 g [cv, .int .i64 pp, .int .u64 ss] :: L)) := hS.perm (by (try simp only [own2, List.cons_append, List.nil_append, List.append_nil]); classical exact List.perm_iff_count.2 (fun a => by simp only [List.cons_append, List.nil_append, List.append_nil, List.count_append, List.count_cons, List.count_nil] <;> omega))
          have hat := hS1.at_row hlS (j := x) (by rw [HA.out.len]; exact hxn)
          have u1 := hS1.unfrozen 0 rfl (j := x) (by rw [Hl.out]; exact hxn)
          have hS2 := hS1.shrink (x + 1) hat y (by rw [iv_len, HA.out.row x hxn]; omega)
          rw [show (iv (xat A x)).take y = iv ((xat A x).take y) by simp [iv], hre] at hS2
          have hS3 : St w0.heap.size w0 w8 (row 48 v us :: ((rowsI us A).set x (row 2 (.slice ra y rc) (iv ((xat A x).take y))) ++ (box 95 g [cv, .int .i64 pp, .int .u64 ss] :: L))) := by
            have e := hS2
            rw [own2, List.cons_append, List.set_cons_succ, List.set_append_left _ _ (by rw [rowsI_len hlS, HA.out.len]; exact hxn)] at e
            exact e
          rw [rowsI_put hlS (by rw [HA.out.len]; exact hxn)] at hS3
          have hS9 := hS3.store 0 rfl (j := x) (by rw [Hl.out]; exact hxn) (.slice ra y rc)
          simp only [List.set_cons_zero] at hS9
          have hS10 := hS9.perm (L' := box 95 g [cv, .int .i64 pp, .int .u64 ss] :: (own2 v (us.set x (.slice ra y rc)) (A.set x ((xat A x).take y)) ++ L)) (by (try simp only [own2, List.cons_append, List.nil_append, List.append_nil]); classical exact List.perm_iff_count.2 (fun a => by simp only [List.cons_append, List.nil_append, List.append_nil, List.count_append, List.count_cons, List.count_nil] <;> omega))
          refine readyG (rs := [11]) (by kernel_rfl) (by simp) ?_
          refine AllG.last rfl (by kernel_rfl) (fun K hK => ?_) AllG.nil
          go_simp
          refine hK.out _ _ ?_
          clear hK K
          try simp only [Act.put, List.setIfInBounds_toArray, List.set_cons_zero, List.set_cons_succ]
          refine doneG (by kernel_rfl) ?_ _
          refine NoPanic.normal ?_
          have HP := Lib.hid (And.intro p0 p1)
          have HlS := Lib.hid hlS
          clear hS hS1 hat hS9 hS2 hS3 c1 i1 c3 u1 p0 p1 hlS hsl
          go_wp2_with fail
          go_ret
          exact ⟨v, _, _, rfl, (HA.out.sm n2).put (by rw [HA.out.len]; exact hxn) (by rw [List.length_take, HA.out.row x hxn]; omega), by rw [List.length_set, List.length_set]; exact HlS.out, pp, ss, HP.out.1, by have := HP.out.2; omega, hS10⟩
      · have f1 := eq_f e1
        have h8 := h5.mono (show _ ≤ K + 300 by omega)
        clear h5
        go_wp2_with fail
        go_ret
        exact ⟨v, us, A, rfl, HA.out.sm n2, by rw [Hl.out, HA.out.len], h8⟩
  · go_wp2_with fail
    refine (pick_c w0 w2 cv bs g _ _ 10 hb h2 (by omega)).mono ?_
    rintro e w3 ⟨y, y0, y1, rfl, h3⟩
    clear h2 x0 x1
    go_wp2_with fail
    generalize hz : y + 1 = z
    obtain ⟨n, rfl⟩ := Int.eq_ofNat_of_zero_le (show 0 ≤ z by omega)
    have n1 : 1 ≤ n := by omega
    have n2 : n ≤ 10 := by omega
    clear hz y0 y1
    refine (l06DrawSquare_c w0 _ cv bs g _ L n hb h3 (by omega) n1 n2).mono ?_
    rintro e w4 ⟨v, us, A, rfl, hA, hl, h4⟩
    have HA := Lib.hid hA
    have Hl := Lib.hid hl
    clear hA hl h3
    go_wp2_with fail
    refine (pick_c w0 _ cv bs g _ _ 10 hb h4 (by omega)).mono ?_
    rintro e w5 ⟨q, q0, q1, rfl, h5⟩
    clear h4
    by_cases e0 : q = 0
    · subst e0
      go_wp2_with fail
      refine (pick_c w0 _ cv bs g _ _ n hb h5 (by omega)).mono ?_
      rintro e w6 ⟨x, x0, x1, rfl, h6⟩
      obtain ⟨x, rfl⟩ := Int.eq_ofNat_of_zero_le x0
      have hxn : x < n := by omega
      clear x0 x1 h5 q0 q1
      go_wp2_with fail
      refine (pick_c w0 _ cv bs g _ _ n hb h6 (by omega)).mono ?_
      rintro e w7 ⟨y, y0, y1, rfl, h7⟩
      obtain ⟨y, rfl⟩ := Int.eq_ofNat_of_zero_le y0
      have hyn : y < n := by omega
      clear y0 y1 h6
      have hlS : us.length = A.length := by rw [Hl.out, HA.out.len]
      have hR := h7.riiS (List.sublist_append_left _ _) hlS
      have c1 := hR.cell x (by rw [HA.out.len]; exact hxn)
      have i1 := hR.ixe (x : Int) x rfl (by rw [HA.out.len]; exact hxn)
      have j1 := (hR.row x (by rw [HA.out.len]; exact hxn)).ixe (y : Int) y rfl (by rw [HA.out.row x hxn]; exact hyn)
      have q1 : IntKind.i64.wrap ((n : Int) - 1) = (n : Int) - 1 := IntWalk.i64_in _ (by omega)
      have h8 := h7.drew
      clear hR h7
      go_wp2_with fail
      refine regionG (fun w' => w'.cell? (el v x) = some (vat us x)) 12 (by kernel_rfl) (cell_dr c1) (fun hHeld => ?_)
      refine takeP (i := 0) (v := ?_) rfl (by kernel_rfl) (fun _ _ _ h => h) (by rfl) ?_ (by assumption) ?_
      case refine_2 => (intro w'; go_simp; first | done | with_reducible rfl)
      try simp only [Act.put, List.setIfInBounds_toArray, List.set_cons_zero, List.set_cons_succ]
      refine takeP (i := 1) (v := ?_) rfl (by kernel_rfl) (fun _ _ _ h => h) (by rfl) ?_ (by assumption) ?_
      case refine_2 => (intro w'; go_simp; first | done | with_reducible rfl)
      try simp only [Act.put, List.setIfInBounds_toArray, List.set_cons_zero, List.set_cons_succ]
      refine takeP (i := 2) (v := ?_) rfl (by kernel_rfl) (fun _ _ _ h => h) (by rfl) ?_ (by assumption) ?_
      case refine_2 => (intro w'; go_simp; first | done | with_reducible rfl)
      try simp only [Act.put, List.setIfInBounds_toArray, List.set_cons_zero, List.set_cons_succ]
      refine takeH (i := 3) [11] (v := ?_) rfl (by kernel_rfl) (fun _ _ _ h => h) (by rfl) ?_ (by assumption) ?_
      case refine_2 => (intro w' hSw; (try dsimp only at hSw); go_simp; first | done | with_reducible rfl)
      try simp only [Act.put, List.setIfInBounds_toArray, List.set_cons_zero, List.set_cons_succ]
      refine takeP (i := 4) (v := ?_) rfl (by kernel_rfl) (fun _ _ _ h => h) (by rfl) ?_ (by assumption) ?_
      case refine_2 => (intro w'; go_simp; first | done | with_reducible rfl)
      try simp only [Act.put, List.setIfInBounds_toArray, List.set_cons_zero, List.set_cons_succ]
      refine takeP (i := 5) (v := ?_) rfl (by kernel_rfl) (fun _ _ _ h => h) (by rfl) ?_ (by assumption) ?_
      case refine_2 => (intro w'; go_simp; first | done | with_reducible rfl)
      try simp only [Act.put, List.setIfInBounds_toArray, List.set_cons_zero, List.set_cons_succ]
      refine takeP (i := 6) (v := ?_) rfl (by kernel_rfl) (fun _ _ _ h => h) (by rfl) ?_ (by assumption) ?_
      case refine_2 => (intro w'; go_simp; first | done | with_reducible rfl)
      try simp only [Act.put, List.setIfInBounds_toArray, List.set_cons_zero, List.set_cons_succ]
      refine takeP (i := 7) (v := ?_) rfl (by kernel_rfl) (fun _ _ _ h => h) (by rfl) ?_ (by assumption) ?_
      case refine_2 => (intro w'; go_simp; first | done | with_reducible rfl)
      try simp only [Act.put, List.setIfInBounds_toArray, List.set_cons_zero, List.set_cons_succ]
      refine takeP (i := 8) (v := ?_) rfl (by kernel_rfl) (fun _ _ _ h => h) (by rfl) ?_ (by assumption) ?_
      case refine_2 => (intro w'; go_simp; first | done | with_reducible rfl)
      try simp only [Act.put, List.setIfInBounds_toArray, List.set_cons_zero, List.set_cons_succ]
      refine readyG (rs := [9]) (by kernel_rfl) (by simp) ?_
      refine AllG.cons rfl (fun K hK => ?_) AllG.nil
      go_simp
      have hlit := h8.lit [-1, (n : Int), 0, (n : Int) - 1] (by simp)
      have c2 := ((hlit.riiS (((List.sublist_append_left _ _).cons _)) hlS)).cell x (by rw [HA.out.len]; exact hxn)
      refine hK.out _ _ c2 (fun hHeld => ?_)
      clear hK K hlit c2
      try simp only [Act.put, List.setIfInBounds_toArray, List.set_cons_zero, List.set_cons_succ]
      refine readyG (rs := [10]) (by kernel_rfl) (by simp) ?_
      refine AllG.cons rfl (fun K hK => ?_) AllG.nil
      go_simp
      go_at_call 20
      refine (among_lit [-1, (n : Int), 0, (n : Int) - 1] w0 _ cv bs g _ _ hb h8 (by simp) (by omega)).mono ?_
      rintro e w8 ⟨zz, _, rfl, h9⟩
      have c3 := (h9.riiS (List.sublist_append_left _ _) hlS).cell x (by rw [HA.out.len]; exact hxn)
      refine hK.out _ _ c3 (fun hHeld => ?_)
      clear hK K h8
      try simp only [Act.put, List.setIfInBounds_toArray, List.set_cons_zero, List.set_cons_succ]
      refine takeP (i := 11) (v := ?_) rfl (by kernel_rfl) (fun _ _ _ h => h) (by rfl) ?_ (by assumption) ?_
      case refine_2 => (intro w'; go_simp; first | done | with_reducible rfl)
      try simp only [Act.put, List.setIfInBounds_toArray, List.set_cons_zero, List.set_cons_succ]
      obtain ⟨pp, ss, p0, p1, hS⟩ := h9
      have hS1 : St w0.heap.size w0 w8 (own2 v us A ++ (box 95 g [cv, .int .i64 pp, .int .u64 ss] :: L)) := hS.perm (by (try simp only [own2, List.cons_append, List.nil_append, List.append_nil]); classical exact List.perm_iff_count.2 (fun a => by simp only [List.cons_append, List.nil_append, List.append_nil, List.count_append, List.count_cons, List.count_nil] <;> omega))
      have hat := hS1.at_row hlS (j := x) (by rw [HA.out.len]; exact hxn)
      have u1 := hS1.unfrozen (x + 1) hat (j := y) (by rw [iv_len, HA.out.row x hxn]; exact hyn)
      have co1 := (hS1.rdI (x + 1) hat).cell y (by rw [HA.out.row x hxn]; exact hyn)
      refine readyG (rs := [12]) (by kernel_rfl) (by simp) ?_
      refine AllG.last rfl (by kernel_rfl) (fun K hK => ?_) AllG.nil
      go_simp
      refine hK.out _ _ ?_
      clear hK K
      try simp only [Act.put, List.setIfInBounds_toArray, List.set_cons_zero, List.set_cons_succ]
      refine doneG (by kernel_rfl) ?_ _
      refine NoPanic.normal ?_
      have hS9 := hS1.store (x + 1) hat (j := y) (by rw [iv_len, HA.out.row x hxn]; exact hyn) (.int .i64 zz)
      rw [iv_set, own2_set hlS (by rw [HA.out.len]; exact hxn)] at hS9
      have hS10 := hS9.perm (L' := box 95 g [cv, .int .i64 pp, .int .u64 ss] :: (own2 v us (A.set x ((xat A x).set y zz)) ++ L)) (by (try simp only [own2, List.cons_append, List.nil_append, List.append_nil]); classical exact List.perm_iff_count.2 (fun a => by simp only [List.cons_append, List.nil_append, List.append_nil, List.count_append, List.count_cons, List.count_nil] <;> omega))
      have HP := Lib.hid (And.intro p0 p1)
      clear hS hS1 hat hS9 c1 i1 j1 c3 u1 co1 p0 p1
      go_wp2_with fail
      go_ret
      exact ⟨v, us, _, rfl, (HA.out.sm n2).put (by rw [HA.out.len]; exact hxn) (by rw [List.length_set, HA.out.row x hxn]; exact n2), by rw [List.length_set]; exact hlS, pp, ss, HP.out.1, by have := HP.out.2; omega, hS10⟩
    · have f0 := eq_f e0
      by_cases e1 : q = 1
      · subst e1
        go_wp2_with fail
        refine (one_c w0 _ cv bs g _ _ 3 hb h5 (by omega)).mono ?_
        rintro e w6 ⟨b, rfl, h6⟩
        clear h5 q0 q1 e0 f0
        cases b
        · go_wp2_with fail
          refine (one_c w0 _ cv bs g _ _ 2 hb h6 (by omega)).mono ?_
          rintro e w7 ⟨b, rfl, h7⟩
          clear h6
          cases b
          · have h8 := h7.mono (show _ ≤ K + 300 by omega)
            clear h7
            go_wp2_with fail
            go_ret
            exact ⟨v, us, A, rfl, HA.out.sm n2, by rw [Hl.out, HA.out.len], h8⟩
          · have hlS : us.length = A.length := by rw [Hl.out, HA.out.len]
            have hsl := rslII_hi (h7.rd 0 (by rfl) : Rd w7 v us) (n - 1) (by rw [Hl.out]; omega)
            rw [show ((n - 1 : Nat) : Int) = (n : Int) - 1 by omega] at hsl
            obtain ⟨pp, ss, p0, p1, hS⟩ := h7
            have hS1 := hS.shrink 1 (e := 48) (v := v) (us := us) rfl (n - 1) (by rw [Hl.out]; omega)
            simp only [List.set_cons_succ, own2, List.cons_append, List.set_cons_zero] at hS1
            have hS2 := hS1.sub (L' := box 95 g [cv, .int .i64 pp, .int .u64 ss] :: (own2 (rsl v 0 (n - 1)) (us.take (n - 1)) (A.take (n - 1)) ++ L)) (((rowsI_take (n - 1)).append_right _).cons_cons _ |>.cons_cons _)
            have HP := Lib.hid (And.intro p0 p1)
            have HlS := Lib.hid hlS
            clear hS hS1 p0 p1 hlS
            go_wp2_with fail
            go_ret
            exact ⟨_, _, _, rfl, (HA.out.sm n2).take (n - 1), by rw [List.length_take, List.length_take, HlS.out], pp, ss, HP.out.1, by have := HP.out.2; omega, hS2⟩
        · go_wp2_with fail
          refine (pick_c w0 _ cv bs g _ _ n hb h6 (by omega)).mono ?_
          rintro e w7 ⟨x, x0, x1, rfl, h7⟩
          obtain ⟨x, rfl⟩ := Int.eq_ofNat_of_zero_le x0
          have hxn : x < n := by omega
          clear x0 x1 h6
          have hlS : us.length = A.length := by rw [Hl.out, HA.out.len]
          have hR := h7.riiS (List.sublist_append_left _ _) hlS
          have c1 := hR.cell x (by rw [HA.out.len]; exact hxn)
          have i1 := hR.ixe (x : Int) x rfl (by rw [HA.out.len]; exact hxn)
          have Hsl := Lib.hid (fun y (hy : y < n) => And.intro (rsl_hi (hR.row x (by rw [HA.out.len]; exact hxn)) y (by rw [HA.out.row x hxn]; omega)) (rsl_rd (hR.row x (by rw [HA.out.len]; exact hxn)) (Nat.zero_le y) (by rw [HA.out.row x hxn]; omega)).shq)
          have h8 := h7.drew
          clear hR h7
          go_wp2_with fail
          refine regionG (fun w' => w'.cell? (el v x) = some (vat us x)) 11 (by kernel_rfl) (cell_dr c1) (fun hHeld => ?_)
          refine takeP (i := 0) (v := ?_) rfl (by kernel_rfl) (fun _ _ _ h => h) (by rfl) ?_ (by assumption) ?_
          case refine_2 => (intro w'; go_simp; first | done | with_reducible rfl)
          try simp only [Act.put, List.setIfInBounds_toArray, List.set_cons_zero, List.set_cons_succ]
          refine takeP (i := 1) (v := ?_) rfl (by kernel_rfl) (fun _ _ _ h => h) (by rfl) ?_ (by assumption) ?_
          case refine_2 => (intro w'; go_simp; first | done | with_reducible rfl)
          try simp only [Act.put, List.setIfInBounds_toArray, List.set_cons_zero, List.set_cons_succ]
          refine takeP (i := 2) (v := ?_) rfl (by kernel_rfl) (fun _ _ _ h => h) (by rfl) ?_ (by assumption) ?_
          case refine_2 => (intro w'; go_simp; first | done | with_reducible rfl)
          try simp only [Act.put, List.setIfInBounds_toArray, List.set_cons_zero, List.set_cons_succ]
          refine takeP (i := 3) (v := ?_) rfl (by kernel_rfl) (fun _ _ _ h => h) (by rfl) ?_ (by assumption) ?_
          case refine_2 => (intro w'; go_simp; first | done | with_reducible rfl)
          try simp only [Act.put, List.setIfInBounds_toArray, List.set_cons_zero, List.set_cons_succ]
          refine takeP (i := 4) (v := ?_) rfl (by kernel_rfl) (fun _ _ _ h => h) (by rfl) ?_ (by assumption) ?_
          case refine_2 => (intro w'; go_simp; first | done | with_reducible rfl)
          try simp only [Act.put, List.setIfInBounds_toArray, List.set_cons_zero, List.set_cons_succ]
          refine takeH (i := 5) [9] (v := ?_) rfl (by kernel_rfl) (fun _ _ _ h => h) (by rfl) ?_ (by assumption) ?_
          case refine_2 => (intro w' hSw; (try dsimp only at hSw); go_simp; first | done | with_reducible rfl)
          try simp only [Act.put, List.setIfInBounds_toArray, List.set_cons_zero, List.set_cons_succ]
          refine takeP (i := 6) (v := ?_) rfl (by kernel_rfl) (fun _ _ _ h => h) (by rfl) ?_ (by assumption) ?_
          case refine_2 => (intro w'; go_simp; first | done | with_reducible rfl)
          try simp only [Act.put, List.setIfInBounds_toArray, List.set_cons_zero, List.set_cons_succ]
          refine takeP (i := 7) (v := ?_) rfl (by kernel_rfl) (fun _ _ _ h => h) (by rfl) ?_ (by assumption) ?_
          case refine_2 => (intro w'; go_simp; first | done | with_reducible rfl)
          try simp only [Act.put, List.setIfInBounds_toArray, List.set_cons_zero, List.set_cons_succ]
          refine readyG (rs := [8]) (by kernel_rfl) (by simp) ?_
          refine AllG.cons rfl (fun K hK => ?_) AllG.nil
          go_simp
          go_at_call 22
          refine (pick_c w0 _ cv bs g _ _ n hb h8 (by omega)).mono ?_
          rintro e w8 ⟨y, y0, y1, rfl, h9⟩
          obtain ⟨y, rfl⟩ := Int.eq_ofNat_of_zero_le y0
          have hyn : y < n := by omega
          have c3 := (h9.riiS (List.sublist_append_left _ _) hlS).cell x (by rw [HA.out.len]; exact hxn)
          obtain ⟨hsl, ra, rc, hre⟩ := Hsl.out y hyn
          rw [show (((xat A x).take y).drop 0).length = y by rw [List.drop_zero, List.length_take, HA.out.row x hxn]; omega] at hre
          clear Hsl
          rw [hre] at hsl
          refine hK.out _ _ c3 (fun hHeld => ?_)
          clear hK K h8 y0 y1
          try simp only [Act.put, List.setIfInBounds_toArray, List.set_cons_zero, List.set_cons_succ]
          refine takeP (i := 9) (v := ?_) rfl (by kernel_rfl) (fun _ _ _ h => h) (by rfl) ?_ (by assumption) ?_
          case refine_2 => (intro w'; go_simp; first | done | with_reducible rfl)
          try simp only [Act.put, List.setIfInBounds_toArray, List.set_cons_zero, List.set_cons_succ]
          refine takeP (i := 10) (v := ?_) rfl (by kernel_rfl) (fun _ _ _ h => h) (by rfl) ?_ (by assumption) ?_
          case refine_2 => (intro w'; go_simp; first | done | with_reducible rfl)
          try simp only [Act.put, List.setIfInBounds_toArray, List.set_cons_zero, List.set_cons_succ]
          obtain ⟨pp, ss, p0, p1, hS⟩ := h9
          have hS1 : St w0.heap.size w0 w8 (own2 v us A ++ (box 95 g [cv, .int .i64 pp, .int .u64 ss] :: L)) := hS.perm (by (try simp only [own2, List.cons_append, List.nil_append, List.append_nil]); classical exact List.perm_iff_count.2 (fun a => by simp only [List.cons_append, List.nil_append, List.append_nil, List.count_append, List.count_cons, List.count_nil] <;> omega))
          have hat := hS1.at_row hlS (j := x) (by rw [HA.out.len]; exact hxn)
          have u1 := hS1.unfrozen 0 rfl (j := x) (by rw [Hl.out]; exact hxn)
          have hS2 := hS1.shrink (x + 1) hat y (by rw [iv_len, HA.out.row x hxn]; omega)
          rw [show (iv (xat A x)).take y = iv ((xat A x).take y) by simp [iv], hre] at hS2
          have hS3 : St w0.heap.size w0 w8 (row 48 v us :: ((rowsI us A).set x (row 2 (.slice ra y rc) (iv ((xat A x).take y))) ++ (box 95 g [cv, .int .i64 pp, .int .u64 ss] :: L))) := by
            have e := hS2
            rw [own2, List.cons_append, List.set_cons_succ, List.set_append_left _ _ (by rw [rowsI_len hlS, HA.out.len]; exact hxn)] at e
            exact e
          rw [rowsI_put hlS (by rw [HA.out.len]; exact hxn)] at hS3
          have hS9 := hS3.store 0 rfl (j := x) (by rw [Hl.out]; exact hxn) (.slice ra y rc)
          simp only [List.set_cons_zero] at hS9
          have hS10 := hS9.perm (L' := box 95 g [cv, .int .i64 pp, .int .u64 ss] :: (own2 v (us.set x (.slice ra y rc)) (A.set x ((xat A x).take y)) ++ L)) (by (try simp only [own2, List.cons_append, List.nil_append, List.append_nil]); classical exact List.perm_iff_count.2 (fun a => by simp only [List.cons_append, List.nil_append, List.append_nil, List.count_append, List.count_cons, List.count_nil] <;> omega))
          refine readyG (rs := [11]) (by kernel_rfl) (by simp) ?_
          refine AllG.last rfl (by kernel_rfl) (fun K hK => ?_) AllG.nil
          go_simp
          refine hK.out _ _ ?_
          clear hK K
          try simp only [Act.put, List.setIfInBounds_toArray, List.set_cons_zero, List.set_cons_succ]
          refine doneG (by kernel_rfl) ?_ _
          refine NoPanic.normal ?_
          have HP := Lib.hid (And.intro p0 p1)
          have HlS := Lib.hid hlS
          clear hS hS1 hat hS9 hS2 hS3 c1 i1 c3 u1 p0 p1 hlS hsl
          go_wp2_with fail
          go_ret
          exact ⟨v, _, _, rfl, (HA.out.sm n2).put (by rw [HA.out.len]; exact hxn) (by rw [List.length_take, HA.out.row x hxn]; omega), by rw [List.length_set, List.length_set]; exact HlS.out, pp, ss, HP.out.1, by have := HP.out.2; omega, hS10⟩
      · have f1 := eq_f e1
        have h8 := h5.mono (show _ ≤ K + 300 by omega)
        clear h5
        go_wp2_with fail
        go_ret
        exact ⟨v, us, A, rfl, HA.out.sm n2, by rw [Hl.out, HA.out.len], h8⟩

end Go.Proofs.YtdgmaodnkbgolaaGreat
end
