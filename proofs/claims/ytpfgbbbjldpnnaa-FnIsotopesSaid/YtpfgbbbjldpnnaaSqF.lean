/- Walks: squares that the reference draws, whole or not. -/
import Derived.Test.YtpfgbbbjldpnnaaSqE
namespace Go.Proofs.Ytpfgbbbjldpnnaa
set_option linter.unusedSimpArgs false
set_option linter.unusedVariables false
open Go.RowKit
attribute [local go_sem ↓] Go.wp_at_zero Go.wp_at_succ

theorem Src.riiS {w0 w : World} {cv : Value} {g K : Nat} {L : List Ent} (h : Src w0 w cv g K L) {v : Value} {us : List Value} {A : List (List Int)} (hs : (own2 v us A).Sublist L) (hl : us.length = A.length) : RII w v us A := (h.st.sub hs).rii hl
/-- a row cut at place k -/
theorem St.shrink {B : Nat} {w0 w : World} {L : List Ent} (h : St B w0 w L) (i : Nat) {e : TypeId} {v : Value} {us : List Value} (hi : L[i]? = some (row e v us)) (k : Nat) (hk : k ≤ us.length) : St B w0 w (L.set i (row e (rsl v 0 k) (us.take k))) := by
  have hg : ∀ r, w.grownBy w r := fun r => ⟨rfl, rfl, rfl, Nat.le_refl _, fun _ _ _ => rfl⟩
  have hx := h.ok _ (List.mem_of_getElem? hi)
  rcases hx with ⟨hp, _⟩ | ⟨_, hv, hu⟩ | ⟨_, g, cap, cur, hv, hB, hh, h1, h2, h3, h4⟩
  · simp [row] at hp
  · simp only [row] at hv hu
    subst hv; subst hu
    have hk0 : k = 0 := by simpa using hk
    subst hk0
    exact h.put i hi (hg _) _ (.inr (.inl ⟨rfl, rfl, rfl⟩)) (.inl rfl)
  · simp only [row] at hv h1 h4 hh
    have e1 : rsl v 0 k = .slice (some ⟨g, 0, none⟩) k cap := by
      rw [hv]
      simp only [rsl, sliced, Nat.zero_mul, Nat.sub_zero, Option.map_some]
      rw [add_mk]; simp
    have hl : (us.take k).length = k := by rw [List.length_take]; omega
    rw [e1]
    refine h.put i hi (hg _) (row e (.slice (some ⟨g, 0, none⟩) k cap) (us.take k)) (.inr (.inr ⟨rfl, g, cap, cur, ?_, hB, hh, ?_, h2, h3, ?_⟩)) (.inl ?_)
    · simp only [row]; rw [hl]
    · simp only [row]; rw [hl]; omega
    · simp only [row]; rw [hl, ← h4, List.take_take, Nat.min_eq_left hk]
    · simp only [row]; rw [hv]; rfl
set_option maxHeartbeats 16000000 in
set_option maxRecDepth 100000 in
theorem l06DrawSquare_c (w0 w : World) (cv : Value) (bs : List UInt8) (g K : Nat) (L : List Ent) (n : Nat) (hb : RdB w0 cv bs) (h : Src w0 w cv g K L) (hK : K < 10000000000) (n1 : 1 ≤ n) (n2 : n ≤ 10) :
    Calls Try.prog 105 #[.pointer (some ⟨g, 0, none⟩), .int .i64 n] w (SqS w0 cv g (K + 200) n L) := by
  have C2 := fun W => Lib.hid (l06Cyclic_c 2 W (by omega))
  have C3 := fun W => Lib.hid (l06Cyclic_c 3 W (by omega))
  rw [show ((2 : Nat) : Int) = 2 from rfl] at C2
  rw [show ((3 : Nat) : Int) = 3 from rfl] at C3
  have h0 : ∃ t4 t6 t8 t9 : Bool, ((n : Int) == 4) = t4 ∧ ((n : Int) == 6) = t6 ∧ ((n : Int) == 8) = t8 ∧ ((n : Int) == 9) = t9 ∧ (t4 = true → n = 4) ∧ (t6 = true → n = 6) ∧ (t8 = true → n = 8) ∧ (t9 = true → n = 9) :=
    ⟨_, _, _, _, rfl, rfl, rfl, rfl, by simp; omega, by simp; omega, by simp; omega, by simp; omega⟩
  obtain ⟨t4, t6, t8, t9, f4, f6, f8, f9, g4, g6, g8, g9⟩ := h0
  have G4 := Lib.hid g4
  have G6 := Lib.hid g6
  have G8 := Lib.hid g8
  have G9 := Lib.hid g9
  clear g4 g6 g8 g9
  go_enter Try.func105, Try.ntmps105
  go_wp2_with fail
  refine (l06Cyclic_c n w (by omega)).mono ?_
  rintro e w1 ⟨v, us, A, rfl, hA, hl, h1⟩
  have h2 : Src w0 w1 cv g K (own2 v us A ++ L) := (h.call h1).perm List.perm_append_comm
  have HA := Lib.hid hA
  have Hl := Lib.hid hl
  clear h h1 hA hl
  have key : ∃ b : Bool, b = t4 := ⟨_, rfl⟩
  clear key
  cases t4
  · cases t6
    · cases t8
      · cases t9
        · have h5 := h2.mono (show K ≤ K + 4 by omega)
          clear h2
          go_wp2_with fail
          clear G4 G6 G8 G9 C2 C3
          refine (pick_c w0 _ cv bs g _ _ 4 hb h5 (by omega)).mono ?_
          rintro e wa ⟨kk, k0, k1, rfl, h6⟩
          obtain ⟨j, rfl⟩ := Int.eq_ofNat_of_zero_le k0
          have hj3 : j ≤ 3 := by omega
          clear k0 k1 h5
          go_wp2_with fail
          go_loopw [5, 6] (fun a kv wr => ∃ (j : Nat) (us : List Value) (A : List (List Int)), kv = .int .i64 j ∧ j ≤ 3 ∧ Hid (us.length = n) ∧ Hid (Sq0 n A) ∧ Src w0 wr cv g (K + 6 + 10 * (3 - j)) (own2 a us A ++ L)) (fun _ kv _ => (intOf kv).toNat)
          case atStart => exact ⟨j, _, _, rfl, hj3, Hl.out, HA.out, h6.mono (by omega)⟩
          case round =>
            clear h6 Hl HA hj3
            obtain ⟨j, us, A, rfl, hj3, Hl, HA, h6⟩ := hrel
            by_cases hj : 0 < j
            · go_wp2_with fail
              refine (l06Switch_c w0 _ cv bs g _ L n _ us A hb h6 Hl.out HA.out (by omega) n1 (by omega)).mono ?_
              rintro e wb ⟨vb, ub, Ab, rfl, hAb, hlb, h7⟩
              have HAb := Lib.hid hAb
              have Hlb := Lib.hid hlb
              clear hAb hlb
              go_wp2_with fail
              go_roundw
              case rel => exact ⟨j - 1, ub, Ab, by go_num, by omega, Hlb.out, HAb.out, h7.mono (by omega)⟩
              case measure => simp [intOf]; omega
            · obtain rfl : j = 0 := by omega
              go_wp2_with fail
              refine (l04DrawPerm_c w0 _ cv bs g _ _ n hb h6 (by omega) (by omega)).mono ?_
              rintro e wb ⟨rv, rs, rfl, rl, rp, h7⟩
              have Rl := Lib.hid rl
              have Rp := Lib.hid rp
              clear rl rp h6
              go_wp2_with fail
              refine (l04DrawPerm_c w0 _ cv bs g _ _ n hb h7 (by omega) (by omega)).mono ?_
              rintro e wc ⟨cv', cs, rfl, cl, cp, h8⟩
              have Cl := Lib.hid cl
              have Cp := Lib.hid cp
              clear cl cp h7
              go_wp2_with fail
              refine (l04DrawPerm_c w0 _ cv bs g _ _ n hb h8 (by omega) (by omega)).mono ?_
              rintro e wd ⟨sv, ss, rfl, sl, sp, h9⟩
              have Sl := Lib.hid sl
              have Sp := Lib.hid sp
              clear sl sp h8
              go_wp2_with fail
              refine (one_c w0 _ cv bs g _ _ 5 hb h9 (by omega)).mono ?_
              rintro e we ⟨b, rfl, h10⟩
              clear h9
              cases b
              · go_wp2_with fail
                refine (sIsotope_c _ rv cv' sv us A rs cs ss _ n (h10.riiS (((List.sublist_append_left _ _).cons _).cons _ |>.cons _) (by rw [Hl.out, HA.out.len])) (h10.rdI 2 rfl) (h10.rdI 1 rfl) (h10.rdI 0 rfl) HA.out Rp.out Cp.out Sp.out Rl.out Cl.out Sl.out (by omega)).mono ?_
                rintro e wf ⟨vz, uz, Az, rfl, hAz, hlz, h11⟩
                have h12 := h10.call h11
                have h13 := ((h12.perm List.perm_append_comm).sub (L' := own2 vz uz Az ++ L) (List.Sublist.append_left ((((List.sublist_append_right _ _).cons _).cons _).cons _) _)).mono (show _ ≤ K + 200 by omega)
                clear h10 h11 h12
                go_wp2_with fail
                go_ret
                exact ⟨vz, uz, Az, rfl, hAz, hlz, h13⟩
              · have h13 := (h10.sub (L' := own2 u5 us A ++ L) ((((List.Sublist.refl _).cons _).cons _).cons _)).mono (show _ ≤ K + 200 by omega)
                clear h10
                go_wp2_with fail
                go_ret
                exact ⟨_, us, A, rfl, HA.out, Hl.out, h13⟩
        · go_wp2_with fail
          refine (one_c w0 w1 cv bs g _ _ 2 hb h2 (by omega)).mono ?_
          rintro e w2 ⟨b, rfl, h3⟩
          clear h2
          cases b
          · have h5 := h3.mono (show K + 2 ≤ K + 4 by omega)
            clear h3
            go_wp2_with fail
            clear G4 G6 G8 G9 C2 C3
            refine (pick_c w0 _ cv bs g _ _ 4 hb h5 (by omega)).mono ?_
            rintro e wa ⟨kk, k0, k1, rfl, h6⟩
            obtain ⟨j, rfl⟩ := Int.eq_ofNat_of_zero_le k0
            have hj3 : j ≤ 3 := by omega
            clear k0 k1 h5
            go_wp2_with fail
            go_loopw [5, 6] (fun a kv wr => ∃ (j : Nat) (us : List Value) (A : List (List Int)), kv = .int .i64 j ∧ j ≤ 3 ∧ Hid (us.length = n) ∧ Hid (Sq0 n A) ∧ Src w0 wr cv g (K + 6 + 10 * (3 - j)) (own2 a us A ++ L)) (fun _ kv _ => (intOf kv).toNat)
            case atStart => exact ⟨j, _, _, rfl, hj3, Hl.out, HA.out, h6.mono (by omega)⟩
            case round =>
              clear h6 Hl HA hj3
              obtain ⟨j, us, A, rfl, hj3, Hl, HA, h6⟩ := hrel
              by_cases hj : 0 < j
              · go_wp2_with fail
                refine (l06Switch_c w0 _ cv bs g _ L n _ us A hb h6 Hl.out HA.out (by omega) n1 (by omega)).mono ?_
                rintro e wb ⟨vb, ub, Ab, rfl, hAb, hlb, h7⟩
                have HAb := Lib.hid hAb
                have Hlb := Lib.hid hlb
                clear hAb hlb
                go_wp2_with fail
                go_roundw
                case rel => exact ⟨j - 1, ub, Ab, by go_num, by omega, Hlb.out, HAb.out, h7.mono (by omega)⟩
                case measure => simp [intOf]; omega
              · obtain rfl : j = 0 := by omega
                go_wp2_with fail
                refine (l04DrawPerm_c w0 _ cv bs g _ _ n hb h6 (by omega) (by omega)).mono ?_
                rintro e wb ⟨rv, rs, rfl, rl, rp, h7⟩
                have Rl := Lib.hid rl
                have Rp := Lib.hid rp
                clear rl rp h6
                go_wp2_with fail
                refine (l04DrawPerm_c w0 _ cv bs g _ _ n hb h7 (by omega) (by omega)).mono ?_
                rintro e wc ⟨cv', cs, rfl, cl, cp, h8⟩
                have Cl := Lib.hid cl
                have Cp := Lib.hid cp
                clear cl cp h7
                go_wp2_with fail
                refine (l04DrawPerm_c w0 _ cv bs g _ _ n hb h8 (by omega) (by omega)).mono ?_
                rintro e wd ⟨sv, ss, rfl, sl, sp, h9⟩
                have Sl := Lib.hid sl
                have Sp := Lib.hid sp
                clear sl sp h8
                go_wp2_with fail
                refine (one_c w0 _ cv bs g _ _ 5 hb h9 (by omega)).mono ?_
                rintro e we ⟨b, rfl, h10⟩
                clear h9
                cases b
                · go_wp2_with fail
                  refine (sIsotope_c _ rv cv' sv us A rs cs ss _ n (h10.riiS (((List.sublist_append_left _ _).cons _).cons _ |>.cons _) (by rw [Hl.out, HA.out.len])) (h10.rdI 2 rfl) (h10.rdI 1 rfl) (h10.rdI 0 rfl) HA.out Rp.out Cp.out Sp.out Rl.out Cl.out Sl.out (by omega)).mono ?_
                  rintro e wf ⟨vz, uz, Az, rfl, hAz, hlz, h11⟩
                  have h12 := h10.call h11
                  have h13 := ((h12.perm List.perm_append_comm).sub (L' := own2 vz uz Az ++ L) (List.Sublist.append_left ((((List.sublist_append_right _ _).cons _).cons _).cons _) _)).mono (show _ ≤ K + 200 by omega)
                  clear h10 h11 h12
                  go_wp2_with fail
                  go_ret
                  exact ⟨vz, uz, Az, rfl, hAz, hlz, h13⟩
                · have h13 := (h10.sub (L' := own2 u5 us A ++ L) ((((List.Sublist.refl _).cons _).cons _).cons _)).mono (show _ ≤ K + 200 by omega)
                  clear h10
                  go_wp2_with fail
                  go_ret
                  exact ⟨_, us, A, rfl, HA.out, Hl.out, h13⟩
          · go_wp2_with fail
            refine (C3 _).out.mono ?_
            rintro e w3 ⟨v1, us1, A1, rfl, hA1, hl1, c1⟩
            have c2 := h3.call c1
            clear h3 c1
            have HA1 := Lib.hid hA1
            have Hl1 := Lib.hid hl1
            clear hA1 hl1
            go_wp2_with fail
            refine (C3 _).out.mono ?_
            rintro e w4 ⟨v2, us2, A2, rfl, hA2, hl2, c3⟩
            have c4 := c2.call c3
            clear c2 c3
            have HA2 := Lib.hid hA2
            have Hl2 := Lib.hid hl2
            clear hA2 hl2
            go_wp2_with fail
            refine (l06Product_c v1 v2 us1 us2 A1 A2 _ 3 3 (c4.riiS ((List.sublist_append_right _ _).trans (List.sublist_append_left _ _)) (by rw [Hl1.out, HA1.out.len])) (c4.riiS (List.sublist_append_right _ _) (by rw [Hl2.out, HA2.out.len])) HA1.out HA2.out (by omega) (by omega)).mono ?_
            rintro e w5 ⟨v3, us3, A3, rfl, hA3, hl3, c5⟩
            have c6 := c4.call c5
            rw [show 3 * 3 = n from (G9.out (by simp)).symm] at hA3 hl3
            have h5 := ((c6.perm (L' := (own2 v3 us3 A3 ++ L) ++ (own2 v us A ++ own2 v1 us1 A1 ++ own2 v2 us2 A2)) (by (try simp only [own2, List.cons_append, List.nil_append, List.append_nil]); classical exact List.perm_iff_count.2 (fun a => by simp only [List.cons_append, List.nil_append, List.append_nil, List.count_append, List.count_cons, List.count_nil] <;> omega))).sub (List.sublist_append_left _ _)).mono (show K + 2 ≤ K + 4 by omega)
            clear c4 c5 c6 HA Hl HA1 HA2 Hl1 Hl2
            have HA := Lib.hid hA3
            have Hl := Lib.hid hl3
            clear hA3 hl3
            go_wp2_with fail
            clear G4 G6 G8 G9 C2 C3
            refine (pick_c w0 _ cv bs g _ _ 4 hb h5 (by omega)).mono ?_
            rintro e wa ⟨kk, k0, k1, rfl, h6⟩
            obtain ⟨j, rfl⟩ := Int.eq_ofNat_of_zero_le k0
            have hj3 : j ≤ 3 := by omega
            clear k0 k1 h5
            go_wp2_with fail
            go_loopw [5, 6] (fun a kv wr => ∃ (j : Nat) (us : List Value) (A : List (List Int)), kv = .int .i64 j ∧ j ≤ 3 ∧ Hid (us.length = n) ∧ Hid (Sq0 n A) ∧ Src w0 wr cv g (K + 6 + 10 * (3 - j)) (own2 a us A ++ L)) (fun _ kv _ => (intOf kv).toNat)
            case atStart => exact ⟨j, _, _, rfl, hj3, Hl.out, HA.out, h6.mono (by omega)⟩
            case round =>
              clear h6 Hl HA hj3
              obtain ⟨j, us, A, rfl, hj3, Hl, HA, h6⟩ := hrel
              by_cases hj : 0 < j
              · go_wp2_with fail
                refine (l06Switch_c w0 _ cv bs g _ L n _ us A hb h6 Hl.out HA.out (by omega) n1 (by omega)).mono ?_
                rintro e wb ⟨vb, ub, Ab, rfl, hAb, hlb, h7⟩
                have HAb := Lib.hid hAb
                have Hlb := Lib.hid hlb
                clear hAb hlb
                go_wp2_with fail
                go_roundw
                case rel => exact ⟨j - 1, ub, Ab, by go_num, by omega, Hlb.out, HAb.out, h7.mono (by omega)⟩
                case measure => simp [intOf]; omega
              · obtain rfl : j = 0 := by omega
                go_wp2_with fail
                refine (l04DrawPerm_c w0 _ cv bs g _ _ n hb h6 (by omega) (by omega)).mono ?_
                rintro e wb ⟨rv, rs, rfl, rl, rp, h7⟩
                have Rl := Lib.hid rl
                have Rp := Lib.hid rp
                clear rl rp h6
                go_wp2_with fail
                refine (l04DrawPerm_c w0 _ cv bs g _ _ n hb h7 (by omega) (by omega)).mono ?_
                rintro e wc ⟨cv', cs, rfl, cl, cp, h8⟩
                have Cl := Lib.hid cl
                have Cp := Lib.hid cp
                clear cl cp h7
                go_wp2_with fail
                refine (l04DrawPerm_c w0 _ cv bs g _ _ n hb h8 (by omega) (by omega)).mono ?_
                rintro e wd ⟨sv, ss, rfl, sl, sp, h9⟩
                have Sl := Lib.hid sl
                have Sp := Lib.hid sp
                clear sl sp h8
                go_wp2_with fail
                refine (one_c w0 _ cv bs g _ _ 5 hb h9 (by omega)).mono ?_
                rintro e we ⟨b, rfl, h10⟩
                clear h9
                cases b
                · go_wp2_with fail
                  refine (sIsotope_c _ rv cv' sv us A rs cs ss _ n (h10.riiS (((List.sublist_append_left _ _).cons _).cons _ |>.cons _) (by rw [Hl.out, HA.out.len])) (h10.rdI 2 rfl) (h10.rdI 1 rfl) (h10.rdI 0 rfl) HA.out Rp.out Cp.out Sp.out Rl.out Cl.out Sl.out (by omega)).mono ?_
                  rintro e wf ⟨vz, uz, Az, rfl, hAz, hlz, h11⟩
                  have h12 := h10.call h11
                  have h13 := ((h12.perm List.perm_append_comm).sub (L' := own2 vz uz Az ++ L) (List.Sublist.append_left ((((List.sublist_append_right _ _).cons _).cons _).cons _) _)).mono (show _ ≤ K + 200 by omega)
                  clear h10 h11 h12
                  go_wp2_with fail
                  go_ret
                  exact ⟨vz, uz, Az, rfl, hAz, hlz, h13⟩
                · have h13 := (h10.sub (L' := own2 u5 us A ++ L) ((((List.Sublist.refl _).cons _).cons _).cons _)).mono (show _ ≤ K + 200 by omega)
                  clear h10
                  go_wp2_with fail
                  go_ret
                  exact ⟨_, us, A, rfl, HA.out, Hl.out, h13⟩
      · go_wp2_with fail
        refine (one_c w0 w1 cv bs g _ _ 2 hb h2 (by omega)).mono ?_
        rintro e w2 ⟨b, rfl, h3⟩
        clear h2
        cases b
        · have h5 := h3.mono (show K + 2 ≤ K + 4 by omega)
          clear h3
          go_wp2_with fail
          clear G4 G6 G8 G9 C2 C3
          refine (pick_c w0 _ cv bs g _ _ 4 hb h5 (by omega)).mono ?_
          rintro e wa ⟨kk, k0, k1, rfl, h6⟩
          obtain ⟨j, rfl⟩ := Int.eq_ofNat_of_zero_le k0
          have hj3 : j ≤ 3 := by omega
          clear k0 k1 h5
          go_wp2_with fail
          go_loopw [5, 6] (fun a kv wr => ∃ (j : Nat) (us : List Value) (A : List (List Int)), kv = .int .i64 j ∧ j ≤ 3 ∧ Hid (us.length = n) ∧ Hid (Sq0 n A) ∧ Src w0 wr cv g (K + 6 + 10 * (3 - j)) (own2 a us A ++ L)) (fun _ kv _ => (intOf kv).toNat)
          case atStart => exact ⟨j, _, _, rfl, hj3, Hl.out, HA.out, h6.mono (by omega)⟩
          case round =>
            clear h6 Hl HA hj3
            obtain ⟨j, us, A, rfl, hj3, Hl, HA, h6⟩ := hrel
            by_cases hj : 0 < j
            · go_wp2_with fail
              refine (l06Switch_c w0 _ cv bs g _ L n _ us A hb h6 Hl.out HA.out (by omega) n1 (by omega)).mono ?_
              rintro e wb ⟨vb, ub, Ab, rfl, hAb, hlb, h7⟩
              have HAb := Lib.hid hAb
              have Hlb := Lib.hid hlb
              clear hAb hlb
              go_wp2_with fail
              go_roundw
              case rel => exact ⟨j - 1, ub, Ab, by go_num, by omega, Hlb.out, HAb.out, h7.mono (by omega)⟩
              case measure => simp [intOf]; omega
            · obtain rfl : j = 0 := by omega
              go_wp2_with fail
              refine (l04DrawPerm_c w0 _ cv bs g _ _ n hb h6 (by omega) (by omega)).mono ?_
              rintro e wb ⟨rv, rs, rfl, rl, rp, h7⟩
              have Rl := Lib.hid rl
              have Rp := Lib.hid rp
              clear rl rp h6
              go_wp2_with fail
              refine (l04DrawPerm_c w0 _ cv bs g _ _ n hb h7 (by omega) (by omega)).mono ?_
              rintro e wc ⟨cv', cs, rfl, cl, cp, h8⟩
              have Cl := Lib.hid cl
              have Cp := Lib.hid cp
              clear cl cp h7
              go_wp2_with fail
              refine (l04DrawPerm_c w0 _ cv bs g _ _ n hb h8 (by omega) (by omega)).mono ?_
              rintro e wd ⟨sv, ss, rfl, sl, sp, h9⟩
              have Sl := Lib.hid sl
              have Sp := Lib.hid sp
              clear sl sp h8
              go_wp2_with fail
              refine (one_c w0 _ cv bs g _ _ 5 hb h9 (by omega)).mono ?_
              rintro e we ⟨b, rfl, h10⟩
              clear h9
              cases b
              · go_wp2_with fail
                refine (sIsotope_c _ rv cv' sv us A rs cs ss _ n (h10.riiS (((List.sublist_append_left _ _).cons _).cons _ |>.cons _) (by rw [Hl.out, HA.out.len])) (h10.rdI 2 rfl) (h10.rdI 1 rfl) (h10.rdI 0 rfl) HA.out Rp.out Cp.out Sp.out Rl.out Cl.out Sl.out (by omega)).mono ?_
                rintro e wf ⟨vz, uz, Az, rfl, hAz, hlz, h11⟩
                have h12 := h10.call h11
                have h13 := ((h12.perm List.perm_append_comm).sub (L' := own2 vz uz Az ++ L) (List.Sublist.append_left ((((List.sublist_append_right _ _).cons _).cons _).cons _) _)).mono (show _ ≤ K + 200 by omega)
                clear h10 h11 h12
                go_wp2_with fail
                go_ret
                exact ⟨vz, uz, Az, rfl, hAz, hlz, h13⟩
              · have h13 := (h10.sub (L' := own2 u5 us A ++ L) ((((List.Sublist.refl _).cons _).cons _).cons _)).mono (show _ ≤ K + 200 by omega)
                clear h10
                go_wp2_with fail
                go_ret
                exact ⟨_, us, A, rfl, HA.out, Hl.out, h13⟩
        · go_wp2_with fail
          refine (C2 _).out.mono ?_
          rintro e w3 ⟨v1, us1, A1, rfl, hA1, hl1, c1⟩
          have c2 := h3.call c1
          clear h3 c1
          have HA1 := Lib.hid hA1
          have Hl1 := Lib.hid hl1
          clear hA1 hl1
          go_wp2_with fail
          refine (C2 _).out.mono ?_
          rintro e w4 ⟨v2, us2, A2, rfl, hA2, hl2, c3⟩
          have c4 := c2.call c3
          clear c2 c3
          have HA2 := Lib.hid hA2
          have Hl2 := Lib.hid hl2
          clear hA2 hl2
          go_wp2_with fail
          refine (l06Product_c v1 v2 us1 us2 A1 A2 _ 2 2 (c4.riiS ((List.sublist_append_right _ _).trans (List.sublist_append_left _ _)) (by rw [Hl1.out, HA1.out.len])) (c4.riiS (List.sublist_append_right _ _) (by rw [Hl2.out, HA2.out.len])) HA1.out HA2.out (by omega) (by omega)).mono ?_
          rintro e w5 ⟨v3, us3, A3, rfl, hA3, hl3, c5⟩
          have c6 := c4.call c5
          clear c4 c5
          have HA3 := Lib.hid hA3
          have Hl3 := Lib.hid hl3
          clear hA3 hl3
          go_wp2_with fail
          refine (C2 _).out.mono ?_
          rintro e w6 ⟨v4, us4, A4, rfl, hA4, hl4, c7⟩
          have c8 := c6.call c7
          clear c6 c7
          have HA4 := Lib.hid hA4
          have Hl4 := Lib.hid hl4
          clear hA4 hl4
          go_wp2_with fail
          refine (l06Product_c v3 v4 us3 us4 A3 A4 _ (2 * 2) 2 (c8.riiS ((List.sublist_append_right _ _).trans (List.sublist_append_left _ _)) (by rw [Hl3.out, HA3.out.len])) (c8.riiS (List.sublist_append_right _ _) (by rw [Hl4.out, HA4.out.len])) HA3.out HA4.out (by omega) (by omega)).mono ?_
          rintro e w7 ⟨v5, us5, A5, rfl, hA5, hl5, c9⟩
          have c10 := c8.call c9
          rw [show 2 * 2 * 2 = n from (G8.out (by simp)).symm] at hA5 hl5
          have h5 := ((c10.perm (L' := (own2 v5 us5 A5 ++ L) ++ (own2 v us A ++ own2 v1 us1 A1 ++ own2 v2 us2 A2 ++ own2 v3 us3 A3 ++ own2 v4 us4 A4)) (by (try simp only [own2, List.cons_append, List.nil_append, List.append_nil]); classical exact List.perm_iff_count.2 (fun a => by simp only [List.cons_append, List.nil_append, List.append_nil, List.count_append, List.count_cons, List.count_nil] <;> omega))).sub (List.sublist_append_left _ _)).mono (show K + 2 ≤ K + 4 by omega)
          clear c8 c9 c10 HA Hl HA1 HA2 Hl1 Hl2 HA3 HA4 Hl3 Hl4
          have HA := Lib.hid hA5
          have Hl := Lib.hid hl5
          clear hA5 hl5
          go_wp2_with fail
          clear G4 G6 G8 G9 C2 C3
          refine (pick_c w0 _ cv bs g _ _ 4 hb h5 (by omega)).mono ?_
          rintro e wa ⟨kk, k0, k1, rfl, h6⟩
          obtain ⟨j, rfl⟩ := Int.eq_ofNat_of_zero_le k0
          have hj3 : j ≤ 3 := by omega
          clear k0 k1 h5
          go_wp2_with fail
          go_loopw [5, 6] (fun a kv wr => ∃ (j : Nat) (us : List Value) (A : List (List Int)), kv = .int .i64 j ∧ j ≤ 3 ∧ Hid (us.length = n) ∧ Hid (Sq0 n A) ∧ Src w0 wr cv g (K + 6 + 10 * (3 - j)) (own2 a us A ++ L)) (fun _ kv _ => (intOf kv).toNat)
          case atStart => exact ⟨j, _, _, rfl, hj3, Hl.out, HA.out, h6.mono (by omega)⟩
          case round =>
            clear h6 Hl HA hj3
            obtain ⟨j, us, A, rfl, hj3, Hl, HA, h6⟩ := hrel
            by_cases hj : 0 < j
            · go_wp2_with fail
              refine (l06Switch_c w0 _ cv bs g _ L n _ us A hb h6 Hl.out HA.out (by omega) n1 (by omega)).mono ?_
              rintro e wb ⟨vb, ub, Ab, rfl, hAb, hlb, h7⟩
              have HAb := Lib.hid hAb
              have Hlb := Lib.hid hlb
              clear hAb hlb
              go_wp2_with fail
              go_roundw
              case rel => exact ⟨j - 1, ub, Ab, by go_num, by omega, Hlb.out, HAb.out, h7.mono (by omega)⟩
              case measure => simp [intOf]; omega
            · obtain rfl : j = 0 := by omega
              go_wp2_with fail
              refine (l04DrawPerm_c w0 _ cv bs g _ _ n hb h6 (by omega) (by omega)).mono ?_
              rintro e wb ⟨rv, rs, rfl, rl, rp, h7⟩
              have Rl := Lib.hid rl
              have Rp := Lib.hid rp
              clear rl rp h6
              go_wp2_with fail
              refine (l04DrawPerm_c w0 _ cv bs g _ _ n hb h7 (by omega) (by omega)).mono ?_
              rintro e wc ⟨cv', cs, rfl, cl, cp, h8⟩
              have Cl := Lib.hid cl
              have Cp := Lib.hid cp
              clear cl cp h7
              go_wp2_with fail
              refine (l04DrawPerm_c w0 _ cv bs g _ _ n hb h8 (by omega) (by omega)).mono ?_
              rintro e wd ⟨sv, ss, rfl, sl, sp, h9⟩
              have Sl := Lib.hid sl
              have Sp := Lib.hid sp
              clear sl sp h8
              go_wp2_with fail
              refine (one_c w0 _ cv bs g _ _ 5 hb h9 (by omega)).mono ?_
              rintro e we ⟨b, rfl, h10⟩
              clear h9
              cases b
              · go_wp2_with fail
                refine (sIsotope_c _ rv cv' sv us A rs cs ss _ n (h10.riiS (((List.sublist_append_left _ _).cons _).cons _ |>.cons _) (by rw [Hl.out, HA.out.len])) (h10.rdI 2 rfl) (h10.rdI 1 rfl) (h10.rdI 0 rfl) HA.out Rp.out Cp.out Sp.out Rl.out Cl.out Sl.out (by omega)).mono ?_
                rintro e wf ⟨vz, uz, Az, rfl, hAz, hlz, h11⟩
                have h12 := h10.call h11
                have h13 := ((h12.perm List.perm_append_comm).sub (L' := own2 vz uz Az ++ L) (List.Sublist.append_left ((((List.sublist_append_right _ _).cons _).cons _).cons _) _)).mono (show _ ≤ K + 200 by omega)
                clear h10 h11 h12
                go_wp2_with fail
                go_ret
                exact ⟨vz, uz, Az, rfl, hAz, hlz, h13⟩
              · have h13 := (h10.sub (L' := own2 u5 us A ++ L) ((((List.Sublist.refl _).cons _).cons _).cons _)).mono (show _ ≤ K + 200 by omega)
                clear h10
                go_wp2_with fail
                go_ret
                exact ⟨_, us, A, rfl, HA.out, Hl.out, h13⟩
    · go_wp2_with fail
      refine (one_c w0 w1 cv bs g _ _ 2 hb h2 (by omega)).mono ?_
      rintro e w2 ⟨b, rfl, h3⟩
      clear h2
      cases b
      · have h5 := h3.mono (show K + 2 ≤ K + 4 by omega)
        clear h3
        go_wp2_with fail
        clear G4 G6 G8 G9 C2 C3
        refine (pick_c w0 _ cv bs g _ _ 4 hb h5 (by omega)).mono ?_
        rintro e wa ⟨kk, k0, k1, rfl, h6⟩
        obtain ⟨j, rfl⟩ := Int.eq_ofNat_of_zero_le k0
        have hj3 : j ≤ 3 := by omega
        clear k0 k1 h5
        go_wp2_with fail
        go_loopw [5, 6] (fun a kv wr => ∃ (j : Nat) (us : List Value) (A : List (List Int)), kv = .int .i64 j ∧ j ≤ 3 ∧ Hid (us.length = n) ∧ Hid (Sq0 n A) ∧ Src w0 wr cv g (K + 6 + 10 * (3 - j)) (own2 a us A ++ L)) (fun _ kv _ => (intOf kv).toNat)
        case atStart => exact ⟨j, _, _, rfl, hj3, Hl.out, HA.out, h6.mono (by omega)⟩
        case round =>
          clear h6 Hl HA hj3
          obtain ⟨j, us, A, rfl, hj3, Hl, HA, h6⟩ := hrel
          by_cases hj : 0 < j
          · go_wp2_with fail
            refine (l06Switch_c w0 _ cv bs g _ L n _ us A hb h6 Hl.out HA.out (by omega) n1 (by omega)).mono ?_
            rintro e wb ⟨vb, ub, Ab, rfl, hAb, hlb, h7⟩
            have HAb := Lib.hid hAb
            have Hlb := Lib.hid hlb
            clear hAb hlb
            go_wp2_with fail
            go_roundw
            case rel => exact ⟨j - 1, ub, Ab, by go_num, by omega, Hlb.out, HAb.out, h7.mono (by omega)⟩
            case measure => simp [intOf]; omega
          · obtain rfl : j = 0 := by omega
            go_wp2_with fail
            refine (l04DrawPerm_c w0 _ cv bs g _ _ n hb h6 (by omega) (by omega)).mono ?_
            rintro e wb ⟨rv, rs, rfl, rl, rp, h7⟩
            have Rl := Lib.hid rl
            have Rp := Lib.hid rp
            clear rl rp h6
            go_wp2_with fail
            refine (l04DrawPerm_c w0 _ cv bs g _ _ n hb h7 (by omega) (by omega)).mono ?_
            rintro e wc ⟨cv', cs, rfl, cl, cp, h8⟩
            have Cl := Lib.hid cl
            have Cp := Lib.hid cp
            clear cl cp h7
            go_wp2_with fail
            refine (l04DrawPerm_c w0 _ cv bs g _ _ n hb h8 (by omega) (by omega)).mono ?_
            rintro e wd ⟨sv, ss, rfl, sl, sp, h9⟩
            have Sl := Lib.hid sl
            have Sp := Lib.hid sp
            clear sl sp h8
            go_wp2_with fail
            refine (one_c w0 _ cv bs g _ _ 5 hb h9 (by omega)).mono ?_
            rintro e we ⟨b, rfl, h10⟩
            clear h9
            cases b
            · go_wp2_with fail
              refine (sIsotope_c _ rv cv' sv us A rs cs ss _ n (h10.riiS (((List.sublist_append_left _ _).cons _).cons _ |>.cons _) (by rw [Hl.out, HA.out.len])) (h10.rdI 2 rfl) (h10.rdI 1 rfl) (h10.rdI 0 rfl) HA.out Rp.out Cp.out Sp.out Rl.out Cl.out Sl.out (by omega)).mono ?_
              rintro e wf ⟨vz, uz, Az, rfl, hAz, hlz, h11⟩
              have h12 := h10.call h11
              have h13 := ((h12.perm List.perm_append_comm).sub (L' := own2 vz uz Az ++ L) (List.Sublist.append_left ((((List.sublist_append_right _ _).cons _).cons _).cons _) _)).mono (show _ ≤ K + 200 by omega)
              clear h10 h11 h12
              go_wp2_with fail
              go_ret
              exact ⟨vz, uz, Az, rfl, hAz, hlz, h13⟩
            · have h13 := (h10.sub (L' := own2 u5 us A ++ L) ((((List.Sublist.refl _).cons _).cons _).cons _)).mono (show _ ≤ K + 200 by omega)
              clear h10
              go_wp2_with fail
              go_ret
              exact ⟨_, us, A, rfl, HA.out, Hl.out, h13⟩
      · go_wp2_with fail
        refine (C3 _).out.mono ?_
        rintro e w3 ⟨v1, us1, A1, rfl, hA1, hl1, c1⟩
        have c2 := h3.call c1
        clear h3 c1
        have HA1 := Lib.hid hA1
        have Hl1 := Lib.hid hl1
        clear hA1 hl1
        go_wp2_with fail
        refine (C2 _).out.mono ?_
        rintro e w4 ⟨v2, us2, A2, rfl, hA2, hl2, c3⟩
        have c4 := c2.call c3
        clear c2 c3
        have HA2 := Lib.hid hA2
        have Hl2 := Lib.hid hl2
        clear hA2 hl2
        go_wp2_with fail
        refine (l06Product_c v1 v2 us1 us2 A1 A2 _ 3 2 (c4.riiS ((List.sublist_append_right _ _).trans (List.sublist_append_left _ _)) (by rw [Hl1.out, HA1.out.len])) (c4.riiS (List.sublist_append_right _ _) (by rw [Hl2.out, HA2.out.len])) HA1.out HA2.out (by omega) (by omega)).mono ?_
        rintro e w5 ⟨v3, us3, A3, rfl, hA3, hl3, c5⟩
        have c6 := c4.call c5
        rw [show 3 * 2 = n from (G6.out (by simp)).symm] at hA3 hl3
        have h5 := ((c6.perm (L' := (own2 v3 us3 A3 ++ L) ++ (own2 v us A ++ own2 v1 us1 A1 ++ own2 v2 us2 A2)) (by (try simp only [own2, List.cons_append, List.nil_append, List.append_nil]); classical exact List.perm_iff_count.2 (fun a => by simp only [List.cons_append, List.nil_append, List.append_nil, List.count_append, List.count_cons, List.count_nil] <;> omega))).sub (List.sublist_append_left _ _)).mono (show K + 2 ≤ K + 4 by omega)
        clear c4 c5 c6 HA Hl HA1 HA2 Hl1 Hl2
        have HA := Lib.hid hA3
        have Hl := Lib.hid hl3
        clear hA3 hl3
        go_wp2_with fail
        clear G4 G6 G8 G9 C2 C3
        refine (pick_c w0 _ cv bs g _ _ 4 hb h5 (by omega)).mono ?_
        rintro e wa ⟨kk, k0, k1, rfl, h6⟩
        obtain ⟨j, rfl⟩ := Int.eq_ofNat_of_zero_le k0
        have hj3 : j ≤ 3 := by omega
        clear k0 k1 h5
        go_wp2_with fail
        go_loopw [5, 6] (fun a kv wr => ∃ (j : Nat) (us : List Value) (A : List (List Int)), kv = .int .i64 j ∧ j ≤ 3 ∧ Hid (us.length = n) ∧ Hid (Sq0 n A) ∧ Src w0 wr cv g (K + 6 + 10 * (3 - j)) (own2 a us A ++ L)) (fun _ kv _ => (intOf kv).toNat)
        case atStart => exact ⟨j, _, _, rfl, hj3, Hl.out, HA.out, h6.mono (by omega)⟩
        case round =>
          clear h6 Hl HA hj3
          obtain ⟨j, us, A, rfl, hj3, Hl, HA, h6⟩ := hrel
          by_cases hj : 0 < j
          · go_wp2_with fail
            refine (l06Switch_c w0 _ cv bs g _ L n _ us A hb h6 Hl.out HA.out (by omega) n1 (by omega)).mono ?_
            rintro e wb ⟨vb, ub, Ab, rfl, hAb, hlb, h7⟩
            have HAb := Lib.hid hAb
            have Hlb := Lib.hid hlb
            clear hAb hlb
            go_wp2_with fail
            go_roundw
            case rel => exact ⟨j - 1, ub, Ab, by go_num, by omega, Hlb.out, HAb.out, h7.mono (by omega)⟩
            case measure => simp [intOf]; omega
          · obtain rfl : j = 0 := by omega
            go_wp2_with fail
            refine (l04DrawPerm_c w0 _ cv bs g _ _ n hb h6 (by omega) (by omega)).mono ?_
            rintro e wb ⟨rv, rs, rfl, rl, rp, h7⟩
            have Rl := Lib.hid rl
            have Rp := Lib.hid rp
            clear rl rp h6
            go_wp2_with fail
            refine (l04DrawPerm_c w0 _ cv bs g _ _ n hb h7 (by omega) (by omega)).mono ?_
            rintro e wc ⟨cv', cs, rfl, cl, cp, h8⟩
            have Cl := Lib.hid cl
            have Cp := Lib.hid cp
            clear cl cp h7
            go_wp2_with fail
            refine (l04DrawPerm_c w0 _ cv bs g _ _ n hb h8 (by omega) (by omega)).mono ?_
            rintro e wd ⟨sv, ss, rfl, sl, sp, h9⟩
            have Sl := Lib.hid sl
            have Sp := Lib.hid sp
            clear sl sp h8
            go_wp2_with fail
            refine (one_c w0 _ cv bs g _ _ 5 hb h9 (by omega)).mono ?_
            rintro e we ⟨b, rfl, h10⟩
            clear h9
            cases b
            · go_wp2_with fail
              refine (sIsotope_c _ rv cv' sv us A rs cs ss _ n (h10.riiS (((List.sublist_append_left _ _).cons _).cons _ |>.cons _) (by rw [Hl.out, HA.out.len])) (h10.rdI 2 rfl) (h10.rdI 1 rfl) (h10.rdI 0 rfl) HA.out Rp.out Cp.out Sp.out Rl.out Cl.out Sl.out (by omega)).mono ?_
              rintro e wf ⟨vz, uz, Az, rfl, hAz, hlz, h11⟩
              have h12 := h10.call h11
              have h13 := ((h12.perm List.perm_append_comm).sub (L' := own2 vz uz Az ++ L) (List.Sublist.append_left ((((List.sublist_append_right _ _).cons _).cons _).cons _) _)).mono (show _ ≤ K + 200 by omega)
              clear h10 h11 h12
              go_wp2_with fail
              go_ret
              exact ⟨vz, uz, Az, rfl, hAz, hlz, h13⟩
            · have h13 := (h10.sub (L' := own2 u5 us A ++ L) ((((List.Sublist.refl _).cons _).cons _).cons _)).mono (show _ ≤ K + 200 by omega)
              clear h10
              go_wp2_with fail
              go_ret
              exact ⟨_, us, A, rfl, HA.out, Hl.out, h13⟩
  · go_wp2_with fail
    refine (one_c w0 w1 cv bs g _ _ 2 hb h2 (by omega)).mono ?_
    rintro e w2 ⟨b, rfl, h3⟩
    clear h2
    cases b
    · have h5 := h3.mono (show K + 2 ≤ K + 4 by omega)
      clear h3
      go_wp2_with fail
      clear G4 G6 G8 G9 C2 C3
      refine (pick_c w0 _ cv bs g _ _ 4 hb h5 (by omega)).mono ?_
      rintro e wa ⟨kk, k0, k1, rfl, h6⟩
      obtain ⟨j, rfl⟩ := Int.eq_ofNat_of_zero_le k0
      have hj3 : j ≤ 3 := by omega
      clear k0 k1 h5
      go_wp2_with fail
      go_loopw [5, 6] (fun a kv wr => ∃ (j : Nat) (us : List Value) (A : List (List Int)), kv = .int .i64 j ∧ j ≤ 3 ∧ Hid (us.length = n) ∧ Hid (Sq0 n A) ∧ Src w0 wr cv g (K + 6 + 10 * (3 - j)) (own2 a us A ++ L)) (fun _ kv _ => (intOf kv).toNat)
      case atStart => exact ⟨j, _, _, rfl, hj3, Hl.out, HA.out, h6.mono (by omega)⟩
      case round =>
        clear h6 Hl HA hj3
        obtain ⟨j, us, A, rfl, hj3, Hl, HA, h6⟩ := hrel
        by_cases hj : 0 < j
        · go_wp2_with fail
          refine (l06Switch_c w0 _ cv bs g _ L n _ us A hb h6 Hl.out HA.out (by omega) n1 (by omega)).mono ?_
          rintro e wb ⟨vb, ub, Ab, rfl, hAb, hlb, h7⟩
          have HAb := Lib.hid hAb
          have Hlb := Lib.hid hlb
          clear hAb hlb
          go_wp2_with fail
          go_roundw
          case rel => exact ⟨j - 1, ub, Ab, by go_num, by omega, Hlb.out, HAb.out, h7.mono (by omega)⟩
          case measure => simp [intOf]; omega
        · obtain rfl : j = 0 := by omega
          go_wp2_with fail
          refine (l04DrawPerm_c w0 _ cv bs g _ _ n hb h6 (by omega) (by omega)).mono ?_
          rintro e wb ⟨rv, rs, rfl, rl, rp, h7⟩
          have Rl := Lib.hid rl
          have Rp := Lib.hid rp
          clear rl rp h6
          go_wp2_with fail
          refine (l04DrawPerm_c w0 _ cv bs g _ _ n hb h7 (by omega) (by omega)).mono ?_
          rintro e wc ⟨cv', cs, rfl, cl, cp, h8⟩
          have Cl := Lib.hid cl
          have Cp := Lib.hid cp
          clear cl cp h7
          go_wp2_with fail
          refine (l04DrawPerm_c w0 _ cv bs g _ _ n hb h8 (by omega) (by omega)).mono ?_
          rintro e wd ⟨sv, ss, rfl, sl, sp, h9⟩
          have Sl := Lib.hid sl
          have Sp := Lib.hid sp
          clear sl sp h8
          go_wp2_with fail
          refine (one_c w0 _ cv bs g _ _ 5 hb h9 (by omega)).mono ?_
          rintro e we ⟨b, rfl, h10⟩
          clear h9
          cases b
          · go_wp2_with fail
            refine (sIsotope_c _ rv cv' sv us A rs cs ss _ n (h10.riiS (((List.sublist_append_left _ _).cons _).cons _ |>.cons _) (by rw [Hl.out, HA.out.len])) (h10.rdI 2 rfl) (h10.rdI 1 rfl) (h10.rdI 0 rfl) HA.out Rp.out Cp.out Sp.out Rl.out Cl.out Sl.out (by omega)).mono ?_
            rintro e wf ⟨vz, uz, Az, rfl, hAz, hlz, h11⟩
            have h12 := h10.call h11
            have h13 := ((h12.perm List.perm_append_comm).sub (L' := own2 vz uz Az ++ L) (List.Sublist.append_left ((((List.sublist_append_right _ _).cons _).cons _).cons _) _)).mono (show _ ≤ K + 200 by omega)
            clear h10 h11 h12
            go_wp2_with fail
            go_ret
            exact ⟨vz, uz, Az, rfl, hAz, hlz, h13⟩
          · have h13 := (h10.sub (L' := own2 u5 us A ++ L) ((((List.Sublist.refl _).cons _).cons _).cons _)).mono (show _ ≤ K + 200 by omega)
            clear h10
            go_wp2_with fail
            go_ret
            exact ⟨_, us, A, rfl, HA.out, Hl.out, h13⟩
    · go_wp2_with fail
      refine (C2 _).out.mono ?_
      rintro e w3 ⟨v1, us1, A1, rfl, hA1, hl1, c1⟩
      have c2 := h3.call c1
      clear h3 c1
      have HA1 := Lib.hid hA1
      have Hl1 := Lib.hid hl1
      clear hA1 hl1
      go_wp2_with fail
      refine (C2 _).out.mono ?_
      rintro e w4 ⟨v2, us2, A2, rfl, hA2, hl2, c3⟩
      have c4 := c2.call c3
      clear c2 c3
      have HA2 := Lib.hid hA2
      have Hl2 := Lib.hid hl2
      clear hA2 hl2
      go_wp2_with fail
      refine (l06Product_c v1 v2 us1 us2 A1 A2 _ 2 2 (c4.riiS ((List.sublist_append_right _ _).trans (List.sublist_append_left _ _)) (by rw [Hl1.out, HA1.out.len])) (c4.riiS (List.sublist_append_right _ _) (by rw [Hl2.out, HA2.out.len])) HA1.out HA2.out (by omega) (by omega)).mono ?_
      rintro e w5 ⟨v3, us3, A3, rfl, hA3, hl3, c5⟩
      have c6 := c4.call c5
      rw [show 2 * 2 = n from (G4.out (by simp)).symm] at hA3 hl3
      have h5 := ((c6.perm (L' := (own2 v3 us3 A3 ++ L) ++ (own2 v us A ++ own2 v1 us1 A1 ++ own2 v2 us2 A2)) (by (try simp only [own2, List.cons_append, List.nil_append, List.append_nil]); classical exact List.perm_iff_count.2 (fun a => by simp only [List.cons_append, List.nil_append, List.append_nil, List.count_append, List.count_cons, List.count_nil] <;> omega))).sub (List.sublist_append_left _ _)).mono (show K + 2 ≤ K + 4 by omega)
      clear c4 c5 c6 HA Hl HA1 HA2 Hl1 Hl2
      have HA := Lib.hid hA3
      have Hl := Lib.hid hl3
      clear hA3 hl3
      go_wp2_with fail
      clear G4 G6 G8 G9 C2 C3
      refine (pick_c w0 _ cv bs g _ _ 4 hb h5 (by omega)).mono ?_
      rintro e wa ⟨kk, k0, k1, rfl, h6⟩
      obtain ⟨j, rfl⟩ := Int.eq_ofNat_of_zero_le k0
      have hj3 : j ≤ 3 := by omega
      clear k0 k1 h5
      go_wp2_with fail
      go_loopw [5, 6] (fun a kv wr => ∃ (j : Nat) (us : List Value) (A : List (List Int)), kv = .int .i64 j ∧ j ≤ 3 ∧ Hid (us.length = n) ∧ Hid (Sq0 n A) ∧ Src w0 wr cv g (K + 6 + 10 * (3 - j)) (own2 a us A ++ L)) (fun _ kv _ => (intOf kv).toNat)
      case atStart => exact ⟨j, _, _, rfl, hj3, Hl.out, HA.out, h6.mono (by omega)⟩
      case round =>
        clear h6 Hl HA hj3
        obtain ⟨j, us, A, rfl, hj3, Hl, HA, h6⟩ := hrel
        by_cases hj : 0 < j
        · go_wp2_with fail
          refine (l06Switch_c w0 _ cv bs g _ L n _ us A hb h6 Hl.out HA.out (by omega) n1 (by omega)).mono ?_
          rintro e wb ⟨vb, ub, Ab, rfl, hAb, hlb, h7⟩
          have HAb := Lib.hid hAb
          have Hlb := Lib.hid hlb
          clear hAb hlb
          go_wp2_with fail
          go_roundw
          case rel => exact ⟨j - 1, ub, Ab, by go_num, by omega, Hlb.out, HAb.out, h7.mono (by omega)⟩
          case measure => simp [intOf]; omega
        · obtain rfl : j = 0 := by omega
          go_wp2_with fail
          refine (l04DrawPerm_c w0 _ cv bs g _ _ n hb h6 (by omega) (by omega)).mono ?_
          rintro e wb ⟨rv, rs, rfl, rl, rp, h7⟩
          have Rl := Lib.hid rl
          have Rp := Lib.hid rp
          clear rl rp h6
          go_wp2_with fail
          refine (l04DrawPerm_c w0 _ cv bs g _ _ n hb h7 (by omega) (by omega)).mono ?_
          rintro e wc ⟨cv', cs, rfl, cl, cp, h8⟩
          have Cl := Lib.hid cl
          have Cp := Lib.hid cp
          clear cl cp h7
          go_wp2_with fail
          refine (l04DrawPerm_c w0 _ cv bs g _ _ n hb h8 (by omega) (by omega)).mono ?_
          rintro e wd ⟨sv, ss, rfl, sl, sp, h9⟩
          have Sl := Lib.hid sl
          have Sp := Lib.hid sp
          clear sl sp h8
          go_wp2_with fail
          refine (one_c w0 _ cv bs g _ _ 5 hb h9 (by omega)).mono ?_
          rintro e we ⟨b, rfl, h10⟩
          clear h9
          cases b
          · go_wp2_with fail
            refine (sIsotope_c _ rv cv' sv us A rs cs ss _ n (h10.riiS (((List.sublist_append_left _ _).cons _).cons _ |>.cons _) (by rw [Hl.out, HA.out.len])) (h10.rdI 2 rfl) (h10.rdI 1 rfl) (h10.rdI 0 rfl) HA.out Rp.out Cp.out Sp.out Rl.out Cl.out Sl.out (by omega)).mono ?_
            rintro e wf ⟨vz, uz, Az, rfl, hAz, hlz, h11⟩
            have h12 := h10.call h11
            have h13 := ((h12.perm List.perm_append_comm).sub (L' := own2 vz uz Az ++ L) (List.Sublist.append_left ((((List.sublist_append_right _ _).cons _).cons _).cons _) _)).mono (show _ ≤ K + 200 by omega)
            clear h10 h11 h12
            go_wp2_with fail
            go_ret
            exact ⟨vz, uz, Az, rfl, hAz, hlz, h13⟩
          · have h13 := (h10.sub (L' := own2 u5 us A ++ L) ((((List.Sublist.refl _).cons _).cons _).cons _)).mono (show _ ≤ K + 200 by omega)
            clear h10
            go_wp2_with fail
            go_ret
            exact ⟨_, us, A, rfl, HA.out, Hl.out, h13⟩
end Go.Proofs.Ytpfgbbbjldpnnaa
