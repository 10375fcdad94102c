/- The texts of this claim, run 8: LGrp Prf PFnGroups. -/
import Derived.Test.YtdgmaodnkbgolaaK3
import Derived.Test.YtdgmaodnkbgolaaK4
import Derived.Test.YtdgmaodnkbgolaaK6
import Derived.Test.YtdgmaodnkbgolaaK7
import Derived.ProofKit
import Derived.OpenShut
import Derived.ShutString
import Derived.ChangeOld
import Derived.Below
section
/- The law FnGroups, walked. -/
namespace Go.Proofs.Ytdgmaodnkbgolaa
set_option linter.unusedSimpArgs false
set_option linter.unusedVariables false
open Go.RowKit
attribute [local go_sem ↓] Go.wp_at_zero Go.wp_at_succ

theorem v8At_g {w : World} {v : Value} {bs : List UInt8} (hb : RdB w v bs) (n : Nat) (hn : 1 ≤ n) : Calls Try.prog 10 #[v, .int .i64 0, .int .i64 n] w fun e w' => ∃ j : Nat, j < n ∧ e = .returned (.int .i64 j) ∧ w = w' := by
  refine (v8At_c v bs 0 n w hb (by omega)).mono ?_
  rintro e w' ⟨z, z0, z1, he, hw⟩
  obtain ⟨j, rfl⟩ := Int.eq_ofNat_of_zero_le z0
  exact ⟨j, by omega, he, hw⟩
/-- the points of the first k orbits -/
def ptN (A : List (List Int)) (n k : Nat) : Nat := ((obS A n).take k).flatten.length
theorem ptN_succ {A : List (List Int)} {n k : Nat} (h : k < (obS A n).length) : ptN A n (k + 1) = ptN A n k + (xat (obS A n) k).length := by
  unfold ptN; rw [take_xat h, List.flatten_append, List.length_append]; simp
theorem ptN_all {A : List (List Int)} {n : Nat} (h : Grp n A) : ptN A n (obS A n).length = n := by
  unfold ptN; rw [List.take_length]; exact h.ob_all
theorem ptN_le {A : List (List Int)} {n : Nat} (h : Grp n A) (k : Nat) : ptN A n k ≤ n := by
  have := h.ob_all
  have h2 : (obS A n).flatten = ((obS A n).take k).flatten ++ ((obS A n).drop k).flatten := by rw [← List.flatten_append, List.take_append_drop]
  unfold ptN
  rw [h2, List.length_append] at this
  omega
theorem two_pow10 {g a : Nat} (h : 2 ^ g ≤ a) (ha : a ≤ 120) : g ≤ 6 := by
  apply Nat.le_of_not_lt
  intro h7
  have : 2 ^ 7 ≤ 2 ^ g := Nat.pow_le_pow_right (by omega) (by omega)
  omega
set_option maxHeartbeats 32000000 in
set_option maxRecDepth 100000 in
theorem FnGroups_law (w : World) (cv : Value) (bs : List UInt8) (cm : Value) (ms : List UInt8) (hb : RdB w cv bs) (hm : RdB w cm ms) :
    Calls Try.prog 3 #[cv, cm] w (GivesB w true) := by
  have KL := Lib.hid (v8Long_c cv cm bs ms w hb hm)
  by_cases hlo : (decide (1048576 < (bs.length : Int)) || decide (1048576 < (ms.length : Int))) = true
  · rw [hlo] at KL
    clear hlo
    go_enter Try.func3, Try.ntmps3
    go_wp2_with (go_at_call 4; refine KL.out.mono ?_; rintro e w2 ⟨rfl, rfl⟩)
    go_ret
    exact ⟨rfl, St.refl _⟩
  · rw [Bool.not_eq_true] at hlo
    rw [hlo] at KL
    clear hlo
    go_enter Try.func3, Try.ntmps3
    go_wp2_with (go_at_call 4; refine KL.out.mono ?_; rintro e w2 ⟨rfl, rfl⟩)
    refine (V8Group_c _ cv bs hb).mono ?_
    clear KL
    rintro e w5 ⟨n, v, us, A, rfl, hn1, hn9, hG, hl, rv, h5⟩
    obtain ⟨a, c, hsh⟩ := rv.1.sl.sh
    rw [rv.2.1] at hsh
    subst hsh
    have hX := (St.refl w5).newboxF 26 #[.int .i64 n, .slice a A.length c]
    have B0 := Lib.hid (hX.bcell 0 rfl 0 rfl)
    have B1 := Lib.hid (hX.bcell 0 rfl 1 rfl)
    have b0 := B0.out
    have b1 := B1.out
    have Hv := Lib.hid (hX.oldII rv)
    have HG := Lib.hid hG
    have Hm := Lib.hid (hX.oldB (h5.oldB hm))
    have HW := Lib.hid (h5.call0 hX.out)
    have hln := rv.len
    have KG := Lib.hid (GeneratorsOf_c n (.slice a A.length c) us A _ Hv.out ⟨hn1, by omega⟩ hG (by omega))
    have hZ := St.refl (w5.alloc (.cells #[.int .i64 n, .slice a A.length c] 26))
    unfold gvS
    unfold gv at KG
    clear rv hG h5 hX hb hm
    go_wp2_with fail
    clear b0 b1
    generalize w5.alloc (.cells #[.int .i64 n, .slice a A.length c] 26) = wB at *
    generalize w5.heap.size = gB at *
    have KM := Lib.hid (fun W vg ug G (h : RII W vg ug G) (hs : ∀ g ∈ G, g ∈ A) (hc : ClO n G A) => MakeGroup_c n vg ug G A W h ⟨hn1, by omega⟩ HG.out hs hc (by omega))
    have KS := Lib.hid (fun W v7 us7 (h : RII W v7 us7 A) (h2 : RII W (.slice a A.length c) us A) => sSameGroup_c n v7 (.slice a A.length c) us7 us A W h h2)
    have KO := Lib.hid (fun W (h2 : RII W (.slice a A.length c) us A) => OrbitsOf_c n (.slice a A.length c) us A W h2 ⟨hn1, by omega⟩ HG.out (by omega))
    unfold gv at KS KO
    refine KG.out.mono ?_
    clear KG
    rintro e w6 ⟨vg, ug, G, rfl, hlg, hcl, hsub, htwo, h6⟩
    have hG6 := Lib.hid (two_pow10 htwo hl)
    have hS6 : St wB.heap.size wB w6 (own2 vg ug G) := hZ.call h6
    have rg := hS6.rii hlg
    have hlng := rg.len
    have KM2 := Lib.hid (KM.out _ _ _ _ rg hsub hcl)
    have b0 := cell_keepG hS6.below B0.out
    clear KM rg hcl hsub htwo h6 hZ
    go_wp2_with fail
    refine KM2.out.mono ?_
    clear KM2 b0
    rintro e w7 ⟨v7, us7, rfl, hl7, h7⟩
    obtain ⟨a7, c7, hv7⟩ := (h7.rd 0 (e := 32) (v := v7) (us := us7) rfl).sl.sh
    rw [hl7] at hv7
    subst hv7
    have hS7 := hS6.call h7
    have r7 : RII w7 (.slice a7 A.length c7) us7 A := h7.rii hl7
    have hX8 := hS7.newboxF 26 #[.int .i64 n, .slice a7 A.length c7]
    have c0 := hX8.bcell 0 rfl 0 rfl
    have c1 := hX8.bcell 0 rfl 1 rfl
    have b0 := cell_keepG hX8.below B0.out
    have b1 := cell_keepG hX8.below B1.out
    have r8 := ((St.refl w7).newboxF 26 #[.int .i64 n, .slice a7 A.length c7]).oldII r7
    have KS2 := Lib.hid (KS.out _ _ _ r8 (hX8.oldII Hv.out))
    have f10 : ¬ (10 : Int) < (G.length : Int) := by have := hG6.out; omega
    have hX8 := hX8.out
    clear hS6 h7 hS7 r7 r8
    unfold gv
    go_wp2_with fail
    refine KS2.out.mono ?_
    clear KS2 c0 c1 b0 b1
    rintro e w9 ⟨rfl, h9⟩
    have hS9 := hX8.call0 h9
    have b0 := cell_keepG hS9.below B0.out
    have b1 := cell_keepG hS9.below B1.out
    have KO2 := Lib.hid (KO.out _ (hS9.oldII Hv.out))
    clear hX8 h9 KO
    go_wp2_with fail
    refine KO2.out.mono ?_
    clear KO2 b0 b1 hlng
    rintro e w10 ⟨vo, uo, rfl, hlo, h10⟩
    have hS10 : St wB.heap.size wB w10 (own2 vo uo (obS A n)) := hS9.call h10
    have ro := hS10.rii hlo
    have hlno := ro.len
    have hixo := ro.ixe
    have Ro := Lib.hid ro
    have hol := Lib.hid (obS_len A n)
    clear h10 hS9 ro
    go_wp2_with fail
    go_loop [11, 12] (fun pi ki => ∃ k : Nat, ki = .int .i64 k ∧ k ≤ (obS A n).length ∧ pi = .int .i64 (ptN A n k : Nat)) (fun _ ki => (obS A n).length - (intOf ki).toNat)
    case atStart => exact ⟨0, rfl, by omega, rfl⟩
    case round =>
      obtain ⟨k, rfl, hk, rfl⟩ := hrel
      have hk9 : k ≤ 9 := by have := hol.out; omega
      by_cases hkO : k < (obS A n).length
      · have hki : (k : Int) < ((obS A n).length : Int) := by omega
        have xk := hixo (k : Int) k rfl hkO
        have ck := Ro.out.cell k hkO
        have hlk := (Ro.out.row k hkO).len
        have hst := ptN_succ hkO
        have hle := ptN_le HG.out (k + 1)
        have v1 : IntKind.i64.wrap ((ptN A n k : Int) + ((xat (obS A n) k).length : Int)) = (ptN A n (k + 1) : Int) := by
          rw [IntWalk.i64_in _ (by omega)]; omega
        clear hst hle
        go_wp2_with fail
        go_round
        case rel => exact ⟨k + 1, by go_num, by omega, rfl⟩
        case measure => simp [intOf]; omega
      · obtain rfl : k = (obS A n).length := by omega
        rw [ptN_all HG.out]
        have b0 := cell_keepG hS10.below B0.out
        have b1 := cell_keepG hS10.below B1.out
        clear hixo
        go_wp2_with fail
        have KA := Lib.hid (v8At_g (hS10.oldB Hm.out) n hn1)
        refine KA.out.mono ?_
        clear KA
        rintro e w11 ⟨x, hx, rfl, hw⟩
        subst hw
        have KX := Lib.hid (OrbitOf_c n x (.slice a A.length c) us A _ (hS10.oldII Hv.out) ⟨hn1, by omega⟩ HG.out hx (by omega))
        have KT := Lib.hid (fun W (h2 : RII W (.slice a A.length c) us A) => StabilizerOf_c n x (.slice a A.length c) us A W h2 ⟨hn1, by omega⟩ HG.out hx (by omega))
        have KU := Lib.hid (fun W vs (h2 : RII W (.slice a A.length c) us A) (h3 : RdI W vs [(x : Int)]) => SetStabilizer_c n x (.slice a A.length c) vs us A W h2 h3 ⟨hn1, by omega⟩ HG.out hx (by omega))
        have hsub : ∀ s ∈ stA A x, s ∈ A := fun s hs => (List.mem_filter.1 hs).1
        have hHl : (stA A x).length ≤ 120 := Nat.le_trans (List.length_filter_le _ _) hl
        have KC := Lib.hid (fun W vh uh (h : RII W (.slice a A.length c) us A) (h2 : RII W vh uh (stA A x)) => CosetsOf_c n (.slice a A.length c) vh us uh A (stA A x) W h h2 ⟨hn1, by omega⟩ HG.out (HG.out.stab hx) hsub (by omega))
        have KZ := Lib.hid (fun W vh uh (h2 : RII W vh uh (stA A x)) => sValidGroup_c n vh uh (stA A x) W h2 ⟨hn1, by omega⟩ (HG.out.stab hx) (by omega))
        have KY := Lib.hid (fun W v1 v2 u1 u2 (h1 : RII W v1 u1 (stA A x)) (h2 : RII W v2 u2 (stA A x)) => sSameGroup_c n v1 v2 u1 u2 (stA A x) W h1 h2)
        have hos := HG.out.orb_stab hx
        have hHp := (HG.out.stab hx).pos
        have hop := HG.out.orb_pos hx
        unfold gv at KX KT KU KC KZ KY
        generalize stA A x = H at *
        generalize orbL A x = O at *
        have Hsub := Lib.hid hsub
        have Hos := Lib.hid hos
        clear hsub hos
        go_wp2_with fail
        refine KX.out.mono ?_
        clear KX b0 b1
        rintro e w12 ⟨vb, rfl, h12⟩
        have hlnb := (h12.rdI 0 rfl).len
        have hS12 := hS10.out.call0 h12.out
        have Hb12 := hlnb
        have b0 := cell_keepG hS12.below B0.out
        have b1 := cell_keepG hS12.below B1.out
        have KT2 := Lib.hid (KT.out _ (hS12.oldII Hv.out))
        clear h12 hS10 KT Ro
        go_wp2_with fail
        refine KT2.out.mono ?_
        clear KT2 b0 b1
        rintro e w13 ⟨vh, uh, rfl, hlh, h13⟩
        obtain ⟨a13, c13, hvh⟩ := (h13.rd 0 (e := 32) (v := vh) (us := uh) rfl).sl.sh
        rw [hlh] at hvh
        subst hvh
        have r13 : RII w13 (.slice a13 H.length c13) uh H := h13.rii hlh
        have hX13 := (hS12.call0 h13.out).newboxF 26 #[.int .i64 n, .slice a13 H.length c13]
        have C0 := Lib.hid (hX13.bcell 0 rfl 0 rfl)
        have C1 := Lib.hid (hX13.bcell 0 rfl 1 rfl)
        have R13 := Lib.hid (((St.refl w13).newboxF 26 #[.int .i64 n, .slice a13 H.length c13]).oldII r13)
        have hS13 := hX13.out
        have c0 := C0.out
        have c1 := C1.out
        have b0 := cell_keepG hS13.below B0.out
        have b1 := cell_keepG hS13.below B1.out
        have KC2 := Lib.hid (KC.out _ _ _ (hS13.oldII Hv.out) R13.out)
        clear hS12 h13 r13 hX13 KC
        unfold gv
        go_wp2_with fail
        have HvD := Lib.hid (hS13.oldII Hv.out)
        have E0 := Lib.hid b0
        have E1 := Lib.hid b1
        have HWD := Lib.hid (HW.out.call0 hS13)
        clear b0 b1 c0 c1 hS13 HW Hv Hm B0 B1
        generalize w13.alloc (.cells #[.int .i64 n, .slice a13 H.length c13] 26) = wD at *
        generalize w13.heap.size = gC at *
        refine KC2.out.mono ?_
        clear KC2
        rintro e w14 ⟨vc, uc, C, rfl, hlc, hCs, hCA, h14⟩
        have hS14 : St wD.heap.size wD w14 (own2 vc uc C) := h14
        have Rc := Lib.hid (hS14.rii hlc)
        have HCs := Lib.hid hCs
        have HCO : Hid (C.length = O.length) := Lib.hid (Nat.eq_of_mul_eq_mul_right hHp (by rw [← hCA, Hos.out]))
        have hS15 := hS14.new 2 #[.int .i64 x] (by simp [maxLen])
        have rs : RdI _ (.slice (some ⟨w14.heap.size, 0, none⟩) 1 1) [(x : Int)] := (hS15.sub (L' := [row 2 (.slice (some ⟨w14.heap.size, 0, none⟩) 1 1) (iv [(x : Int)])]) (List.sublist_append_right _ _)).rdI 0 rfl
        have b0 := cell_keepG hS14.below E0.out
        have b1 := cell_keepG hS14.below E1.out
        have KU2 := Lib.hid (KU.out _ _ (hS15.oldII HvD.out) rs)
        clear KU hCs hCA h14 rs
        go_wp2_with fail
        refine KU2.out.mono ?_
        clear KU2 b0 b1
        rintro e w16 ⟨v16, u16, rfl, hl16, h16⟩
        obtain ⟨a16, c16, hv16⟩ := (h16.rd 0 (e := 32) (v := v16) (us := u16) rfl).sl.sh
        rw [hl16] at hv16
        subst hv16
        have r16 : RII w16 (.slice a16 H.length c16) u16 H := h16.rii hl16
        have hX17 := (hS15.out.call0 h16.out).newboxF 26 #[.int .i64 n, .slice a16 H.length c16]
        have d0 := hX17.bcell 0 rfl 0 rfl
        have d1 := hX17.bcell 0 rfl 1 rfl
        have r17 := ((St.refl w16).newboxF 26 #[.int .i64 n, .slice a16 H.length c16]).oldII r16
        have hS17 := hX17.out
        have c0 := cell_keepG hS17.below C0.out
        have c1 := cell_keepG hS17.below C1.out
        have b0 := cell_keepG hS17.below E0.out
        have KZ2 := Lib.hid (KZ.out _ _ _ (hS17.oldII R13.out))
        have KY2 := Lib.hid (fun W (hb : St (w16.alloc (.cells #[.int .i64 n, .slice a16 H.length c16] 26)).heap.size (w16.alloc (.cells #[.int .i64 n, .slice a16 H.length c16] 26)) W []) => KY.out W _ _ _ _ (hb.oldII r17) (hb.oldII (hS17.oldII R13.out)))
        have RcE := Lib.hid (((((St.refl w14).new 2 #[.int .i64 x] (by simp [maxLen])).out.call0 h16.out).newboxF 26 #[.int .i64 n, .slice a16 H.length c16]).oldII Rc.out)
        have HvE := Lib.hid (hS17.oldII HvD.out)
        have HWE := Lib.hid (HWD.out.call0 hS17)
        have F0 := Lib.hid (cell_keepG hS17.below E0.out)
        have F1 := Lib.hid (cell_keepG hS17.below E1.out)
        have D0 := Lib.hid d0
        have D1 := Lib.hid d1
        have G0 := Lib.hid c0
        have G1 := Lib.hid c1
        have f1 : ((n : Int) != (n : Int)) = false := ne_f rfl
        clear KZ KY hS14 hS15 hX17 hS17 r16 r17 h16 R13 HvD HWD E0 E1 C0 C1 Rc
        unfold gv
        go_wp2_with fail
        refine KZ2.out.mono ?_
        clear KZ2 b0 c0 c1 d0 d1
        generalize w16.alloc (.cells #[.int .i64 n, .slice a16 H.length c16] 26) = wE at *
        generalize w16.heap.size = gD at *
        rintro e w18 ⟨rfl, h18⟩
        have c0 := cell_keepG h18.below G0.out
        have c1 := cell_keepG h18.below G1.out
        have d0 := cell_keepG h18.below D0.out
        have d1 := cell_keepG h18.below D1.out
        have KY3 := Lib.hid (KY2.out _ h18)
        clear KY2
        go_wp2_with fail
        refine KY3.out.mono ?_
        clear KY3 c0 c1 d0 d1
        rintro e w19 ⟨rfl, h19⟩
        have hS19 := h18.call0 h19
        have c0 := cell_keepG hS19.below G0.out
        have c1 := cell_keepG hS19.below G1.out
        have hlnH : ∀ (ty : TypeId) (W : World), (Builtin.len_ #[24] ty #[.slice a13 H.length c13]).run Try.prog W = .ok (.int .i64 H.length) W := fun ty W => rfl
        have v2 : IntKind.i64.wrap ((O.length : Int) * (H.length : Int)) = (A.length : Int) := by
          rw [show (O.length : Int) * (H.length : Int) = ((O.length * H.length : Nat) : Int) from rfl, ← Hos.out]
          exact IntWalk.i64_in _ (by omega)
        have f2 : ((A.length : Int) != (A.length : Int)) = false := ne_f rfl
        have f3 : ((C.length : Int) != (O.length : Int)) = false := ne_f (by rw [HCO.out])
        have hlnc := RcE.out.len
        have hixc := RcE.out.ixe
        have hCl : C.length ≤ 120 := by
          have h1 := Nat.le_mul_of_pos_right O.length hHp
          rw [← Hos.out] at h1
          have := HCO.out
          omega
        clear h18 h19 HCO Hos
        go_wp2_with fail
        clear c0 c1
        go_loopw [22] (fun ii wr => ∃ i : Nat, ii = .int .i64 i ∧ i ≤ C.length ∧ St wE.heap.size wE wr []) (fun ii _ => C.length - (intOf ii).toNat)
        case atStart => exact ⟨0, rfl, by omega, hS19⟩
        case round =>
          clear hS19
          obtain ⟨i, rfl, hi, hS⟩ := hrel
          by_cases hiC : i < C.length
          · have hii : (i : Int) < (C.length : Int) := by omega
            have xi := hixc (i : Int) i rfl hiC
            have hSd := hS.drew
            have ci := (hSd.oldII RcE.out).cell i hiC
            have b0 := cell_keepG hSd.below F0.out
            have b1 := cell_keepG hSd.below F1.out
            have KH := Lib.hid (GroupHas_c n (.slice a A.length c) (vat uc i) us A (xat C i) _ (hSd.oldII HvE.out) ((hSd.oldII RcE.out).row i hiC) ⟨hn1, by omega⟩ HG.out (by omega) (HCs.out _ (xat_mem hiC)))
            unfold gv at KH
            clear hS
            go_wp2_with fail
            go_region_held3 (fun w' => w'.cell? ⟨gB, 0, none⟩ = some (.int .i64 n) ∧ w'.cell? ⟨gB, 1, none⟩ = some (.slice a A.length c) ∧ w'.cell? (el vc i) = some (vat uc i)) (go_keep) (
              (go_at_call 16; refine KH.out.mono ?_; rintro e5 w20 ⟨rfl, h20⟩; have hS20 := hSd.call0 h20; have e0 := cell_keepG h20.below b0; have e1 := cell_keepG h20.below b1; have e2 := cell_keepG h20.below ci))
            go_wp2_with fail
            go_roundw
            case rel => exact ⟨i + 1, by go_num, by omega, hS20⟩
            case measure => simp [intOf]; omega
          · obtain rfl : i = C.length := by omega
            have hout := HWE.out.call0 hS
            go_wp2_with fail
            go_ret
            exact ⟨rfl, hout⟩
end Go.Proofs.Ytdgmaodnkbgolaa
end

section
/- How arguments that come in read. How bytes that come in read. -/
namespace Go.Proofs.Ytdgmaodnkbgolaa
set_option linter.unusedSimpArgs false
set_option linter.unusedVariables false
open Go.RowKit


/-- what came in as a slice of integers: nothing, or a row of numbers that fit -/
def IsRow (k : IntKind) (w : World) (a : Option Addr) (len cap : Nat) (zs : List Int) : Prop :=
  (a = none ∧ len = 0 ∧ cap = 0 ∧ zs = []) ∨
  ∃ x, a = some x ∧ len ≤ cap ∧ cap ≤ maxLen ∧ zs.length = cap ∧ (∀ i, i < zs.length → w.cell? (x.add i) = some (.int k (zs.getD i 0))) ∧ ∀ n ∈ zs, (Lit.int k n).wf = true

theorem IsRow.rd {k : IntKind} {w : World} {a : Option Addr} {len cap : Nat} {zs : List Int} (h : IsRow k w a len cap zs) : Rd w (.slice a len cap) ((zs.take len).map (Value.int k)) := by
  rcases h with ⟨rfl, rfl, rfl, rfl⟩ | ⟨x, rfl, h1, h2, h3, h4, h5⟩
  · exact Rd.nil w
  · have hl : ((zs.take len).map (Value.int k)).length = len := by simp; omega
    refine ⟨⟨some x, cap, by rw [hl], by omega, h2, .inr (by simp)⟩, ?_⟩
    intro i u hu
    have hi : i < len := by have := (List.getElem?_eq_some_iff.1 hu).1; omega
    have := h4 i (by omega)
    simp only [List.getElem?_map, List.getElem?_take, hi, if_true] at hu
    rw [List.getElem?_eq_getElem (by omega)] at hu
    simp at hu
    simp only [el]
    rw [this, ← hu]
    simp [List.getD, List.getElem?_eq_getElem (show i < zs.length by omega)]


theorem IsRow.rdB {w : World} {a : Option Addr} {len cap : Nat} {zs : List Int} (h : IsRow .u8 w a len cap zs) : ∃ bs, RdB w (.slice a len cap) bs := by
  refine ⟨(zs.take len).map fun n => UInt8.ofNat n.toNat, ?_⟩
  have h1 := h.rd
  have hw : ∀ n ∈ zs, 0 ≤ n ∧ n ≤ 255 := by
    rcases h with ⟨_, _, _, rfl⟩ | ⟨_, _, _, _, _, _, h5⟩
    · simp
    · intro n hn; have := h5 n hn; simpa [Lit.wf, IntKind.min, IntKind.max, IntKind.signed, IntKind.bits] using this
  unfold RdB bv
  rw [List.map_map]
  rw [List.map_congr_left (g := Value.int .u8)]
  · exact h1
  · intro n hn
    have := hw n (List.mem_of_mem_take hn)
    simp only [Function.comp]
    congr 1
    rw [UInt8.toNat_ofNat']
    omega

end Go.Proofs.Ytdgmaodnkbgolaa
end

section
/- FnGroups holds: for every input the call returns true and leaves its arguments as they are. No condition. -/
namespace Go.Proofs.Ytdgmaodnkbgolaa.fnGroups
set_option linter.unusedSimpArgs false
set_option linter.unusedVariables false
open Go.ChangeShapes Go.WideShapes Go.ChangeAt Go.RowKit
set_option linter.unusedVariables false

theorem own : ownKnob Try.prog.godebug = none := by kernel_rfl
theorem laidOut : laidOutB Try.prog = true := by kernel_rfl

set_option maxRecDepth 100000 in
theorem lifted (os : Os) (started : os.Started) (H : Type) (enc : TypeId × Value → H) :
    ReturnsInHanded {} Try.checked os 3 .any (Rows.fnGroupsSpec.pre6 enc Try.prog Try.f3 Rows.fnGroupsRow.domain false) (Rows.fnGroupsSpec.post enc Try.prog Try.f3 false true false false) := by
  refine returnsInHanded_of_change (C := Try.checked) own started (by kernel_rfl) Try.func3
    (ChangeSpec.witness6 (enc := enc) (C := Try.checked) false ⟨#[], #[.slice none 0 0, .slice none 0 0], []⟩ 8 (by kernel_rfl) (by kernel_rfl) (by kernel_rfl) (by kernel_rfl)) ?_
  intro W base args ds gs before hval0 hW hcnd _
  have hval : ∀ (j : Nat) t v, Try.f3.params[j]? = some t → args[j]? = some v → Value.okWide Try.prog W .any base t v := hval0
  have hW' := hW
  obtain ⟨p, q, hA0, hV, rfl, hfz, hnd⟩ := hW
  have hA : DataW.TrodAll enc Try.prog W 0 (fun _ => true) true Try.f3.params.toList args.toList ds p := hA0
  rw [Try.params3] at hA hval
  obtain ⟨v0, vs0, d0, ds0, p0, q0, hargs, rfl, rfl, h0, r0⟩ := trodAll_cons hA
  obtain ⟨v1, vs1, d1, ds1, p1, q1, rfl, rfl, rfl, h1, r1⟩ := trodAll_cons r0
  obtain ⟨rfl, rfl, rfl⟩ := trodAll_nil r1
  obtain rfl : args = #[v0, v1] := by cases args; simp_all
  obtain ⟨rfl, rfl⟩ := trodVars_none hV
  obtain ⟨a0, len0, cap0, rfl⟩ := okWide_slice Try.underlying22 (hval 0 22 v0 rfl rfl)
  have k0 := h0
  have lt0 : ∀ x ∈ p0, x.block < W.heap.size := by obtain ⟨m, hm⟩ := k0; exact DataW.trod_lt m _ _ _ hm
  obtain ⟨bs0, rd0⟩ : ∃ bs, RdB W (.slice a0 len0 cap0) bs := by
    obtain ⟨fuel, hf⟩ := h0
    rcases open_ints Try.underlying22 Try.underlying5 (by kernel_rfl) hf with ⟨hcs, _⟩ | ⟨x, l, c, zs, hcs, _, hl, hm, hz, _, hcell, hwz⟩
    · simp [Value.cells] at hcs
      obtain ⟨rfl, rfl, rfl⟩ := hcs
      exact IsRow.rdB (zs := []) (.inl ⟨rfl, rfl, rfl, rfl⟩)
    · simp [Value.cells] at hcs
      obtain ⟨rfl, rfl, rfl⟩ := hcs
      exact IsRow.rdB (zs := zs) (.inr ⟨_, rfl, hl, hm, by simpa using hz, hcell, hwz⟩)
  obtain ⟨a1, len1, cap1, rfl⟩ := okWide_slice Try.underlying22 (hval 1 22 v1 rfl rfl)
  have k1 := h1
  have lt1 : ∀ x ∈ p1, x.block < W.heap.size := by obtain ⟨m, hm⟩ := k1; exact DataW.trod_lt m _ _ _ hm
  obtain ⟨bs1, rd1⟩ : ∃ bs, RdB W (.slice a1 len1 cap1) bs := by
    obtain ⟨fuel, hf⟩ := h1
    rcases open_ints Try.underlying22 Try.underlying5 (by kernel_rfl) hf with ⟨hcs, _⟩ | ⟨x, l, c, zs, hcs, _, hl, hm, hz, _, hcell, hwz⟩
    · simp [Value.cells] at hcs
      obtain ⟨rfl, rfl, rfl⟩ := hcs
      exact IsRow.rdB (zs := []) (.inl ⟨rfl, rfl, rfl, rfl⟩)
    · simp [Value.cells] at hcs
      obtain ⟨rfl, rfl, rfl⟩ := hcs
      exact IsRow.rdB (zs := zs) (.inr ⟨_, rfl, hl, hm, by simpa using hz, hcell, hwz⟩)
  clear hA0 hval0
  refine (FnGroups_law W _ bs0 _ bs1 rd0 rd1).mono fun e W' ⟨he, hst⟩ => ?_
  have bel := hst.below
  subst he
  exact ⟨_, rfl, _, _, _, [], _, [], hW', trodAll_mk1 (shut_bool Try.underlying4 _), (trodAll_cons_mk (Below.trod laidOut (by kernel_rfl) (of_decide_eq_true (by kernel_rfl)) k0 bel lt0) (trodAll_cons_mk (Below.trod laidOut (by kernel_rfl) (of_decide_eq_true (by kernel_rfl)) k1 bel lt1) trodAll_mk0)), rfl, bel.frame _, fun h => by cases h⟩

theorem over : Rows.fnGroupsRow.holds Try.pinned (OpenSpec.ofChange Rows.fnGroupsSpec) :=
  OpenClaim.holds_of_wide 3 Try.f3 rfl rfl rfl rfl rfl rfl rfl ⟨rfl, rfl, rfl, rfl, rfl⟩ rfl rfl rfl rfl rfl (by kernel_rfl) Try.func3 (by kernel_rfl)
    (of_decide_eq_true (by kernel_rfl)) (by unfold Func.isWrapper; first | (rw [if_pos (by decide +kernel)]; kernel_rfl) | (rw [if_neg (by decide +kernel)]; exact ⟨rfl, rfl⟩))
    (fun os started H enc _ => lifted os started H enc)

theorem proved : Rows.FnGroupsSaid := over
#print axioms proved
end Go.Proofs.Ytdgmaodnkbgolaa.fnGroups
end
