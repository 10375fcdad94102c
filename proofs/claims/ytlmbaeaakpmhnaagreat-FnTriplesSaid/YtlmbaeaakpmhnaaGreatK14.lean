/- The texts of this claim, run 14: Tr21 PSw PTs3 PCon PQg Qg1 Qg2 Qg3. -/
import Derived.Test.YtlmbaeaakpmhnaaGreatK2
import Derived.Test.YtlmbaeaakpmhnaaGreatK4
import Derived.Test.YtlmbaeaakpmhnaaGreatK5
import Derived.Test.YtlmbaeaakpmhnaaGreatK6
import Derived.Test.YtlmbaeaakpmhnaaGreatK7
import Derived.Test.YtlmbaeaakpmhnaaGreatK9
import Derived.Test.YtlmbaeaakpmhnaaGreatK10
import Derived.Test.YtlmbaeaakpmhnaaGreatK11
import Derived.Test.YtlmbaeaakpmhnaaGreatK12
import Derived.Test.YtlmbaeaakpmhnaaGreatK13
import Derived.Deep.CutRange
section
/- Walks: the triple systems that the reference draws. -/
namespace Go.Proofs.YtlmbaeaakpmhnaaGreat
set_option linter.unusedSimpArgs false
set_option linter.unusedVariables false
open Go.RowKit
attribute [local go_sem ↓] Go.wp_at_zero Go.wp_at_succ

/-- the orders that are drawn -/
def trO : List Nat := [3, 7, 9, 13, 15, 19]
def MakesTr (w0 : World) (cv : Value) (g K : Nat) (L : List Ent) (e : Ending) (w' : World) : Prop := ∃ (P : Nat) (A : List (List Int)) (v : Value) (us : List Value), P ∈ trO ∧ TS P A ∧ e = .returned (dv P v) ∧ us.length = A.length ∧ Src w0 w' cv g K (own2 v us A ++ L)
theorem MakesSw.one {w w' : World} {P : Nat} {e : Ending} (h : MakesSw w P e w') : ∃ (P' : Nat) (A' : List (List Int)) (c' : Int) (v' : Value) (us' : List Value), e = .returned (.tuple #[dv P' v', .int .i64 c']) ∧ (c' = 0 ∨ c' = 6) ∧ (c' = 0 → P' = P ∧ TS P A') ∧ us'.length = A'.length ∧ St w.heap.size w w' (own2 v' us' A') := by
  rcases h with ⟨A', hT, v, us, rfl, hl, hS⟩ | ⟨v, us, rfl, hl, hS⟩
  · exact ⟨P, A', 0, v, us, rfl, .inl rfl, fun _ => ⟨rfl, hT⟩, hl, hS⟩
  · exact ⟨0, [], 6, v, us, rfl, .inr rfl, (fun h => by cases h), hl, hS⟩
/-- behind a switch: a design in a box of its own, and a code -/
def CutT (w0 : World) (cv : Value) (g K P : Nat) (LL : List Ent) (s6 s7 : Value) (w' : World) : Prop := ∃ (g6 P' : Nat) (A' : List (List Int)) (a' : Option Addr) (c'' : Nat) (us' : List Value) (c' : Int), s6 = .pointer (some ⟨g6, 0, none⟩) ∧ s7 = .int .i64 c' ∧ (c' = 0 ∨ c' = 6) ∧ (c' = 0 → P' = P ∧ TS P A') ∧ us'.length = A'.length ∧ Src w0 w' cv g K (box 29 g6 [.int .i64 P', .slice a' A'.length c''] :: (LL ++ own2 (.slice a' A'.length c'') us' A'))
set_option maxHeartbeats 16000000 in
set_option maxRecDepth 100000 in
theorem l11Draw_c (w0 w : World) (cv : Value) (bs : List UInt8) (g K : Nat) (L : List Ent) (hb : RdB w0 cv bs) (h : Src w0 w cv g K L) (hK : K < 100000000) :
    Calls Tryz.prog 49 #[.pointer (some ⟨g, 0, none⟩)] w (MakesTr w0 cv g (K + 1000) L) := by
  have h1 := h.newboxF 29 #[.int .i64 0, .slice none 0 0]
  have h2 : Src w0 ((w.alloc (.cells #[.int .i64 0, .slice none 0 0] 29)).alloc (.cells #[.int .i64 3, .int .i64 7, .int .i64 7, .int .i64 9, .int .i64 9, .int .i64 13, .int .i64 15, .int .i64 19] 2)) cv g K (row 2 (.slice (some ⟨w.heap.size + 1, 0, none⟩) 8 8) (iv [3, 7, 7, 9, 9, 13, 15, 19]) :: box 29 w.heap.size [.int .i64 0, .slice none 0 0] :: L) := by
    have h3 := h1.lit [3, 7, 7, 9, 9, 13, 15, 19] (by simp)
    simp only [World.size_alloc] at h3
    exact h3
  clear h
  go_enter Tryz.func49, Tryz.ntmps49
  go_wp2_with fail
  refine (among_c w0 _ cv bs g _ _ _ _ hb h2 (by simp) (by omega)).mono ?_
  rintro e w1 ⟨x, hx, rfl, h3⟩
  obtain ⟨P, rfl, hP⟩ : ∃ P : Nat, x = P ∧ P ∈ trO := by
    simp only [List.mem_cons, List.not_mem_nil, or_false] at hx
    rcases hx with rfl | rfl | rfl | rfl | rfl | rfl | rfl | rfl
    · exact ⟨3, rfl, by decide⟩
    · exact ⟨7, rfl, by decide⟩
    · exact ⟨7, rfl, by decide⟩
    · exact ⟨9, rfl, by decide⟩
    · exact ⟨9, rfl, by decide⟩
    · exact ⟨13, rfl, by decide⟩
    · exact ⟨15, rfl, by decide⟩
    · exact ⟨19, rfl, by decide⟩
  have hA := Lib.hid (mkTS_ts hP)
  have hP' := Lib.hid hP
  have KM := Lib.hid (l11Make_c P w1 hP)
  have hP32 : P ≤ 32 := hA.out.p32
  clear hx h1 h2 hP
  go_wp2_with fail
  refine KM.out.mono ?_
  rintro e w2 ⟨v, us, rfl, hl, h4⟩
  generalize srtL (mkTS P) = A at *
  obtain ⟨a, c, hv⟩ := (h4.rd 0 (e := 24) (v := v) (us := us) rfl).sl.sh
  rw [hl] at hv
  subst hv
  have h5 := (h3.call h4).newboxF 29 #[.int .i64 P, .slice a A.length c]
  have h6 := h5.perm (L' := box 29 w2.heap.size [.int .i64 P, .slice a A.length c] :: box 29 w.heap.size [.int .i64 0, .slice none 0 0] :: (own2 (.slice a A.length c) us A ++ L)) (by
    refine List.Perm.cons _ (List.Perm.cons _ ?_)
    exact List.perm_append_comm)
  clear h3 h4 h5 KM
  unfold dv
  have Hl := Lib.hid hl
  clear hl
  go_wp2_with fail
  refine (pick_c w0 _ cv bs g _ _ 3 hb h6 (by omega)).mono ?_
  rintro e w3 ⟨k, k0, k1, rfl, h7⟩
  obtain ⟨kk, rfl⟩ := Int.eq_ofNat_of_zero_le k0
  have hkk : kk ≤ 2 := by omega
  clear h6 k0 k1
  go_wp2_with fail
  go_loopw [4, 5, 6, 7] (fun ki _ _ _ wr => ∃ (m : Nat) (A : List (List Int)) (a : Option Addr) (c : Nat) (us : List Value), ki = .int .i64 m ∧ m ≤ 2 ∧ Hid (TS P A ∧ us.length = A.length) ∧ Src w0 wr cv g (K + 100 - 10 * m) (box 29 w2.heap.size [.int .i64 P, .slice a A.length c] :: box 29 w.heap.size [.int .i64 0, .slice none 0 0] :: (own2 (.slice a A.length c) us A ++ L))) (fun ki _ _ _ _ => (intOf ki).toNat)
  case atStart => exact ⟨kk, A, a, c, us, rfl, hkk, ⟨hA.out, Hl.out⟩, h7.mono (by omega)⟩
  case round =>
    clear h7 hA Hl
    obtain ⟨m, A, a, c, us, rfl, hm, hI, hS⟩ := hrel
    by_cases hm0 : 0 < m
    · have hmi : (0 : Int) < (m : Int) := by omega
      have w1 : IntKind.i64.wrap ((m : Int) - 1) = (m : Int) - 1 := IntWalk.i64_in _ (by omega)
      have hbx : BoxD wr w2.heap.size P (.slice a A.length c) := ⟨hS.box 0 rfl 0 rfl, hS.box 0 rfl 1 rfl⟩
      have hrr := hS.riiS (v := .slice a A.length c) (us := us) (A := A) ((List.sublist_append_left _ _).trans ((List.sublist_cons_self _ _).trans (List.sublist_cons_self _ _))) hI.out.2
      have KQ := Lib.hid (l11PaschsO_c P w2.heap.size (.slice a A.length c) us A wr hrr hbx hI.out.1)
      clear hbx hrr
      go_wp2_with fail
      refine KQ.out.mono ?_
      rintro e4 w4 ⟨vR, uR, R, rfl, eR, lR, pR, h8⟩
      have hS4 := hS.call h8
      have rR := h8.rii eR
      have lnR := rR.len
      clear KQ hS
      by_cases hR0 : R.length = 0
      · have f1 : ((R.length : Int) == 0) = true := eq_t (by omega)
        have hS := hS4.sub (L' := box 29 w2.heap.size [.int .i64 P, .slice a A.length c] :: box 29 w.heap.size [.int .i64 0, .slice none 0 0] :: (own2 (.slice a A.length c) us A ++ L)) (List.sublist_append_left _ _)
        clear hS4 h8 rR
        go_wp2_with fail
        refine (one_c w0 _ cv bs g _ _ 2 hb hS (by omega)).mono ?_
        rintro e5 w5 ⟨b, rfl, hT⟩
        clear hS
        cases b
        · have b0 := hT.box 0 (e := 29) rfl 0 rfl
          have b1 := hT.box 0 (e := 29) rfl 1 rfl
          have c0 := hT.box 1 (e := 29) rfl 0 rfl
          have c1 := hT.box 1 (e := 29) rfl 1 rfl
          have f0 := hT.bfree 1 (e := 29) rfl 0
          have f1 := hT.bfree 1 (e := 29) rfl 1
          have h9 := (hT.bstore 1 (e := 29) rfl 0 (.int .i64 P)).bstore 1 (e := 29) rfl 1 (.slice a A.length c)
          simp only [List.set_cons_zero, List.set_cons_succ] at h9
          have d0 := h9.box 1 (e := 29) rfl 0 rfl
          have d1 := h9.box 1 (e := 29) rfl 1 rfl
          have h10 := h9.sub (L' := own2 (.slice a A.length c) us A ++ L) ((List.sublist_cons_self _ _).trans (List.sublist_cons_self _ _))
          clear hT h9
          go_wp2_with fail
          refine bodyPost_ret (v := .agg #[.int .i64 P, .slice a A.length c]) (by simp [results, Tryz.results49, go_sem, d0, d1]) rfl ?_
          exact ⟨P, A, _, us, hP'.out, hI.out.1, rfl, hI.out.2, h10.mono (by omega)⟩
        · have b0 := hT.box 0 (e := 29) rfl 0 rfl
          go_wp2_with fail
          refine (l04DrawPerm_c w0 _ cv bs g _ _ P hb hT (by omega) (by omega)).mono ?_
          rintro e6 w6 ⟨vp, p, rfl, hpl, hpp, h2⟩
          have Hp := Lib.hid (And.intro hpl hpp)
          have hbx : BoxD w6 w2.heap.size P (.slice a A.length c) := ⟨h2.box 1 (e := 29) rfl 0 rfl, h2.box 1 (e := 29) rfl 1 rfl⟩
          have hrr := h2.riiS (v := .slice a A.length c) (us := us) (A := A) ((List.sublist_append_left _ _).trans ((List.sublist_cons_self _ _).trans ((List.sublist_cons_self _ _).trans (List.sublist_cons_self _ _)))) hI.out.2
          have HK := Lib.hid (l10Image_c P w2.heap.size (.slice a A.length c) us A vp p w6 hrr hbx (h2.rdI 0 rfl) hI.out.1.ok hpl)
          have HT := Lib.hid (hI.out.1.img hpp hpl)
          clear b0 hT hpl hpp hbx hrr
          go_wp2_with fail
          refine HK.out.mono ?_
          clear HK
          rintro e7 w7 ⟨v5, us5, rfl, hl5, h5⟩
          obtain ⟨ua, uc, hv5⟩ := (h5.rd 0 (e := 24) (v := v5) (us := us5) rfl).sl.sh
          rw [hl5] at hv5
          generalize srtL (imgL p A) = S at *
          subst hv5
          have h6 := h2.call h5
          have c0 := h6.box 2 (e := 29) rfl 0 rfl
          have c1 := h6.box 2 (e := 29) rfl 1 rfl
          have f0 := h6.bfree 2 (e := 29) rfl 0
          have f1 := h6.bfree 2 (e := 29) rfl 1
          have h9 := (h6.bstore 2 (e := 29) rfl 0 (.int .i64 P)).bstore 2 (e := 29) rfl 1 (.slice ua S.length uc)
          simp only [List.cons_append, List.set_cons_zero, List.set_cons_succ] at h9
          have d0 := h9.box 2 (e := 29) rfl 0 rfl
          have d1 := h9.box 2 (e := 29) rfl 1 rfl
          have h10 := (h9.sub (L' := L ++ own2 (.slice ua S.length uc) us5 S) (by
            refine .cons _ (.cons _ (.cons _ ?_))
            rw [List.append_assoc]
            exact List.sublist_append_right _ _)).perm (L' := own2 (.slice ua S.length uc) us5 S ++ L) List.perm_append_comm
          unfold dv
          clear h2 h5 h6 h9
          go_wp2_with fail
          refine bodyPost_ret (v := .agg #[.int .i64 P, .slice ua S.length uc]) (by simp [results, Tryz.results49, go_sem, d0, d1]) rfl ?_
          exact ⟨P, S, _, us5, hP'.out, HT.out, rfl, hl5, h10.mono (by omega)⟩
      · have f1 : ((R.length : Int) == 0) = false := eq_f (by omega)
        have pR := Lib.hid pR
        have ixR := rR.ixe
        obtain ⟨LL, hLL⟩ : ∃ LL : List Ent, LL = box 29 w2.heap.size [.int .i64 P, .slice a A.length c] :: box 29 w.heap.size [.int .i64 0, .slice none 0 0] :: (own2 (.slice a A.length c) us A ++ L) ++ own2 vR uR R := ⟨_, rfl⟩
        rw [← hLL] at hS4
        have hsA : (own2 (.slice a A.length c) us A).Sublist LL := by
          rw [hLL]
          exact ((List.sublist_append_left _ L).trans ((List.sublist_cons_self _ _).trans (List.sublist_cons_self _ _))).trans (List.sublist_append_left _ _)
        have hsR : (own2 vR uR R).Sublist LL := by rw [hLL]; exact List.sublist_append_right _ _
        have HA := Lib.hid (fun W K' (X : List Ent) (hW : Src w0 W cv g K' (X ++ LL)) => hW.riiS (v := .slice a A.length c) (us := us) (A := A) (hsA.trans (List.sublist_append_right _ _)) hI.out.2)
        have HR := Lib.hid (fun W K' (X : List Ent) (hW : Src w0 W cv g K' (X ++ LL)) => hW.riiS (v := vR) (us := uR) (A := R) (hsR.trans (List.sublist_append_right _ _)) eR)
        have HQ := Lib.hid (fun W K' (X : List Ent) j (hj : j < R.length) (hW : Src w0 W cv g K' (X ++ LL)) => (HR.out W K' X hW).row j hj)
        have HS := Lib.hid (fun W K' (X : List Ent) (hW : Src w0 W cv g K' (X ++ LL)) => (show W.cell? ⟨w2.heap.size, 0, none⟩ = some (.int .i64 P) ∧ W.cell? ⟨w2.heap.size, 1, none⟩ = some (.slice a A.length c) ∧ ∀ j, j < R.length → W.cell? (el vR j) = some (vat uR j) from by
          have h' := hW.sub (L' := LL) (List.sublist_append_right _ _)
          refine ⟨?_, ?_, fun j hj => (HR.out W K' X hW).cell j hj⟩
          · rw [hLL] at h'; exact h'.box 0 rfl 0 rfl
          · rw [hLL] at h'; exact h'.box 0 rfl 1 rfl))
        have HS2 := Lib.hid (fun W K' (X Y : List Ent) (hW : Src w0 W cv g K' (X ++ LL ++ Y)) => HS.out W K' X (hW.sub (List.sublist_append_left _ _)))
        have HLL := Lib.hid hLL
        clear hsA hsR rR eR lR h8 hLL
        go_wp2_with fail
        go_cut [6, 7] from 22 to 34 (fun s6 s7 w' => CutT w0 cv g (K + 110 - 10 * m) P LL s6 s7 w')
        case first =>
          refine regionG (fun w' => w'.cell? ⟨w2.heap.size, 0, none⟩ = some (.int .i64 P) ∧ w'.cell? ⟨w2.heap.size, 1, none⟩ = some (.slice a A.length c) ∧ ∀ j, j < R.length → w'.cell? (el vR j) = some (vat uR j)) 13 (by kernel_rfl) (HS.out _ _ [] hS4.drew) (fun hHeld => ?_)
          have hS5 := hS4.drew
          refine takeH (i := 0) [8] (v := ?_) rfl (by kernel_rfl) (fun _ _ _ h => h) (by rfl) ?_ (by assumption) ?_
          case refine_2 => (intro w' hSw; (try dsimp only at hSw); have hc0 := hSw.1; have hc1 := hSw.2.1; go_simp; first | done | with_reducible rfl)
          try simp only [Act.put, List.setIfInBounds_toArray, List.set_cons_zero, List.set_cons_succ]
          refine takeP (i := 1) (v := ?_) rfl (by kernel_rfl) (fun _ _ _ h => h) (by rfl) ?_ (by assumption) ?_
          case refine_2 => (intro w'; go_simp; first | done | with_reducible rfl)
          try simp only [Act.put, List.setIfInBounds_toArray, List.set_cons_zero, List.set_cons_succ]
          refine takeP (i := 2) (v := ?_) rfl (by kernel_rfl) (fun _ _ _ h => h) (by rfl) ?_ (by assumption) ?_
          case refine_2 => (intro w'; go_simp; first | done | with_reducible rfl)
          try simp only [Act.put, List.setIfInBounds_toArray, List.set_cons_zero, List.set_cons_succ]
          refine takeP (i := 3) (v := ?_) rfl (by kernel_rfl) (fun _ _ _ h => h) (by rfl) ?_ (by assumption) ?_
          case refine_2 => (intro w'; go_simp; first | done | with_reducible rfl)
          try simp only [Act.put, List.setIfInBounds_toArray, List.set_cons_zero, List.set_cons_succ]
          refine takeP (i := 4) (v := ?_) rfl (by kernel_rfl) (fun _ _ _ h => h) (by rfl) ?_ (by assumption) ?_
          case refine_2 => (intro w'; go_simp; first | done | with_reducible rfl)
          try simp only [Act.put, List.setIfInBounds_toArray, List.set_cons_zero, List.set_cons_succ]
          refine readyG (rs := [5, 12]) (by kernel_rfl) (by simp) ?_
          refine AllG.cons rfl (fun K hK => ?_) (AllG.cons rfl (fun K hK => ?_) AllG.nil)
          · go_simp
            refine (pick_c w0 _ cv bs g _ _ R.length hb hS5 (by omega)).mono ?_
            rintro e5 w5 ⟨z, z0, z1, rfl, hP⟩
            obtain ⟨j, rfl⟩ := Int.eq_ofNat_of_zero_le z0
            have hjR : j < R.length := by omega
            have xj := ixR (j : Int) j rfl hjR
            have hSS := HS.out w5 _ [] hP
            refine hK.out _ _ hSS (fun hHeld => ?_)
            clear hK K hS5
            try simp only [Act.put, List.setIfInBounds_toArray, List.set_cons_zero, List.set_cons_succ]
            refine takeP (i := 6) (v := ?_) rfl (by kernel_rfl) (fun _ _ _ h => h) (by rfl) ?_ (by assumption) ?_
            case refine_2 => (intro w'; go_simp; first | done | with_reducible rfl)
            try simp only [Act.put, List.setIfInBounds_toArray, List.set_cons_zero, List.set_cons_succ]
            refine takeH (i := 7) [8] (v := ?_) rfl (by kernel_rfl) (fun _ _ _ h => h) (by rfl) ?_ (by assumption) ?_
            case refine_2 => (intro w' hSw; (try dsimp only at hSw); have hcj := hSw.2.2 j hjR; go_simp; first | done | with_reducible rfl)
            try simp only [Act.put, List.setIfInBounds_toArray, List.set_cons_zero, List.set_cons_succ]
            refine readyG (rs := [8, 12]) (by kernel_rfl) (by simp) ?_
            refine AllG.cons rfl (fun K hK => ?_) (AllG.cons rfl (fun K hK => ?_) AllG.nil)
            · go_simp
              have hA5 := HA.out _ _ [] hP
              have hq5 := HQ.out _ _ [] j hjR hP
              have hp5 := pR.out _ (xat_mem hjR)
              refine (sSwitchPasch_c P (.slice a A.length c) (vat uR j) us A (xat R j) _ hA5 hq5 hI.out.1 hp5).mono ?_
              intro e6 w6 h6
              obtain ⟨P', A', c', v', us', rfl, hc6, hT6, hl6, h7⟩ := h6.one
              obtain ⟨a', c'', hv'⟩ := (h7.rd 0 (e := 24) (v := v') (us := us') rfl).sl.sh
              rw [hl6] at hv'
              subst hv'
              unfold dv
              have hV0 := hP.call h7
              refine hK.out _ _ (HS2.out _ _ [] _ hV0) (fun hHeld => ?_)
              clear hK K hA5 hq5 hp5 h6 h7 hP
              try simp only [Act.put, List.setIfInBounds_toArray, List.set_cons_zero, List.set_cons_succ]
              refine takeP (i := 9) (v := ?_) rfl (by kernel_rfl) (fun _ _ _ h => h) (by rfl) ?_ (by assumption) ?_
              case refine_2 => (intro w'; go_simp; first | done | with_reducible rfl)
              try simp only [Act.put, List.setIfInBounds_toArray, List.set_cons_zero, List.set_cons_succ]
              refine takeP (i := 10) (v := ?_) rfl (by kernel_rfl) (fun _ _ _ h => h) (by rfl) ?_ (by assumption) ?_
              case refine_2 => (intro w'; go_simp; first | done | with_reducible rfl)
              try simp only [Act.put, List.setIfInBounds_toArray, List.set_cons_zero, List.set_cons_succ]
              refine takeP (i := 11) (v := ?_) rfl (by kernel_rfl) (fun _ _ _ h => h) (by rfl) ?_ (by assumption) ?_
              case refine_2 => (intro w'; go_simp; first | done | with_reducible rfl)
              try simp only [Act.put, List.setIfInBounds_toArray, List.set_cons_zero, List.set_cons_succ]
              refine readyG (rs := [12]) (by kernel_rfl) (by simp) ?_
              refine AllG.cons rfl (fun K hK => ?_) AllG.nil
              go_simp
              have hV := hV0.newboxF 29 #[.int .i64 0, .slice none 0 0]
              refine hK.out _ _ (HS2.out _ _ [_] _ hV) (fun hHeld => ?_)
              clear hK K
              try simp only [Act.put, List.setIfInBounds_toArray, List.set_cons_zero, List.set_cons_succ]
              have y0 := hV.bfree 0 rfl 0
              have y1 := hV.box 0 rfl 0 rfl
              have y2 := hV.box 0 rfl 1 rfl
              have y3 := hV.bfree 0 rfl 1
              refine readyG (rs := [13]) (by kernel_rfl) (by simp) ?_
              refine AllG.last rfl (by kernel_rfl) (fun K hK => ?_) AllG.nil
              go_simp
              refine hK.out _ _ ?_
              clear hK K
              try simp only [Act.put, List.setIfInBounds_toArray, List.set_cons_zero, List.set_cons_succ]
              refine readyG (rs := [14]) (by kernel_rfl) (by simp) ?_
              refine AllG.last rfl (by kernel_rfl) (fun K hK => ?_) AllG.nil
              go_simp
              refine hK.out _ _ ?_
              clear hK K
              try simp only [Act.put, List.setIfInBounds_toArray, List.set_cons_zero, List.set_cons_succ]
              refine doneG (by kernel_rfl) ?_ _
              refine NoPanic.normal ?_
              have h9 := hV0.newboxF 29 #[.int .i64 P', .slice a' A'.length c'']
              clear y0 y1 y2 y3
              go_wp2_with fail
              go_meet
              case rel => exact ⟨_, P', A', a', c'', us', c', rfl, rfl, hc6, hT6, hl6, h9.mono (by omega)⟩
            · go_simp
              have hPa := hP.newboxF 29 #[.int .i64 0, .slice none 0 0]
              refine hK.out _ _ (HS.out _ _ [_] hPa) (fun hHeld => ?_)
              clear hK K
              try simp only [Act.put, List.setIfInBounds_toArray, List.set_cons_zero, List.set_cons_succ]
              refine readyG (rs := [8]) (by kernel_rfl) (by simp) ?_
              refine AllG.cons rfl (fun K hK => ?_) AllG.nil
              go_simp
              have hA5 := HA.out _ _ [_] hPa
              have hq5 := HQ.out _ _ [_] j hjR hPa
              have hp5 := pR.out _ (xat_mem hjR)
              refine (sSwitchPasch_c P (.slice a A.length c) (vat uR j) us A (xat R j) _ hA5 hq5 hI.out.1 hp5).mono ?_
              intro e6 w6 h6
              obtain ⟨P', A', c', v', us', rfl, hc6, hT6, hl6, h7⟩ := h6.one
              obtain ⟨a', c'', hv'⟩ := (h7.rd 0 (e := 24) (v := v') (us := us') rfl).sl.sh
              rw [hl6] at hv'
              subst hv'
              unfold dv
              have hV := hPa.call h7
              refine hK.out _ _ (HS2.out _ _ [_] _ hV) (fun hHeld => ?_)
              clear hK K hA5 hq5 hp5 h6 h7 hPa
              try simp only [Act.put, List.setIfInBounds_toArray, List.set_cons_zero, List.set_cons_succ]
              refine takeP (i := 9) (v := ?_) rfl (by kernel_rfl) (fun _ _ _ h => h) (by rfl) ?_ (by assumption) ?_
              case refine_2 => (intro w'; go_simp; first | done | with_reducible rfl)
              try simp only [Act.put, List.setIfInBounds_toArray, List.set_cons_zero, List.set_cons_succ]
              refine takeP (i := 10) (v := ?_) rfl (by kernel_rfl) (fun _ _ _ h => h) (by rfl) ?_ (by assumption) ?_
              case refine_2 => (intro w'; go_simp; first | done | with_reducible rfl)
              try simp only [Act.put, List.setIfInBounds_toArray, List.set_cons_zero, List.set_cons_succ]
              refine takeP (i := 11) (v := ?_) rfl (by kernel_rfl) (fun _ _ _ h => h) (by rfl) ?_ (by assumption) ?_
              case refine_2 => (intro w'; go_simp; first | done | with_reducible rfl)
              try simp only [Act.put, List.setIfInBounds_toArray, List.set_cons_zero, List.set_cons_succ]
              have y0 := hV.bfree 0 rfl 0
              have y1 := hV.box 0 rfl 0 rfl
              have y2 := hV.box 0 rfl 1 rfl
              have y3 := hV.bfree 0 rfl 1
              refine readyG (rs := [13]) (by kernel_rfl) (by simp) ?_
              refine AllG.last rfl (by kernel_rfl) (fun K hK => ?_) AllG.nil
              go_simp
              refine hK.out _ _ ?_
              clear hK K
              try simp only [Act.put, List.setIfInBounds_toArray, List.set_cons_zero, List.set_cons_succ]
              refine readyG (rs := [14]) (by kernel_rfl) (by simp) ?_
              refine AllG.last rfl (by kernel_rfl) (fun K hK => ?_) AllG.nil
              go_simp
              refine hK.out _ _ ?_
              clear hK K
              try simp only [Act.put, List.setIfInBounds_toArray, List.set_cons_zero, List.set_cons_succ]
              refine doneG (by kernel_rfl) ?_ _
              refine NoPanic.normal ?_
              have h9 := (hV.bstore 0 rfl 0 (.int .i64 P')).bstore 0 rfl 1 (.slice a' A'.length c'')
              clear y0 y1 y2 y3
              go_wp2_with fail
              go_meet
              case rel => exact ⟨_, P', A', a', c'', us', c', rfl, rfl, hc6, hT6, hl6, h9.mono (by omega)⟩
          · go_simp
            have hSa : Src w0 _ cv g _ (box 29 w4.heap.size [.int .i64 0, .slice none 0 0] :: LL) := hS5.newboxF 29 #[.int .i64 0, .slice none 0 0]
            refine hK.out _ _ (HS.out _ _ [_] hSa) (fun hHeld => ?_)
            clear hK K
            try simp only [Act.put, List.setIfInBounds_toArray, List.set_cons_zero, List.set_cons_succ]
            refine readyG (rs := [5]) (by kernel_rfl) (by simp) ?_
            refine AllG.cons rfl (fun K hK => ?_) AllG.nil
            go_simp
            refine (pick_c w0 _ cv bs g _ _ R.length hb hSa (by omega)).mono ?_
            rintro e5 w5 ⟨z, z0, z1, rfl, hP⟩
            obtain ⟨j, rfl⟩ := Int.eq_ofNat_of_zero_le z0
            have hjR : j < R.length := by omega
            have xj := ixR (j : Int) j rfl hjR
            have hSS := HS.out w5 _ [_] hP
            refine hK.out _ _ hSS (fun hHeld => ?_)
            clear hK K hSa
            try simp only [Act.put, List.setIfInBounds_toArray, List.set_cons_zero, List.set_cons_succ]
            refine takeP (i := 6) (v := ?_) rfl (by kernel_rfl) (fun _ _ _ h => h) (by rfl) ?_ (by assumption) ?_
            case refine_2 => (intro w'; go_simp; first | done | with_reducible rfl)
            try simp only [Act.put, List.setIfInBounds_toArray, List.set_cons_zero, List.set_cons_succ]
            refine takeH (i := 7) [8] (v := ?_) rfl (by kernel_rfl) (fun _ _ _ h => h) (by rfl) ?_ (by assumption) ?_
            case refine_2 => (intro w' hSw; (try dsimp only at hSw); have hcj := hSw.2.2 j hjR; go_simp; first | done | with_reducible rfl)
            try simp only [Act.put, List.setIfInBounds_toArray, List.set_cons_zero, List.set_cons_succ]
            refine readyG (rs := [8]) (by kernel_rfl) (by simp) ?_
            refine AllG.cons rfl (fun K hK => ?_) AllG.nil
            go_simp
            have hA5 := HA.out _ _ [_] hP
            have hq5 := HQ.out _ _ [_] j hjR hP
            have hp5 := pR.out _ (xat_mem hjR)
            refine (sSwitchPasch_c P (.slice a A.length c) (vat uR j) us A (xat R j) _ hA5 hq5 hI.out.1 hp5).mono ?_
            intro e6 w6 h6
            obtain ⟨P', A', c', v', us', rfl, hc6, hT6, hl6, h7⟩ := h6.one
            obtain ⟨a', c'', hv'⟩ := (h7.rd 0 (e := 24) (v := v') (us := us') rfl).sl.sh
            rw [hl6] at hv'
            subst hv'
            unfold dv
            have hV := hP.call h7
            refine hK.out _ _ (HS2.out _ _ [_] _ hV) (fun hHeld => ?_)
            clear hK K hA5 hq5 hp5 h6 h7 hP
            try simp only [Act.put, List.setIfInBounds_toArray, List.set_cons_zero, List.set_cons_succ]
            refine takeP (i := 9) (v := ?_) rfl (by kernel_rfl) (fun _ _ _ h => h) (by rfl) ?_ (by assumption) ?_
            case refine_2 => (intro w'; go_simp; first | done | with_reducible rfl)
            try simp only [Act.put, List.setIfInBounds_toArray, List.set_cons_zero, List.set_cons_succ]
            refine takeP (i := 10) (v := ?_) rfl (by kernel_rfl) (fun _ _ _ h => h) (by rfl) ?_ (by assumption) ?_
            case refine_2 => (intro w'; go_simp; first | done | with_reducible rfl)
            try simp only [Act.put, List.setIfInBounds_toArray, List.set_cons_zero, List.set_cons_succ]
            refine takeP (i := 11) (v := ?_) rfl (by kernel_rfl) (fun _ _ _ h => h) (by rfl) ?_ (by assumption) ?_
            case refine_2 => (intro w'; go_simp; first | done | with_reducible rfl)
            try simp only [Act.put, List.setIfInBounds_toArray, List.set_cons_zero, List.set_cons_succ]
            have y0 := hV.bfree 0 rfl 0
            have y1 := hV.box 0 rfl 0 rfl
            have y2 := hV.box 0 rfl 1 rfl
            have y3 := hV.bfree 0 rfl 1
            refine readyG (rs := [13]) (by kernel_rfl) (by simp) ?_
            refine AllG.last rfl (by kernel_rfl) (fun K hK => ?_) AllG.nil
            go_simp
            refine hK.out _ _ ?_
            clear hK K
            try simp only [Act.put, List.setIfInBounds_toArray, List.set_cons_zero, List.set_cons_succ]
            refine readyG (rs := [14]) (by kernel_rfl) (by simp) ?_
            refine AllG.last rfl (by kernel_rfl) (fun K hK => ?_) AllG.nil
            go_simp
            refine hK.out _ _ ?_
            clear hK K
            try simp only [Act.put, List.setIfInBounds_toArray, List.set_cons_zero, List.set_cons_succ]
            refine doneG (by kernel_rfl) ?_ _
            refine NoPanic.normal ?_
            have h9 := (hV.bstore 0 rfl 0 (.int .i64 P')).bstore 0 rfl 1 (.slice a' A'.length c'')
            clear y0 y1 y2 y3
            go_wp2_with fail
            go_meet
            case rel => exact ⟨_, P', A', a', c'', us', c', rfl, rfl, hc6, hT6, hl6, h9.mono (by omega)⟩
        case rest =>
          obtain ⟨g6, P', A', a', c'', us', c', rfl, rfl, hc6, hT6, hl6, hV⟩ := hcut
          have y0 := hV.box 0 (e := 29) rfl 0 rfl
          have y1 := hV.box 0 (e := 29) rfl 1 rfl
          rw [HLL.out] at hV
          have hV1 := hV.perm (L' := box 29 w2.heap.size [.int .i64 P, .slice a A.length c] :: box 29 w.heap.size [.int .i64 0, .slice none 0 0] :: (box 29 g6 [.int .i64 P', .slice a' A'.length c''] :: ((own2 (.slice a A.length c) us A ++ L ++ own2 vR uR R) ++ own2 (.slice a' A'.length c'') us' A'))) (by
            refine (List.Perm.swap _ _ _).trans (List.Perm.cons _ ?_)
            exact List.Perm.swap _ _ _)
          clear hV
          rcases hc6 with rfl | rfl
          · obtain ⟨rfl, hT6⟩ := hT6 rfl
            have z0 := hV1.box 0 (e := 29) rfl 0 rfl
            have z1 := hV1.box 0 (e := 29) rfl 1 rfl
            have f0 := hV1.bfree 0 (e := 29) rfl 0
            have f1 := hV1.bfree 0 (e := 29) rfl 1
            have h9 := (hV1.bstore 0 (e := 29) rfl 0 (.int .i64 P')).bstore 0 (e := 29) rfl 1 (.slice a' A'.length c'')
            simp only [List.set_cons_zero, List.set_cons_succ] at h9
            have h10 := (h9.sub (L' := box 29 w2.heap.size [.int .i64 P', .slice a' A'.length c''] :: box 29 w.heap.size [.int .i64 0, .slice none 0 0] :: (L ++ own2 (.slice a' A'.length c'') us' A')) (by
              refine .cons_cons _ (.cons_cons _ (.cons _ ?_))
              exact List.Sublist.append_right ((List.sublist_append_right _ _).trans (List.sublist_append_left _ _)) _)).perm (L' := box 29 w2.heap.size [.int .i64 P', .slice a' A'.length c''] :: box 29 w.heap.size [.int .i64 0, .slice none 0 0] :: (own2 (.slice a' A'.length c'') us' A' ++ L)) (List.Perm.cons _ (List.Perm.cons _ List.perm_append_comm))
            have HT6 := Lib.hid (And.intro hT6 hl6)
            clear hV1 h9 hT6 hl6
            go_wp2_with fail
            go_roundw
            case rel => exact ⟨m - 1, A', a', c'', us', by go_num, by omega, HT6.out, h10.mono (by omega)⟩
            case measure => simp [intOf]; omega
          · have h10 := hV1.sub (L' := box 29 w2.heap.size [.int .i64 P, .slice a A.length c] :: box 29 w.heap.size [.int .i64 0, .slice none 0 0] :: (own2 (.slice a A.length c) us A ++ L)) (by
              refine .cons_cons _ (.cons_cons _ (.cons _ ?_))
              exact (List.sublist_append_left _ _).trans (List.sublist_append_left _ _))
            clear hV1 hT6 hl6
            go_wp2_with fail
            go_roundw
            case rel => exact ⟨m - 1, A, a, c, us, by go_num, by omega, hI, h10.mono (by omega)⟩
            case measure => simp [intOf]; omega
    · obtain rfl : m = 0 := by omega
      go_wp2_with fail
      refine (one_c w0 _ cv bs g _ _ 2 hb hS (by omega)).mono ?_
      rintro e5 w5 ⟨b, rfl, hT⟩
      clear hS
      cases b
      · have b0 := hT.box 0 (e := 29) rfl 0 rfl
        have b1 := hT.box 0 (e := 29) rfl 1 rfl
        have c0 := hT.box 1 (e := 29) rfl 0 rfl
        have c1 := hT.box 1 (e := 29) rfl 1 rfl
        have f0 := hT.bfree 1 (e := 29) rfl 0
        have f1 := hT.bfree 1 (e := 29) rfl 1
        have h9 := (hT.bstore 1 (e := 29) rfl 0 (.int .i64 P)).bstore 1 (e := 29) rfl 1 (.slice a A.length c)
        simp only [List.set_cons_zero, List.set_cons_succ] at h9
        have d0 := h9.box 1 (e := 29) rfl 0 rfl
        have d1 := h9.box 1 (e := 29) rfl 1 rfl
        have h10 := h9.sub (L' := own2 (.slice a A.length c) us A ++ L) ((List.sublist_cons_self _ _).trans (List.sublist_cons_self _ _))
        clear hT h9
        go_wp2_with fail
        refine bodyPost_ret (v := .agg #[.int .i64 P, .slice a A.length c]) (by simp [results, Tryz.results49, go_sem, d0, d1]) rfl ?_
        exact ⟨P, A, _, us, hP'.out, hI.out.1, rfl, hI.out.2, h10.mono (by omega)⟩
      · have b0 := hT.box 0 (e := 29) rfl 0 rfl
        go_wp2_with fail
        refine (l04DrawPerm_c w0 _ cv bs g _ _ P hb hT (by omega) (by omega)).mono ?_
        rintro e6 w6 ⟨vp, p, rfl, hpl, hpp, h2⟩
        have Hp := Lib.hid (And.intro hpl hpp)
        have hbx : BoxD w6 w2.heap.size P (.slice a A.length c) := ⟨h2.box 1 (e := 29) rfl 0 rfl, h2.box 1 (e := 29) rfl 1 rfl⟩
        have hrr := h2.riiS (v := .slice a A.length c) (us := us) (A := A) ((List.sublist_append_left _ _).trans ((List.sublist_cons_self _ _).trans ((List.sublist_cons_self _ _).trans (List.sublist_cons_self _ _)))) hI.out.2
        have HK := Lib.hid (l10Image_c P w2.heap.size (.slice a A.length c) us A vp p w6 hrr hbx (h2.rdI 0 rfl) hI.out.1.ok hpl)
        have HT := Lib.hid (hI.out.1.img hpp hpl)
        clear b0 hT hpl hpp hbx hrr
        go_wp2_with fail
        refine HK.out.mono ?_
        clear HK
        rintro e7 w7 ⟨v5, us5, rfl, hl5, h5⟩
        obtain ⟨ua, uc, hv5⟩ := (h5.rd 0 (e := 24) (v := v5) (us := us5) rfl).sl.sh
        rw [hl5] at hv5
        generalize srtL (imgL p A) = S at *
        subst hv5
        have h6 := h2.call h5
        have c0 := h6.box 2 (e := 29) rfl 0 rfl
        have c1 := h6.box 2 (e := 29) rfl 1 rfl
        have f0 := h6.bfree 2 (e := 29) rfl 0
        have f1 := h6.bfree 2 (e := 29) rfl 1
        have h9 := (h6.bstore 2 (e := 29) rfl 0 (.int .i64 P)).bstore 2 (e := 29) rfl 1 (.slice ua S.length uc)
        simp only [List.cons_append, List.set_cons_zero, List.set_cons_succ] at h9
        have d0 := h9.box 2 (e := 29) rfl 0 rfl
        have d1 := h9.box 2 (e := 29) rfl 1 rfl
        have h10 := (h9.sub (L' := L ++ own2 (.slice ua S.length uc) us5 S) (by
          refine .cons _ (.cons _ (.cons _ ?_))
          rw [List.append_assoc]
          exact List.sublist_append_right _ _)).perm (L' := own2 (.slice ua S.length uc) us5 S ++ L) List.perm_append_comm
        unfold dv
        clear h2 h5 h6 h9
        go_wp2_with fail
        refine bodyPost_ret (v := .agg #[.int .i64 P, .slice ua S.length uc]) (by simp [results, Tryz.results49, go_sem, d0, d1]) rfl ?_
        exact ⟨P, S, _, us5, hP'.out, HT.out, rfl, hl5, h10.mono (by omega)⟩
def MakesTR (w : World) (e : Ending) (w' : World) : Prop := ∃ (P : Nat) (A : List (List Int)) (v : Value) (us : List Value), P ∈ trO ∧ TS P A ∧ e = .returned (dv P v) ∧ RII w' v us A ∧ St w.heap.size w w' []
set_option maxHeartbeats 4000000 in
set_option maxRecDepth 100000 in
theorem V8Triples_c (w : World) (cv : Value) (bs : List UInt8) (hb : RdB w cv bs) : Calls Tryz.prog 12 #[cv] w (MakesTR w) := by
  have hS0 := (St.refl w).newboxF 29 #[.int .i64 0, .slice none 0 0]
  go_enter Tryz.func12, Tryz.ntmps12
  go_wp2_with fail
  refine (l00FromS w _ cv bs _ hb hS0).mono ?_
  rintro e w1 ⟨g, rfl, h1⟩
  clear hS0
  go_wp2_with fail
  refine (l11Draw_c w _ cv bs g _ _ hb h1 (by omega)).mono ?_
  rintro e w2 ⟨P, A, v, us, hP, hT, rfl, hl, h2⟩
  obtain ⟨a, c, hv⟩ := (h2.rd 0 (e := 24) (v := v) (us := us) rfl).sl.sh
  rw [hl] at hv
  subst hv
  have h3 := h2.perm (L' := box 29 w.heap.size [.int .i64 0, .slice none 0 0] :: own2 (.slice a A.length c) us A) List.perm_append_comm
  have c0 := h3.box 0 (e := 29) rfl 0 rfl
  have c1 := h3.box 0 (e := 29) rfl 1 rfl
  have f0 := h3.bfree 0 (e := 29) rfl 0
  have f1 := h3.bfree 0 (e := 29) rfl 1
  have h9 := (h3.bstore 0 (e := 29) rfl 0 (.int .i64 P)).bstore 0 (e := 29) rfl 1 (.slice a A.length c)
  simp only [List.set_cons_zero, List.set_cons_succ] at h9
  have d0 := h9.box 0 (e := 29) rfl 0 rfl
  have d1 := h9.box 0 (e := 29) rfl 1 rfl
  have hR := h9.riiS (v := .slice a A.length c) (us := us) (A := A) (List.sublist_cons_self _ _) hl
  have hX := h9.st.out
  have HR := Lib.hid (And.intro hT (And.intro hR hX))
  clear h1 h2 h3 h9 hR hX hT hl
  unfold dv
  go_wp2_with fail
  refine bodyPost_ret (v := .agg #[.int .i64 P, .slice a A.length c]) (by simp [results, Tryz.results12, go_sem, d0, d1]) rfl ?_
  exact ⟨P, A, _, us, hP, HR.out.1, rfl, HR.out.2.1, HR.out.2.2⟩
end Go.Proofs.YtlmbaeaakpmhnaaGreat
end

section
/- Latin squares: where two rows are exchanged along a closed cycle of columns, the square stays Latin; cyclic squares and products of squares are Latin. In plain terms. -/
namespace Go.Proofs.YtlmbaeaakpmhnaaGreat
set_option linter.unusedSimpArgs false
set_option linter.unusedVariables false
/-- a square is Latin if no row and no column holds a symbol twice -/
theorem Lat.of {n : Nat} {S : List (List Int)} (h : Sq0 n S) (n1 : 1 ≤ n) (n2 : n ≤ 10) (hr : ∀ x i j, x < n → i < n → j < n → at2 S x i = at2 S x j → i = j) (hc : ∀ y i j, y < n → i < n → j < n → at2 S i y = at2 S j y → i = j) : Lat S where
  pos := by rw [h.len]; exact n1
  le := by rw [h.len]; exact n2
  len x hx := by rw [h.len] at hx ⊢; exact h.row x hx
  row x hx := by
    rw [h.len] at hx
    have hl := h.row x hx
    exact ⟨fun j hj => by rw [hl] at hj ⊢; exact h.el x j hx hj, fun i j hi hj e => by rw [hl] at hi hj; exact hr x i j hx hi hj e⟩
  col y hy := by
    rw [h.len] at hy
    exact ⟨fun j hj => by rw [colL_len] at hj ⊢; rw [nth_colL hj]; rw [h.len] at hj ⊢; exact h.el j y hj hy, fun i j hi hj e => by
      rw [colL_len] at hi hj; rw [nth_colL hi, nth_colL hj] at e; rw [h.len] at hi hj; exact hc y i j hy hi hj e⟩
theorem Lat.rinj {A : List (List Int)} (h : Lat A) {x i j : Nat} (hx : x < A.length) (hi : i < A.length) (hj : j < A.length) (e : at2 A x i = at2 A x j) : i = j :=
  (h.row x hx).inj i j (by rw [h.len x hx]; exact hi) (by rw [h.len x hx]; exact hj) e
theorem Lat.cinj {A : List (List Int)} (h : Lat A) {y i j : Nat} (hy : y < A.length) (hi : i < A.length) (hj : j < A.length) (e : at2 A i y = at2 A j y) : i = j :=
  (h.col y hy).inj i j (by rw [colL_len]; exact hi) (by rw [colL_len]; exact hj) (by rw [nth_colL hi, nth_colL hj]; exact e)
theorem Lat.ronto {A : List (List Int)} (h : Lat A) {x : Nat} (hx : x < A.length) {s : Int} (h0 : 0 ≤ s) (h1 : s < A.length) : ∃ y, y < A.length ∧ at2 A x y = s := by
  have hp := h.row x hx
  have hl := h.len x hx
  obtain ⟨y, hy, e⟩ := hp.bij.onto (y := s.toNat) (by omega)
  refine ⟨y, by omega, ?_⟩
  have := nth_pf hp hy
  unfold at2; omega
/-! ### exchanging two rows along columns -/
/-- the rows x and z of A are exchanged at the columns T; y comes next -/
structure SwI (n : Nat) (A S : List (List Int)) (x z y : Nat) (f : Int) (T : List Nat) : Prop where
  sq : Sqr n S
  el : ∀ a b, a < n → b < n → at2 S a b = if b ∈ T then at2 A (if a = x then z else if a = z then x else a) b else at2 A a b
  nd : T.Nodup
  lt : ∀ t ∈ T, t < n
  yn : y ∉ T
  ylt : y < n
  c1 : ∀ t ∈ y :: T, at2 A x t = f ∨ ∃ u ∈ T, at2 A x t = at2 A z u
  c2 : ∀ u ∈ T, ∃ t ∈ y :: T, at2 A z u = at2 A x t
  c3 : ∃ t ∈ y :: T, at2 A x t = f
section
variable {n : Nat} {A S : List (List Int)} {x z y : Nat} {f : Int} {T : List Nat}
theorem SwI.start (hA : Sqr n A) (hy : y < n) : SwI n A A x z y (at2 A x y) [] where
  sq := hA
  el a b _ _ := by simp
  nd := List.nodup_nil
  lt t ht := by cases ht
  yn := by simp
  ylt := hy
  c1 t ht := by simp at ht; subst ht; exact .inl rfl
  c2 u hu := by cases hu
  c3 := ⟨y, by simp, rfl⟩
theorem length_le_of_nodup_lt {T : List Nat} {n : Nat} (h : T.Nodup) (hl : ∀ t ∈ T, t < n) : T.length ≤ n := by
  have := h.length_le_of_subset (l₂ := List.range n) (fun t ht => List.mem_range.2 (hl t ht))
  simpa using this
theorem SwI.len (h : SwI n A S x z y f T) : T.length < n := by
  have := length_le_of_nodup_lt (T := y :: T) (n := n) (List.nodup_cons.2 ⟨h.yn, h.nd⟩) (fun t ht => by
    rcases List.mem_cons.1 ht with rfl | ht
    · exact h.ylt
    · exact h.lt t ht)
  have h2 : T.length + 1 ≤ n := by simpa using this
  omega
theorem SwI.atx (h : SwI n A S x z y f T) (hx : x < n) : at2 S x y = at2 A x y := by rw [h.el x y hx h.ylt, if_neg h.yn]
theorem SwI.atz (h : SwI n A S x z y f T) (hz : z < n) : at2 S z y = at2 A z y := by rw [h.el z y hz h.ylt, if_neg h.yn]
/-- the entries behind the exchange at y -/
theorem SwI.put (h : SwI n A S x z y f T) (hx : x < n) (hz : z < n) (hxz : x ≠ z) :
    Sqr n (putS (putS S x y (at2 S z y)) z y (at2 S x y)) ∧ ∀ a b, a < n → b < n → at2 (putS (putS S x y (at2 S z y)) z y (at2 S x y)) a b = if b ∈ y :: T then at2 A (if a = x then z else if a = z then x else a) b else at2 A a b := by
  have q1 := putS_sqr h.sq hx y (at2 S z y)
  refine ⟨putS_sqr q1 hz y _, fun a b ha hb => ?_⟩
  rw [at2_putS q1 hz h.ylt, at2_putS h.sq hx h.ylt, h.atx hx, h.atz hz]
  by_cases e1 : z = a ∧ y = b
  · obtain ⟨rfl, rfl⟩ := e1
    rw [if_pos ⟨rfl, rfl⟩, if_pos (show y ∈ y :: T by simp), if_neg (fun e => hxz e.symm), if_pos rfl]
  · rw [if_neg e1]
    by_cases e2 : x = a ∧ y = b
    · obtain ⟨rfl, rfl⟩ := e2
      rw [if_pos ⟨rfl, rfl⟩, if_pos (show y ∈ y :: T by simp), if_pos rfl]
    · rw [if_neg e2, h.el a b ha hb]
      by_cases e3 : y = b
      · subst e3
        rw [if_neg h.yn, if_pos (show y ∈ y :: T by simp), if_neg (fun e => e2 ⟨e.symm, rfl⟩), if_neg (fun e => e1 ⟨e.symm, rfl⟩)]
      · by_cases e4 : b ∈ T
        · rw [if_pos e4, if_pos (show b ∈ y :: T from List.mem_cons_of_mem _ e4)]
        · rw [if_neg e4, if_neg (show b ∉ y :: T from fun hm => by rcases List.mem_cons.1 hm with e | e; exact e3 e.symm; exact e4 e)]
/-- the cycle goes on: the next column is the only one -/
theorem SwI.next (h : SwI n A S x z y f T) (hA : Lat A) (hn : A.length = n) (hx : x < n) (hz : z < n) (hxz : x ≠ z) (hf : at2 A z y ≠ f) :
    ∃ y', y' < n ∧ y' ≠ y ∧ at2 (putS (putS S x y (at2 S z y)) z y (at2 S x y)) x y' = at2 A z y ∧ (∀ i, i < n → i ≠ y → at2 (putS (putS S x y (at2 S z y)) z y (at2 S x y)) x i = at2 A z y → i = y') ∧
      SwI n A (putS (putS S x y (at2 S z y)) z y (at2 S x y)) x z y' f (y :: T) := by
  obtain ⟨q, el⟩ := h.put hx hz hxz
  generalize putS (putS S x y (at2 S z y)) z y (at2 S x y) = S3 at q el ⊢
  subst hn
  have h0 := hA.sq0
  obtain ⟨y', hy', e⟩ := hA.ronto hx (h0.el z y hz h.ylt).1 (h0.el z y hz h.ylt).2
  have hny : y' ≠ y := fun e2 => by subst e2; exact hxz (hA.cinj hy' hx hz e)
  have hnT : y' ∉ y :: T := fun hm => by
    rcases h.c1 y' hm with e2 | ⟨u, hu, e2⟩
    · exact hf (e.symm.trans e2)
    · have := hA.rinj hz (h.lt u hu) h.ylt (e2.symm.trans e)
      subst this; exact h.yn hu
  refine ⟨y', hy', hny, by rw [el x y' hx hy', if_neg hnT, e], fun i hi hiy e2 => ?_, ?_⟩
  · rw [el x i hx hi] at e2
    by_cases m : i ∈ y :: T
    · rw [if_pos m, if_pos rfl] at e2
      exact absurd (hA.rinj hz hi h.ylt e2) hiy
    · rw [if_neg m] at e2
      exact hA.rinj hx hi hy' (e2.trans e.symm)
  · refine ⟨q, el, List.nodup_cons.2 ⟨h.yn, h.nd⟩, fun t ht => ?_, hnT, hy', fun t ht => ?_, fun u hu => ?_, ?_⟩
    · rcases List.mem_cons.1 ht with rfl | ht
      · exact h.ylt
      · exact h.lt t ht
    · rcases List.mem_cons.1 ht with rfl | ht
      · exact .inr ⟨y, by simp, e⟩
      · rcases h.c1 t ht with e2 | ⟨u, hu, e2⟩
        · exact .inl e2
        · exact .inr ⟨u, by simp [hu], e2⟩
    · rcases List.mem_cons.1 hu with rfl | hu
      · exact ⟨y', by simp, e.symm⟩
      · obtain ⟨t, ht, e2⟩ := h.c2 u hu
        exact ⟨t, by simp only [List.mem_cons] at ht ⊢; exact .inr ht, e2⟩
    · obtain ⟨t, ht, e2⟩ := h.c3
      exact ⟨t, by simp only [List.mem_cons] at ht ⊢; exact .inr ht, e2⟩
end
/-! ### cyclic squares, products -/
end Go.Proofs.YtlmbaeaakpmhnaaGreat
end

section
/- Plain: squares of triple systems are Latin. -/
namespace Go.Proofs.YtlmbaeaakpmhnaaGreat
set_option linter.unusedSimpArgs false
set_option linter.unusedVariables false
open Go

theorem sqF_lat {n : Nat} {f : Nat → Nat → Nat} (n1 : 1 ≤ n) (n2 : n ≤ 10) (hlt : ∀ x y, x < n → y < n → f x y < n) (hs : ∀ x y, x < n → y < n → f x y = f y x)
    (hi : ∀ x i j, x < n → i < n → j < n → f x i = f x j → i = j) : Lat (sqF n fun x y => (f x y : Int)) := by
  have hq : Sq0 n (sqF n fun x y => (f x y : Int)) := ⟨sqF_sqr n _, fun x y hx hy => by
    rw [at2_sqF hx hy]
    have := hlt x y hx hy
    omega⟩
  refine Lat.of hq n1 n2 (fun x i j hx hi' hj e => ?_) (fun y i j hy hi' hj e => ?_)
  · rw [at2_sqF hx hi', at2_sqF hx hj] at e
    exact hi x i j hx hi' hj (by omega)
  · rw [at2_sqF hi' hy, at2_sqF hj hy] at e
    refine hi y i j hy hi' hj ?_
    rw [hs y i hy hi', hs y j hy hj]; omega
theorem TS.lat {P : Nat} {A : List (List Int)} (h : TS P A) (h10 : P ≤ 10) : Lat (sqF P fun x y => (thF A x y : Int)) :=
  sqF_lat (by have := h.p3; omega) h10 (fun x y hx hy => h.th_lt hx hy) (fun x y hx hy => h.th_symm hx hy) (fun x i j hx hi hj e => h.th_inj hx hi hj e)
/-- the loop with the unit P -/
def loF (P : Nat) (A : List (List Int)) (x y : Nat) : Nat := if x = y then P else if x = P then y else if y = P then x else thF A x y
theorem TS.lo_lat {P : Nat} {A : List (List Int)} (h : TS P A) (h9 : P ≤ 9) : Lat (sqF (P + 1) fun x y => (loF P A x y : Int)) := by
  have key : ∀ x y, x < P → y < P → x ≠ y → thF A x y < P ∧ thF A x y ≠ x ∧ thF A x y ≠ y := fun x y hx hy e => ⟨h.th_lt hx hy, (h.th_ne hx hy e).1, (h.th_ne hx hy e).2⟩
  refine sqF_lat (by omega) (by omega) (fun x y hx hy => ?_) (fun x y hx hy => ?_) (fun x i j hx hi hj e => ?_)
  · unfold loF
    split
    · omega
    · split
      · omega
      · split
        · omega
        · have := h.th_lt (x := x) (y := y) (by omega) (by omega); omega
  · unfold loF
    by_cases e : x = y
    · subst e; rfl
    · rw [if_neg e, if_neg (show ¬ y = x from fun q => e q.symm)]
      by_cases e2 : x = P
      · rw [if_pos e2, if_neg (show ¬ y = P by omega), if_pos e2]
      · rw [if_neg e2]
        by_cases e3 : y = P
        · rw [if_pos e3, if_pos e3]
        · rw [if_neg e3, if_neg e3, if_neg e2]
          exact h.th_symm (by omega) (by omega)
  · unfold loF at e
    by_cases e1 : x = i
    · subst e1
      rw [if_pos rfl] at e
      by_cases e2 : x = j
      · exact e2
      · rw [if_neg e2] at e
        by_cases e3 : x = P
        · rw [if_pos e3] at e; omega
        · rw [if_neg e3] at e
          by_cases e4 : j = P
          · rw [if_pos e4] at e; omega
          · rw [if_neg e4] at e
            have := (key x j (by omega) (by omega) e2).1; omega
    · rw [if_neg e1] at e
      by_cases e2 : x = j
      · subst e2
        rw [if_pos rfl] at e
        by_cases e3 : x = P
        · rw [if_pos e3] at e; omega
        · rw [if_neg e3] at e
          by_cases e4 : i = P
          · rw [if_pos e4] at e; omega
          · rw [if_neg e4] at e
            have := (key x i (by omega) (by omega) e1).1; omega
      · rw [if_neg e2] at e
        by_cases e3 : x = P
        · rw [if_pos e3, if_pos e3] at e; exact e
        · rw [if_neg e3, if_neg e3] at e
          by_cases e4 : i = P
          · rw [if_pos e4] at e
            by_cases e5 : j = P
            · omega
            · rw [if_neg e5] at e
              have := (key x j (by omega) (by omega) e2).2.1; omega
          · rw [if_neg e4] at e
            by_cases e5 : j = P
            · rw [if_pos e5] at e
              have := (key x i (by omega) (by omega) e1).2.1; omega
            · rw [if_neg e5] at e
              exact h.th_inj (by omega) (by omega) (by omega) e
end Go.Proofs.YtlmbaeaakpmhnaaGreat
end

section
/- Isotopes and conjugates of Latin squares, in plain terms. Conjugates of Latin squares as lists of lists. In plain terms. -/
namespace Go.Proofs.YtlmbaeaakpmhnaaGreat
set_option linter.unusedSimpArgs false
set_option linter.unusedVariables false

structure Latin (n : Nat) (a : Nat → Nat → Nat) : Prop where
  row : ∀ x, x < n → Bij n (a x)
  col : ∀ y, y < n → Bij n fun x => a x y
def IsoOf (n : Nat) (a : Nat → Nat → Nat) (r c s : Nat → Nat) (b : Nat → Nat → Nat) : Prop := ∀ x y, x < n → y < n → b (r x) (c y) = s (a x y)
section
variable {n : Nat} {a b d : Nat → Nat → Nat} {r c s q : Nat → Nat}
theorem IsoOf.uniq (hr : Bij n r) (hc : Bij n c) (h1 : IsoOf n a r c s b) (h2 : IsoOf n a r c s d) {x y : Nat} (hx : x < n) (hy : y < n) : b x y = d x y := by
  obtain ⟨x', hx', rfl⟩ := hr.onto hx
  obtain ⟨y', hy', rfl⟩ := hc.onto hy
  rw [h1 x' y' hx' hy', h2 x' y' hx' hy']
theorem IsoOf.comp {r' c' s' : Nat → Nat} (hr : Bij n r) (hc : Bij n c) (h1 : IsoOf n a r c s b) (h2 : IsoOf n b r' c' s' d) : IsoOf n a (fun x => r' (r x)) (fun x => c' (c x)) (fun x => s' (s x)) d := fun x y hx hy => by
  show d (r' (r x)) (c' (c y)) = s' (s (a x y))
  rw [h2 _ _ (hr.lt x hx) (hc.lt y hy), h1 x y hx hy]
theorem IsoOf.back {ri ci si : Nat → Nat} (hl : Latin n a) (hr : Bij n r) (hc : Bij n c) (h1 : IsoOf n a r c s b) (h2 : IsoOf n b ri ci si d) (er : ∀ x, x < n → ri (r x) = x) (ec : ∀ x, x < n → ci (c x) = x) (es : ∀ x, x < n → si (s x) = x)
    {x y : Nat} (hx : x < n) (hy : y < n) : d x y = a x y := by
  have := h2 _ _ (hr.lt x hx) (hc.lt y hy)
  rw [er x hx, ec y hy, h1 x y hx hy, es _ ((hl.row x hx).lt y hy)] at this
  exact this
theorem IsoOf.latin (hl : Latin n a) (hr : Bij n r) (hc : Bij n c) (hs : Bij n s) (h : IsoOf n a r c s b) : Latin n b where
  row x hx := by
    obtain ⟨x', hx', rfl⟩ := hr.onto hx
    refine ⟨fun y hy => ?_, fun y z hy hz e => ?_⟩
    · obtain ⟨y', hy', rfl⟩ := hc.onto hy
      rw [h x' y' hx' hy']; exact hs.lt _ ((hl.row x' hx').lt y' hy')
    · obtain ⟨y', hy', rfl⟩ := hc.onto hy
      obtain ⟨z', hz', rfl⟩ := hc.onto hz
      rw [h x' y' hx' hy', h x' z' hx' hz'] at e
      rw [(hl.row x' hx').inj y' z' hy' hz' (hs.inj _ _ ((hl.row x' hx').lt y' hy') ((hl.row x' hx').lt z' hz') e)]
  col y hy := by
    obtain ⟨y', hy', rfl⟩ := hc.onto hy
    refine ⟨fun x hx => ?_, fun x z hx hz e => ?_⟩
    · obtain ⟨x', hx', rfl⟩ := hr.onto hx
      rw [h x' y' hx' hy']; exact hs.lt _ ((hl.row x' hx').lt y' hy')
    · obtain ⟨x', hx', rfl⟩ := hr.onto hx
      obtain ⟨z', hz', rfl⟩ := hr.onto hz
      rw [h x' y' hx' hy', h z' y' hz' hy'] at e
      rw [(hl.col y' hy').inj x' z' hx' hz' (hs.inj _ _ ((hl.row x' hx').lt y' hy') ((hl.row z' hz').lt y' hy') e)]
/-- the triple of a place -/
def tri (x y s : Nat) : Nat → Nat := fun i => if i = 0 then x else if i = 1 then y else s
def ConjOf (n : Nat) (a : Nat → Nat → Nat) (p : Nat → Nat) (b : Nat → Nat → Nat) : Prop := ∀ x y, x < n → y < n → b (tri x y (a x y) (p 0)) (tri x y (a x y) (p 1)) = tri x y (a x y) (p 2)
theorem tri_lt {x y s : Nat} (hx : x < n) (hy : y < n) (hs : s < n) (i : Nat) : tri x y s i < n := by
  unfold tri; split
  · exact hx
  · split
    · exact hy
    · exact hs
theorem ConjOf.comp {p q : Nat → Nat} (hl : Latin n a) (hq : Bij 3 q) (h1 : ConjOf n a p b) (h2 : ConjOf n b q d) : ConjOf n a (fun i => p (q i)) d := fun x y hx hy => by
  have hs := (hl.row x hx).lt y hy
  have h := h2 _ _ (tri_lt hx hy hs (p 0)) (tri_lt hx hy hs (p 1))
  rw [h1 x y hx hy] at h
  have e : ∀ i, i < 3 → tri (tri x y (a x y) (p 0)) (tri x y (a x y) (p 1)) (tri x y (a x y) (p 2)) i = tri x y (a x y) (p i) := fun i hi => by
    rcases i with _ | _ | _ | i
    · rfl
    · rfl
    · rfl
    · omega
  rw [e _ (hq.lt 0 (by omega)), e _ (hq.lt 1 (by omega)), e _ (hq.lt 2 (by omega))] at h
  exact h
end

section
variable {n : Nat} {a : Nat → Nat → Nat}
/-- two of the three numbers of a place tell it -/
theorem tri_inj (hl : Latin n a) {i j : Nat} (hi : i < 3) (hj : j < 3) (hij : i ≠ j) {x y x' y' : Nat} (hx : x < n) (hy : y < n) (hx' : x' < n) (hy' : y' < n)
    (e1 : tri x y (a x y) i = tri x' y' (a x' y') i) (e2 : tri x y (a x y) j = tri x' y' (a x' y') j) : x = x' ∧ y = y' := by
  have r : ∀ y y', y < n → y' < n → x = x' → a x y = a x' y' → y = y' := fun y y' hy hy' e h => by subst e; exact (hl.row x hx).inj y y' hy hy' h
  have c : y = y' → a x y = a x' y' → x = x' := fun e h => by subst e; exact (hl.col y hy).inj x x' hx hx' h
  rcases i with _ | _ | _ | i <;> rcases j with _ | _ | _ | j <;> simp [tri] at e1 e2 hij <;> first | omega | skip
  all_goals first
    | exact ⟨e1, r y y' hy hy' e1 e2⟩
    | exact ⟨c e1 e2, e1⟩
    | exact ⟨e2, r y y' hy hy' e2 e1⟩
    | exact ⟨c e2 e1, e2⟩
theorem tri_onto (hl : Latin n a) {i j : Nat} (hi : i < 3) (hj : j < 3) (hij : i ≠ j) {u v : Nat} (hu : u < n) (hv : v < n) :
    ∃ x y, x < n ∧ y < n ∧ tri x y (a x y) i = u ∧ tri x y (a x y) j = v := by
  rcases i with _ | _ | _ | i <;> rcases j with _ | _ | _ | j <;> first | omega | skip
  · exact ⟨u, v, hu, hv, rfl, rfl⟩
  · obtain ⟨y, hy, e⟩ := (hl.row u hu).onto hv
    exact ⟨u, y, hu, hy, rfl, e⟩
  · exact ⟨v, u, hv, hu, rfl, rfl⟩
  · obtain ⟨x, hx, e⟩ := (hl.col u hu).onto hv
    exact ⟨x, u, hx, hu, rfl, e⟩
  · obtain ⟨y, hy, e⟩ := (hl.row v hv).onto hu
    exact ⟨v, y, hv, hy, e, rfl⟩
  · obtain ⟨x, hx, e⟩ := (hl.col v hv).onto hu
    exact ⟨x, v, hx, hv, e, rfl⟩
end
def af (A : List (List Int)) (x y : Nat) : Nat := (at2 A x y).toNat
theorem Lat.latin {A : List (List Int)} (h : Lat A) : Latin A.length (af A) where
  row x hx := by
    have := (h.row x hx).bij
    rw [h.len x hx] at this
    exact this
  col y hy := by
    have := (h.col y hy).bij
    rw [colL_len] at this
    refine ⟨fun x hx => ?_, fun x z hx hz e => this.inj x z hx hz ?_⟩
    · have h2 := this.lt x hx
      unfold pf at h2; rw [nth_colL hx] at h2; exact h2
    · unfold pf; rw [nth_colL hx, nth_colL hz]; exact e
/-- number i of the place of a square -/
def trA (A : List (List Int)) (x y i : Nat) : Nat := tri x y (af A x y) i
structure ConR (A : List (List Int)) (p : List Int) (B : List (List Int)) : Prop where
  sqr : Sqr A.length B
  at' : ∀ x y, x < A.length → y < A.length → at2 B (trA A x y (pf p 0)) (trA A x y (pf p 1)) = trA A x y (pf p 2)
structure ConP (A : List (List Int)) (p : List Int) (x y : Nat) (B : List (List Int)) : Prop where
  sqr : Sqr A.length B
  at' : ∀ x' y', x' < A.length → y' < A.length → (x' < x ∨ x' = x ∧ y' < y) → at2 B (trA A x' y' (pf p 0)) (trA A x' y' (pf p 1)) = trA A x' y' (pf p 2)
section
variable {A B C D : List (List Int)} {p q : List Int}
theorem trA_lt (h : Lat A) {x y : Nat} (hx : x < A.length) (hy : y < A.length) (i : Nat) : trA A x y i < A.length := tri_lt hx hy ((h.latin.row x hx).lt y hy) i
theorem p3_lt (hp : IsP p) (h3 : p.length = 3) {i : Nat} (hi : i < 3) : pf p i < 3 := by have := hp.pf_lt (j := i) (by omega); omega
theorem p3_ne (hp : IsP p) (h3 : p.length = 3) {i j : Nat} (hi : i < 3) (hj : j < 3) (h : i ≠ j) : pf p i ≠ pf p j := fun e => h (hp.bij.inj i j (by omega) (by omega) e)
theorem ConP.start : ConP A p 0 0 (sqF A.length fun _ _ => 0) := ⟨sqF_sqr _ _, fun _ _ _ _ h => by omega⟩
theorem ConP.step (hA : Lat A) (hp : IsP p) (h3 : p.length = 3) {x y : Nat} {S : List (List Int)} (h : ConP A p x y S) (hx : x < A.length) (hy : y < A.length) :
    ConP A p x (y + 1) (putS S (trA A x y (pf p 0)) (trA A x y (pf p 1)) (trA A x y (pf p 2))) := by
  have h1 := trA_lt hA hx hy (pf p 0)
  have h2 := trA_lt hA hx hy (pf p 1)
  refine ⟨putS_sqr h.sqr h1 _ _, fun x' y' hx' hy' hl => ?_⟩
  rw [at2_putS h.sqr h1 h2]
  split
  · rename_i e
    obtain ⟨rfl, rfl⟩ := tri_inj hA.latin (p3_lt hp h3 (by omega)) (p3_lt hp h3 (by omega)) (p3_ne hp h3 (i := 0) (j := 1) (by omega) (by omega) (by omega)) hx hy hx' hy' e.1 e.2
    rfl
  · rename_i e
    refine h.at' x' y' hx' hy' ?_
    rcases hl with hl | ⟨rfl, hl⟩
    · exact .inl hl
    · refine .inr ⟨rfl, ?_⟩
      by_cases e2 : y' = y
      · subst e2; exact absurd ⟨rfl, rfl⟩ e
      · omega
theorem ConP.next {x : Nat} {S : List (List Int)} (h : ConP A p x A.length S) : ConP A p (x + 1) 0 S :=
  ⟨h.sqr, fun x' y' hx' hy' hl => h.at' x' y' hx' hy' (by omega)⟩
theorem ConP.done {S : List (List Int)} (h : ConP A p A.length 0 S) : ConR A p S := ⟨h.sqr, fun x y hx hy => h.at' x y hx hy (.inl hx)⟩
theorem ConR.uniq (hA : Lat A) (hp : IsP p) (h3 : p.length = 3) (h1 : ConR A p B) (h2 : ConR A p C) : B = C :=
  sq_ext h1.sqr h2.sqr fun u v hu hv => by
    obtain ⟨x, y, hx, hy, rfl, rfl⟩ := tri_onto hA.latin (p3_lt hp h3 (i := 0) (by omega)) (p3_lt hp h3 (i := 1) (by omega)) (p3_ne hp h3 (by omega) (by omega) (by omega)) hu hv
    have e1 := h1.at' x y hx hy
    have e2 := h2.at' x y hx hy
    unfold trA at e1 e2
    rw [e1, e2]
theorem ConR.el (hA : Lat A) (hp : IsP p) (h3 : p.length = 3) (h : ConR A p B) : Sq0 A.length B := by
  refine ⟨h.sqr, fun u v hu hv => ?_⟩
  obtain ⟨x, y, hx, hy, rfl, rfl⟩ := tri_onto hA.latin (p3_lt hp h3 (i := 0) (by omega)) (p3_lt hp h3 (i := 1) (by omega)) (p3_ne hp h3 (by omega) (by omega) (by omega)) hu hv
  have e1 := h.at' x y hx hy
  have e2 := trA_lt hA hx hy (pf p 2)
  unfold trA at e1 e2
  rw [e1]; omega
/-- conjugates are Latin squares -/
theorem ConR.lat (hA : Lat A) (hp : IsP p) (h3 : p.length = 3) (h : ConR A p B) : Lat B := by
  have h0 := h.el hA hp h3
  have hb := h.sqr.len
  have on := fun {u v : Nat} (hu : u < A.length) (hv : v < A.length) => tri_onto hA.latin (p3_lt hp h3 (i := 0) (by omega)) (p3_lt hp h3 (i := 1) (by omega)) (p3_ne hp h3 (by omega) (by omega) (by omega)) hu hv
  refine ⟨by rw [hb]; exact hA.pos, by rw [hb]; exact hA.le, fun x hx => by rw [hb] at hx ⊢; exact h0.row x hx, fun u hu => ?_, fun v hv => ?_⟩
  · rw [hb] at hu
    refine ⟨fun v hv => ?_, fun v v' hv hv' e => ?_⟩
    · rw [h0.row u hu] at hv ⊢; exact h0.el u v hu hv
    · rw [h0.row u hu] at hv hv'
      obtain ⟨x, y, hx, hy, e1, e2⟩ := on hu hv
      obtain ⟨x', y', hx', hy', e1', e2'⟩ := on hu hv'
      have f1 := h.at' x y hx hy
      have f2 := h.at' x' y' hx' hy'
      unfold trA at f1 f2
      rw [e1, e2] at f1
      rw [e1', e2'] at f2
      have e' : at2 B u v = at2 B u v' := e
      rw [f1, f2] at e'
      obtain ⟨rfl, rfl⟩ := tri_inj hA.latin (p3_lt hp h3 (by omega)) (p3_lt hp h3 (by omega)) (p3_ne hp h3 (i := 0) (j := 2) (by omega) (by omega) (by omega)) hx hy hx' hy' (e1.trans e1'.symm) (by omega)
      rw [← e2, ← e2']
  · rw [hb] at hv
    refine ⟨fun u hu => ?_, fun u u' hu hu' e => ?_⟩
    · rw [colL_len, hb] at hu ⊢; rw [nth_colL (by rw [hb]; exact hu)]; exact h0.el u v hu hv
    · rw [colL_len, hb] at hu hu'
      rw [nth_colL (by rw [hb]; exact hu), nth_colL (by rw [hb]; exact hu')] at e
      obtain ⟨x, y, hx, hy, e1, e2⟩ := on hu hv
      obtain ⟨x', y', hx', hy', e1', e2'⟩ := on hu' hv
      have f1 := h.at' x y hx hy
      have f2 := h.at' x' y' hx' hy'
      unfold trA at f1 f2
      rw [e1, e2] at f1
      rw [e1', e2'] at f2
      rw [f1, f2] at e
      obtain ⟨rfl, rfl⟩ := tri_inj hA.latin (p3_lt hp h3 (by omega)) (p3_lt hp h3 (by omega)) (p3_ne hp h3 (i := 1) (j := 2) (by omega) (by omega) (by omega)) hx hy hx' hy' (e2.trans e2'.symm) (by omega)
      rw [← e1, ← e1']
/-- conjugates of conjugates -/
theorem ConR.comp (hA : Lat A) (hp : IsP p) (hq : IsP q) (h3 : p.length = 3) (hq3 : q.length = 3) (h1 : ConR A p B) (h2 : ConR B q C) : ConR A (cmpL q p) C := by
  have hb := h1.sqr.len
  have hl := hA.latin
  refine ⟨by rw [← hb]; exact h2.sqr, fun x y hx hy => ?_⟩
  have c1 : ConjOf A.length (af A) (pf p) (af B) := fun x y hx hy => by
    have := h1.at' x y hx hy
    show (at2 B (trA A x y (pf p 0)) (trA A x y (pf p 1))).toNat = trA A x y (pf p 2)
    rw [this]; simp
  have c2 : ConjOf A.length (af B) (pf q) (af C) := fun x y hx hy => by
    have := h2.at' x y (by omega) (by omega)
    show (at2 C (trA B x y (pf q 0)) (trA B x y (pf q 1))).toNat = trA B x y (pf q 2)
    rw [this]; simp
  have hq' : Bij 3 (pf q) := by have := hq.bij; rwa [hq3] at this
  have c3 := ConjOf.comp hl hq' c1 c2 x y hx hy
  rw [pf_cmpL (by omega), pf_cmpL (by omega), pf_cmpL (by omega)]
  have hz := h2.el (h1.lat hA hp h3) hq hq3
  have z := hz.el (trA A x y (pf p (pf q 0))) (trA A x y (pf p (pf q 1))) (by rw [hb]; exact trA_lt hA hx hy _) (by rw [hb]; exact trA_lt hA hx hy _)
  have e : (af C (trA A x y (pf p (pf q 0))) (trA A x y (pf p (pf q 1))) : Int) = trA A x y (pf p (pf q 2)) := by
    unfold trA; exact congrArg Int.ofNat c3
  rw [← e]; unfold af; omega
end

end Go.Proofs.YtlmbaeaakpmhnaaGreat
end

section
/- Latin squares that are made from groups: the quadrangle criterion; reduced squares. In plain terms. -/
namespace Go.Proofs.YtlmbaeaakpmhnaaGreat
set_option linter.unusedSimpArgs false
set_option linter.unusedVariables false
/-- quadrangles fit together -/
def Quad (n : Nat) (a : Nat → Nat → Nat) : Prop := ∀ r s c d u v e f, r < n → s < n → c < n → d < n → u < n → v < n → e < n → f < n → a u e = a r c → a u f = a r d → a v e = a s c → a s d = a v f
section
variable {n : Nat} {a b : Nat → Nat → Nat}
theorem quad_iso {r c s : Nat → Nat} (h : Latin n a) (hr : Bij n r) (hc : Bij n c) (hs : Bij n s) (hi : IsoOf n a r c s b) : Quad n b ↔ Quad n a := by
  constructor
  · intro hq x1 x2 y1 y2 x3 x4 y3 y4 h1 h2 h3 h4 h5 h6 h7 h8 e1 e2 e3
    have q := hq (r x1) (r x2) (c y1) (c y2) (r x3) (r x4) (c y3) (c y4) (hr.lt _ h1) (hr.lt _ h2) (hc.lt _ h3) (hc.lt _ h4) (hr.lt _ h5) (hr.lt _ h6) (hc.lt _ h7) (hc.lt _ h8)
      (by rw [hi _ _ h5 h7, hi _ _ h1 h3, e1]) (by rw [hi _ _ h5 h8, hi _ _ h1 h4, e2]) (by rw [hi _ _ h6 h7, hi _ _ h2 h3, e3])
    rw [hi _ _ h2 h4, hi _ _ h6 h8] at q
    exact hs.inj _ _ ((h.row _ h2).lt _ h4) ((h.row _ h6).lt _ h8) q
  · intro hq x1 x2 y1 y2 x3 x4 y3 y4 h1 h2 h3 h4 h5 h6 h7 h8 e1 e2 e3
    obtain ⟨x1, k1, rfl⟩ := hr.onto h1
    obtain ⟨x2, k2, rfl⟩ := hr.onto h2
    obtain ⟨y1, k3, rfl⟩ := hc.onto h3
    obtain ⟨y2, k4, rfl⟩ := hc.onto h4
    obtain ⟨x3, k5, rfl⟩ := hr.onto h5
    obtain ⟨x4, k6, rfl⟩ := hr.onto h6
    obtain ⟨y3, k7, rfl⟩ := hc.onto h7
    obtain ⟨y4, k8, rfl⟩ := hc.onto h8
    clear h1 h2 h3 h4 h5 h6 h7 h8
    rw [hi _ _ k5 k7, hi _ _ k1 k3] at e1
    rw [hi _ _ k5 k8, hi _ _ k1 k4] at e2
    rw [hi _ _ k6 k7, hi _ _ k2 k3] at e3
    have k := fun x y x' y' (hx : x < n) (hy : y < n) (hx' : x' < n) (hy' : y' < n) (e : s (a x y) = s (a x' y')) => hs.inj _ _ ((h.row x hx).lt y hy) ((h.row x' hx').lt y' hy') e
    rw [hi _ _ k2 k4, hi _ _ k6 k8, hq x1 x2 y1 y2 x3 x4 y3 y4 k1 k2 k3 k4 k5 k6 k7 k8 (k _ _ _ _ k5 k7 k1 k3 e1) (k _ _ _ _ k5 k8 k1 k4 e2) (k _ _ _ _ k6 k7 k2 k3 e3)]
end
/-! ### squares as lists -/
theorem isoL_isoOf {A : List (List Int)} {r c s : List Int} (h : Lat A) (hr : IsP r) (hc : IsP c) (hs : IsP s) (hrl : r.length = A.length) (hcl : c.length = A.length) (hsl : s.length = A.length) :
    IsoOf A.length (af A) (pf r) (pf c) (pf s) (af (isoL A r c s)) := fun x y hx hy => by
  have := h.sq0.el x y hx hy
  unfold af
  rw [isoL_at hr hc hrl hcl hx hy]
  rfl
/-- the square answers to a group -/
def GrpB (A : List (List Int)) : Prop := Quad A.length (af A)
theorem GrpB.iso {A : List (List Int)} {r c s : List Int} (h : Lat A) (hr : IsP r) (hc : IsP c) (hs : IsP s) (hrl : r.length = A.length) (hcl : c.length = A.length) (hsl : s.length = A.length) : GrpB (isoL A r c s) ↔ GrpB A := by
  unfold GrpB
  rw [isoL_len]
  exact quad_iso h.latin (by rw [← hrl]; exact hr.bij) (by rw [← hcl]; exact hc.bij) (by rw [← hsl]; exact hs.bij) (isoL_isoOf h hr hc hs hrl hcl hsl)
/-- the columns in the order of the first row -/
def ordL (A : List (List Int)) : List (List Int) := isoL A (iot A.length) (xat A 0) (iot A.length)
section
variable {A : List (List Int)} (h : Lat A)
include h
theorem Lat.row0 : IsP (xat A 0) ∧ (xat A 0).length = A.length := ⟨h.row 0 (by have := h.pos; omega), h.len 0 (by have := h.pos; omega)⟩
theorem ordL_lat : Lat (ordL A) := h.iso (iot_isP _) h.row0.1 (iot_isP _) (iot_len _) h.row0.2 (iot_len _)
omit h in
theorem ordL_len : (ordL A).length = A.length := isoL_len _ _ _ _
theorem colP : IsP (colL (ordL A) 0) ∧ (colL (ordL A) 0).length = A.length := ⟨(ordL_lat h).col 0 (by rw [ordL_len]; exact h.pos), by rw [colL_len, ordL_len]⟩
end
end Go.Proofs.YtlmbaeaakpmhnaaGreat
end

section
/- Walks: forAll, forPairs and what is asked through them of a square. -/
namespace Go.Proofs.YtlmbaeaakpmhnaaGreat
set_option linter.unusedSimpArgs false
set_option linter.unusedVariables false
open Go.RowKit
attribute [local go_sem ↓] Go.wp_at_zero Go.wp_at_succ

/-- it holds of all numbers below n -/
def allB (n : Nat) (p : Nat → Bool) : Bool := (List.range n).all p
theorem allB_iff {n : Nat} {p : Nat → Bool} : allB n p = true ↔ ∀ x, x < n → p x = true := by
  unfold allB; rw [List.all_eq_true]; simp only [List.mem_range]
theorem allB_no {n : Nat} {p : Nat → Bool} {x : Nat} (hx : x < n) (h : p x = false) : allB n p = false := by
  cases e : allB n p
  · rfl
  · rw [allB_iff.1 e x hx] at h; cases h
set_option maxHeartbeats 2000000 in
set_option maxRecDepth 100000 in
theorem forAll_c (K : FuncId) (caps : Array Value) (p : Nat → Bool) (v : Value) (us : List Value) (A : List (List Int)) (w : World) (hv : RII w v us A)
    (hcf : ∀ (args : Array Value) (W : World), (callFunc K args).run Tryz.prog W = .ok (.enter K args) W)
    (hK : ∀ (x : Nat) (W : World), St w.heap.size w W [] → x < A.length → Calls Tryz.prog K (#[.int .i64 x] ++ caps) W (GivesB W (p x))) :
    Calls Tryz.prog 126 #[v, .func (.func K) #[] caps] w (GivesB w (allB A.length p)) := by
  have HK := Lib.hid hK
  clear hK
  have hln := hv.len
  have hle := hv.le
  go_enter Tryz.func126, Tryz.ntmps126
  go_wp2_with fail
  go_loopw [8, 5] (fun i _ wr => ∃ k : Nat, k ≤ A.length ∧ i = .int .i64 k ∧ Hid (∀ x, x < k → p x = true) ∧ St w.heap.size w wr []) (fun i _ _ => A.length - (intOf i).toNat)
  case atStart => exact ⟨0, by omega, rfl, fun x hx => by omega, St.refl w⟩
  case round =>
    obtain ⟨k, hk, rfl, hI, hS⟩ := hrel
    by_cases hlt : k < A.length
    · have hki : (k : Int) < (A.length : Int) := by omega
      cases hp : p k
      · have Hr : Hid (allB A.length p = false) := Lib.hid (allB_no hlt hp)
        have KK := Lib.hid (HK.out k wr hS hlt)
        rw [hp] at KK
        clear hp
        go_wp2_with fail
        refine KK.out.mono ?_
        rintro e w2 ⟨rfl, h2⟩
        have hS2 := hS.call0 h2
        go_wp2_with fail
        go_ret
        exact ⟨ret_bool Hr.out.symm, hS2⟩
      · have HI2 := Lib.hid (show ∀ x, x < k + 1 → p x = true from fun x hx => by
          by_cases e : x = k
          · rw [e]; exact hp
          · exact hI.out x (by omega))
        have KK := Lib.hid (HK.out k wr hS hlt)
        rw [hp] at KK
        clear hp
        go_wp2_with fail
        refine KK.out.mono ?_
        rintro e w2 ⟨rfl, h2⟩
        have hS2 := hS.call0 h2
        go_wp2_with fail
        go_roundw
        case rel => exact ⟨k + 1, by omega, by go_num, HI2.out, hS2⟩
        case measure => simp [intOf]; omega
    · obtain rfl : k = A.length := by omega
      have Hr : Hid (allB A.length p = true) := Lib.hid (allB_iff.2 hI.out)
      go_wp2_with fail
      go_ret
      exact ⟨ret_bool Hr.out.symm, hS⟩
/-! ### pairs -/
set_option maxHeartbeats 2000000 in
set_option maxRecDepth 100000 in
theorem fp2_c (K : FuncId) (caps : Array Value) (b : Bool) (g1 g2 : Nat) (x y : Nat) (W : World) (h1 : W.cell? ⟨g1, 0, none⟩ = some (.func (.func K) #[] caps)) (h2 : W.cell? ⟨g2, 0, none⟩ = some (.int .i64 x))
    (hcf : ∀ (args : Array Value) (W : World), (callFunc K args).run Tryz.prog W = .ok (.enter K args) W)
    (hK : Calls Tryz.prog K (#[.int .i64 x, .int .i64 y] ++ caps) W (GivesB W b)) :
    Calls Tryz.prog 201 #[.int .i64 y, .pointer (some ⟨g1, 0, none⟩), .pointer (some ⟨g2, 0, none⟩)] W (GivesB W b) := by
  have HK := Lib.hid hK
  clear hK
  go_enter Tryz.func201, Tryz.ntmps201
  go_wp2_with fail
  refine HK.out.mono ?_
  rintro e w2 ⟨rfl, h3⟩
  go_wp2_with fail
  go_ret
  exact ⟨rfl, h3⟩
set_option maxHeartbeats 2000000 in
set_option maxRecDepth 100000 in
theorem fp1_c (K : FuncId) (caps : Array Value) (p : Nat → Bool) (g0 g1 : Nat) (x : Nat) (a : Option Addr) (c : Nat) (us : List Value) (A : List (List Int)) (W : World) (hv : RII W (.slice a A.length c) us A)
    (h0 : W.cell? ⟨g0, 0, none⟩ = some (.slice a A.length c)) (h1 : W.cell? ⟨g1, 0, none⟩ = some (.func (.func K) #[] caps))
    (hcf : ∀ (args : Array Value) (W : World), (callFunc K args).run Tryz.prog W = .ok (.enter K args) W)
    (hK : ∀ (y : Nat) (W' : World), St W.heap.size W W' [] → y < A.length → Calls Tryz.prog K (#[.int .i64 x, .int .i64 y] ++ caps) W' (GivesB W' (p y))) :
    Calls Tryz.prog 200 #[.int .i64 x, .pointer (some ⟨g0, 0, none⟩), .pointer (some ⟨g1, 0, none⟩)] W (GivesB W (allB A.length p)) := by
  have hS1 := (St.refl W).newboxF 2 #[.int .i64 x]
  have hcf2 := callFunc_go Tryz.func201 (by kernel_rfl) (by kernel_rfl)
  have hmf : ∀ (fn : Fn) (first cap : Array Value) (w : World), (Instr.makeFunc fn first cap).run Tryz.prog w = .ok (.func fn first cap) w := fun _ _ _ _ => rfl
  have hcall := Lib.hid (forAll_c 201 #[.pointer (some ⟨g1, 0, none⟩), .pointer (some ⟨W.heap.size, 0, none⟩)] p (.slice a A.length c) us A _ (hS1.oldII hv) hcf2 (fun y W' hW hy =>
    fp2_c K caps (p y) g1 W.heap.size x y W' (by rw [(hS1.call0 hW).out.below.cell (World.block_lt_of_cell? _ _ h1)]; exact h1) ((hS1.call0 hW).bcell 0 rfl 0 rfl) hcf (hK y W' (hS1.call0 hW).out hy)))
  have b0 := hS1.out.below.cell (World.block_lt_of_cell? _ _ h0)
  rw [h0] at b0
  clear hcf hcf2 hK
  go_enter Tryz.func200, Tryz.ntmps200
  go_wp2_with fail
  refine hcall.out.mono ?_
  rintro e w2 ⟨rfl, h3⟩
  have hS2 := hS1.call0 h3
  go_wp2_with fail
  go_ret
  exact ⟨rfl, hS2.out⟩
set_option maxHeartbeats 2000000 in
set_option maxRecDepth 100000 in
theorem forPairs_c (K : FuncId) (caps : Array Value) (p : Nat → Nat → Bool) (a : Option Addr) (c : Nat) (us : List Value) (A : List (List Int)) (w : World) (hv : RII w (.slice a A.length c) us A)
    (hcf : ∀ (args : Array Value) (W : World), (callFunc K args).run Tryz.prog W = .ok (.enter K args) W)
    (hK : ∀ (x y : Nat) (W : World), St w.heap.size w W [] → x < A.length → y < A.length → Calls Tryz.prog K (#[.int .i64 x, .int .i64 y] ++ caps) W (GivesB W (p x y))) :
    Calls Tryz.prog 129 #[.slice a A.length c, .func (.func K) #[] caps] w (GivesB w (allB A.length fun x => allB A.length (p x))) := by
  have hS1 := ((St.refl w).newboxF 27 #[.slice a A.length c]).newboxF 134 #[.func (.func K) #[] caps]
  simp only [World.size_alloc] at hS1
  have hcf2 := callFunc_go Tryz.func200 (by kernel_rfl) (by kernel_rfl)
  have hmf : ∀ (fn : Fn) (first cap : Array Value) (w : World), (Instr.makeFunc fn first cap).run Tryz.prog w = .ok (.func fn first cap) w := fun _ _ _ _ => rfl
  have hcall := Lib.hid (forAll_c 200 #[.pointer (some ⟨w.heap.size, 0, none⟩), .pointer (some ⟨w.heap.size + 1, 0, none⟩)] (fun x => allB A.length (p x)) (.slice a A.length c) us A _ (hS1.oldII hv) hcf2 (fun x W' hW hx =>
    fp1_c K caps (p x) w.heap.size (w.heap.size + 1) x a c us A W' ((hS1.call0 hW).oldII hv) ((hS1.call0 hW).bcell 1 rfl 0 rfl) ((hS1.call0 hW).bcell 0 rfl 0 rfl) hcf (fun y W2 h2 hy => hK x y W2 ((hS1.call0 hW).call0 h2).out hx hy)))
  have b0 := hS1.bcell 1 rfl 0 rfl
  clear hcf hcf2 hK
  go_enter Tryz.func129, Tryz.ntmps129
  go_wp2_with fail
  refine hcall.out.mono ?_
  rintro e w2 ⟨rfl, h3⟩
  have hS2 := hS1.call0 h3
  go_wp2_with fail
  go_ret
  exact ⟨rfl, hS2.out⟩
end Go.Proofs.YtlmbaeaakpmhnaaGreat
end

section
/- Walks: identities of quasigroups. -/
namespace Go.Proofs.YtlmbaeaakpmhnaaGreat
set_option linter.unusedSimpArgs false
set_option linter.unusedVariables false
open Go.RowKit
attribute [local go_sem ↓] Go.wp_at_zero Go.wp_at_succ

theorem beq_dec (a b : Int) : (a == b) = decide (a = b) := by rw [Bool.eq_iff_iff, beq_iff_eq, decide_eq_true_iff]
/-- an entry as a number -/
theorem ent {n : Nat} {A : List (List Int)} (h : Sq0 n A) {x y : Nat} (hx : x < n) (hy : y < n) : at2 A x y = (af A x y : Int) ∧ af A x y < n := by
  have := h.el x y hx hy; unfold af; omega
theorem keepc {w W : World} {L : List Ent} {g : Nat} {v : Value} (h : w.cell? ⟨g, 0, none⟩ = some v) (hS : St w.heap.size w W L) : W.cell? ⟨g, 0, none⟩ = some v := by
  rw [hS.below.cell (World.block_lt_of_cell? _ _ h)]; exact h
/-- what is known of a square behind a box -/
structure BxS (W : World) (g : Nat) (a : Option Addr) (c : Nat) (us : List Value) (A : List (List Int)) : Prop where
  rd : RII W (.slice a A.length c) us A
  bx : W.cell? ⟨g, 0, none⟩ = some (.slice a A.length c)
theorem BxS.keep {W W' : World} {L : List Ent} {g : Nat} {a : Option Addr} {c : Nat} {us : List Value} {A : List (List Int)} (h : BxS W g a c us A) (hS : St W.heap.size W W' L) : BxS W' g a c us A := ⟨hS.oldII h.rd, keepc h.bx hS⟩
section
variable {W : World} {g : Nat} {a : Option Addr} {c : Nat} {us : List Value} {A : List (List Int)}
theorem BxS.row (h : BxS W g a c us A) {x : Nat} (hx : x < A.length) : W.cell? (el (.slice a A.length c) x) = some (vat us x) := h.rd.cell x hx
theorem BxS.ent (h : BxS W g a c us A) (hA : Sq0 A.length A) {x y : Nat} (hx : x < A.length) (hy : y < A.length) : W.cell? (el (vat us x) y) = some (.int .i64 (at2 A x y)) := (h.rd.row x hx).cell y (by rw [hA.row x hx]; exact hy)
theorem BxS.ix (h : BxS W g a c us A) {x : Nat} (hx : x < A.length) : ∀ V : World, (Instr.indexAt 27 (.slice a A.length c) (.int .i64 (x : Int))).run Tryz.prog V = .ok (.pointer (some (el (.slice a A.length c) x))) V := h.rd.ixe (x : Int) x rfl hx
theorem BxS.ixr (h : BxS W g a c us A) (hA : Sq0 A.length A) {x y : Nat} (hx : x < A.length) (hy : y < A.length) : ∀ V : World, (Instr.indexAt 24 (vat us x) (.int .i64 (y : Int))).run Tryz.prog V = .ok (.pointer (some (el (vat us x) y))) V := (h.rd.row x hx).ixe (y : Int) y rfl (by rw [hA.row x hx]; exact hy)
end
/-! ### associativity -/
def ascP (A : List (List Int)) (x y z : Nat) : Bool := decide (at2 A (af A x y) z = at2 A x (af A y z))
def ascB (A : List (List Int)) : Bool := allB A.length fun x => allB A.length fun y => allB A.length fun z => ascP A x y z
set_option maxHeartbeats 4000000 in
set_option maxRecDepth 100000 in
theorem asc2_c (g1 g2 g3 : Nat) (x y z : Nat) (a : Option Addr) (c : Nat) (us : List Value) (A : List (List Int)) (W : World) (hb : BxS W g1 a c us A) (hA : Sq0 A.length A)
    (h2 : W.cell? ⟨g2, 0, none⟩ = some (.int .i64 x)) (h3 : W.cell? ⟨g3, 0, none⟩ = some (.int .i64 y)) (hx : x < A.length) (hy : y < A.length) (hz : z < A.length) :
    Calls Tryz.prog 205 #[.int .i64 z, .pointer (some ⟨g1, 0, none⟩), .pointer (some ⟨g2, 0, none⟩), .pointer (some ⟨g3, 0, none⟩)] W (GivesB W (ascP A x y z)) := by
  have HP := Lib.hid (show ascP A x y z = decide (at2 A (af A x y) z = at2 A x (af A y z)) from rfl)
  obtain ⟨e1, m1⟩ := ent hA hx hy
  obtain ⟨e2, m2⟩ := ent hA hy hz
  have s0 := fun q : SS W.heap.size W [] => (hb.keep q.st).bx
  have s2 := fun q : SS W.heap.size W [] => keepc h2 q.st
  have s3 := fun q : SS W.heap.size W [] => keepc h3 q.st
  have r1 := fun q : SS W.heap.size W [] => (hb.keep q.st).row hx
  have r2 := fun q : SS W.heap.size W [] => (hb.keep q.st).row hy
  have r3 := fun q : SS W.heap.size W [] => (hb.keep q.st).row m1
  have c1 := fun q : SS W.heap.size W [] => (hb.keep q.st).ent hA hx hy
  have c2 := fun q : SS W.heap.size W [] => (hb.keep q.st).ent hA hy hz
  have c3 := fun q : SS W.heap.size W [] => (hb.keep q.st).ent hA m1 hz
  have c4 := fun q : SS W.heap.size W [] => (hb.keep q.st).ent hA hx m2
  have i1 := hb.ix hx
  have i2 := hb.ix hy
  have i3 := hb.ix m1
  have j1 := hb.ixr hA hx hy
  have j2 := hb.ixr hA hy hz
  have j3 := hb.ixr hA m1 hz
  have j4 := hb.ixr hA hx m2
  rw [e1] at c1
  rw [e2] at c2
  generalize af A x y = m at *
  generalize af A y z = k at *
  generalize at2 A m z = p at *
  generalize at2 A x k = q at *
  clear hb h2 h3 e1 e2 m1 m2 hx hy hz
  have hS := St.refl W
  go_enter Tryz.func205, Tryz.ntmps205
  go_wp2_with fail
  have hne : Nonempty (SS _ _ _) := ⟨⟨_, hS⟩⟩
  refine wp_region_st (by kernel_rfl) (by kernel_rfl) hS ?_
  repeat (go_big_quiet_step (fail))
  refine wpQuiet_nil ?_
  rintro _ ⟨s2, rfl⟩
  have hS2 := s2.st
  generalize s2.w = w2 at hS2 ⊢
  go_wp2_with fail
  go_ret
  exact ⟨ret_bool (by rw [HP.out, beq_dec]), hS2⟩
set_option maxHeartbeats 4000000 in
set_option maxRecDepth 100000 in
theorem asc1_c (g : Nat) (x y : Nat) (a : Option Addr) (c : Nat) (us : List Value) (A : List (List Int)) (W : World) (hb : BxS W g a c us A) (hA : Sq0 A.length A) (hx : x < A.length) (hy : y < A.length) :
    Calls Tryz.prog 204 #[.int .i64 x, .int .i64 y, .pointer (some ⟨g, 0, none⟩)] W (GivesB W (allB A.length fun z => ascP A x y z)) := by
  have hS1 := ((St.refl W).newboxF 2 #[.int .i64 x]).newboxF 2 #[.int .i64 y]
  simp only [World.size_alloc] at hS1
  have hcf := callFunc_go Tryz.func205 (by kernel_rfl) (by kernel_rfl)
  have hmf : ∀ (fn : Fn) (first cap : Array Value) (w : World), (Instr.makeFunc fn first cap).run Tryz.prog w = .ok (.func fn first cap) w := fun _ _ _ _ => rfl
  have hcall := Lib.hid (forAll_c 205 #[.pointer (some ⟨g, 0, none⟩), .pointer (some ⟨W.heap.size, 0, none⟩), .pointer (some ⟨W.heap.size + 1, 0, none⟩)] (fun z => ascP A x y z) (.slice a A.length c) us A _ (hS1.oldII hb.rd) hcf (fun z W' hW hz =>
    asc2_c g W.heap.size (W.heap.size + 1) x y z a c us A W' (hb.keep (hS1.call0 hW).out) hA ((hS1.call0 hW).bcell 1 rfl 0 rfl) ((hS1.call0 hW).bcell 0 rfl 0 rfl) hx hy hz))
  have b0 := keepc hb.bx hS1
  clear hcf hA hb
  go_enter Tryz.func204, Tryz.ntmps204
  go_wp2_with fail
  refine hcall.out.mono ?_
  rintro e w2 ⟨rfl, h3⟩
  have hS2 := hS1.call0 h3
  go_wp2_with fail
  go_ret
  exact ⟨rfl, hS2.out⟩
set_option maxHeartbeats 4000000 in
set_option maxRecDepth 100000 in
theorem associative_c (a : Option Addr) (c : Nat) (us : List Value) (A : List (List Int)) (w : World) (hv : RII w (.slice a A.length c) us A) (hA : Sq0 A.length A) :
    Calls Tryz.prog 133 #[.slice a A.length c] w (GivesB w (ascB A)) := by
  have hS1 := (St.refl w).newboxF 27 #[.slice a A.length c]
  have hcf := callFunc_go Tryz.func204 (by kernel_rfl) (by kernel_rfl)
  have hmf : ∀ (fn : Fn) (first cap : Array Value) (w : World), (Instr.makeFunc fn first cap).run Tryz.prog w = .ok (.func fn first cap) w := fun _ _ _ _ => rfl
  have b0 := hS1.bcell 0 rfl 0 rfl
  have hcall := Lib.hid (forPairs_c 204 #[.pointer (some ⟨w.heap.size, 0, none⟩)] (fun x y => allB A.length fun z => ascP A x y z) a c us A _ (hS1.oldII hv) hcf (fun x y W' hW hx hy =>
    asc1_c w.heap.size x y a c us A W' ⟨(hS1.call0 hW).oldII hv, (hS1.call0 hW).bcell 0 rfl 0 rfl⟩ hA hx hy))
  rw [show (allB A.length fun x => allB A.length fun y => allB A.length fun z => ascP A x y z) = ascB A from rfl] at hcall
  clear hcf hA
  go_enter Tryz.func133, Tryz.ntmps133
  go_wp2_with fail
  refine hcall.out.mono ?_
  rintro e w2 ⟨rfl, h3⟩
  have hS2 := hS1.call0 h3
  go_wp2_with fail
  go_ret
  exact ⟨rfl, hS2.out⟩
end Go.Proofs.YtlmbaeaakpmhnaaGreat
end

section
/- Walks: units; identities that a square satisfies. -/
namespace Go.Proofs.YtlmbaeaakpmhnaaGreat
set_option linter.unusedSimpArgs false
set_option linter.unusedVariables false
open Go.RowKit
attribute [local go_sem ↓] Go.wp_at_zero Go.wp_at_succ

/-! ### units -/
noncomputable def luI (A : List (List Int)) : Int := idxR (fun r => decide (r = idn A.length)) A 0
def ruB (A : List (List Int)) (e : Nat) : Bool := allB A.length fun x => decide (at2 A x e = x)
/-- the first number from k on of which it holds -/
def fstN (p : Nat → Bool) : Nat → Nat → Int
  | 0, _ => -1
  | f + 1, k => if p k then k else fstN p f (k + 1)
def ruI (A : List (List Int)) : Int := fstN (ruB A) A.length 0
set_option maxHeartbeats 4000000 in
set_option maxRecDepth 100000 in
theorem lu1_c (g : Nat) (vr : Value) (r : List Int) (a : Option Addr) (c : Nat) (us : List Value) (A : List (List Int)) (W : World) (hb : BxS W g a c us A) (hr : RdI W vr r) (hn : A.length ≤ 1000) :
    Calls Tryz.prog 202 #[vr, .pointer (some ⟨g, 0, none⟩)] W (GivesB W (decide (r = idn A.length))) := by
  have b0 := hb.bx
  have KZ := Lib.hid (szII_c _ us A W hb.rd)
  have KI := Lib.hid (identity_c A.length W (by omega))
  have KE := fun v2 W2 (h1 : RdI W2 vr r) (h2 : RdI W2 v2 (idn A.length)) => Lib.hid (Equal_c vr v2 _ _ W2 h1 h2)
  clear hb
  go_enter Tryz.func202, Tryz.ntmps202
  go_wp2_with (first
    | (go_at_call 54; refine KZ.out.mono ?_; rintro e wb ⟨rfl, hb⟩; subst hb)
    | (go_at_call 103; refine KI.out.mono ?_; rintro e w2 ⟨v2, rfl, h2⟩; have hi := h2.rdI 0 rfl)
    | (go_at_call 112; refine (KE _ _ (hr.keep h2.below) hi).out.mono ?_; rintro e w3 ⟨rfl, h3⟩))
  go_ret
  exact ⟨rfl, (h2.call0 h3).out⟩
set_option maxHeartbeats 4000000 in
set_option maxRecDepth 100000 in
theorem leftUnit_c (a : Option Addr) (c : Nat) (us : List Value) (A : List (List Int)) (w : World) (hv : RII w (.slice a A.length c) us A) (hn : A.length ≤ 1000) :
    Calls Tryz.prog 131 #[.slice a A.length c] w (GivesI w (luI A)) := by
  have hS1 := (St.refl w).newboxF 27 #[.slice a A.length c]
  have hcf := callFunc_go Tryz.func202 (by kernel_rfl) (by kernel_rfl)
  have hmf : ∀ (fn : Fn) (first cap : Array Value) (w : World), (Instr.makeFunc fn first cap).run Tryz.prog w = .ok (.func fn first cap) w := fun _ _ _ _ => rfl
  have b0 := hS1.bcell 0 rfl 0 rfl
  have hcall := Lib.hid (IndexFuncR_c 202 #[.pointer (some ⟨w.heap.size, 0, none⟩)] (fun r => decide (r = idn A.length)) (.slice a A.length c) us A _ (hS1.oldII hv) hcf (fun j W' hW hj =>
    lu1_c w.heap.size (vat us j) (xat A j) a c us A W' ⟨(hS1.call0 hW).oldII hv, (hS1.call0 hW).bcell 0 rfl 0 rfl⟩ (((hS1.call0 hW).oldII hv).row j hj) hn))
  rw [show idxR (fun r => decide (r = idn A.length)) A 0 = luI A from rfl] at hcall
  clear hcf
  go_enter Tryz.func131, Tryz.ntmps131
  go_wp2_with fail
  refine hcall.out.mono ?_
  rintro e w2 ⟨rfl, h3⟩
  have hS2 := hS1.call0 h3
  go_wp2_with fail
  go_ret
  exact ⟨rfl, hS2.out⟩
set_option maxHeartbeats 4000000 in
set_option maxRecDepth 100000 in
theorem ru1_c (g1 g2 : Nat) (x e : Nat) (a : Option Addr) (c : Nat) (us : List Value) (A : List (List Int)) (W : World) (hb : BxS W g1 a c us A) (hA : Sq0 A.length A)
    (h2 : W.cell? ⟨g2, 0, none⟩ = some (.int .i64 e)) (hx : x < A.length) (he : e < A.length) :
    Calls Tryz.prog 203 #[.int .i64 x, .pointer (some ⟨g1, 0, none⟩), .pointer (some ⟨g2, 0, none⟩)] W (GivesB W (decide (at2 A x e = x))) := by
  have s0 := fun q : SS W.heap.size W [] => (hb.keep q.st).bx
  have s2 := fun q : SS W.heap.size W [] => keepc h2 q.st
  have r1 := fun q : SS W.heap.size W [] => (hb.keep q.st).row hx
  have c1 := fun q : SS W.heap.size W [] => (hb.keep q.st).ent hA hx he
  have i1 := hb.ix hx
  have j1 := hb.ixr hA hx he
  generalize at2 A x e = p at *
  clear hb h2 hx he
  have hS := St.refl W
  go_enter Tryz.func203, Tryz.ntmps203
  go_wp2_with fail
  have hne : Nonempty (SS _ _ _) := ⟨⟨_, hS⟩⟩
  refine wp_region_st (by kernel_rfl) (by kernel_rfl) hS ?_
  repeat (go_big_quiet_step (fail))
  refine wpQuiet_nil ?_
  rintro _ ⟨s2, rfl⟩
  have hS2 := s2.st
  generalize s2.w = w2 at hS2 ⊢
  go_wp2_with fail
  go_ret
  exact ⟨ret_bool (by rw [beq_dec]), hS2⟩
set_option maxHeartbeats 8000000 in
set_option maxRecDepth 100000 in
theorem rightUnit_c (a : Option Addr) (c : Nat) (us : List Value) (A : List (List Int)) (w : World) (hv : RII w (.slice a A.length c) us A) (hA : Sq0 A.length A) (hn : A.length ≤ 1000) :
    Calls Tryz.prog 132 #[.slice a A.length c] w (GivesI w (ruI A)) := by
  have hS1 := (St.refl w).newboxF 27 #[.slice a A.length c]
  have hcf := callFunc_go Tryz.func203 (by kernel_rfl) (by kernel_rfl)
  have hmf : ∀ (fn : Fn) (first cap : Array Value) (w : World), (Instr.makeFunc fn first cap).run Tryz.prog w = .ok (.func fn first cap) w := fun _ _ _ _ => rfl
  have b0 := hS1.bcell 0 rfl 0 rfl
  have hln := hv.len
  have KF := fun (e : Nat) (he : e < A.length) (g : Nat) W (hb : BxS W w.heap.size a c us A) (hg : W.cell? ⟨g, 0, none⟩ = some (.int .i64 e)) => Lib.hid (forAll_c 203 #[.pointer (some ⟨w.heap.size, 0, none⟩), .pointer (some ⟨g, 0, none⟩)] (fun x => decide (at2 A x e = x)) (.slice a A.length c) us A W hb.rd hcf (fun x W' hW hx =>
    ru1_c w.heap.size g x e a c us A W' (hb.keep hW) hA (keepc hg hW) hx he))
  have HE := Lib.hid (show ruI A = fstN (ruB A) A.length 0 from rfl)
  clear hcf hA
  go_enter Tryz.func132, Tryz.ntmps132
  go_wp2_with fail
  go_loopw [6, 3] (fun i _ wr => ∃ k : Nat, k ≤ A.length ∧ i = .int .i64 k ∧ Hid (ruI A = fstN (ruB A) (A.length - k) k) ∧ St w.heap.size w wr [box 27 w.heap.size [.slice a A.length c]]) (fun i _ _ => A.length - (intOf i).toNat)
  case atStart => exact ⟨0, by omega, rfl, HE.out, hS1⟩
  case round =>
    clear hS1 b0
    obtain ⟨k, hk, rfl, hI, hS⟩ := hrel
    by_cases hlt : k < A.length
    · have hki : (k : Int) < (A.length : Int) := by omega
      have hS2 := hS.newboxF 3 #[.int .i64 k]
      have b1 := hS2.bcell 0 rfl 0 rfl
      have b0 := hS2.bcell 1 rfl 0 rfl
      have f1 := hS2.bfree 0 rfl
      have HF : Hid (ruI A = if ruB A k then (k : Int) else fstN (ruB A) (A.length - (k + 1)) (k + 1)) := Lib.hid (by
        rw [hI.out]
        obtain ⟨f, hf⟩ : ∃ f, A.length - k = f + 1 := ⟨A.length - k - 1, by omega⟩
        rw [hf, fstN, show A.length - (k + 1) = f by omega])
      have KK := KF k hlt wr.heap.size _ ⟨hS2.oldII hv, b0⟩ b1
      rw [show (allB A.length fun x => decide (at2 A x k = x)) = ruB A k from rfl] at KK
      clear hS KF
      cases hr : ruB A k
      · have HF2 : Hid (ruI A = fstN (ruB A) (A.length - (k + 1)) (k + 1)) := Lib.hid (by rw [HF.out, hr]; rfl)
        rw [hr] at KK
        clear HF hr
        go_wp2_with fail
        refine KK.out.mono ?_
        rintro e w2 ⟨rfl, h3⟩
        have hS3 := (hS2.call0 h3).sub (L' := [box 27 w.heap.size [.slice a A.length c]]) (List.sublist_cons_self _ _)
        go_wp2_with fail
        go_roundw
        case rel => exact ⟨k + 1, by omega, by go_num, HF2.out, hS3⟩
        case measure => simp [intOf]; omega
      · have HF2 : Hid (ruI A = (k : Int)) := Lib.hid (by rw [HF.out, hr]; rfl)
        rw [hr] at KK
        clear HF hr
        go_wp2_with fail
        refine KK.out.mono ?_
        rintro e w2 ⟨rfl, h3⟩
        have hS3 := hS2.call0 h3
        have b1 := hS3.bcell 0 rfl 0 rfl
        go_wp2_with fail
        go_ret
        exact ⟨ret_i64 HF2.out.symm, hS3.out⟩
    · obtain rfl : k = A.length := by omega
      have HF2 : Hid (ruI A = -1) := Lib.hid (by rw [hI.out, Nat.sub_self]; rfl)
      go_wp2_with fail
      go_ret
      exact ⟨ret_i64 HF2.out.symm, hS.out⟩
end Go.Proofs.YtlmbaeaakpmhnaaGreat
end
