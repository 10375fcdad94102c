/- Walks: SolveRow of the reference. -/
import Derived.Test.YtmkfafhgcnbcaaaSol
namespace Go.Proofs.Ytmkfafhgcnbcaaa
set_option linter.unusedSimpArgs false
set_option linter.unusedVariables false
open Go.RowKit
attribute [local go_sem ↓] Go.wp_at_zero Go.wp_at_succ

theorem wide_take {m : List (List Int)} {b : List Int} {k : Nat} (h : k < m.length) : (wide m b m.length).take (k + 1) = (wide m b m.length).take k ++ [xat m k ++ [nth b k]] := by
  have e : ra (wide m b m.length) k = ra m k ++ [cf b k] := by unfold wide; rw [ra_mi h, if_pos h]
  rw [List.take_succ_eq_append_getElem (by rw [wide_len]; exact h), ← ra_eq (by rw [wide_len]; exact h), e]
  rfl

set_option maxHeartbeats 16000000 in
set_option maxRecDepth 100000 in
theorem sSolveRow_c (p d : Int) (v : Value) (xs : List Int) (vm : Value) (us : List Value) (xss : List (List Int)) (vb : Value) (b : List Int) (w : World) (hv : RdI w v xs) (hm : RII w vm us xss) (hb : RdI w vb b) :
    Calls Try.prog 45 #[fv p d v, vm, vb] w (MakesLC w (slvM p d xs xss b) (slvC p d xs xss b)) := by
  have hS0 := (St.refl w).newboxF 29 #[.int .i64 p, .int .i64 d, v]
  have hB0 : BoxF _ w.heap.size p d v := ⟨hS0.bcell 0 rfl 0 rfl, hS0.bcell 0 rfl 1 rfl, hS0.bcell 0 rfl 2 rfl⟩
  have HV := Lib.hid (l17Ok_c p d w.heap.size v xs vm us xss _ (hS0.oldI hv) hB0 (hS0.oldII hm))
  unfold fv
  cases h1 : matOk p d xs xss
  · have HC := Lib.hid (show slvC p d xs xss b = 1 by rw [slvC, if_neg (by rw [h1]; simp)])
    have HM := Lib.hid (show slvM p d xs xss b = [] by rw [slvM, HC.out]; rfl)
    have H1 := Lib.hid h1; clear h1
    go_enter Try.func45, Try.ntmps45
    go_wp2_with fail
    refine HV.out.mono ?_
    rw [H1.out]
    rintro e w1 ⟨rfl, h1⟩
    have hS1 := hS0.call0 h1
    go_wp2_with fail
    go_ret2
    rw [HM.out, HC.out]
    exact ⟨_, rfl, hS1.out.newnil _⟩
  · have hmv := matOk_t h1
    obtain ⟨D, rfl⟩ := Int.eq_ofNat_of_zero_le (show 0 ≤ d by have := hmv.f.d1; omega)
    have H1 := Lib.hid h1
    have HL := fun W (hbx : BoxF W w.heap.size p D v) (h : RdI W vb b) => Lib.hid (l17Vector_c p D w.heap.size v xs vb b W hbx hmv.f h)
    have hlb := hb.len
    have hlm := hm.len
    cases h2 : vecOk (p ^ (D : Int).toNat) b
    · have HC := Lib.hid (show slvC p D xs xss b = 1 by rw [slvC, if_pos h1, if_neg (by rw [h2]; simp)])
      have HM := Lib.hid (show slvM p D xs xss b = [] by rw [slvM, HC.out]; rfl)
      have H2 := Lib.hid h2
      clear h1 h2 hmv
      generalize p ^ (D : Int).toNat = q at *
      go_enter Try.func45, Try.ntmps45
      go_wp2_with fail
      refine HV.out.mono ?_
      rw [H1.out]
      rintro e w1 ⟨rfl, h1⟩
      have hS1 := hS0.call0 h1
      go_wp2_with fail
      refine (HL _ (hB0.keep h1.below) (hS1.oldI hb)).out.mono ?_
      rw [H2.out]
      rintro e w3 ⟨rfl, h3⟩
      have hS3 := hS1.call0 h3
      go_wp2_with fail
      go_ret2
      rw [HM.out, HC.out]
      exact ⟨_, rfl, hS3.out.newnil _⟩
    · have H2 := Lib.hid h2
      by_cases hlen : b.length = xss.length
      · have f1 := ne_f (show (b.length : Int) = (xss.length : Int) by omega)
        have hb' : In (p ^ D) b := by have := vecOk_in h2; rwa [Int.toNat_natCast] at this
        have hr1 := hmv.rows1
        have hr32 := hmv.rows
        have hc32 := hmv.cols
        have hrectw := wide_rect (b := b) hmv.rct hb' hlen
        have hx0 := hm.ixe 0 0 rfl hr1
        have hl0 := (hm.row 0 hr1).len
        have hown := fun k (hk : k < xss.length) W (h : RdI W (vat us k) (xat xss k)) => Lib.hid (l00Own_c (vat us k) (xat xss k) W h (by have := (hmv.rct _ (xat_mem hk)).1; omega))
        have Hrl := Lib.hid (fun k (hk : k < xss.length) => (hmv.rct _ (xat_mem hk)).1)
        have HR := fun W (hv : RdI W v xs) (hbx : BoxF W w.heap.size p D v) vw uw (h : RII W vw uw (wide xss b xss.length)) => Lib.hid (l17Reduce_c p D w.heap.size v xs vw uw (wide xss b xss.length) (xat xss 0).length ((xat xss 0).length + 1) W hv hbx hmv.f h (by omega) (by omega) (by rw [wide_len]; omega) hrectw)
        have HsC := Lib.hid (show slvC p D xs xss b = if solvable (red p D xs (xat xss 0).length 0 (wide xss b xss.length) [] 1).1 (red p D xs (xat xss 0).length 0 (wide xss b xss.length) [] 1).2.1.length (xat xss 0).length = true then 0 else 3 by rw [slvC, if_pos h1, if_pos h2, if_pos hlen]; rfl)
        have HsM := Lib.hid (show slvM p D xs xss b = if slvC p D xs xss b = 0 then solP (red p D xs (xat xss 0).length 0 (wide xss b xss.length) [] 1).1 (red p D xs (xat xss 0).length 0 (wide xss b xss.length) [] 1).2.1 (xat xss 0).length (red p D xs (xat xss 0).length 0 (wide xss b xss.length) [] 1).2.1.length else [] from rfl)
        have Hpre := Lib.hid (red_pre hmv.f.fa (xat xss 0).length 0 (R := wide xss b xss.length) (piv := []) (det := 1) hrectw (by simp))
        have Hpv := Lib.hid (red_piv (p := p) (D := D) (fs := xs) (xat xss 0).length 0 (R := wide xss b xss.length) (piv := []) (det := 1) (by simp))
        have Hbl := Lib.hid hlen
        clear h1 h2 hmv hlen hrectw hb'
        generalize red p D xs (xat xss 0).length 0 (wide xss b xss.length) [] 1 = X at HR HsC HsM Hpre Hpv
        generalize hN : (xat xss 0).length = N at *
        clear hN
        generalize p ^ (D : Int).toNat = q at *
        go_enter Try.func45, Try.ntmps45
        go_wp2_with fail
        refine HV.out.mono ?_
        rw [H1.out]
        rintro e w1 ⟨rfl, h1⟩
        have hS1 := hS0.call0 h1
        have hB1 := hB0.keep h1.below
        go_wp2_with fail
        refine (HL _ hB1 (hS1.oldI hb)).out.mono ?_
        rw [H2.out]
        rintro e w2 ⟨rfl, h2⟩
        have hS2 := hS1.call0 h2
        have HB := Lib.hid (hB1.keep h2.below)
        have Hv := Lib.hid (hS2.oldI hv)
        have Hm := Lib.hid (hS2.oldII hm)
        have Hb := Lib.hid (hS2.oldI hb)
        have HW := Lib.hid hS2
        clear hS0 hS1 hS2 h1 h2 hB0 hB1 HV HL
        have hN0 := (St.refl w2).new 22 #[] (by simp)
        have xm := hm.ixe
        have xb := hb.ixe
        go_wp2_with fail
        go_loopw [8, 9] (fun o ii wr => ∃ (k : Nat) (uw : List Value), k ≤ xss.length ∧ ii = .int .i64 k ∧ Hid (uw.length = k) ∧ St w2.heap.size w2 wr (own2 o uw ((wide xss b xss.length).take k))) (fun _ ii _ => xss.length - (intOf ii).toNat)
        case atStart => exact ⟨0, [], by omega, rfl, rfl, hN0⟩
        case round =>
          obtain ⟨k, uw, hk, rfl, huw, hS⟩ := hrel
          have Hlu := Lib.hid (show uw.length = ((wide xss b xss.length).take k).length by rw [List.length_take, wide_len, huw.out]; omega)
          by_cases hlt : k < xss.length
          · have hkb : k < b.length := by have := Hbl.out; omega
            have ck := (hS.oldII Hm.out).cell k hlt
            have cb := (hS.oldI Hb.out).cell k hkb
            have xk := xm (k : Int) k rfl hlt
            have xkb := xb (k : Int) k rfl hkb
            have Hrk := Lib.hid (Hm.out.row k hlt)
            have Htk := Lib.hid (wide_take (b := b) hlt)
            have Hnl := Lib.hid (show (xat xss k).length < 4294967296 by rw [Hrl.out k hlt]; omega)
            have Hul := Lib.hid (show uw.length < 4294967296 by rw [huw.out]; omega)
            go_wp2_with fail
            refine regionG (fun w' => w'.cell? (el vm k) = some (vat us k) ∧ w'.cell? (el vb k) = some (.int .i64 (nth b k))) 14 (by kernel_rfl) ⟨cell_dr ck, cell_dr cb⟩ (fun hHeld => ?_)
            refine takeP (i := 0) (v := ?_) rfl (by kernel_rfl) (fun _ _ _ h => h) (by rfl) ?_ (by assumption) ?_
            case refine_2 => (intro w'; go_simp; first | done | with_reducible rfl)
            try simp only [Act.put, List.setIfInBounds_toArray, List.set_cons_zero, List.set_cons_succ]
            refine takeP (i := 1) (v := ?_) rfl (by kernel_rfl) (fun _ _ _ h => h) (by rfl) ?_ (by assumption) ?_
            case refine_2 => (intro w'; go_simp; first | done | with_reducible rfl)
            try simp only [Act.put, List.setIfInBounds_toArray, List.set_cons_zero, List.set_cons_succ]
            refine takeP (i := 2) (v := ?_) rfl (by kernel_rfl) (fun _ _ _ h => h) (by rfl) ?_ (by assumption) ?_
            case refine_2 => (intro w'; go_simp; first | done | with_reducible rfl)
            try simp only [Act.put, List.setIfInBounds_toArray, List.set_cons_zero, List.set_cons_succ]
            refine takeP (i := 3) (v := ?_) rfl (by kernel_rfl) (fun _ _ _ h => h) (by rfl) ?_ (by assumption) ?_
            case refine_2 => (intro w'; go_simp; first | done | with_reducible rfl)
            try simp only [Act.put, List.setIfInBounds_toArray, List.set_cons_zero, List.set_cons_succ]
            refine takeH (i := 4) [5, 11, 12, 13] (v := ?_) rfl (by kernel_rfl) (fun _ _ _ h => h) (by rfl) ?_ (by assumption) ?_
            case refine_2 => (intro w' hSw; (try dsimp only at hSw); go_simp; first | done | with_reducible rfl)
            try simp only [Act.put, List.setIfInBounds_toArray, List.set_cons_zero, List.set_cons_succ]
            refine takeP (i := 6) (v := ?_) rfl (by kernel_rfl) (fun _ _ _ h => h) (by rfl) ?_ (by assumption) ?_
            case refine_2 => (intro w'; go_simp; first | done | with_reducible rfl)
            try simp only [Act.put, List.setIfInBounds_toArray, List.set_cons_zero, List.set_cons_succ]
            refine takeP (i := 7) (v := ?_) rfl (by kernel_rfl) (fun _ _ _ h => h) (by rfl) ?_ (by assumption) ?_
            case refine_2 => (intro w'; go_simp; first | done | with_reducible rfl)
            try simp only [Act.put, List.setIfInBounds_toArray, List.set_cons_zero, List.set_cons_succ]
            refine takeP (i := 8) (v := ?_) rfl (by kernel_rfl) (fun _ _ _ h => h) (by rfl) ?_ (by assumption) ?_
            case refine_2 => (intro w'; go_simp; first | done | with_reducible rfl)
            try simp only [Act.put, List.setIfInBounds_toArray, List.set_cons_zero, List.set_cons_succ]
            refine takeH (i := 9) [10, 11, 12, 13] (v := ?_) rfl (by kernel_rfl) (fun _ _ _ h => h) (by rfl) ?_ (by assumption) ?_
            case refine_2 => (intro w' hSw; (try dsimp only at hSw); go_simp; first | done | with_reducible rfl)
            try simp only [Act.put, List.setIfInBounds_toArray, List.set_cons_zero, List.set_cons_succ]
            refine readyG (rs := [5, 10]) (by kernel_rfl) (by simp) ?_
            refine AllG.cons rfl (fun K hK => ?_) (AllG.cons rfl (fun K hK => ?_) AllG.nil)
            · go_simp
              go_at_call 86
              refine (hown k hlt _ (hS.drew.oldI Hrk.out)).out.mono ?_
              rintro e w4 ⟨v4, rfl, h4⟩
              have hS4 := (hS.drew.call h4).perm List.perm_append_comm
              have g0 := (hS4.oldII Hm.out).cell k hlt
              have g1 := (hS4.oldI Hb.out).cell k hkb
              refine hK.out _ _ ⟨g0, g1⟩ (fun hHeld => ?_)
              clear hK K
              try simp only [Act.put, List.setIfInBounds_toArray, List.set_cons_zero, List.set_cons_succ]
              refine readyG (rs := [10]) (by kernel_rfl) (by simp) ?_
              refine AllG.cons rfl (fun K hK => ?_) AllG.nil
              go_simp
              have hSa := hS4.newboxF 2 #[.int .i64 (nth b k)]
              refine hK.out _ _ ⟨cell_al g0, cell_al g1⟩ (fun hHeld => ?_)
              clear hK K
              try simp only [Act.put, List.setIfInBounds_toArray, List.set_cons_zero, List.set_cons_succ]
              refine readyG (rs := [11]) (by kernel_rfl) (by simp) ?_
              refine AllG.cons rfl (fun K hK => ?_) AllG.nil
              refine stepAppBoxI hSa 1 rfl Hnl.out 0 rfl rfl (.tmp 41) (.tmp 46) rfl (by first | rfl | simp [Act.eval, Act.put]) (by first | rfl | simp [Act.eval, Act.put]) ?_
              intro v5 w5 hS5b
              have hS5 : St w2.heap.size w2 w5 (row 2 v5 (iv (xat xss k ++ [nth b k])) :: own2 u8 uw ((wide xss b xss.length).take k)) := hS5b.sub ((List.Sublist.refl _).cons _)
              obtain ⟨a5, c5, he5⟩ := (hS5.rdI 0 rfl).shp'
              subst he5
              have g2 := (hS5.oldII Hm.out).cell k hlt
              have g3 := (hS5.oldI Hb.out).cell k hkb
              refine hK.out _ _ ⟨g2, g3⟩ (fun hHeld => ?_)
              clear hK K
              try simp only [Act.put, List.setIfInBounds_toArray, List.set_cons_zero, List.set_cons_succ]
              refine readyG (rs := [12]) (by kernel_rfl) (by simp) ?_
              refine AllG.cons rfl (fun K hK => ?_) AllG.nil
              go_simp
              refine hK.out _ _ ⟨cell_al g2, cell_al g3⟩ (fun hHeld => ?_)
              clear hK K
              try simp only [Act.put, List.setIfInBounds_toArray, List.set_cons_zero, List.set_cons_succ]
              refine readyG (rs := [13]) (by kernel_rfl) (by simp) ?_
              refine AllG.cons rfl (fun K hK => ?_) AllG.nil
              refine stepII hS5 1 rfl Hul.out rfl (.tmp 36) (.tmp 48) rfl (by first | rfl | simp [Act.eval, Act.put]) _ rfl (by first | rfl | simp [Act.eval, Act.put]) ?_
              intro v6 w6 hS6
              have g4 := (hS6.oldII Hm.out).cell k hlt
              have g5 := (hS6.oldI Hb.out).cell k hkb
              refine hK.out _ _ ⟨g4, g5⟩ (fun hHeld => ?_)
              clear hK K
              try simp only [Act.put, List.setIfInBounds_toArray, List.set_cons_zero, List.set_cons_succ]
              refine readyG (rs := [14]) (by kernel_rfl) (by simp) ?_
              refine AllG.last rfl (by kernel_rfl) (fun K hK => ?_) AllG.nil
              go_simp
              refine hK.out _ _ ?_
              clear hK K
              try simp only [Act.put, List.setIfInBounds_toArray, List.set_cons_zero, List.set_cons_succ]
              refine doneG (by kernel_rfl) ?_ _
              refine NoPanic.normal ?_
              go_wp2_with fail
              go_roundw
              case rel =>
                refine ⟨k + 1, uw ++ [.slice a5 (xat xss k ++ [nth b k]).length c5], by omega, by go_num, by simp [Hid, huw.out], ?_⟩
                rw [Htk.out, own2, rowsI_app Hlu.out]
                simp only [own2, List.set_cons_succ, List.set_cons_zero] at hS6
                rw [show (xat xss k).length + 1 = (xat xss k ++ [nth b k]).length by simp] at hS6
                exact hS6.perm (by (try simp only [own2, List.cons_append, List.nil_append, List.append_nil]); classical exact List.perm_iff_count.2 (fun a => by simp only [List.cons_append, List.nil_append, List.append_nil, List.count_append, List.count_cons, List.count_nil] <;> omega))
              case measure => simp [intOf]; omega
            · go_simp
              have hSa := hS.drew.newboxF 2 #[.int .i64 (nth b k)]
              refine hK.out _ _ ⟨cell_al (cell_dr ck), cell_al (cell_dr cb)⟩ (fun hHeld => ?_)
              clear hK K
              try simp only [Act.put, List.setIfInBounds_toArray, List.set_cons_zero, List.set_cons_succ]
              refine readyG (rs := [5]) (by kernel_rfl) (by simp) ?_
              refine AllG.cons rfl (fun K hK => ?_) AllG.nil
              go_simp
              go_at_call 86
              refine (hown k hlt _ (hSa.oldI Hrk.out)).out.mono ?_
              rintro e w4 ⟨v4, rfl, h4⟩
              have hS4 := (hSa.call h4).perm List.perm_append_comm
              have g0 := (hS4.oldII Hm.out).cell k hlt
              have g1 := (hS4.oldI Hb.out).cell k hkb
              refine hK.out _ _ ⟨g0, g1⟩ (fun hHeld => ?_)
              clear hK K
              try simp only [Act.put, List.setIfInBounds_toArray, List.set_cons_zero, List.set_cons_succ]
              refine readyG (rs := [11]) (by kernel_rfl) (by simp) ?_
              refine AllG.cons rfl (fun K hK => ?_) AllG.nil
              refine stepAppBoxI hS4 0 rfl Hnl.out 1 rfl rfl (.tmp 41) (.tmp 46) rfl (by first | rfl | simp [Act.eval, Act.put]) (by first | rfl | simp [Act.eval, Act.put]) ?_
              intro v5 w5 hS5b
              have hS5 : St w2.heap.size w2 w5 (row 2 v5 (iv (xat xss k ++ [nth b k])) :: own2 u8 uw ((wide xss b xss.length).take k)) := hS5b.sub (((List.Sublist.refl _).cons _).cons_cons _)
              obtain ⟨a5, c5, he5⟩ := (hS5.rdI 0 rfl).shp'
              subst he5
              have g2 := (hS5.oldII Hm.out).cell k hlt
              have g3 := (hS5.oldI Hb.out).cell k hkb
              refine hK.out _ _ ⟨g2, g3⟩ (fun hHeld => ?_)
              clear hK K
              try simp only [Act.put, List.setIfInBounds_toArray, List.set_cons_zero, List.set_cons_succ]
              refine readyG (rs := [12]) (by kernel_rfl) (by simp) ?_
              refine AllG.cons rfl (fun K hK => ?_) AllG.nil
              go_simp
              refine hK.out _ _ ⟨cell_al g2, cell_al g3⟩ (fun hHeld => ?_)
              clear hK K
              try simp only [Act.put, List.setIfInBounds_toArray, List.set_cons_zero, List.set_cons_succ]
              refine readyG (rs := [13]) (by kernel_rfl) (by simp) ?_
              refine AllG.cons rfl (fun K hK => ?_) AllG.nil
              refine stepII hS5 1 rfl Hul.out rfl (.tmp 36) (.tmp 48) rfl (by first | rfl | simp [Act.eval, Act.put]) _ rfl (by first | rfl | simp [Act.eval, Act.put]) ?_
              intro v6 w6 hS6
              have g4 := (hS6.oldII Hm.out).cell k hlt
              have g5 := (hS6.oldI Hb.out).cell k hkb
              refine hK.out _ _ ⟨g4, g5⟩ (fun hHeld => ?_)
              clear hK K
              try simp only [Act.put, List.setIfInBounds_toArray, List.set_cons_zero, List.set_cons_succ]
              refine readyG (rs := [14]) (by kernel_rfl) (by simp) ?_
              refine AllG.last rfl (by kernel_rfl) (fun K hK => ?_) AllG.nil
              go_simp
              refine hK.out _ _ ?_
              clear hK K
              try simp only [Act.put, List.setIfInBounds_toArray, List.set_cons_zero, List.set_cons_succ]
              refine doneG (by kernel_rfl) ?_ _
              refine NoPanic.normal ?_
              go_wp2_with fail
              go_roundw
              case rel =>
                refine ⟨k + 1, uw ++ [.slice a5 (xat xss k ++ [nth b k]).length c5], by omega, by go_num, by simp [Hid, huw.out], ?_⟩
                rw [Htk.out, own2, rowsI_app Hlu.out]
                simp only [own2, List.set_cons_succ, List.set_cons_zero] at hS6
                rw [show (xat xss k).length + 1 = (xat xss k ++ [nth b k]).length by simp] at hS6
                exact hS6.perm (by (try simp only [own2, List.cons_append, List.nil_append, List.append_nil]); classical exact List.perm_iff_count.2 (fun a => by simp only [List.cons_append, List.nil_append, List.append_nil, List.count_append, List.count_cons, List.count_nil] <;> omega))
              case measure => simp [intOf]; omega
          · obtain hkx : k = xss.length := by omega
            have hS : St w2.heap.size w2 wr (own2 u8 uw (wide xss b xss.length)) := by rw [hkx, List.take_of_length_le (by rw [wide_len]; omega)] at hS; exact hS
            have hlu : uw.length = (wide xss b xss.length).length := by rw [wide_len, huw.out, hkx]
            have hrw := hS.rii hlu
            clear hkx hlu
            have ck0 := (hS.oldII Hm.out).cell 0 hr1
            go_wp2_with fail
            refine (HR _ (hS.oldI Hv.out) (HB.out.keep hS.below) _ _ hrw).out.mono ?_
            rintro e w5 ⟨v5, u5, p5, rfl, hl5, hk5, h5⟩
            have HW5 := Lib.hid ((HW.out.call0 (hS.call0 h5.out).out).out)
            have Hl5 := Lib.hid hl5
            have Hk5 := Lib.hid hk5
            have hr5 := (h5.sub (List.sublist_cons_self _ _)).rii hl5
            have hp5 := h5.rdI 0 rfl
            have hl5' := hr5.len
            have hlp := hp5.len
            have xr5 := hr5.ixe
            have xp5 := hp5.ixe
            have Hr5 := Lib.hid hr5
            have Hp5 := Lib.hid hp5
            clear h5 hrw ck0 hl5 hk5 hr5 hp5 hS HW HR hN0 xm xb hlm hlb
            have hXl : X.1.length = xss.length := by have := Hpre.out.2.1; rw [wide_len] at this; exact this
            have hXb : X.1.length ≤ 32 := by omega
            have HXr := Lib.hid Hpre.out.1
            clear hXl
            go_wp2_with fail
            go_loopw [13] (fun ii wx => ∃ i : Nat, X.2.1.length ≤ i ∧ i ≤ X.1.length ∧ ii = .int .i64 i ∧ Hid (∀ j, X.2.1.length ≤ j → j < i → cf (ra X.1 j) N = 0) ∧ wx = w5) (fun ii _ => X.1.length - (intOf ii).toNat)
            case atStart => exact ⟨X.2.1.length, Nat.le_refl _, Hk5.out, rfl, fun j h1 h2 => by omega, rfl⟩
            case round =>
              obtain ⟨i, hi1, hi2, rfl, hz, rfl⟩ := hrel
              by_cases hil : i < X.1.length
              · have ci := Hr5.out.cell i hil
                have xi := xr5 (i : Int) i rfl hil
                have gi := Hr5.out.row i hil
                have hNl : N < (xat X.1 i).length := by rw [(HXr.out _ (xat_mem hil)).1]; omega
                have ce := gi.cell N hNl
                have xe := gi.ixe (N : Int) N rfl hNl
                rw [show nth (xat X.1 i) N = cf (ra X.1 i) N from rfl] at ce
                clear gi
                by_cases h0 : cf (ra X.1 i) N = 0
                · have f2 := ne_f h0
                  have hz2 := Lib.hid (show ∀ j, X.2.1.length ≤ j → j < i + 1 → cf (ra X.1 j) N = 0 from fun j h1 h2 => by
                    by_cases e : j = i
                    · rw [e]; exact h0
                    · exact hz.out j h1 (by omega))
                  clear h0
                  go_wp2_with fail
                  go_roundw
                  case rel => exact ⟨i + 1, by omega, by omega, by go_num, hz2.out, by first | rfl | trivial⟩
                  case measure => simp [intOf]; omega
                · have f2 := ne_t h0
                  have HC := Lib.hid (show slvC p D xs xss b = 3 by
                    rw [HsC.out, if_neg]
                    rw [solvable, fnz_is hi1 hil h0 hz.out]; simp)
                  have HM := Lib.hid (show slvM p D xs xss b = [] by rw [HsM.out, HC.out]; rfl)
                  clear h0
                  go_wp2_with fail
                  go_ret2
                  rw [HM.out, HC.out]
                  exact ⟨_, rfl, HW5.out.newnil _⟩
              · have HC := Lib.hid (show slvC p D xs xss b = 0 by
                  rw [HsC.out, if_pos]
                  rw [solvable, fnz_no (fun j h1 h2 => hz.out j h1 (by omega))]; rfl)
                have HM := Lib.hid (show slvM p D xs xss b = solP X.1 X.2.1 N X.2.1.length by rw [HsM.out, if_pos HC.out])
                clear hz
                go_wp2_with (at_make; refine mkI (St.refl _) rfl _ _ rfl _ _ N rfl rfl (by omega) ?_; intro vx w6 hS6)
                go_loopw [15] (fun ii wy => ∃ i : Nat, i ≤ X.2.1.length ∧ ii = .int .i64 i ∧ St wr.heap.size wr wy [row 2 vx (iv (solP X.1 X.2.1 N i))]) (fun ii _ => X.2.1.length - (intOf ii).toNat)
                case atStart => exact ⟨0, by omega, rfl, hS6⟩
                case round =>
                  obtain ⟨i, hi, rfl, hS⟩ := hrel
                  by_cases hil : i < X.2.1.length
                  · have cp := (hS.oldI Hp5.out).cell i hil
                    have xp := xp5 (i : Int) i rfl hil
                    have hpi := Hpv.out _ (nth_mem hil)
                    obtain ⟨pn, hpn⟩ := Int.eq_ofNat_of_zero_le hpi.1
                    have hple : pn < N := by have := hpi.2; omega
                    rw [hpn] at cp
                    have hiQ : i < X.1.length := by have := Hk5.out; omega
                    have ci := (hS.oldII Hr5.out).cell i hiQ
                    have xi := xr5 (i : Int) i rfl hiQ
                    have gi := (hS.oldII Hr5.out).row i hiQ
                    have hNl : N < (xat X.1 i).length := by rw [(HXr.out _ (xat_mem hiQ)).1]; omega
                    have ce := gi.cell N hNl
                    have xe := gi.ixe (N : Int) N rfl hNl
                    have hsl : (solP X.1 X.2.1 N i).length = N := solP_len _ _ _ _
                    have hpx : pn < (solP X.1 X.2.1 N i).length := by rw [hsl]; omega
                    have xx := (hS.rdI 0 rfl).ixe (pn : Int) pn rfl hpx
                    have Hst := Lib.hid (show solP X.1 X.2.1 N (i + 1) = (solP X.1 X.2.1 N i).set pn (nth (xat X.1 i) N) by
                      rw [solP, show cf X.2.1 i = pn from hpn, Int.toNat_natCast]; rfl)
                    have Hpx := Lib.hid hpx
                    have u0 := hS.unfrozen 0 rfl (j := pn) (by rw [iv_len]; exact hpx)
                    have co := (hS.rdI 0 rfl).cell pn hpx
                    clear hpn hpi hpx gi hsl
                    go_wp2_with fail
                    refine regionG (fun w' => w'.cell? (el p5 i) = some (.int .i64 pn) ∧ w'.cell? (el v5 i) = some (vat u5 i) ∧ w'.cell? (el (vat u5 i) N) = some (.int .i64 (nth (xat X.1 i) N))) 13 (by kernel_rfl) ⟨cell_dr cp, cell_dr ci, cell_dr ce⟩ (fun hHeld => ?_)
                    refine takeP (i := 0) (v := ?_) rfl (by kernel_rfl) (fun _ _ _ h => h) (by rfl) ?_ (by assumption) ?_
                    case refine_2 => (intro w'; go_simp; first | done | with_reducible rfl)
                    try simp only [Act.put, List.setIfInBounds_toArray, List.set_cons_zero, List.set_cons_succ]
                    refine takeP (i := 1) (v := ?_) rfl (by kernel_rfl) (fun _ _ _ h => h) (by rfl) ?_ (by assumption) ?_
                    case refine_2 => (intro w'; go_simp; first | done | with_reducible rfl)
                    try simp only [Act.put, List.setIfInBounds_toArray, List.set_cons_zero, List.set_cons_succ]
                    refine takeP (i := 2) (v := ?_) rfl (by kernel_rfl) (fun _ _ _ h => h) (by rfl) ?_ (by assumption) ?_
                    case refine_2 => (intro w'; go_simp; first | done | with_reducible rfl)
                    try simp only [Act.put, List.setIfInBounds_toArray, List.set_cons_zero, List.set_cons_succ]
                    refine takeP (i := 3) (v := ?_) rfl (by kernel_rfl) (fun _ _ _ h => h) (by rfl) ?_ (by assumption) ?_
                    case refine_2 => (intro w'; go_simp; first | done | with_reducible rfl)
                    try simp only [Act.put, List.setIfInBounds_toArray, List.set_cons_zero, List.set_cons_succ]
                    refine takeH (i := 4) [12] (v := ?_) rfl (by kernel_rfl) (fun _ _ _ h => h) (by rfl) ?_ (by assumption) ?_
                    case refine_2 => (intro w' hSw; (try dsimp only at hSw); go_simp; first | done | with_reducible rfl)
                    try simp only [Act.put, List.setIfInBounds_toArray, List.set_cons_zero, List.set_cons_succ]
                    refine takeP (i := 5) (v := ?_) rfl (by kernel_rfl) (fun _ _ _ h => h) (by rfl) ?_ (by assumption) ?_
                    case refine_2 => (intro w'; go_simp; first | done | with_reducible rfl)
                    try simp only [Act.put, List.setIfInBounds_toArray, List.set_cons_zero, List.set_cons_succ]
                    refine takeP (i := 6) (v := ?_) rfl (by kernel_rfl) (fun _ _ _ h => h) (by rfl) ?_ (by assumption) ?_
                    case refine_2 => (intro w'; go_simp; first | done | with_reducible rfl)
                    try simp only [Act.put, List.setIfInBounds_toArray, List.set_cons_zero, List.set_cons_succ]
                    refine takeP (i := 7) (v := ?_) rfl (by kernel_rfl) (fun _ _ _ h => h) (by rfl) ?_ (by assumption) ?_
                    case refine_2 => (intro w'; go_simp; first | done | with_reducible rfl)
                    try simp only [Act.put, List.setIfInBounds_toArray, List.set_cons_zero, List.set_cons_succ]
                    refine takeH (i := 8) [10, 11] (v := ?_) rfl (by kernel_rfl) (fun _ _ _ h => h) (by rfl) ?_ (by assumption) ?_
                    case refine_2 => (intro w' hSw; (try dsimp only at hSw); go_simp; first | done | with_reducible rfl)
                    try simp only [Act.put, List.setIfInBounds_toArray, List.set_cons_zero, List.set_cons_succ]
                    refine takeP (i := 9) (v := ?_) rfl (by kernel_rfl) (fun _ _ _ h => h) (by rfl) ?_ (by assumption) ?_
                    case refine_2 => (intro w'; go_simp; first | done | with_reducible rfl)
                    try simp only [Act.put, List.setIfInBounds_toArray, List.set_cons_zero, List.set_cons_succ]
                    refine takeP (i := 10) (v := ?_) rfl (by kernel_rfl) (fun _ _ _ h => h) (by rfl) ?_ (by assumption) ?_
                    case refine_2 => (intro w'; go_simp; first | done | with_reducible rfl)
                    try simp only [Act.put, List.setIfInBounds_toArray, List.set_cons_zero, List.set_cons_succ]
                    refine takeH (i := 11) [] (v := ?_) rfl (by kernel_rfl) (fun _ _ _ h => h) (by rfl) ?_ (by assumption) ?_
                    case refine_2 => (intro w' hSw; (try dsimp only at hSw); go_simp; first | done | with_reducible rfl)
                    try simp only [Act.put, List.setIfInBounds_toArray, List.set_cons_zero, List.set_cons_succ]
                    refine takeP (i := 12) (v := ?_) rfl (by kernel_rfl) (fun _ _ _ h => h) (by rfl) ?_ (by assumption) ?_
                    case refine_2 => (intro w'; go_simp; first | done | with_reducible rfl)
                    try simp only [Act.put, List.setIfInBounds_toArray, List.set_cons_zero, List.set_cons_succ]
                    refine readyG (rs := [13]) (by kernel_rfl) (by simp) ?_
                    refine AllG.last rfl (by kernel_rfl) (fun K hK => ?_) AllG.nil
                    go_simp
                    refine hK.out _ _ ?_
                    clear hK K
                    try simp only [Act.put, List.setIfInBounds_toArray, List.set_cons_zero, List.set_cons_succ]
                    refine doneG (by kernel_rfl) ?_ _
                    refine NoPanic.normal ?_
                    have hS8 := hS.drew.store 0 rfl (j := pn) (by rw [iv_len]; exact Hpx.out) (.int .i64 (nth (xat X.1 i) N))
                    simp only [List.set_cons_zero] at hS8
                    rw [iv_set, ← Hst.out] at hS8
                    go_wp2_with fail
                    go_roundw
                    case rel => exact ⟨i + 1, by omega, by go_num, hS8⟩
                    case measure => simp [intOf]; omega
                  · have hip : i = X.2.1.length := by omega
                    rw [hip, ← HM.out] at hS
                    clear hip
                    go_wp2_with fail
                    go_ret2
                    rw [HC.out]
                    exact ⟨vx, rfl, HW5.out.trans hS⟩
      · have f1 := ne_t (show (b.length : Int) ≠ (xss.length : Int) by omega)
        have HC := Lib.hid (show slvC p D xs xss b = 6 by rw [slvC, if_pos h1, if_pos h2, if_neg hlen])
        have HM := Lib.hid (show slvM p D xs xss b = [] by rw [slvM, HC.out]; rfl)
        clear h1 h2 hmv hlen
        generalize p ^ (D : Int).toNat = q at *
        go_enter Try.func45, Try.ntmps45
        go_wp2_with fail
        refine HV.out.mono ?_
        rw [H1.out]
        rintro e w1 ⟨rfl, h1⟩
        have hS1 := hS0.call0 h1
        go_wp2_with fail
        refine (HL _ (hB0.keep h1.below) (hS1.oldI hb)).out.mono ?_
        rw [H2.out]
        rintro e w3 ⟨rfl, h3⟩
        have hS3 := hS1.call0 h3
        go_wp2_with fail
        go_ret2
        rw [HM.out, HC.out]
        exact ⟨_, rfl, hS3.out.newnil _⟩
end Go.Proofs.Ytmkfafhgcnbcaaa
