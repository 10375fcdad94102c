/- The texts of this claim, run 9: Eqs LSq Prf PrfL PFnSquares. -/
import Derived.Test.YtdlmohigkkdegaaGreatDoorK4
import Derived.Test.YtdlmohigkkdegaaGreatDoorK5
import Derived.Test.YtdlmohigkkdegaaGreatDoorK6
import Derived.Test.YtdlmohigkkdegaaGreatDoorK7
import Derived.Test.YtdlmohigkkdegaaGreatDoorK8
import Derived.Deep.RegionHeld3
import Derived.Deep.DrawnRows
import Derived.ProofKit
import Derived.OpenShut
import Derived.LaidMore
import Derived.LaidLaws
import Derived.MakeChecks
import Derived.Lay
import Derived.Lib.LaidTab
import Derived.Shelf.Vars
import Derived.Stop.Joined
import Derived.Test.YtdlmohigkkdegaaGreatDoorTie
import Derived.Test.YtdlmohigkkdegaaGreatDoorCards
import Derived.ShutString
import Derived.ChangeOld
import Derived.Below
section
/- Walks: the laws' own comparisons of lists. -/
namespace Go.Proofs.YtdlmohigkkdegaaGreatDoor
set_option linter.unusedSimpArgs false
set_option linter.unusedVariables false
open Go.RowKit

set_option maxHeartbeats 1000000 in
set_option maxRecDepth 100000 in
theorem b10Lists_c (va vb : Value) (us ws : List Value) (xs ys : List (List Int)) (w : World) (ha : RII w va us xs) (hb : RII w vb ws ys) :
    Calls Tryz.prog 14 #[va, vb] w (GivesB w (decide (xs = ys))) := by
  have hla := ha.len
  have hlb := hb.len
  have hia := ha.ix
  have hib := hb.ix
  have hma := ha.le
  by_cases hne : xs.length = ys.length
  · have f0 : ((xs.length : Int) != (ys.length : Int)) = false := ne_f (by omega)
    have hle : xs.length ≤ ys.length := by omega
    have Hne := Lib.hid hne; clear hne
    go_enter Tryz.func14, Tryz.ntmps14
    go_wp2_with fail
    go_loopw [5] (fun i wr => ∃ k : Nat, k ≤ xs.length ∧ i = .int .i64 k ∧ Hid (∀ j, j < k → xat xs j = xat ys j) ∧ St w.heap.size w wr []) (fun i _ => xs.length - (intOf i).toNat)
    case atStart => exact ⟨0, by omega, rfl, fun j hj => by omega, St.refl w⟩
    case round =>
      obtain ⟨k, hk, rfl, hI, hS⟩ := hrel
      by_cases hlt : k < xs.length
      · have hqa := fun s : SS w.heap.size w [] => (s.st.oldII ha).cell k hlt
        have hqb := fun s : SS w.heap.size w [] => (s.st.oldII hb).cell k (by omega)
        have hk2 : k < ys.length := by omega
        by_cases h1 : xat xs k = xat ys k
        · have f1 : decide (xat xs k = xat ys k) = true := decide_eq_true h1
          have H1 := Lib.hid h1; clear h1
          go_wp2_with fail
          have hne : Nonempty (SS _ _ _) := ⟨⟨_, hS⟩⟩
          refine wp_region_st (by kernel_rfl) (by kernel_rfl) hS ?_
          repeat (go_big_quiet_step ((go_at_call 30; exact st_quiet (b10Nums_c _ _ _ _ _ (((SS.st _).oldII ha).row k hlt) (((SS.st _).oldII hb).row k hk2)))))
          refine wpQuiet_nil ?_
          rintro _ ⟨s2, rfl⟩
          have hS2 := s2.st
          generalize s2.w = w2 at hS2 ⊢
          go_wp2_with fail
          go_roundw
          case rel => exact ⟨k + 1, by omega, by go_num, fun j hj => by
            by_cases e : j = k
            · subst e; exact H1.out
            · exact hI.out j (by omega), hS2⟩
          case measure => simp [intOf]; omega
        · have f1 : decide (xat xs k = xat ys k) = false := decide_eq_false h1
          have H1 := Lib.hid h1; clear h1
          go_wp2_with fail
          have hne : Nonempty (SS _ _ _) := ⟨⟨_, hS⟩⟩
          refine wp_region_st (by kernel_rfl) (by kernel_rfl) hS ?_
          repeat (go_big_quiet_step ((go_at_call 30; exact st_quiet (b10Nums_c _ _ _ _ _ (((SS.st _).oldII ha).row k hlt) (((SS.st _).oldII hb).row k hk2)))))
          refine wpQuiet_nil ?_
          rintro _ ⟨s2, rfl⟩
          have hS2 := s2.st
          generalize s2.w = w2 at hS2 ⊢
          go_wp2_with fail
          go_ret
          exact ⟨ret_bool (by symm; rw [decide_eq_false_iff_not]; intro e; subst e; exact H1.out rfl), hS2⟩
      · go_wp2_with fail
        go_ret
        refine ⟨ret_bool ?_, hS⟩
        symm; rw [decide_eq_true_iff]
        apply List.ext_getElem Hne.out
        intro j h1 h2
        have := hI.out j (by omega)
        rwa [xat_eq h1, xat_eq h2] at this
  · have f0 : ((xs.length : Int) != (ys.length : Int)) = true := ne_t (by omega)
    have Hne := Lib.hid hne; clear hne
    go_enter Tryz.func14, Tryz.ntmps14
    go_wp2_with fail
    go_ret
    exact ⟨ret_bool (by symm; rw [decide_eq_false_iff_not]; intro e; exact Hne.out (by rw [e])), St.refl w⟩

end Go.Proofs.YtdlmohigkkdegaaGreatDoor
end

section
/- The law FnSquares, walked. -/
namespace Go.Proofs.YtdlmohigkkdegaaGreatDoor
set_option linter.unusedSimpArgs false
set_option linter.unusedVariables false
open Go Go.RowKit
attribute [local go_sem ↓] Go.wp_at_zero Go.wp_at_succ

theorem DrawReducedSquare_c (w : World) (cv : Value) (bs : List UInt8) (hb : RdB w cv bs) :
    Calls Tryz.prog 5 #[cv] w fun e w' => ∃ v us A, e = .returned v ∧ SmA A ∧ us.length = A.length ∧ St w.heap.size w w' (own2 v us A) := by
  go_enter Tryz.func5, Tryz.ntmps5
  go_wp2_with fail
  refine (l00From_c w cv bs hb).mono ?_
  rintro e w1 ⟨rfl, h1⟩
  go_wp2_with fail
  refine (l06Draw_c w w1 cv bs _ _ _ hb h1 (by omega)).mono ?_
  rintro e w2 ⟨v, us, A, rfl, hA, hl, h2⟩
  have HA := Lib.hid hA
  have Hl := Lib.hid hl
  rw [List.append_nil] at h2
  clear hA hl h1
  go_wp2_with fail
  go_ret
  exact ⟨v, us, A, rfl, HA.out, Hl.out, h2.st⟩
theorem SmA.rows {A : List (List Int)} (h : SmA A) : ∀ x, x < A.length → (xat A x).length ≤ 1048576 := fun x hx => by have := h.2 x hx; omega

/-- what is carried from call to call -/
structure Kp (w W : World) (mv : Value) (ms : List UInt8) (v : Value) (us : List Value) (A : List (List Int)) : Prop where
  st : St w.heap.size w W []
  tab : Tabs W
  m : RdB W mv ms
  a : RII W v us A
theorem Kp.next {w W W' : World} {mv : Value} {ms : List UInt8} {v : Value} {us : List Value} {A : List (List Int)} {L : List Ent} (h : Kp w W mv ms v us A) (h2 : St W.heap.size W W' L) : Kp w W' mv ms v us A :=
  ⟨h.st.call0 h2.out, h.tab.keep h2.below, Rd.keep h.m h2.below, h2.oldII h.a⟩
set_option maxHeartbeats 16000000 in
set_option maxRecDepth 100000 in
theorem FnSquares_c (w : World) (cv mv : Value) (bs ms : List UInt8) (hb : RdB w cv bs) (hm : RdB w mv ms) (hT : Tabs w) :
    Calls Tryz.prog 3 #[cv, mv] w fun e w' => e = .returned (.bool true) ∧ St w.heap.size w w' [] := by
  go_enter Tryz.func3, Tryz.ntmps3
  go_wp2_with fail
  refine (b10Long_c w cv bs hb).mono ?_
  rintro e w1 ⟨rfl, rfl⟩
  by_cases hl : 1048576 < bs.length
  · rw [decide_eq_true hl]
    go_wp2_with fail
    go_ret
    exact ⟨rfl, St.refl _⟩
  rw [decide_eq_false hl]
  go_wp2_with fail
  refine (b10Long_c w mv ms hm).mono ?_
  rintro e w1 ⟨rfl, rfl⟩
  by_cases hl2 : 1048576 < ms.length
  · rw [decide_eq_true hl2]
    go_wp2_with fail
    go_ret
    exact ⟨rfl, St.refl _⟩
  rw [decide_eq_false hl2]
  go_wp2_with fail
  refine (DrawReducedSquare_c w cv bs hb).mono ?_
  rintro e w1 ⟨v, us, A, rfl, hSm, hlu, hS1⟩
  have r1 := hS1.rii hlu
  have T1 := hT.keep hS1.below
  have m1 := hS1.oldI (xs := []) (RdI.nil w)
  have M1 : RdB w1 mv ms := Rd.keep hm hS1.below
  have S1 : St w.heap.size w w1 [] := hS1.out
  have hA10 : A.length ≤ 10 := hSm.1
  have HSm := Lib.hid hSm
  clear hS1 hSm m1 hl hl2 hlu
  by_cases hL : Lat A
  · obtain ⟨av, ac, hv⟩ := r1.1.sl.sh
    rw [r1.2.1] at hv
    subst hv
    have HL := Lib.hid hL
    have hpos := hL.pos
    have Hred := Lib.hid (redL_lat hL)
    have Hrr := Lib.hid (redL_redL hL)
    have HRI := Lib.hid (fun v us W (h : RII W v us (redL A)) => IsReduced_c v us (redL A) W h (redL_lat hL) (fun y hy => redL_row hL (by rw [← redL_len (A := A)]; exact hy)) (fun x hx => redL_col hL (by rw [← redL_len (A := A)]; exact hx)))
    have HVA := Lib.hid (fun W (h : RII W (.slice av A.length ac) us A) => (by have := ValidSquare_c _ us A W h hL.rows; rw [latB_yes hL] at this; exact this : Calls Tryz.prog 9 #[.slice av A.length ac] W (GivesB W true)))
    have hln := r1.len
    have K1 : Kp w w1 mv ms (.slice av A.length ac) us A := ⟨S1, T1, M1, r1⟩
    have Hlen := Lib.hid (redL_len (A := A))
    clear hL T1 M1 S1
    go_wp2_with fail
    refine (ReducedSquare_c av ac us A w1 r1 HL.out).mono ?_
    rintro e w2 ⟨vb, ub, rfl, hlb, h2⟩
    have rb2 := h2.rii hlb
    have K2 := K1.next h2
    obtain ⟨bv', bc, hvb⟩ := rb2.1.sl.sh
    rw [rb2.2.1] at hvb
    subst hvb
    clear K1 h2 r1 hlb
    go_wp2_with fail
    refine (HVA.out w2 K2.a).mono ?_
    rintro e w3 ⟨rfl, h3⟩
    have K3 := K2.next h3
    have rb3 := h3.oldII rb2
    clear K2 h3 rb2
    go_wp2_with fail
    refine (HRI.out _ ub w3 rb3).mono ?_
    rintro e w4 ⟨rfl, h4⟩
    have K4 := K3.next h4
    have rb4 := h4.oldII rb3
    clear K3 h4 rb3
    go_wp2_with fail
    refine (SquareText_c _ us A w4 K4.tab K4.a HL.out).mono ?_
    rintro e w5 ⟨rfl, h5⟩
    have K5 := K4.next h5
    have rb5 := h5.oldII rb4
    clear K4 h5 rb4
    go_wp2_with fail
    refine (ReadSquare_c A w5 K5.tab HL.out).mono ?_
    rintro e w6 ⟨vr, ur, rfl, hlr, h6⟩
    have K6 := K5.next h6
    have rb6 := h6.oldII rb5
    have rr6 := h6.rii hlr
    clear K5 h6 rb5 hlr
    generalize bb (sqT A) = S at *
    go_wp2_with fail
    refine (b10At_c w6 mv ms 20 A.length K6.m (by omega) (by omega) (by omega)).mono ?_
    rintro e w7 ⟨x, rfl, x0, x1, rfl⟩
    obtain ⟨s, rfl⟩ := Int.eq_ofNat_of_zero_le x0
    have hsA : s < A.length := by omega
    clear x0 x1
    obtain ⟨y, hy, hay, hcy⟩ := colsL_ex HL.out hpos hsA
    have HP := Lib.hid (colsL_isP HL.out hsA)
    have HCL := Lib.hid (colsL_len A (s : Int))
    go_wp2_with fail
    refine (SymbolColumns_c _ us A s w6 K6.a HL.out hsA).mono ?_
    rintro e w8 ⟨vc, rfl, h8⟩
    have K8 := K6.next h8
    have rb8 := h8.oldII rb6
    have rr8 := h8.oldII rr6
    have rc8 := h8.rdI 0 rfl
    clear K6 h8 rb6 rr6
    generalize colsL A (s : Int) = C at *
    have hlC := rc8.len
    rw [HCL.out] at hlC
    go_wp2_with fail
    refine (b10Lists_c vr _ ur us A A w8 rr8 K8.a).mono ?_
    rintro e w9 ⟨rfl, h9⟩
    have K9 := K8.next h9
    have rb9 := h9.oldII rb8
    have rc9 := h9.oldI rc8
    rw [decide_eq_true rfl]
    clear K8 h9 rb8 rr8 rc8
    go_wp2_with fail
    refine (ValidPermutation_c vc C w9 rc9 (by rw [HCL.out]; omega)).mono ?_
    rintro e w10 ⟨rfl, h10⟩
    have K10 := K9.next h10
    have rb10 := h10.oldII rb9
    have rc10 := h10.oldI rc9
    rw [pvB_yes (by rw [HCL.out]; omega) HP.out]
    clear K9 h10 rb9 rc9
    go_wp2_with fail
    refine (ReducedSquare_c bv' bc ub (redL A) w10 rb10 Hred.out).mono ?_
    rintro e w11 ⟨vg, ug, rfl, hlg, h11⟩
    have K11 := K10.next h11
    have rb11 := h11.oldII rb10
    have rc11 := h11.oldI rc10
    have rg11 := h11.rii hlg
    rw [Hrr.out] at rg11
    clear K10 h11 rb10 rc10 hlg
    go_wp2_with fail
    refine (b10Perm_c w11 mv ms A.length K11.m (by omega)).mono ?_
    rintro e w12 ⟨vp, P, rfl, hlP, hP, h12⟩
    have K12 := K11.next h12
    have rb12 := h12.oldII rb11
    have rc12 := h12.oldI rc11
    have rg12 := h12.oldII rg11
    have rp12 := h12.rdI 0 rfl
    have HPP := Lib.hid (show _ ∧ _ from ⟨hlP, hP⟩)
    clear K11 h12 rb11 rc11 rg11 hlP hP
    go_wp2_with fail
    refine (IdentityPermutation_c A.length w12 (by omega)).mono ?_
    rintro e w13 ⟨vi, rfl, h13⟩
    have K13 := K12.next h13
    have rb13 := h13.oldII rb12
    have rc13 := h13.oldI rc12
    have rg13 := h13.oldII rg12
    have rp13 := h13.oldI rp12
    have ri13 := h13.rdI 0 rfl
    clear K12 h13 rb12 rc12 rg12 rp12
    have KI := Isotope_c (.slice av A.length ac) vp vi vi us A P (iot A.length) (iot A.length) w13 K13.a rp13 ri13 ri13 (latB_yes HL.out) (by rw [HPP.out.1]; omega) (by rw [iot_len]; omega) (by rw [iot_len]; omega)
    rw [if_pos (pv3_of (by omega) HPP.out ⟨iot_len _, iot_isP _⟩ ⟨iot_len _, iot_isP _⟩)] at KI
    have HLc := Lib.hid (HL.out.iso HPP.out.2 (iot_isP A.length) (iot_isP A.length) HPP.out.1 (iot_len _) (iot_len _))
    clear ri13 rp13
    generalize isoL A P (iot A.length) (iot A.length) = Q at *
    have KIh := Lib.hid KI
    clear KI
    go_wp2_with fail
    refine KIh.out.mono ?_
    rintro e w14 ⟨vq, uq, rfl, hlq, h14⟩
    have K14 := K13.next h14
    have rb14 := h14.oldII rb13
    have rc14 := h14.oldI rc13
    have rg14 := h14.oldII rg13
    have rq14 := h14.rii hlq
    obtain ⟨qv, qc, hvq⟩ := rq14.1.sl.sh
    rw [rq14.2.1] at hvq
    subst hvq
    clear K13 h14 rb13 rc13 rg13 hlq KIh
    have HVQ := Lib.hid (ValidSquare_c _ uq Q w14 rq14 HLc.out.rows)
    rw [latB_yes HLc.out] at HVQ
    go_wp2_with fail
    refine HVQ.out.mono ?_
    rintro e w15 ⟨rfl, h15⟩
    have K15 := K14.next h15
    have rb15 := h15.oldII rb14
    have rc15 := h15.oldI rc14
    have rg15 := h15.oldII rg14
    have rq15 := h15.oldII rq14
    clear K14 h15 rb14 rc14 rg14 rq14 HVQ
    go_wp2_with fail
    refine (b10Lists_c vg _ ug ub (redL A) (redL A) w15 rg15 rb15).mono ?_
    rintro e w16 ⟨rfl, h16⟩
    have K16 := K15.next h16
    have rc16 := h16.oldI rc15
    have rq16 := h16.oldII rq15
    rw [decide_eq_true rfl]
    clear K15 h16 rb15 rc15 rg15 rq15
    have HRQ := Lib.hid (fun v us W (h : RII W v us (redL Q)) => IsReduced_c v us (redL Q) W h (redL_lat HLc.out) (fun y hy => redL_row HLc.out (by rw [← redL_len (A := Q)]; exact hy)) (fun x hx => redL_col HLc.out (by rw [← redL_len (A := Q)]; exact hx)))
    go_wp2_with fail
    refine (ReducedSquare_c qv qc uq Q w16 rq16 HLc.out).mono ?_
    rintro e w17 ⟨vd, ud, rfl, hld, h17⟩
    have K17 := K16.next h17
    have rc17 := h17.oldI rc16
    have rd17 := h17.rii hld
    clear K16 h17 rc16 rq16 hld
    have dd := (St.refl w17).drew
    have KD := Lib.hid (HRQ.out vd ud _ (dd.oldII rd17))
    clear HRQ rd17
    have hC0 : 0 < C.length := by rw [HCL.out]; exact hpos
    have al : (xat A 0).length = A.length := HL.out.len 0 hpos
    have cells := fun W (h1 : RdI W vc C) (h2 : RII W (.slice av A.length ac) us A) => (⟨by have := h1.cell 0 hC0; rwa [hcy] at this, h2.cell 0 hpos, by have := (h2.row 0 hpos).cell y (by rw [al]; exact hy); rwa [show nth (xat A 0) y = (s : Int) from hay] at this⟩ : W.cell? (el vc 0) = some (.int .i64 y) ∧ W.cell? (el (.slice av A.length ac) 0) = some (vat us 0) ∧ W.cell? (el (vat us 0) y) = some (.int .i64 s))
    obtain ⟨g0, a0, ac0⟩ := cells w17 rc17 K17.a
    have Hc := Lib.hid cells
    have x0 := rc17.ixe (0 : Int) 0 rfl hC0
    have ax := K17.a.ixe (0 : Int) 0 rfl hpos
    have aix := (K17.a.row 0 hpos).ixe (y : Int) y rfl (by rw [al]; exact hy)
    have hyi : (y : Int) < (A.length : Int) := by omega
    have rcd := dd.oldI rc17
    have rad := dd.oldII K17.a
    have Sd := K17.st.drew
    clear cells dd
    go_wp2_with fail
    go_region_held3 (fun w' => w'.cell? (el vc 0) = some (.int .i64 y) ∧ w'.cell? (el (.slice av A.length ac) 0) = some (vat us 0) ∧ w'.cell? (el (vat us 0) y) = some (.int .i64 s)) (((try dsimp only); (repeat' apply And.intro); all_goals (repeat (first | assumption | exact cell_dr (by assumption) | refine cell_dr ?_ | refine cell_al ?_ | refine cell_sc (by assumption) ?_)))) (first
      | (go_at_call 10; refine KD.out.mono ?_; rintro e2 w18 ⟨rfl, h18⟩; have S18 := Sd.call0 h18; obtain ⟨g1, g2, g3⟩ := Hc.out _ (h18.oldI rcd) (h18.oldII rad)))
    all_goals
      go_wp2_with fail
      go_ret
      exact ⟨rfl, S18⟩
  · have KR := Lib.hid (ReducedSquare_no v us A w1 r1 HSm.out.rows hL)
    have KV := Lib.hid (fun W (h : RII W v us A) => (by have := sValidSquare_c v us A W h; rw [latB_no hL] at this; exact this : Calls Tryz.prog 7 #[v] W (GivesB W false)))
    have KT := Lib.hid (fun W (h : RII W v us A) => SquareText_no v us A W h HSm.out.rows hL)
    have f0 : (bb []).toList.isEmpty = true := by rw [Lib.toList_data, bb_data]; rfl
    unfold GivesT at KT
    generalize bb [] = S at *
    go_wp2_with fail
    refine KR.out.mono ?_
    rintro e w2 ⟨rfl, h2⟩
    have r2 := h2.oldII r1
    have S2 := S1.call0 h2
    go_wp2_with fail
    refine (KV.out _ r2).mono ?_
    rintro e w3 ⟨rfl, h3⟩
    have r3 := h3.oldII r2
    have S3 := S2.call0 h3
    go_wp2_with fail
    refine (KT.out _ r3).mono ?_
    rintro e w4 ⟨rfl, h4⟩
    have S4 := S3.call0 h4
    go_wp2_with fail
    go_ret
    exact ⟨rfl, S4⟩
end Go.Proofs.YtdlmohigkkdegaaGreatDoor
end

section
/- How arguments that come in read. How bytes that come in read. -/
namespace Go.Proofs.YtdlmohigkkdegaaGreatDoor
set_option linter.unusedSimpArgs false
set_option linter.unusedVariables false
open Go.RowKit


/-- what came in as a slice of integers: nothing, or a row of numbers that fit -/
def IsRow (k : IntKind) (w : World) (a : Option Addr) (len cap : Nat) (zs : List Int) : Prop :=
  (a = none ∧ len = 0 ∧ cap = 0 ∧ zs = []) ∨
  ∃ x, a = some x ∧ len ≤ cap ∧ cap ≤ maxLen ∧ zs.length = cap ∧ (∀ i, i < zs.length → w.cell? (x.add i) = some (.int k (zs.getD i 0))) ∧ ∀ n ∈ zs, (Lit.int k n).wf = true

theorem IsRow.rd {k : IntKind} {w : World} {a : Option Addr} {len cap : Nat} {zs : List Int} (h : IsRow k w a len cap zs) : Rd w (.slice a len cap) ((zs.take len).map (Value.int k)) := by
  rcases h with ⟨rfl, rfl, rfl, rfl⟩ | ⟨x, rfl, h1, h2, h3, h4, h5⟩
  · exact Rd.nil w
  · have hl : ((zs.take len).map (Value.int k)).length = len := by simp; omega
    refine ⟨⟨some x, cap, by rw [hl], by omega, h2, .inr (by simp)⟩, ?_⟩
    intro i u hu
    have hi : i < len := by have := (List.getElem?_eq_some_iff.1 hu).1; omega
    have := h4 i (by omega)
    simp only [List.getElem?_map, List.getElem?_take, hi, if_true] at hu
    rw [List.getElem?_eq_getElem (by omega)] at hu
    simp at hu
    simp only [el]
    rw [this, ← hu]
    simp [List.getD, List.getElem?_eq_getElem (show i < zs.length by omega)]


theorem IsRow.rdB {w : World} {a : Option Addr} {len cap : Nat} {zs : List Int} (h : IsRow .u8 w a len cap zs) : ∃ bs, RdB w (.slice a len cap) bs := by
  refine ⟨(zs.take len).map fun n => UInt8.ofNat n.toNat, ?_⟩
  have h1 := h.rd
  have hw : ∀ n ∈ zs, 0 ≤ n ∧ n ≤ 255 := by
    rcases h with ⟨_, _, _, rfl⟩ | ⟨_, _, _, _, _, _, h5⟩
    · simp
    · intro n hn; have := h5 n hn; simpa [Lit.wf, IntKind.min, IntKind.max, IntKind.signed, IntKind.bits] using this
  unfold RdB bv
  rw [List.map_map]
  rw [List.map_congr_left (g := Value.int .u8)]
  · exact h1
  · intro n hn
    have := hw n (List.mem_of_mem_take hn)
    simp only [Function.comp]
    congr 1
    rw [UInt8.toNat_ofNat']
    omega

end Go.Proofs.YtdlmohigkkdegaaGreatDoor
end

section
/- Frames of rows that list package-level variables. -/
namespace Go.Proofs.YtdlmohigkkdegaaGreatDoor
set_option linter.unusedSimpArgs false
set_option linter.unusedVariables false
open Go Go.ChangeShapes Go.WideShapes Go.ChangeAt Go.RowKit

theorem laid_tail {P : Program} {x : String × DataW Unit} {l : List (String × DataW Unit)} {w : World} (h : laidMet P (x :: l) w) : laidMet P l w := by
  obtain ⟨ps, ⟨g, t, cs, fuel, p, q, _, _, _, _, hr, rfl⟩, hn, hc⟩ := h
  exact ⟨q, hr, hn.sublist (List.sublist_append_right _ _), fun b off hb => hc b off (List.mem_append_right _ hb)⟩

/-- a row's call, its start's shape and its listed variables at hand -/
theorem ret_laid {H : Type} {enc : TypeId × Value → H} {a : Assume} {C : Checked} {os : Os} {f : FuncId} {fn : Func} {s : ChangeSpec} {conds : List PathCond} {apart fresh handsOn again : Bool} {X : World → Prop}
    (hX : ∀ w w' : World, w.heap = w'.heap → X w → X w') (own : ownKnob C.prog.godebug = none) (started : os.Started) (noInit : C.prog.inits.idxOf? f = none) (hfn : C.prog.funcs[f]? = some fn)
    (witness : ∃ (w : World) (tape : Tape) (i : Input), w.os = os ∧ (w.forCall tape i).Shaped C.prog ∧ i.vars = [] ∧ Input.okWide C.prog (w.forCall tape i) .any w.heap.size f i ∧
      ((s.pre enc C.prog fn conds apart (w.forCall tape i).memory i.args ∧ X (w.forCall tape i).memory) ∧ sizedMet enc C.prog fn (OpenSpec.ofChange s) apart (w.forCall tape i).memory i.args) ∧ a.holds C.prog (lone (Frame.enter C.prog f i.args .normal) [] (w.forCall tape i)))
    (law : ∀ (W : World) (base : Nat) (args : Array Value) (ds gs : List (DataW H)) (before : List MemPlace),
      (∀ (j : Nat) t v, fn.params[j]? = some t → args[j]? = some v → Value.okWide C.prog W .any base t v) →
      DataW.Whole enc C.prog fn.params.toList s.vars apart W args.toList ds gs before → X W → W.ShapedOpen C.prog →
      Calls C.prog f args W fun e W' => ∃ v, e = .returned v ∧ s.post enc C.prog fn apart fresh handsOn again W args v W') :
    ReturnsInHanded a C os f .any (fun w args => (s.pre enc C.prog fn conds apart w args ∧ X w) ∧ sizedMet enc C.prog fn (OpenSpec.ofChange s) apart w args) (s.post enc C.prog fn apart fresh handsOn again) := by
  refine returnsInHanded_of_calls own started noInit witness ?_
  intro w tape i _ hsh _ hok hpre _
  obtain ⟨_, _, _, fn', hf', _, _, _, _, hval⟩ := hok
  obtain rfl : fn' = fn := Option.some.inj (hf'.symm.trans hfn)
  obtain ⟨⟨⟨ds, gs, before, hw, _⟩, hx⟩, _⟩ := hpre
  refine (law (w.forCall tape i) w.heap.size i.args ds gs before hval (DataW.Whole.of_heap (w' := w.forCall tape i) (by rfl) hw) (hX (w.forCall tape i).memory _ (by rfl) hx) hsh).mono fun e W' ⟨v, he, hp⟩ => ?_
  subst he
  exact ChangeSpec.post_blind hp
end Go.Proofs.YtdlmohigkkdegaaGreatDoor
end

section
/- FnSquares holds: for every input the call returns true and leaves its arguments as they are; and the tied card. -/
namespace Go.Proofs.YtdlmohigkkdegaaGreatDoor.fnSquares
set_option linter.unusedSimpArgs false
set_option linter.unusedVariables false
open Go Go.ChangeShapes Go.WideShapes Go.ChangeAt Go.RowKit
set_option linter.unusedVariables false

theorem own : ownKnob Tryz.prog.godebug = none := by kernel_rfl
theorem laidOut : laidOutB Tryz.prog = true := by kernel_rfl
theorem tabs {W : World} (h : laidMetH Tryz.prog Rows.fnSquaresRow.laid W) (hs : W.ShapedOpen Tryz.prog) : Tabs W := by
  rw [MakeChecks.laidMetH_plain _ _ _ (by kernel_rfl)] at h
  have h3 := laid_tail (laid_tail h)
  refine ⟨Lib.tabIs_of_head (g := 0) (t := 130) (e := 55) (n := 20) (show Tryz.prog.globalNamed "internal/strconv.uint64pow10" = some 0 by kernel_rfl) (by kernel_rfl) (by kernel_rfl) (by kernel_rfl) (by kernel_rfl) (by kernel_rfl) (show laidMet Tryz.prog (("internal/strconv.uint64pow10", Lib.tabData .u64 Lib.pow10Tab) :: _) W from h3), ?_⟩
  exact cell_of_shapedOpen_int (zero := #[.int .i64 0]) (t := 3) hs (of_decide_eq_true (by kernel_rfl)) (by kernel_rfl) rfl (by kernel_rfl) (by kernel_rfl) Tryz.underlying3

set_option maxRecDepth 100000 in
theorem lifted (os : Os) (started : os.Started) (H : Type) (enc : TypeId × Value → H) :
    ReturnsInHanded {} Tryz.checked os 3 .any (fun w args => (Rows.fnSquaresSpec.pre enc Tryz.prog Tryz.f3 Rows.fnSquaresRow.domain false w args ∧ laidMetH Tryz.prog Rows.fnSquaresRow.laid w) ∧ sizedMet enc Tryz.prog Tryz.f3 (OpenSpec.ofChange Rows.fnSquaresSpec) false w args)
      (Rows.fnSquaresSpec.post enc Tryz.prog Tryz.f3 false true false false) := by
  refine ret_laid (C := Tryz.checked) (X := fun w => laidMetH Tryz.prog Rows.fnSquaresRow.laid w) (fun _ _ hh h => h.of_heap hh) own started (by kernel_rfl) Tryz.func3
    (ChangeSpec.witness_shaped (enc := enc) (C := Tryz.checked) (os := os) (X := fun w _ => laidMetH Tryz.prog Rows.fnSquaresRow.laid w) false (World.laidAll Tryz.prog os Rows.fnSquaresRow.laid) #[.slice none 0 0, .slice none 0 0] 8 (World.laidAll_os _ _ _)
      (World.shaped_of_ZipB (by kernel_rfl) (by kernel_rfl)) (by kernel_rfl) (by kernel_rfl) (by kernel_rfl)
      (by rw [MakeChecks.laidMetH_plain _ _ _ (by kernel_rfl)]; exact laidMet_laidAll _ (by kernel_rfl) (by kernel_rfl))) ?_
  intro W base args ds gs before hval0 hW hL hsh
  have hval : ∀ (j : Nat) t v, Tryz.f3.params[j]? = some t → args[j]? = some v → Value.okWide Tryz.prog W .any base t v := hval0
  have hT : Tabs W := tabs hL hsh
  have hW' := hW
  obtain ⟨p, q, hA0, hV, rfl, hfz, hnd⟩ := hW
  have hA : DataW.TrodAll enc Tryz.prog W 0 (fun _ => true) true Tryz.f3.params.toList args.toList ds p := hA0
  rw [Tryz.params3] at hA hval
  obtain ⟨v0, vs0, d0, ds0, p0, q0, hargs, rfl, rfl, h0, r0⟩ := trodAll_cons hA
  obtain ⟨v1, vs1, d1, ds1, p1, q1, rfl, rfl, rfl, h1, r1⟩ := trodAll_cons r0
  obtain ⟨rfl, rfl, rfl⟩ := trodAll_nil r1
  obtain rfl : args = #[v0, v1] := by cases args; simp_all
  obtain ⟨rfl, rfl⟩ := trodVars_none hV
  obtain ⟨a0, len0, cap0, rfl⟩ := okWide_slice Tryz.underlying22 (hval 0 22 v0 rfl rfl)
  have k0 := h0
  have lt0 : ∀ x ∈ p0, x.block < W.heap.size := by obtain ⟨m, hm⟩ := k0; exact DataW.trod_lt m _ _ _ hm
  obtain ⟨bs0, rd0⟩ : ∃ bs, RdB W (.slice a0 len0 cap0) bs := by
    obtain ⟨fuel, hf⟩ := h0
    rcases open_ints Tryz.underlying22 Tryz.underlying5 (by kernel_rfl) hf with ⟨hcs, _⟩ | ⟨x, l, c, zs, hcs, _, hl, hm, hz, _, hcell, hwz⟩
    · simp [Value.cells] at hcs
      obtain ⟨rfl, rfl, rfl⟩ := hcs
      exact IsRow.rdB (zs := []) (.inl ⟨rfl, rfl, rfl, rfl⟩)
    · simp [Value.cells] at hcs
      obtain ⟨rfl, rfl, rfl⟩ := hcs
      exact IsRow.rdB (zs := zs) (.inr ⟨_, rfl, hl, hm, by simpa using hz, hcell, hwz⟩)
  obtain ⟨a1, len1, cap1, rfl⟩ := okWide_slice Tryz.underlying22 (hval 1 22 v1 rfl rfl)
  have k1 := h1
  have lt1 : ∀ x ∈ p1, x.block < W.heap.size := by obtain ⟨m, hm⟩ := k1; exact DataW.trod_lt m _ _ _ hm
  obtain ⟨bs1, rd1⟩ : ∃ bs, RdB W (.slice a1 len1 cap1) bs := by
    obtain ⟨fuel, hf⟩ := h1
    rcases open_ints Tryz.underlying22 Tryz.underlying5 (by kernel_rfl) hf with ⟨hcs, _⟩ | ⟨x, l, c, zs, hcs, _, hl, hm, hz, _, hcell, hwz⟩
    · simp [Value.cells] at hcs
      obtain ⟨rfl, rfl, rfl⟩ := hcs
      exact IsRow.rdB (zs := []) (.inl ⟨rfl, rfl, rfl, rfl⟩)
    · simp [Value.cells] at hcs
      obtain ⟨rfl, rfl, rfl⟩ := hcs
      exact IsRow.rdB (zs := zs) (.inr ⟨_, rfl, hl, hm, by simpa using hz, hcell, hwz⟩)
  clear hA0 hval0
  refine (FnSquares_c W _ _ bs0 bs1 rd0 rd1 hT).mono fun e W' ⟨he, hst⟩ => ?_
  have bel := hst.below
  subst he
  exact ⟨_, rfl, _, _, _, [], _, [], hW', trodAll_mk1 (shut_bool Tryz.underlying4 _), (trodAll_cons_mk (Below.trod laidOut (by kernel_rfl) (of_decide_eq_true (by kernel_rfl)) k0 bel lt0) (trodAll_cons_mk (Below.trod laidOut (by kernel_rfl) (of_decide_eq_true (by kernel_rfl)) k1 bel lt1) trodAll_mk0)), rfl, bel.frame _, fun h => by cases h⟩

theorem over : Rows.FnSquaresSaid :=
  OpenClaim.holds_of_wide 3 Tryz.f3 rfl rfl rfl rfl rfl rfl rfl ⟨rfl, rfl, rfl, rfl, rfl⟩ rfl rfl rfl rfl rfl (by kernel_rfl) Tryz.func3 (by kernel_rfl)
    (of_decide_eq_true (by kernel_rfl)) (by unfold Func.isWrapper; first | (rw [if_pos (by decide +kernel)]; kernel_rfl) | (rw [if_neg (by decide +kernel)]; exact ⟨rfl, rfl⟩))
    (fun os started H enc _ => lifted os started H enc)

theorem proved : Rows.FnSquaresCardSaid :=
  Claim7.holds_tied_plain_at .later [] [.data, .data, .data, .data, .pinned] true (true, "50a32d7a40809d7330f4509b6abf94b7d683bfc55c6976ce2896a1149bc65faa") false over (fun _ h => by cases h) (by kernel_rfl) (fun _ h => by cases h) fnSquares_row_tie rfl ⟨rfl, rfl⟩ (by kernel_rfl) rfl
    (fun f fn hf hfn => by
      obtain rfl : f = 3 := Option.some.inj ((show Tryz.prog.funcNamed "loop.example/g00920/laws.FnSquares" = some 3 by kernel_rfl).symm.trans hf) |>.symm
      obtain rfl : fn = Tryz.f3 := (Option.some.inj (Tryz.func3.symm.trans hfn)).symm
      exact ⟨by kernel_rfl, fun j t ht => by
        rw [Tryz.params3] at ht
        have hm : t ∈ [22] := by simpa using Array.mem_of_getElem? ht
        have hall : ([22].all fun u => !Tryz.prog.wantsStandIn u) = true := by kernel_rfl
        exact (show Tryz.prog.wantsStandIn t = false by simpa using List.all_eq_true.1 hall t hm)⟩)
    (by kernel_rfl)
#print axioms proved
end Go.Proofs.YtdlmohigkkdegaaGreatDoor.fnSquares
end
