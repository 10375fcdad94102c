/- Walks: row reduction by tables. -/
import Derived.Test.YtcenabaklokhhaaRed0
import Derived.Deep.CutRange
namespace Go.Proofs.Ytcenabaklokhhaa
set_option linter.unusedSimpArgs false
set_option linter.unusedVariables false
open Go.RowKit
attribute [local go_sem ↓] Go.wp_at_zero Go.wp_at_succ

/-- it hands over rows, pivots and a determinant -/
def MakesRed (w : World) (x : List (List Int) × List Int × Int) (e : Ending) (w' : World) : Prop :=
  ∃ v us vp, e = .returned (.tuple #[v, vp, .int .i64 x.2.2]) ∧ us.length = x.2.1.length ∧ x.2.1.length ≤ x.1.length ∧ St w.heap.size w w' (row 2 vp (iv x.2.1) :: own2 v us (x.1.take x.2.1.length))
theorem fnz_idx {R : List (List Int)} {t c : Nat} : fnz R t c = (match (R.drop t).findIdx? (fun r => cf r c != 0) with | some j => some (t + j) | none => none) := by
  unfold fnz; cases (R.drop t).findIdx? (fun r => cf r c != 0) <;> rfl
theorem idx_some {R : List (List Int)} {t c i : Nat} (h : fnz R t c = some i) : idxR (fun r => cf r c != 0) (R.drop t) 0 = ((i - t : Nat) : Int) := by
  rw [fnz_idx] at h
  unfold idxR
  rw [List.drop_zero]
  cases hx : (R.drop t).findIdx? (fun r => cf r c != 0) with
  | none => rw [hx] at h; cases h
  | some j => rw [hx] at h; simp only [Option.some.injEq] at h; subst h; simp
theorem idx_none {R : List (List Int)} {t c : Nat} (h : fnz R t c = none) : idxR (fun r => cf r c != 0) (R.drop t) 0 = -1 := by
  rw [fnz_idx] at h
  unfold idxR
  rw [List.drop_zero]
  cases hx : (R.drop t).findIdx? (fun r => cf r c != 0) with
  | none => rfl
  | some j => rw [hx] at h; cases h
theorem red_stop {p : Int} {D : Nat} {fs : List Int} {R : List (List Int)} {piv : List Int} {det : Int} (h : R.length ≤ piv.length) : ∀ (n c : Nat), red p D fs n c R piv det = (R, piv, det)
  | 0, _ => rfl
  | n + 1, c => by rw [red, if_pos h]
theorem red_none {p : Int} {D : Nat} {fs : List Int} {R : List (List Int)} {piv : List Int} {det : Int} {n c : Nat} (hc : c < n) (h : piv.length < R.length) (hz : fnz R piv.length c = none) : red p D fs (n - c) c R piv det = red p D fs (n - (c + 1)) (c + 1) R piv 0 := by
  obtain ⟨m, hm⟩ : ∃ m, n - c = m + 1 := ⟨n - c - 1, by omega⟩
  rw [hm, red, if_neg (by omega), hz, show n - (c + 1) = m by omega]
theorem red_some {p : Int} {D : Nat} {fs : List Int} {R : List (List Int)} {piv : List Int} {det : Int} {n c i : Nat} (hc : c < n) (h : piv.length < R.length) (hz : fnz R piv.length c = some i) : red p D fs (n - c) c R piv det = red p D fs (n - (c + 1)) (c + 1) (stepR p D fs R piv.length c i) (piv ++ [(c : Int)]) (fmul p D fs (if i = piv.length then det else fsum p D 0 det (-1)) (cf (ra R i) c)) := by
  obtain ⟨m, hm⟩ : ∃ m, n - c = m + 1 := ⟨n - c - 1, by omega⟩
  rw [hm, red, if_neg (by omega), hz, show n - (c + 1) = m by omega]

theorem red_done {B : Nat} {w0 w : World} {a b c : Ent} {vv : Value} {ul : List Value} {R : List (List Int)} {k : Nat} (hS : St B w0 w (a :: b :: c :: row 23 vv ul :: rowsI ul R)) (hl : ul.length = R.length) (hk : k ≤ R.length) :
    St B w0 w (c :: own2 (rsl vv 0 k) (ul.take k) (R.take k)) := by
  have h := hS.cut 3 rfl k (by omega)
  simp only [List.set_cons_succ, List.set_cons_zero] at h
  refine h.sub ((((List.Sublist.cons_cons _ (List.Sublist.cons_cons _ ?_)).cons _).cons _))
  have e : rowsI (ul.take k) (R.take k) = (rowsI ul R).take k := by unfold rowsI; rw [List.take_zipWith]
  rw [e]; exact List.take_sublist _ _

theorem swap_same {R : List (List Int)} {t : Nat} (ht : t < R.length) : (R.set t (ra R (t + 0))).set t (ra R t) = R := by
  refine ra_ext (by simp) fun j hj => ?_
  simp only [List.length_set] at hj
  rw [ra_set (by simpa using ht), ra_set ht]
  by_cases e : t = j
  · subst e; rw [if_pos rfl]
  · rw [if_neg e, if_neg e]

theorem swap_top {R : List (List Int)} {t d : Nat} (h : t + d < R.length) : ra ((R.set t (ra R (t + d))).set (t + d) (ra R t)) t = ra R (t + d) := by
  rw [ra_set (by simpa using h), ra_set (by omega)]
  by_cases e : t + d = t
  · rw [if_pos e, e]
  · rw [if_neg e, if_pos rfl]

set_option maxHeartbeats 16000000 in
set_option maxRecDepth 100000 in
theorem reduce_c (p : Int) (D : Nat) (fs : List Int) (va : Value) (ua : List Value) (vs : Value) (us : List Value) (vm : Value) (um : List Value) (vi : Value) (vM : Value) (uM : List Value) (m : List (List Int)) (n : Nat) (w : World)
    (ht : TB w p D fs va ua vs us vm um vi) (hM : RII w vM uM m) (hf : FV p D fs) (hn : n ≤ 4096) (hml : m.length ≤ 4096) (hrect : Rect p D n m) :
    Calls Try.prog 103 #[tv p D va vs vm vi, vM] w (MakesRed w (red p D fs n 0 m [] 1)) := by
  have hS0 := (St.refl w).newboxF 109 #[.int .i64 (qn p D), va, vs, vm, vi]
  have HF := Lib.hid hf
  have Hp := Lib.hid (show 0 < p by have := hf.p2; omega)
  have HT := Lib.hid ht
  have Hq1 := Lib.hid (show 0 < qn p D by have h := (el_zero hf.fa).2; unfold qn; omega)
  have hcp := fun W (h : RII W vM uM m) => Lib.hid (copyLists_c vM uM m W h (by omega) (fun r hr => by have := (hrect r hr).1; omega))
  have Hre := Lib.hid hrect
  generalize hred : red p D fs n 0 m [] 1 = X
  have Hred := Lib.hid hred
  clear hred hf hrect ht
  unfold tv
  go_enter Try.func103, Try.ntmps103
  go_wp2_with fail
  refine (hcp _ (hS0.oldII hM)).out.mono ?_
  rintro e w1 ⟨vv, ul, rfl, hul, h1⟩
  have Hul := Lib.hid (show ul.length = m.length from hul)
  have hS1 := (hS0.call h1).emp.newboxF 3 #[.int .i64 0]
  unfold emp at hS1
  have hS1 := hS1.perm (L' := box 3 w1.heap.size [.int .i64 0] :: box 109 w.heap.size [.int .i64 (qn p D), va, vs, vm, vi] :: row 2 (.slice none 0 0) (iv []) :: row 23 vv ul :: rowsI ul m) (by (try simp only [own2, List.cons_append, List.nil_append, List.append_nil]); classical exact List.perm_iff_count.2 (fun a => by simp only [List.cons_append, List.nil_append, List.append_nil, List.count_append, List.count_cons, List.count_nil] <;> omega))
  clear hcp h1 hS0 hul
  go_wp2_with fail
  go_loopg [8, 9, 10, 11, 12, 13, 14, 15, 16, 17, 89, 115] n (fun gh vp dt pc _ _ _ _ _ _ _ _ _ wr => ∃ (c : Nat) (gc : Nat) (ul : List Value) (R : List (List Int)) (piv : List Int) (det : Int), c ≤ n ∧ n - c = gh ∧ pc = .pointer (some ⟨gc, 0, none⟩) ∧ dt = .int .i64 det ∧ Hid (ul.length = m.length ∧ R.length = m.length ∧ Rect p D n R ∧ El p D det ∧ piv.length ≤ c) ∧ Hid (piv.length < m.length ∨ (m.length = 0 ∧ piv.length = 0)) ∧ Hid (red p D fs (n - c) c R piv det = X) ∧
    St w.heap.size w wr (box 3 gc [.int .i64 c] :: box 109 w.heap.size [.int .i64 (qn p D), va, vs, vm, vi] :: row 2 vp (iv piv) :: row 23 vv ul :: rowsI ul R))
  case atStart => exact ⟨0, _, ul, m, [], 1, by omega, rfl, rfl, rfl, ⟨Hul.out, rfl, Hre.out, el_one HF.out.fa, Nat.le_refl _⟩, by unfold Hid; rw [List.length_nil]; omega, Hred.out, hS1⟩
  case round =>
    obtain ⟨c, gc, ul, R, piv, det, hc, hgh, rfl, rfl, hH, hpr, hX, hS⟩ := hrel
    have Hgh := Lib.hid hgh
    clear hgh
    have hlR : R.length = m.length := hH.out.2.1
    have Hlu := Lib.hid (show ul.length = R.length by rw [hH.out.1, hlR])
    have hrr : RII wr vv ul R := (hS.sub (((List.Sublist.refl _).cons _).cons _ |>.cons _)).rii Hlu.out
    have hlr := hrr.len
    have b0 := hS.bcell 0 rfl 0 rfl
    by_cases hm0 : m.length = 0
    · obtain rfl : piv = [] := List.eq_nil_of_length_eq_zero (by have := hpr.out; omega)
      have hX' := hX.out
      rw [red_stop (by rw [List.length_nil]; omega)] at hX'
      have HX := Lib.hid hX'
      have hlp := (hS.rdI 2 rfl).len
      rw [hlR, hm0] at hlr
      have hsl : ∀ W, (Instr.slice 26 vv none (some (.int .i64 0)) none).run Try.prog W = .ok (rsl vv 0 0) W := rs2_hi hrr 0 (by omega)
      clear hX' hrr b0
      go_wp2_with fail
      have hne : Nonempty (SS _ _ _) := ⟨⟨_, hS⟩⟩
      refine wp_region_st (by kernel_rfl) (by kernel_rfl) hS ?_
      repeat (go_big_quiet_step (fail))
      refine wpQuiet_nil ?_
      rintro _ ⟨s2, rfl⟩
      have hS2 := s2.st
      generalize s2.w = w2 at hS2 ⊢
      go_wp2_with fail
      go_ret3
      rw [← HX.out]
      exact ⟨_, ul.take 0, _, rfl, rfl, by simp, red_done hS2 Hlu.out (by omega)⟩
    · have hp0 : piv.length < m.length := by have := hpr.out; omega
      have h0 : 0 < R.length := by omega
      have hr0 := hrr.row 0 h0
      have hl0 := hr0.len
      rw [show (xat R 0).length = n from (hH.out.2.2.1.ra h0).1] at hl0
      have hc0 := hrr.cell 0 h0
      have hx0 := hrr.ixe 0 0 rfl h0
      have hmd : decide (0 < m.length) = true := decide_eq_true (by omega)
      have hlp := (hS.rdI 2 rfl).len
      by_cases hcn : c < n
      · go_wp2_with fail
        go_region_held3 (fun w' => w'.cell? ⟨gc, 0, none⟩ = some (.int .i64 c) ∧ w'.cell? (el vv 0) = some (vat ul 0)) (((try dsimp only); (repeat' apply And.intro); all_goals (repeat (first | assumption | exact cell_dr (by assumption) | refine cell_dr ?_ | refine cell_al ?_ | refine cell_sc (by assumption) ?_)))) (fail)
        have hS3 := hS.drew
        clear hS b0 hrr hr0 hl0 hc0 hx0 hlr hlp
        generalize wr.drew = w3 at hS3 ⊢
        have hrr : RII w3 vv ul R := (hS3.sub (((List.Sublist.refl _).cons _).cons _ |>.cons _)).rii Hlu.out
        have hlp := (hS3.rdI 2 rfl).len
        have b0 := hS3.bcell 0 rfl 0 rfl
        have hsl := rs2_lo hrr piv.length (by omega)
        have hix := Lib.hid (IndexFuncR_c 190 #[.pointer (some ⟨gc, 0, none⟩)] (fun r => cf r c != 0) (rsl vv piv.length R.length) ((ul.take R.length).drop piv.length) ((R.take R.length).drop piv.length) w3 (hrr.rs2 (by omega) (by omega)) callF_red (fun j W hW hj => redNz_c _ _ gc c W (hW.oldI ((hrr.rs2 (lo := piv.length) (hi := R.length) (by omega) (by omega)).row j hj)) (hW.oldc b0) (by
          rw [(hH.out.2.2.1 _ (List.mem_of_mem_take (List.mem_of_mem_drop (xat_mem hj)))).1]; exact hcn)))
        rw [List.take_length] at hix
        rw [hlR] at hsl hix
        have HlR := Lib.hid hlR
        clear hrr hlR hmd h0 hm0
        go_wp2_with fail
        cases hz : fnz R piv.length c with
        | none =>
          have Hx' := hX.out
          rw [red_none hcn (by have := HlR.out; omega) hz] at Hx'
          have HX := Lib.hid Hx'
          rw [idx_none hz] at hix
          clear Hx' hz
          refine hix.out.mono ?_
          rintro e w4 ⟨rfl, h4⟩
          have hS4 := hS3.call0 h4
          have b1 := hS4.bcell 0 rfl 0 rfl
          go_wp2_with fail
          go_roundg (n - (c + 1))
          case measure => have := Hgh.out; omega
          case rel =>
            refine ⟨c + 1, _, ul, R, piv, 0, by omega, rfl, rfl, rfl, ⟨hH.out.1, hH.out.2.1, hH.out.2.2.1, el_zero HF.out.fa, by have := hH.out.2.2.2.2; omega⟩, hpr, HX.out, ?_⟩
            have h := hS4.newboxF 3 #[.int .i64 ((c : Int) + 1)]
            exact h.sub (List.Sublist.cons_cons _ (List.Sublist.cons _ (List.Sublist.refl _)))
        | some i =>
          obtain ⟨hi1, hi2, hi3, _⟩ := fnz_some hz
          obtain ⟨d, rfl⟩ := Nat.exists_eq_add_of_le hi1
          have Hx' := hX.out
          rw [red_some hcn (by have := HlR.out; omega) hz] at Hx'
          have HX := Lib.hid Hx'
          rw [idx_some hz, Nat.add_sub_cancel_left] at hix
          have Hi := Lib.hid hi2
          have Hi3 := Lib.hid hi3
          rw [HlR.out] at hi2
          clear Hx' hz hi1 hi3
          obtain ⟨dn, hde, hdq⟩ := (hH.out.2.2.2.1).nat
          subst hde
          refine hix.out.mono ?_
          rintro e w4 ⟨rfl, h4⟩
          have hS4 := hS3.call0 h4
          clear hS3 h4 b0 hsl
          go_upto_if 43 with fail
          go_cut [9] from 20 to 157 (fun s9 wx => ∃ ul1 : List Value, s9 = .int .i64 (if piv.length + d = piv.length then (dn : Int) else fsum p D 0 dn (-1)) ∧ Hid (ul1.length = m.length) ∧ St w.heap.size w wx (box 3 gc [.int .i64 c] :: box 109 w.heap.size [.int .i64 (qn p D), va, vs, vm, vi] :: row 2 u8 (iv piv) :: row 23 vv ul1 :: rowsI ul1 ((R.set piv.length (ra R (piv.length + d))).set (piv.length + d) (ra R piv.length))))
          case first =>
            have hrr : RII w4 vv ul R := (hS4.sub (((List.Sublist.refl _).cons _).cons _ |>.cons _)).rii Hlu.out
            by_cases hd0 : d = 0
            · subst hd0
              have hsame := Lib.hid (swap_same (R := R) (t := piv.length) (by have := Hi.out; omega))
              clear hrr
              go_wp2_with fail
              go_meet
              case rel => exact ⟨ul, by rw [if_pos (by omega)], hH.out.1, by have e := hsame.out; simp only [Nat.add_zero] at e ⊢; rw [e]; exact hS4⟩
            · have htR : piv.length < R.length := by have := Hi.out; omega
              have g1 := hrr.row piv.length htR
              have g2 := hrr.row (piv.length + d) Hi.out
              obtain ⟨q1, k1, e1⟩ := g1.shp'
              obtain ⟨q2, k2, e2⟩ := g2.shp'
              have x0 := hrr.ixe (piv.length : Int) piv.length rfl htR
              have x1 := hrr.ixe ((piv.length : Int) + (d : Int)) (piv.length + d) (by push_cast; rfl) Hi.out
              have c0 := hrr.cell piv.length htR
              have c1 := hrr.cell (piv.length + d) Hi.out
              have hu1 : piv.length < ul.length := by have := Hlu.out; omega
              have hu2 : piv.length + d < ul.length := by have := Hlu.out; have := Hi.out; omega
              have f0 := hS4.unfrozen 3 rfl (j := piv.length) hu1
              rw [e1] at c0
              rw [e2] at c1
              have hS5 := hS4.store 3 rfl (j := piv.length) hu1 (.slice q2 (xat R (piv.length + d)).length k2)
              have f1 := hS5.unfrozen 3 rfl (j := piv.length + d) (by rw [List.length_set]; exact hu2)
              have c2 := (hS5.rd 3 rfl).cell (i := piv.length + d) (by rw [List.length_set]; exact hu2)
              have hS6 := hS5.store 3 rfl (j := piv.length + d) (by rw [List.length_set]; exact hu2) (.slice q1 (xat R piv.length).length k1)
              have hS7 := Lib.hid hS6.drew
              have hT := HT.out
              have E1 := Lib.hid e1
              have E2 := Lib.hid e2
              clear hS5 hS6 hrr g1 g2 e1 e2
              go_upto_region 12 with fail
              go_region
              all_goals
                have hS8 := hS7.out
                clear hS4
                generalize ((w4.setCell (el vv piv.length) (Value.slice q2 (xat R (piv.length + d)).length k2)).setCell (el vv (piv.length + d)) (Value.slice q1 (xat R piv.length).length k1)).drew = w5 at hS8 ⊢
                simp only [List.set_cons_succ, List.set_cons_zero] at hS8
                rw [← E1.out, ← E2.out] at hS8
                have hT5 := (hS8.oldT HT.out).s
                obtain ⟨t1, t2, t3, t4⟩ := hT5.at2 (i := 0) (j := dn) Hq1.out hdq
                have t1' : ∀ W, (Instr.indexAt 26 vs (.int .i64 0)).run Try.prog W = .ok (.pointer (some (el vs 0))) W := t1
                have b2 := hS8.bcell 1 rfl 2 rfl
                clear hT5 t1
                go_wp2_with fail
                go_meet
                case rel =>
                  refine ⟨(ul.set piv.length (vat ul (piv.length + d))).set (piv.length + d) (vat ul piv.length), by rw [if_neg (by omega)]; rfl, by unfold Hid; simp only [List.length_set]; exact hH.out.1, ?_⟩
                  refine hS8.perm ?_
                  exact (((rowsI_swap Hlu.out htR Hi.out).cons _).cons _).cons _ |>.cons _
          case rest =>
            obtain ⟨ul1, rfl, hul1, hS5⟩ := hcut
            have htR : piv.length < R.length := by have := Hi.out; omega
            have hdl : El p D (if piv.length + d = piv.length then (dn : Int) else fsum p D 0 dn (-1)) := by
              split
              · exact hH.out.2.2.2.1
              · exact fsum_el Hp.out _ _ _
            obtain ⟨en, hen, heq⟩ := hdl.nat
            have Hre1 := Lib.hid (show Rect p D n ((R.set piv.length (ra R (piv.length + d))).set (piv.length + d) (ra R piv.length)) from (hH.out.2.2.1.set (hH.out.2.2.1.ra Hi.out)).set (hH.out.2.2.1.ra htR))
            have hrt := swap_top (R := R) (t := piv.length) (d := d) Hi.out
            have Hstep := Lib.hid (show stepR p D fs R piv.length c (piv.length + d) = elimP p D fs (((R.set piv.length (ra R (piv.length + d))).set (piv.length + d) (ra R piv.length)).set piv.length (scaleI p D fs (ra R (piv.length + d)) c)) (scaleI p D fs (ra R (piv.length + d)) c) piv.length c R.length from rfl)
            have hl1 : ((R.set piv.length (ra R (piv.length + d))).set (piv.length + d) (ra R piv.length)).length = m.length := by simp only [List.length_set]; exact HlR.out
            generalize (R.set piv.length (ra R (piv.length + d))).set (piv.length + d) (ra R piv.length) = R1 at hS5 Hre1 hrt hl1 Hstep
            rw [← hrt] at Hstep
            have Hx' := HX.out
            rw [hen, ← hrt, Hstep.out, HlR.out] at Hx'
            have hlz : cf (ra R1 piv.length) c ≠ 0 := by rw [hrt]; exact Hi3.out
            have Hlz := Lib.hid hlz
            have HX := Lib.hid Hx'
            rw [hen]
            have Hlu1 := Lib.hid (show ul1.length = R1.length by rw [hul1.out, hl1])
            have Ht1 := Lib.hid (show piv.length < R1.length by rw [hl1]; exact hp0)
            have Hr1 := Lib.hid (Hre1.out.ra Ht1.out)
            have hle := inEl Hp.out Hr1.out.2 c
            have hme := fmul_el HF.out.fa en (cf (ra R1 piv.length) c)
            obtain ⟨ln, hln, hlq⟩ := hle.nat
            rw [hln] at hme
            obtain ⟨mn, hmn, hmq⟩ := hme.nat
            have hie := finv_el HF.out (cf (ra R1 piv.length) c)
            obtain ⟨inn, hinn, hinq⟩ := hie.nat
            have Hln := Lib.hid hln
            have Hmn := Lib.hid hmn
            have Hinn := Lib.hid hinn
            clear Hx' hlz hle hme hie hinn hrt hdl hen htR hS4
            have hrr : RII wc vv ul1 R1 := (hS5.sub (((List.Sublist.refl _).cons _).cons _ |>.cons _)).rii Hlu1.out
            have c0 := hrr.cell piv.length Ht1.out
            have x0 := hrr.ixe (piv.length : Int) piv.length rfl Ht1.out
            have g0 := hrr.row piv.length Ht1.out
            have hcl : c < (xat R1 piv.length).length := by rw [show (xat R1 piv.length).length = n from Hr1.out.1]; exact hcn
            have c1 := g0.cell c hcl
            have x1 := g0.ixe (c : Int) c rfl hcl
            rw [show nth (xat R1 piv.length) c = ln from hln] at c1
            have hlg := g0.len
            rw [show (xat R1 piv.length).length = n from Hr1.out.1] at hlg
            have b0 := hS5.bcell 0 rfl 0 rfl
            clear hrr g0 hln hmn hcl hl1
            go_wp2_with fail
            go_region_held3 (fun w' => w'.cell? (el vv piv.length) = some (vat ul1 piv.length) ∧ w'.cell? ⟨gc, 0, none⟩ = some (.int .i64 c) ∧ w'.cell? (el (vat ul1 piv.length) c) = some (.int .i64 ln)) (((try dsimp only); (repeat' apply And.intro); all_goals (repeat (first | assumption | exact cell_dr (by assumption) | refine cell_dr ?_ | refine cell_al ?_ | refine cell_sc (by assumption) ?_)))) (fail)
            have hS6 := hS5.drew
            have c2 : wc.drew.cell? (el vv piv.length) = some (vat ul1 piv.length) := c0
            clear hS5 c0 c1 x1 b0
            generalize wc.drew = w6 at hS6 c2 ⊢
            have hT6 := hS6.oldT HT.out
            obtain ⟨t1, t2, t3, t4⟩ := hT6.m.at2 heq hlq
            rw [show fMul p D fs en ln = mn from Hmn.out] at t4
            have b3 := hS6.bcell 1 rfl 3 rfl
            clear hT6
            go_wp2_with fail
            have Hfin := Lib.hid (show up (ra R1 piv.length) n (fun k => fmul p D fs inn (cf (ra R1 piv.length) k)) = scaleI p D fs (ra R1 piv.length) c by
              have e := up_end (ra R1 piv.length) (fun k => fmul p D fs inn (cf (ra R1 piv.length) k))
              rw [Hr1.out.1] at e
              rw [e, scaleI, Hr1.out.1, Hinn.out])
            have hS7 := hS6
            rw [show R1 = R1.set piv.length (up (ra R1 piv.length) 0 (fun k => fmul p D fs inn (cf (ra R1 piv.length) k))) by rw [up_0, ra_eq Ht1.out, List.set_getElem_self]] at hS7
            clear t1 t2 t3 t4 b3 c2
            have Hn2 := Lib.hid hS6
            clear hS6
            go_loopw [14, 15, 89] (fun _ _ ii wr => ∃ k : Nat, k ≤ n ∧ ii = .int .i64 k ∧ St w.heap.size w wr (box 3 gc [.int .i64 c] :: box 109 w.heap.size [.int .i64 (qn p D), va, vs, vm, vi] :: row 2 u8 (iv piv) :: row 23 vv ul1 :: rowsI ul1 (R1.set piv.length (up (ra R1 piv.length) k (fun k => fmul p D fs inn (cf (ra R1 piv.length) k)))))) (fun _ _ ii _ => n - (intOf ii).toNat)
            case atStart => exact ⟨0, by omega, rfl, hS7⟩
            case round =>
              obtain ⟨k, hk, rfl, hS⟩ := hrel
              have Hl2 := Lib.hid (show ul1.length = (R1.set piv.length (up (ra R1 piv.length) k (fun k => fmul p D fs inn (cf (ra R1 piv.length) k)))).length by rw [List.length_set]; exact Hlu1.out)
              have Ht2 := Lib.hid (show piv.length < (R1.set piv.length (up (ra R1 piv.length) k (fun k => fmul p D fs inn (cf (ra R1 piv.length) k)))).length by rw [List.length_set]; exact Ht1.out)
              have hrr : RII wr vv ul1 _ := (hS.sub (((List.Sublist.refl _).cons _).cons _ |>.cons _)).rii Hl2.out
              have Hxx := Lib.hid (show xat (R1.set piv.length (up (ra R1 piv.length) k (fun k => fmul p D fs inn (cf (ra R1 piv.length) k)))) piv.length = up (ra R1 piv.length) k (fun k => fmul p D fs inn (cf (ra R1 piv.length) k)) from (ra_set Ht1.out).trans (if_pos rfl))
              by_cases hkn : k < n
              · have hku : k < (up (ra R1 piv.length) k (fun k => fmul p D fs inn (cf (ra R1 piv.length) k))).length := by rw [up_len, Hr1.out.1]; exact hkn
                have hkr : k < (ra R1 piv.length).length := by rw [Hr1.out.1]; exact hkn
                have c0 := hrr.cell piv.length Ht2.out
                have x0 := hrr.ixe (piv.length : Int) piv.length rfl Ht2.out
                have hat : (box 3 gc [.int .i64 c] :: box 109 w.heap.size [.int .i64 (qn p D), va, vs, vm, vi] :: row 2 u8 (iv piv) :: row 23 vv ul1 :: rowsI ul1 (R1.set piv.length (up (ra R1 piv.length) k (fun k => fmul p D fs inn (cf (ra R1 piv.length) k)))))[piv.length + 4]? = some (row 2 (vat ul1 piv.length) (iv (up (ra R1 piv.length) k (fun k => fmul p D fs inn (cf (ra R1 piv.length) k))))) := by
                  have h := rowsI_get Hl2.out Ht2.out
                  rw [Hxx.out] at h
                  exact h
                have c1 := (hS.rdI _ hat).cell k hku
                have x1 := (hS.rdI _ hat).ixe (k : Int) k rfl hku
                rw [show nth (up (ra R1 piv.length) k (fun k => fmul p D fs inn (cf (ra R1 piv.length) k))) k = cf (ra R1 piv.length) k from by have := cf_up (r := ra R1 piv.length) (k := k) (f := fun k => fmul p D fs inn (cf (ra R1 piv.length) k)) hkr; rw [if_neg (by omega)] at this; exact this] at c1
                obtain ⟨xn, hxn, hxq⟩ := (inEl Hp.out Hr1.out.2 k).nat
                rw [hxn] at c1
                have hT := hS.oldT HT.out
                obtain ⟨t1, t2, t3, t4⟩ := hT.m.at2 hinq hxq
                have Hset := Lib.hid (up_set (r := ra R1 piv.length) (k := k) (f := fun k => fmul p D fs inn (cf (ra R1 piv.length) k)) hkr)
                have Hv := Lib.hid (show fmul p D fs inn (cf (ra R1 piv.length) k) = fMul p D fs inn xn by rw [hxn]; rfl)
                have hln2 : ln < (invT p D fs).length := by rw [invT, tab_len]; exact hlq
                have i1 := hT.i.cell ln hln2
                have i2 := hT.i.ixe (ln : Int) ln rfl hln2
                rw [show nth (invT p D fs) ln = inn from by rw [invT, nth_tab hlq, ← Hinn.out, finv, Hln.out, Int.toNat_natCast]] at i1
                have b3 := hS.bcell 1 rfl 3 rfl
                have b4 := hS.bcell 1 rfl 4 rfl
                have u1 := hS.unfrozen _ hat (j := k) (by rw [iv_len]; exact hku)
                have hs1 := hS.store _ hat (j := k) (by rw [iv_len]; exact hku) (.int .i64 (fMul p D fs inn xn))
                have hs2 := Lib.hid hs1.drew
                clear hs1 hrr hT hxn hS7
                go_wp2_with fail
                go_region
                all_goals
                  go_wp2_with fail
                  go_roundw
                  case rel =>
                    refine ⟨k + 1, by omega, by go_num, ?_⟩
                    have h := hs2.out
                    rw [iv_set] at h
                    simp only [List.set_cons_succ] at h
                    rw [rowsI_set Hl2.out Ht2.out, List.set_set] at h
                    rw [← Hset.out, Hv.out]
                    exact h
                  case measure => simp [intOf]; omega
              · have hkn' : k = n := by omega
                rw [hkn', Hfin.out] at hS
                have HkN := Lib.hid hkn'
                clear hkn' hrr x0 hlg hS7
                generalize hP : scaleI p D fs (ra R1 piv.length) c = P at hS
                have HPP := Lib.hid hP
                rw [hP] at Hstep
                generalize hR2 : R1.set piv.length P = R2 at hS Hstep
                have HR2 := Lib.hid hR2
                have HX' := HX.out
                rw [hP, hR2] at HX'
                have HX2 := Lib.hid HX'
                clear HX' hP hR2
                have hl2 : R2.length = m.length := by rw [← HR2.out, List.length_set]; have := Hlu1.out; have := hul1.out; omega
                have HP := Lib.hid (show P.length = n ∧ In (p ^ D) P by rw [← HPP.out]; exact ⟨by rw [scaleI_len]; exact Hr1.out.1, scaleI_in HF.out.fa _⟩)
                have Hre2 := Lib.hid (show Rect p D n R2 by rw [← HR2.out]; exact Hre1.out.set HP.out)
                have Hrt2 := Lib.hid (show ra R2 piv.length = P by rw [← HR2.out, ra_set Ht1.out, if_pos rfl])
                have hS8 := hS
                rw [← elimP_0 (p := p) (D := D) (fs := fs) (R := R2) (P := P) (t := piv.length) (c := c)] at hS8
                have hl3 := (show RII wr vv ul1 R2 from (hS.sub (((List.Sublist.refl _).cons _).cons _ |>.cons _)).rii (by rw [hl2]; exact hul1.out)).len
                rw [hl2] at hl3
                go_wp2_with fail
                clear hl3 hS
                go_loopw [16, 17, 115] (fun _ _ ii wr => ∃ j : Nat, j ≤ m.length ∧ ii = .int .i64 j ∧ St w.heap.size w wr (box 3 gc [.int .i64 c] :: box 109 w.heap.size [.int .i64 (qn p D), va, vs, vm, vi] :: row 2 u8 (iv piv) :: row 23 vv ul1 :: rowsI ul1 (elimP p D fs R2 P piv.length c j))) (fun _ _ ii _ => m.length - (intOf ii).toNat)
                case atStart => exact ⟨0, by omega, rfl, hS8⟩
                case round =>
                  obtain ⟨j, hj, rfl, hS⟩ := hrel
                  have Hle := Lib.hid (show ul1.length = (elimP p D fs R2 P piv.length c j).length by rw [elimP_len, hl2]; exact hul1.out)
                  have hrr : RII _ vv ul1 _ := (hS.sub (((List.Sublist.refl _).cons _).cons _ |>.cons _)).rii Hle.out
                  by_cases hjm : j < m.length
                  · have hj2 : j < R2.length := by rw [hl2]; exact hjm
                    have Hje := Lib.hid (show j < (elimP p D fs R2 P piv.length c j).length by rw [elimP_len]; exact hj2)
                    have Hte := Lib.hid (show piv.length < (elimP p D fs R2 P piv.length c j).length by rw [elimP_len, hl2]; exact hp0)
                    have Hxj := Lib.hid (show xat (elimP p D fs R2 P piv.length c j) j = ra R2 j from ra_elimP hj2)
                    have Hxt := Lib.hid (show xat (elimP p D fs R2 P piv.length c j) piv.length = P from (ra_elimP_t (by rw [hl2]; exact hp0)).trans Hrt2.out)
                    have cj := hrr.cell j Hje.out
                    have xj := hrr.ixe (j : Int) j rfl Hje.out
                    have gj := hrr.row j Hje.out
                    rw [Hxj.out] at gj
                    have Hrj := Lib.hid (Hre2.out.ra hj2)
                    have hcj : c < (ra R2 j).length := by rw [Hrj.out.1]; exact hcn
                    have ce := gj.cell c hcj
                    have xe := gj.ixe (c : Int) c rfl hcj
                    have b0 := hS.bcell 0 rfl 0 rfl
                    obtain ⟨rn, hrn, hrq⟩ := (inEl Hp.out Hrj.out.2 c).nat
                    rw [show nth (ra R2 j) c = rn from hrn] at ce
                    by_cases hjt : j = piv.length
                    · have f1 := ne_f (show (j : Int) = (piv.length : Int) by omega)
                      have Hnx := Lib.hid (show elimP p D fs R2 P piv.length c (j + 1) = elimP p D fs R2 P piv.length c j by rw [hjt]; exact elimP_skip)
                      clear hrr hjt gj hrn
                      go_wp2_with fail
                      go_roundw
                      case rel => exact ⟨j + 1, by omega, by go_num, by rw [Hnx.out]; exact hS⟩
                      case measure => simp [intOf]; omega
                    · have f1 := ne_t (show (j : Int) ≠ (piv.length : Int) by omega)
                      have Hjt := Lib.hid hjt
                      by_cases hr0 : rn = 0
                      · have Hnx := Lib.hid (show elimP p D fs R2 P piv.length c (j + 1) = elimP p D fs R2 P piv.length c j from elimP_same hj2 (by rw [hrn, hr0]; rfl))
                        subst hr0
                        clear hrr gj hrn hjt
                        go_wp2_with fail
                        go_roundw
                        case rel => exact ⟨j + 1, by omega, by go_num, by rw [Hnx.out]; exact hS⟩
                        case measure => simp [intOf]; omega
                      · have f2 := ne_t (show (rn : Int) ≠ 0 by omega)
                        obtain ⟨fn, hfn, hfq⟩ := (fsum_el (D := D) Hp.out 0 rn (-1)).nat
                        have Hsub := Lib.hid (show subI p D fs (ra R2 j) P c = addT p D fs (ra R2 j) P fn by rw [subI, if_neg (by rw [hrn]; omega), hrn, hfn])
                        have hT := (hS.oldT HT.out).s
                        obtain ⟨s1, s2, s3, s4⟩ := hT.at2 (i := 0) (j := rn) Hq1.out hrq
                        have s1' : ∀ W, (Instr.indexAt 26 vs (.int .i64 0)).run Try.prog W = .ok (.pointer (some (el vs 0))) W := s1
                        rw [show fSub p D 0 rn = fn from hfn] at s4
                        have ct := hrr.cell piv.length Hte.out
                        have xt := hrr.ixe (piv.length : Int) piv.length rfl Hte.out
                        have a0 := hS.bcell 1 rfl 0 rfl
                        have a1 := hS.bcell 1 rfl 1 rfl
                        have a2 := hS.bcell 1 rfl 2 rfl
                        have a3 := hS.bcell 1 rfl 3 rfl
                        have a4 := hS.bcell 1 rfl 4 rfl
                        have hat : (box 3 gc [.int .i64 c] :: box 109 w.heap.size [.int .i64 (qn p D), va, vs, vm, vi] :: row 2 u8 (iv piv) :: row 23 vv ul1 :: rowsI ul1 (elimP p D fs R2 P piv.length c j))[j + 4]? = some (row 2 (vat ul1 j) (iv (ra R2 j))) := by
                          have h := rowsI_get Hle.out Hje.out
                          rw [Hxj.out] at h
                          exact h
                        have Hcall := Lib.hid (addTimes_c p D fs va ua vs us vm um vi (vat ul1 j) (vat ul1 piv.length) (ra R2 j) P fn (j + 4) _ hS.drew hat (fun w' ts' h => by
                          refine ⟨?_, h.oldT HT.out⟩
                          simp only [List.set_cons_succ] at h
                          rw [rowsI_set Hle.out Hje.out] at h
                          have hl4 : ul1.length = ((elimP p D fs R2 P piv.length c j).set j ts').length := by rw [List.length_set]; exact Hle.out
                          have h5 := rowsI_get hl4 (j := piv.length) (by rw [List.length_set]; exact Hte.out)
                          rw [show xat ((elimP p D fs R2 P piv.length c j).set j ts') piv.length = P from (ra_set Hje.out).trans (by rw [if_neg Hjt.out]; exact Hxt.out)] at h5
                          exact h.rdI (piv.length + 4) h5) HF.out.fa (by rw [HP.out.1, Hrj.out.1]) Hrj.out.2 HP.out.2 ⟨by omega, by have := qn_cast (p := p) (D := D) (by have := Hp.out; omega); omega⟩)
                        have Hnx := Lib.hid (elimP_set (p := p) (D := D) (fs := fs) (P := P) (c := c) hj2 hjt)
                        unfold tv at Hcall
                        clear hrr gj hrn hjt hfn hT s1
                        go_wp2_with fail
                        refine regionG (fun w' => w'.cell? ⟨w.heap.size, 0, none⟩ = some (.int .i64 (qn p D)) ∧ w'.cell? ⟨w.heap.size, 1, none⟩ = some va ∧ w'.cell? ⟨w.heap.size, 2, none⟩ = some vs ∧ w'.cell? ⟨w.heap.size, 3, none⟩ = some vm ∧ w'.cell? ⟨w.heap.size, 4, none⟩ = some vi ∧ w'.cell? (el vv piv.length) = some (vat ul1 piv.length) ∧ w'.cell? (el vs 0) = some (vat us 0) ∧ w'.cell? ⟨gc, 0, none⟩ = some (.int .i64 c) ∧ w'.cell? (el (vat ul1 j) c) = some (.int .i64 rn) ∧ w'.cell? (el (vat us 0) rn) = some (.int .i64 fn)) 16 (by kernel_rfl) ⟨cell_dr a0, cell_dr a1, cell_dr a2, cell_dr a3, cell_dr a4, cell_dr ct, cell_dr s2, cell_dr b0, cell_dr ce, cell_dr s4⟩ (fun hHeld => ?_)
                        refine takeH (i := 0) [] (v := ?_) rfl (by kernel_rfl) (fun _ _ _ h => h) (by rfl) ?_ (by assumption) ?_
                        case refine_2 => (intro w' hSw; (try dsimp only at hSw); go_simp; first | done | with_reducible rfl)
                        try simp only [Act.put, List.setIfInBounds_toArray, List.set_cons_zero, List.set_cons_succ]
                        refine takeP (i := 1) (v := ?_) rfl (by kernel_rfl) (fun _ _ _ h => h) (by rfl) ?_ (by assumption) ?_
                        case refine_2 => (intro w'; go_simp; first | done | with_reducible rfl)
                        try simp only [Act.put, List.setIfInBounds_toArray, List.set_cons_zero, List.set_cons_succ]
                        refine takeP (i := 2) (v := ?_) rfl (by kernel_rfl) (fun _ _ _ h => h) (by rfl) ?_ (by assumption) ?_
                        case refine_2 => (intro w'; go_simp; first | done | with_reducible rfl)
                        try simp only [Act.put, List.setIfInBounds_toArray, List.set_cons_zero, List.set_cons_succ]
                        refine takeP (i := 3) (v := ?_) rfl (by kernel_rfl) (fun _ _ _ h => h) (by rfl) ?_ (by assumption) ?_
                        case refine_2 => (intro w'; go_simp; first | done | with_reducible rfl)
                        try simp only [Act.put, List.setIfInBounds_toArray, List.set_cons_zero, List.set_cons_succ]
                        refine takeP (i := 4) (v := ?_) rfl (by kernel_rfl) (fun _ _ _ h => h) (by rfl) ?_ (by assumption) ?_
                        case refine_2 => (intro w'; go_simp; first | done | with_reducible rfl)
                        try simp only [Act.put, List.setIfInBounds_toArray, List.set_cons_zero, List.set_cons_succ]
                        refine takeH (i := 5) [] (v := ?_) rfl (by kernel_rfl) (fun _ _ _ h => h) (by rfl) ?_ (by assumption) ?_
                        case refine_2 => (intro w' hSw; (try dsimp only at hSw); go_simp; first | done | with_reducible rfl)
                        try simp only [Act.put, List.setIfInBounds_toArray, List.set_cons_zero, List.set_cons_succ]
                        refine takeP (i := 6) (v := ?_) rfl (by kernel_rfl) (fun _ _ _ h => h) (by rfl) ?_ (by assumption) ?_
                        case refine_2 => (intro w'; go_simp; first | done | with_reducible rfl)
                        try simp only [Act.put, List.setIfInBounds_toArray, List.set_cons_zero, List.set_cons_succ]
                        refine takeH (i := 7) [8, 9, 14, 15] (v := ?_) rfl (by kernel_rfl) (fun _ _ _ h => h) (by rfl) ?_ (by assumption) ?_
                        case refine_2 => (intro w' hSw; (try dsimp only at hSw); go_simp; first | done | with_reducible rfl)
                        try simp only [Act.put, List.setIfInBounds_toArray, List.set_cons_zero, List.set_cons_succ]
                        refine takeP (i := 8) (v := ?_) rfl (by kernel_rfl) (fun _ _ _ h => h) (by rfl) ?_ (by assumption) ?_
                        case refine_2 => (intro w'; go_simp; first | done | with_reducible rfl)
                        try simp only [Act.put, List.setIfInBounds_toArray, List.set_cons_zero, List.set_cons_succ]
                        refine takeH (i := 9) [14, 15] (v := ?_) rfl (by kernel_rfl) (fun _ _ _ h => h) (by rfl) ?_ (by assumption) ?_
                        case refine_2 => (intro w' hSw; (try dsimp only at hSw); go_simp; first | done | with_reducible rfl)
                        try simp only [Act.put, List.setIfInBounds_toArray, List.set_cons_zero, List.set_cons_succ]
                        refine takeP (i := 10) (v := ?_) rfl (by kernel_rfl) (fun _ _ _ h => h) (by rfl) ?_ (by assumption) ?_
                        case refine_2 => (intro w'; go_simp; first | done | with_reducible rfl)
                        try simp only [Act.put, List.setIfInBounds_toArray, List.set_cons_zero, List.set_cons_succ]
                        refine takeH (i := 11) [12, 13, 14, 15] (v := ?_) rfl (by kernel_rfl) (fun _ _ _ h => h) (by rfl) ?_ (by assumption) ?_
                        case refine_2 => (intro w' hSw; (try dsimp only at hSw); go_simp; first | done | with_reducible rfl)
                        try simp only [Act.put, List.setIfInBounds_toArray, List.set_cons_zero, List.set_cons_succ]
                        refine takeP (i := 12) (v := ?_) rfl (by kernel_rfl) (fun _ _ _ h => h) (by rfl) ?_ (by assumption) ?_
                        case refine_2 => (intro w'; go_simp; first | done | with_reducible rfl)
                        try simp only [Act.put, List.setIfInBounds_toArray, List.set_cons_zero, List.set_cons_succ]
                        refine takeH (i := 13) [14, 15] (v := ?_) rfl (by kernel_rfl) (fun _ _ _ h => h) (by rfl) ?_ (by assumption) ?_
                        case refine_2 => (intro w' hSw; (try dsimp only at hSw); go_simp; first | done | with_reducible rfl)
                        try simp only [Act.put, List.setIfInBounds_toArray, List.set_cons_zero, List.set_cons_succ]
                        refine takeP (i := 14) (v := ?_) rfl (by kernel_rfl) (fun _ _ _ h => h) (by rfl) ?_ (by assumption) ?_
                        case refine_2 => (intro w'; go_simp; first | done | with_reducible rfl)
                        try simp only [Act.put, List.setIfInBounds_toArray, List.set_cons_zero, List.set_cons_succ]
                        refine takeH (i := 15) [] (v := ?_) rfl (by kernel_rfl) (fun _ _ _ h => h) (by rfl) ?_ (by assumption) ?_
                        case refine_2 => (intro w' hSw; (try dsimp only at hSw); go_simp; first | done | with_reducible rfl)
                        try simp only [Act.put, List.setIfInBounds_toArray, List.set_cons_zero, List.set_cons_succ]
                        refine readyG (rs := [16]) (by kernel_rfl) (by simp) ?_
                        refine AllG.last rfl (by kernel_rfl) (fun K hK => ?_) AllG.nil
                        go_simp
                        refine Hcall.out.mono ?_
                        rintro e w7 ⟨⟨v7, rfl⟩, h7⟩
                        refine hK.out _ _ ?_
                        clear hK K
                        try simp only [Act.put, List.setIfInBounds_toArray, List.set_cons_zero, List.set_cons_succ]
                        refine doneG (by kernel_rfl) ?_ _
                        refine NoPanic.normal ?_
                        simp only [List.set_cons_succ] at h7
                        rw [rowsI_set Hle.out Hje.out, ← Hsub.out, Hnx.out] at h7
                        go_wp2_with fail
                        go_roundw
                        case rel => exact ⟨j + 1, by omega, by go_num, h7⟩
                        case measure => simp [intOf]; omega
                  · have hjm' : j = m.length := by omega
                    rw [hjm'] at hS Hle
                    have HX' := HX2.out
                    rw [Hln.out, Hmn.out] at HX'
                    have HX3 := Lib.hid HX'
                    clear HX' hjm' hrr
                    have b0 := hS.bcell 0 rfl 0 rfl
                    have Hrr := Lib.hid (show RII _ vv ul1 _ from (hS.sub (((List.Sublist.refl _).cons _).cons _ |>.cons _)).rii Hle.out)
                    have Hl3 := Lib.hid (show (elimP p D fs R2 P piv.length c m.length).length = m.length by rw [elimP_len]; exact hl2)
                    have hlr := Hrr.out.len
                    rw [Hl3.out] at hlr
                    have Hpl := Lib.hid (show (piv ++ [(c : Int)]).length = piv.length + 1 by simp)
                    by_cases htop : piv.length + 1 = m.length
                    · have f1 := eq_t (show ((piv.length : Int) + 1) = (m.length : Int) by omega)
                      have hsl := rs2_hi Hrr.out m.length (by rw [Hl3.out]; omega)
                      have Htop := Lib.hid htop
                      have HXX := HX3.out
                      rw [red_stop (by rw [Hpl.out, Hl3.out]; omega)] at HXX
                      have HXe := Lib.hid HXX
                      clear HXX
                      go_wp2_with (at_builtin; refine appI hS 2 rfl (by omega) rfl _ _ rfl rfl _ rfl ?_; intro v8 w8 hS9; have hlp8 := (hS9.rdI 2 rfl).len; have b8 := hS9.bcell 0 rfl 0 rfl)
                      go_ret3
                      rw [← HXe.out]
                      refine ⟨_, ul1.take m.length, _, rfl, by rw [Hpl.out, List.length_take]; have := Hlu1.out; have := hul1.out; have := Htop.out; omega, by rw [Hpl.out, Hl3.out]; have := Htop.out; omega, ?_⟩
                      rw [Hpl.out, Htop.out]
                      exact red_done hS9 Hle.out (by rw [Hl3.out]; omega)
                    · have f1 := eq_f (show ((piv.length : Int) + 1) ≠ (m.length : Int) by omega)
                      go_wp2_with (at_builtin; refine appI hS 2 rfl (by omega) rfl _ _ rfl rfl _ rfl ?_; intro v8 w8 hS9; have hlp8 := (hS9.rdI 2 rfl).len; have b8 := hS9.bcell 0 rfl 0 rfl)
                      go_roundg (n - (c + 1))
                      case measure => have := Hgh.out; omega
                      case rel =>
                        refine ⟨c + 1, _, ul1, elimP p D fs R2 P piv.length c m.length, piv ++ [(c : Int)], mn, by omega, rfl, rfl, rfl, ⟨hul1.out, Hl3.out, Hre2.out.elimP Hp.out, ?_, by rw [Hpl.out]; have := hH.out.2.2.2.2; omega⟩, by unfold Hid; rw [Hpl.out]; omega, HX3.out, ?_⟩
                        · have := qn_cast (p := p) (D := D) (by have := Hp.out; omega)
                          exact ⟨by omega, by omega⟩
                        · have h := hS9.newboxF 3 #[.int .i64 ((c : Int) + 1)]
                          exact h.sub (List.Sublist.cons_cons _ (List.Sublist.cons _ (List.Sublist.refl _)))
      · obtain rfl : c = n := by omega
        have hX' := hX.out
        rw [show red p D fs (c - c) c R piv det = (R, piv, det) by rw [Nat.sub_self]; rfl] at hX'
        have HX := Lib.hid hX'
        have hsl := rs2_hi hrr piv.length (by omega)
        clear hX'
        have hpR := Lib.hid (show piv.length ≤ R.length by omega)
        have HpU := Lib.hid (show (ul.take piv.length).length = piv.length by rw [List.length_take]; have := Hlu.out; omega)
        go_wp2_with fail
        go_region_held3 (fun w' => w'.cell? ⟨gc, 0, none⟩ = some (.int .i64 c) ∧ w'.cell? (el vv 0) = some (vat ul 0)) (((try dsimp only); (repeat' apply And.intro); all_goals (repeat (first | assumption | exact cell_dr (by assumption) | refine cell_dr ?_ | refine cell_al ?_ | refine cell_sc (by assumption) ?_)))) (fail)
        go_wp2_with fail
        go_ret3
        rw [← HX.out]
        exact ⟨_, ul.take piv.length, _, rfl, HpU.out, hpR.out, red_done hS.drew Hlu.out hpR.out⟩
end Go.Proofs.Ytcenabaklokhhaa
