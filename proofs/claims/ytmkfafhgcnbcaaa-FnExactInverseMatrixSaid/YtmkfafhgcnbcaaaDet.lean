/- Walks: DeterminantOf of both sides. Walks: DeterminantOf of both sides. -/
import Derived.Test.YtmkfafhgcnbcaaaRR
import Derived.Test.YtmkfafhgcnbcaaaPDet
namespace Go.Proofs.Ytmkfafhgcnbcaaa
set_option linter.unusedSimpArgs false
set_option linter.unusedVariables false
open Go.RowKit
attribute [local go_sem ↓] Go.wp_at_zero Go.wp_at_succ


theorem detS_none {p : Int} {D : Nat} {fs : List Int} {S : List (List Int)} {det : Int} {n c : Nat} (hc : c < n) (h : fnz S c c = none) : detS p D fs (n - c) c S det = 0 := by
  obtain ⟨k, hk⟩ : ∃ k, n - c = k + 1 := ⟨n - c - 1, by omega⟩
  rw [hk, detS, h]
theorem detS_some {p : Int} {D : Nat} {fs : List Int} {S : List (List Int)} {det : Int} {n c i : Nat} (hc : c < n) (h : fnz S c c = some i) : detS p D fs (n - c) c S det = detS p D fs (n - (c + 1)) (c + 1) (elimD p D fs (swp S c i) (ra S i) c (finv p D fs (cf (ra S i) c)) S.length) (fmul p D fs (if i = c then det else fsum p D 0 det (-1)) (cf (ra S i) c)) := by
  obtain ⟨k, hk⟩ : ∃ k, n - c = k + 1 := ⟨n - c - 1, by omega⟩
  rw [hk, detS, h, show n - (c + 1) = k by omega]

set_option maxHeartbeats 16000000 in
set_option maxRecDepth 100000 in
theorem l17Determinant_c (p : Int) (D : Nat) (g : Nat) (v : Value) (fs : List Int) (vM : Value) (uM : List Value) (m : List (List Int)) (w : World)
    (hv : RdI w v fs) (hbx : BoxF w g p D v) (hf : FV p D fs) (hM : RII w vM uM m) (hml : m.length ≤ 4096) (hrect : Rect p D m.length m) :
    Calls Try.prog 78 #[.pointer (some ⟨g, 0, none⟩), vM] w (GivesI w (detS p D fs m.length 0 m 1)) := by
  have HF := Lib.hid hf
  have HB := Lib.hid hbx
  have HV := Lib.hid hv
  have Hp := Lib.hid (show 0 < p by have := hf.p2; omega)
  have p2 := hf.p2
  have p64 := hf.p64
  have hcp := fun W (h : RII W vM uM m) => Lib.hid (l17Own_c vM uM m W h hml (fun r hr => by have := (hrect r hr).1; omega))
  have Hre := Lib.hid hrect
  have hlm := hM.len
  generalize hred : detS p D fs m.length 0 m 1 = X
  have Hred := Lib.hid hred
  generalize hn : m.length = n at hlm hml Hred Hre
  have Hn := Lib.hid hn
  clear hred hf hrect hbx hv hn
  go_enter Try.func78, Try.ntmps78
  go_wp2_with fail
  refine (hcp _ hM).out.mono ?_
  rintro e w1 ⟨vo, ul, rfl, hul, h1⟩
  have Hul := Lib.hid (show ul.length = n from hul.trans Hn.out)
  clear hcp hul
  go_wp2_with fail
  go_loopw [5, 7, 8, 9, 10, 11] (fun dt kk _ _ _ _ wr => ∃ (c : Nat) (us : List Value) (S : List (List Int)) (det : Int), c ≤ n ∧ kk = .int .i64 c ∧ dt = .int .i64 det ∧ Hid (us.length = n ∧ S.length = n ∧ Rect p D n S ∧ El p D det) ∧ Hid (detS p D fs (n - c) c S det = X) ∧
    St w.heap.size w wr (row 22 vo us :: rowsI us S)) (fun _ kk _ _ _ _ _ => n - (intOf kk).toNat)
  case atStart => exact ⟨0, ul, m, 1, by omega, rfl, rfl, ⟨Hul.out, Hn.out, Hre.out, el_one HF.out.fa⟩, Hred.out, h1⟩
  case round =>
    obtain ⟨c, us, S, det, hc, rfl, rfl, hH, hX, hS⟩ := hrel
    have HlS := Lib.hid (show S.length = n from hH.out.2.1)
    have Hlu := Lib.hid (show us.length = S.length by rw [hH.out.1, HlS.out])
    have Hrr := Lib.hid (show RII wr vo us S from hS.rii Hlu.out)
    have hlr := Hrr.out.len
    rw [HlS.out] at hlr
    by_cases hcn : c < n
    · have hix := Hrr.out.ix
      rw [HlS.out] at hix
      go_wp2_with fail
      go_loopw [8] (fun ii wx => ∃ i : Nat, c ≤ i ∧ i ≤ n ∧ ii = .int .i64 i ∧ Hid (∀ j, c ≤ j → j < i → cf (ra S j) c = 0) ∧ wx = wr) (fun ii _ => n - (intOf ii).toNat)
      case atStart => exact ⟨c, by omega, by omega, rfl, fun j h1 h2 => by omega, rfl⟩
      case round =>
        obtain ⟨i, hti, him, rfl, hz, rfl⟩ := hrel
        by_cases hil : i < n
        · have hiR : i < S.length := by rw [HlS.out]; exact hil
          have gi := Hrr.out.row i hiR
          have ci := Hrr.out.cell i hiR
          have xi := Hrr.out.ixe (i : Int) i rfl hiR
          have Hri := Lib.hid (show (ra S i).length = n ∧ In (p ^ D) (ra S i) from hH.out.2.2.1.ra hiR)
          have hcl : c < (xat S i).length := by rw [show (xat S i).length = n from Hri.out.1]; omega
          have ce := gi.cell c hcl
          have xe := gi.ixe (c : Int) c rfl hcl
          rw [show nth (xat S i) c = cf (ra S i) c from rfl] at ce
          by_cases h0 : cf (ra S i) c = 0
          · have hz' := Lib.hid (show ∀ j, c ≤ j → j < i + 1 → cf (ra S j) c = 0 from fun j h1 h2 => by
              by_cases e : j = i
              · rw [e]; exact h0
              · exact hz.out j h1 (by omega))
            rw [h0] at ce
            clear h0 gi
            go_wp2_with fail
            go_roundw
            case rel => exact ⟨i + 1, by omega, by omega, by go_num, hz'.out, by first | rfl | trivial⟩
            case measure => simp [intOf]; omega
          · have hfz := fnz_is hti hiR h0 hz.out
            have hx' := hX.out
            rw [detS_some hcn hfz] at hx'
            have HX := Lib.hid hx'
            have f1 := eq_f h0
            have H0 := Lib.hid h0
            have f2 := eq_f (show (i : Int) ≠ (n : Int) by omega)
            have hcS : c < S.length := by rw [HlS.out]; exact hcn
            have hiu : i < us.length := by have := Hlu.out; omega
            have hcu : c < us.length := by have := Hlu.out; omega
            have gc := (Hrr.out.row c hcS).sl
            have gi2 := gi.sl
            have cc : wr.cell? (el vo c) = some (vat us c) := Hrr.out.cell c hcS
            have xc := Hrr.out.ixe (c : Int) c rfl hcS
            have Hde := Lib.hid (hH.out.2.2.2.lim HF.out)
            clear hx' hfz gi h0
            go_upto_if 43 with fail
            go_cut [5, 9] from 14 to 116 (fun s5 s9 wx => ∃ us1 : List Value, s5 = .int .i64 (if i = c then det else fsum p D 0 det (-1)) ∧ Hid (us1.length = n) ∧ St w.heap.size w wx (row 22 vo us1 :: rowsI us1 (swp S c i)))
            case first =>
              by_cases hic : i = c
              · subst hic
                have hsame := Lib.hid (show swp S i i = S from by have h := swap_same (R := S) (t := i) hiR; simp only [Nat.add_zero] at h; exact h)
                go_wp2_with fail
                go_meet
                case rel => exact ⟨us, by simp, hH.out.1, by rw [hsame.out]; exact hS⟩
              · have Hsum := fun W (h : BoxF W g p D v) => Lib.hid (l03Sum_c p D g v fs 0 det (p - 1) W h HF.out (by omega) (by omega) Hde.out.1 Hde.out.2 (by omega) (by omega))
                have b0 := (hS.oldF HB.out).1
                have hgt : ¬ i = c := hic
                have Hic := Lib.hid hic
                clear hic
                go_wp2_with (first
                  | (refine stoII hS4 0 rfl c (by rw [List.length_set]; exact hcu) rfl (.tmp 58) (.tmp 57) rfl rfl (vat us i) gi2.cells gi2.one rfl ?_; intro w5 hS5; have b1 := (hS5.oldF HB.out).1)
                  | (refine stoII hS 0 rfl i hiu rfl (.tmp 54) (.tmp 53) rfl rfl (vat us c) gc.cells gc.one rfl ?_; intro w4 hS4))
                refine (Hsum _ (hS5.oldF HB.out)).out.mono ?_
                rintro e w6 ⟨rfl, h6⟩
                have hS6 := hS5.call0 h6
                go_wp2_with fail
                go_meet
                case rel =>
                  refine ⟨(us.set i (vat us c)).set c (vat us i), by rw [if_neg Hic.out, fsum_neg'], by unfold Hid; simp only [List.length_set]; exact hH.out.1, ?_⟩
                  have e : (us.set i (vat us c)).set c (vat us i) = (us.set c (vat us i)).set i (vat us c) := List.set_comm _ _ Hic.out
                  rw [e]
                  have h := hS6.perm ((rowsI_swap Hlu.out hcS hiR).cons _)
                  try simp only [List.set_cons_zero] at h
                  rw [e] at h
                  exact h
            case rest =>
              obtain ⟨us1, rfl, hus1, hS5⟩ := hcut
              have hS1l : (swp S c i).length = n := by rw [swp_len]; exact HlS.out
              have Hre1 := Lib.hid (show Rect p D n (swp S c i) from hH.out.2.2.1.swp hcS hiR)
              have Hsc := Lib.hid (swp_c hiR hcS)
              have hdl : El p D (if i = c then det else fsum p D 0 det (-1)) := by
                split
                · exact hH.out.2.2.2
                · exact fsum_el Hp.out _ _ _
              rw [← Hsc.out] at HX H0
              have HX1 := HX.out
              rw [HlS.out] at HX1
              have HX2 := Lib.hid HX1
              generalize swp S c i = S1 at hS5 hS1l Hre1 Hsc HX2 H0 ⊢
              generalize (if i = c then det else fsum p D 0 det (-1)) = d1 at hdl HX2 ⊢
              have Hlu1 := Lib.hid (show us1.length = S1.length by rw [hus1.out, hS1l])
              have hcS1 : c < S1.length := by rw [hS1l]; exact hcn
              have Hr1 := Lib.hid (Hre1.out.ra hcS1)
              have Hle := Lib.hid (inEl Hp.out Hr1.out.2 c)
              have Hfe := Lib.hid (finv_el HF.out (cf (ra S1 c) c))
              have Hdl := Lib.hid (hdl.lim HF.out)
              have Hll := Lib.hid (Hle.out.lim HF.out)
              have Hfl := Lib.hid (Hfe.out.lim HF.out)
              have Hde2 := Lib.hid (fmul_el HF.out.fa d1 (cf (ra S1 c) c))
              have hrr : RII wc vo us1 S1 := hS5.rii Hlu1.out
              have c0 : wc.cell? (el vo c) = some (vat us1 c) := hrr.cell c hcS1
              have x0 := hrr.ixe (c : Int) c rfl hcS1
              have g0 := hrr.row c hcS1
              have hcl1 : c < (xat S1 c).length := by rw [show (xat S1 c).length = n from Hr1.out.1]; exact hcn
              have c1 := g0.cell c hcl1
              have x1 := g0.ixe (c : Int) c rfl hcl1
              rw [show nth (xat S1 c) c = cf (ra S1 c) c from rfl] at c1
              have HMul := fun W (hv : RdI W v fs) (h : BoxF W g p D v) => Lib.hid (l03Mul_c p D g v fs d1 (cf (ra S1 c) c) W hv h HF.out Hdl.out.1 Hdl.out.2 Hll.out.1 Hll.out.2)
              have HInv := fun W (hv : RdI W v fs) (h : BoxF W g p D v) => Lib.hid (l03Inverse_c p D g v fs (cf (ra S1 c) c) W hv h HF.out Hle.out H0.out)
              clear hdl hrr g0 HX1 HX cc gc gi2 ci
              go_wp2_with fail
              refine (HMul _ (hS5.oldI HV.out) (hS5.oldF HB.out)).out.mono ?_
              rintro e w6 ⟨rfl, h6⟩
              have hS6 := hS5.call0 h6
              have c2 : w6.cell? (el vo c) = some (vat us1 c) := (hS6.rii Hlu1.out).cell c hcS1
              have c3 := ((hS6.rii Hlu1.out).row c hcS1).cell c hcl1
              rw [show nth (xat S1 c) c = cf (ra S1 c) c from rfl] at c3
              clear c0 c1 hS5 h6
              go_wp2_with fail
              refine (HInv _ (hS6.oldI HV.out) (hS6.oldF HB.out)).out.mono ?_
              rintro e w7 ⟨rfl, h7⟩
              have hS7 := hS6.call0 h7
              clear c2 c3 hS6 h7 HMul HInv
              rw [← elimD_start (p := p) (D := D) (fs := fs) (S := S1) (P := ra S1 c) (c := c) (e := finv p D fs (cf (ra S1 c) c))] at hS7
              have hln : cf (ra S1 c) c = cf (ra S1 c) c := rfl
              generalize he0 : finv p D fs (cf (ra S1 c) c) = e0 at hS7 HX2 Hfe Hfl ⊢
              clear he0
              go_wp2_with fail
              go_loopw [11] (fun jj wx => ∃ (j : Nat) (us : List Value), c + 1 ≤ j ∧ j ≤ n ∧ jj = .int .i64 j ∧ Hid (us.length = n) ∧ St w.heap.size w wx (row 22 vo us :: rowsI us (elimD p D fs S1 (ra S1 c) c e0 j))) (fun jj _ => n - (intOf jj).toNat)
              case atStart => exact ⟨c + 1, us1, by omega, by omega, by go_num, hus1.out, hS7⟩
              case round =>
                obtain ⟨j, us, hcj, hj, rfl, hus, hS⟩ := hrel
                have Hle2 := Lib.hid (show us.length = (elimD p D fs S1 (ra S1 c) c e0 j).length by rw [elimD_len, hS1l]; exact hus.out)
                have Hrr := Lib.hid (show RII _ vo us _ from hS.rii Hle2.out)
                have hlr := Hrr.out.len
                rw [elimD_len, hS1l] at hlr
                by_cases hjn : j < n
                · have hj2 : j < S1.length := by rw [hS1l]; exact hjn
                  have Hje := Lib.hid (show j < (elimD p D fs S1 (ra S1 c) c e0 j).length by rw [elimD_len]; exact hj2)
                  have Hce := Lib.hid (show c < (elimD p D fs S1 (ra S1 c) c e0 j).length by rw [elimD_len]; exact hcS1)
                  have Hxj := Lib.hid (show xat (elimD p D fs S1 (ra S1 c) c e0 j) j = ra S1 j from ra_elimD hj2)
                  have Hxc := Lib.hid (show xat (elimD p D fs S1 (ra S1 c) c e0 j) c = ra S1 c from ra_elimD_c hcS1)
                  have hju : j < us.length := by rw [hus.out]; exact hjn
                  have Hrj := Lib.hid (Hre1.out.ra hj2)
                  have cj : wr.cell? (el vo j) = some (vat us j) := Hrr.out.cell j Hje.out
                  have xj := Hrr.out.ixe (j : Int) j rfl Hje.out
                  have cc := Hrr.out.cell c Hce.out
                  have gj := Hrr.out.row j Hje.out
                  rw [Hxj.out] at gj
                  have gc := Hrr.out.row c Hce.out
                  rw [Hxc.out] at gc
                  have hcjl : c < (ra S1 j).length := by rw [Hrj.out.1]; exact hcn
                  have ce := gj.cell c hcjl
                  have xe := gj.ixe (c : Int) c rfl hcjl
                  rw [show nth (ra S1 j) c = cf (ra S1 j) c from rfl] at ce
                  have Hel := Lib.hid (inEl Hp.out Hrj.out.2 c)
                  have Hell := Lib.hid (Hel.out.lim HF.out)
                  have Hme := Lib.hid (fmul_el HF.out.fa (cf (ra S1 j) c) e0)
                  have Hgj := Lib.hid gj
                  have Hgc := Lib.hid gc
                  have Hnx := Lib.hid (elimD_set (p := p) (D := D) (fs := fs) (P := ra S1 c) (c := c) (e := e0) hj2 hcj)
                  have hatj : (row 22 vo us :: rowsI us (elimD p D fs S1 (ra S1 c) c e0 j))[j + 1]? = some (row 2 (vat us j) (iv (ra S1 j))) := by
                    have h := rowsI_get Hle2.out Hje.out
                    rw [Hxj.out] at h
                    exact h
                  have hatc : (row 22 vo us :: rowsI us (elimD p D fs S1 (ra S1 c) c e0 j))[c + 1]? = some (row 2 (vat us c) (iv (ra S1 c))) := by
                    have h := rowsI_get Hle2.out Hce.out
                    rw [Hxc.out] at h
                    exact h
                  have hcu : c < us.length := by omega
                  clear gj gc
                  go_wp2_with fail
                  refine regionG (fun w' => w'.cell? (el vo j) = some (vat us j) ∧ w'.cell? (el vo c) = some (vat us c) ∧ w'.cell? (el (vat us j) c) = some (.int .i64 (cf (ra S1 j) c))) 23 (by kernel_rfl) ⟨cell_dr cj, cell_dr cc, cell_dr ce⟩ (fun hHeld => ?_)
                  refine takeP (i := 0) (v := ?_) rfl (by kernel_rfl) (fun _ _ _ h => h) (by rfl) ?_ (by assumption) ?_
                  case refine_2 => (intro w'; go_simp; first | done | with_reducible rfl)
                  try simp only [Act.put, List.setIfInBounds_toArray, List.set_cons_zero, List.set_cons_succ]
                  refine takeP (i := 1) (v := ?_) rfl (by kernel_rfl) (fun _ _ _ h => h) (by rfl) ?_ (by assumption) ?_
                  case refine_2 => (intro w'; go_simp; first | done | with_reducible rfl)
                  try simp only [Act.put, List.setIfInBounds_toArray, List.set_cons_zero, List.set_cons_succ]
                  refine takeP (i := 2) (v := ?_) rfl (by kernel_rfl) (fun _ _ _ h => h) (by rfl) ?_ (by assumption) ?_
                  case refine_2 => (intro w'; go_simp; first | done | with_reducible rfl)
                  try simp only [Act.put, List.setIfInBounds_toArray, List.set_cons_zero, List.set_cons_succ]
                  refine takeP (i := 3) (v := ?_) rfl (by kernel_rfl) (fun _ _ _ h => h) (by rfl) ?_ (by assumption) ?_
                  case refine_2 => (intro w'; go_simp; first | done | with_reducible rfl)
                  try simp only [Act.put, List.setIfInBounds_toArray, List.set_cons_zero, List.set_cons_succ]
                  refine takeP (i := 4) (v := ?_) rfl (by kernel_rfl) (fun _ _ _ h => h) (by rfl) ?_ (by assumption) ?_
                  case refine_2 => (intro w'; go_simp; first | done | with_reducible rfl)
                  try simp only [Act.put, List.setIfInBounds_toArray, List.set_cons_zero, List.set_cons_succ]
                  refine takeP (i := 5) (v := ?_) rfl (by kernel_rfl) (fun _ _ _ h => h) (by rfl) ?_ (by assumption) ?_
                  case refine_2 => (intro w'; go_simp; first | done | with_reducible rfl)
                  try simp only [Act.put, List.setIfInBounds_toArray, List.set_cons_zero, List.set_cons_succ]
                  refine takeH (i := 6) [21] (v := ?_) rfl (by kernel_rfl) (fun _ _ _ h => h) (by rfl) ?_ (by assumption) ?_
                  case refine_2 => (intro w' hSw; (try dsimp only at hSw); go_simp; first | done | with_reducible rfl)
                  try simp only [Act.put, List.setIfInBounds_toArray, List.set_cons_zero, List.set_cons_succ]
                  refine takeP (i := 7) (v := ?_) rfl (by kernel_rfl) (fun _ _ _ h => h) (by rfl) ?_ (by assumption) ?_
                  case refine_2 => (intro w'; go_simp; first | done | with_reducible rfl)
                  try simp only [Act.put, List.setIfInBounds_toArray, List.set_cons_zero, List.set_cons_succ]
                  refine takeP (i := 8) (v := ?_) rfl (by kernel_rfl) (fun _ _ _ h => h) (by rfl) ?_ (by assumption) ?_
                  case refine_2 => (intro w'; go_simp; first | done | with_reducible rfl)
                  try simp only [Act.put, List.setIfInBounds_toArray, List.set_cons_zero, List.set_cons_succ]
                  refine takeP (i := 9) (v := ?_) rfl (by kernel_rfl) (fun _ _ _ h => h) (by rfl) ?_ (by assumption) ?_
                  case refine_2 => (intro w'; go_simp; first | done | with_reducible rfl)
                  try simp only [Act.put, List.setIfInBounds_toArray, List.set_cons_zero, List.set_cons_succ]
                  refine takeH (i := 10) [21] (v := ?_) rfl (by kernel_rfl) (fun _ _ _ h => h) (by rfl) ?_ (by assumption) ?_
                  case refine_2 => (intro w' hSw; (try dsimp only at hSw); go_simp; first | done | with_reducible rfl)
                  try simp only [Act.put, List.setIfInBounds_toArray, List.set_cons_zero, List.set_cons_succ]
                  refine takeP (i := 11) (v := ?_) rfl (by kernel_rfl) (fun _ _ _ h => h) (by rfl) ?_ (by assumption) ?_
                  case refine_2 => (intro w'; go_simp; first | done | with_reducible rfl)
                  try simp only [Act.put, List.setIfInBounds_toArray, List.set_cons_zero, List.set_cons_succ]
                  refine takeP (i := 12) (v := ?_) rfl (by kernel_rfl) (fun _ _ _ h => h) (by rfl) ?_ (by assumption) ?_
                  case refine_2 => (intro w'; go_simp; first | done | with_reducible rfl)
                  try simp only [Act.put, List.setIfInBounds_toArray, List.set_cons_zero, List.set_cons_succ]
                  refine takeP (i := 13) (v := ?_) rfl (by kernel_rfl) (fun _ _ _ h => h) (by rfl) ?_ (by assumption) ?_
                  case refine_2 => (intro w'; go_simp; first | done | with_reducible rfl)
                  try simp only [Act.put, List.setIfInBounds_toArray, List.set_cons_zero, List.set_cons_succ]
                  refine takeP (i := 14) (v := ?_) rfl (by kernel_rfl) (fun _ _ _ h => h) (by rfl) ?_ (by assumption) ?_
                  case refine_2 => (intro w'; go_simp; first | done | with_reducible rfl)
                  try simp only [Act.put, List.setIfInBounds_toArray, List.set_cons_zero, List.set_cons_succ]
                  refine takeH (i := 15) [17, 18, 20, 21] (v := ?_) rfl (by kernel_rfl) (fun _ _ _ h => h) (by rfl) ?_ (by assumption) ?_
                  case refine_2 => (intro w' hSw; (try dsimp only at hSw); go_simp; first | done | with_reducible rfl)
                  try simp only [Act.put, List.setIfInBounds_toArray, List.set_cons_zero, List.set_cons_succ]
                  refine takeP (i := 16) (v := ?_) rfl (by kernel_rfl) (fun _ _ _ h => h) (by rfl) ?_ (by assumption) ?_
                  case refine_2 => (intro w'; go_simp; first | done | with_reducible rfl)
                  try simp only [Act.put, List.setIfInBounds_toArray, List.set_cons_zero, List.set_cons_succ]
                  refine takeP (i := 17) (v := ?_) rfl (by kernel_rfl) (fun _ _ _ h => h) (by rfl) ?_ (by assumption) ?_
                  case refine_2 => (intro w'; go_simp; first | done | with_reducible rfl)
                  try simp only [Act.put, List.setIfInBounds_toArray, List.set_cons_zero, List.set_cons_succ]
                  refine takeH (i := 18) [20, 21] (v := ?_) rfl (by kernel_rfl) (fun _ _ _ h => h) (by rfl) ?_ (by assumption) ?_
                  case refine_2 => (intro w' hSw; (try dsimp only at hSw); go_simp; first | done | with_reducible rfl)
                  try simp only [Act.put, List.setIfInBounds_toArray, List.set_cons_zero, List.set_cons_succ]
                  refine takeP (i := 19) (v := ?_) rfl (by kernel_rfl) (fun _ _ _ h => h) (by rfl) ?_ (by assumption) ?_
                  case refine_2 => (intro w'; go_simp; first | done | with_reducible rfl)
                  try simp only [Act.put, List.setIfInBounds_toArray, List.set_cons_zero, List.set_cons_succ]
                  refine readyG (rs := [20]) (by kernel_rfl) (by simp) ?_
                  refine AllG.cons rfl (fun K hK => ?_) AllG.nil
                  go_simp
                  (go_at_call 112; refine (l03Mul_c p D g v fs (cf (ra S1 j) c) e0 _ (hS.drew.oldI HV.out) (hS.drew.oldF HB.out) HF.out Hell.out.1 Hell.out.2 Hfl.out.1 Hfl.out.2).mono ?_; rintro e w7 ⟨rfl, h7⟩)
                  have hS8 := hS.drew.call0 h7
                  have k0 : w7.cell? (el vo j) = some (vat us j) := (hS8.rd 0 rfl).cell hju
                  have k1 : w7.cell? (el vo c) = some (vat us c) := (hS8.rd 0 rfl).cell hcu
                  have k2 := (hS8.rdI (j + 1) hatj).cell c hcjl
                  refine hK.out _ _ ⟨k0, k1, k2⟩ (fun hHeld => ?_)
                  clear hK K
                  try simp only [Act.put, List.setIfInBounds_toArray, List.set_cons_zero, List.set_cons_succ]
                  refine readyG (rs := [21]) (by kernel_rfl) (by simp) ?_
                  refine AllG.cons rfl (fun K hK => ?_) AllG.nil
                  go_simp
                  (go_at_call 118; refine (l17Less_c p D g v fs (vat us j) (vat us c) (ra S1 j) (ra S1 c) _ _ (hS8.oldI HV.out) (hS8.oldF HB.out) HF.out (hS8.rdI (j + 1) hatj) (hS8.rdI (c + 1) hatc) (by rw [Hrj.out.1]; omega) (by rw [Hrj.out.1, Hr1.out.1]; omega) Hrj.out.2 Hr1.out.2 Hme.out).mono ?_; rw [show (tab (ra S1 j).length fun k => fsum p D (cf (ra S1 j) k) (fmul p D fs (cf (ra S1 c) k) (fmul p D fs (cf (ra S1 j) c) e0)) (p - 1)) = lessD p D fs (ra S1 j) (ra S1 c) c e0 from rfl]; rintro e w9 ⟨vn, rfl, h9⟩)
                  have hS9 := hS8.call h9
                  obtain ⟨na, nc, hne⟩ := (h9.rdI 0 rfl).shp'
                  subst hne
                  have hS9' : St w.heap.size w w9 (row 22 vo us :: rowsI us (elimD p D fs S1 (ra S1 c) c e0 j)) := hS9.sub (List.sublist_append_left _ _)
                  have n0 : w9.cell? (el vo j) = some (vat us j) := (hS9'.rd 0 rfl).cell hju
                  have n1 : w9.cell? (el vo c) = some (vat us c) := (hS9'.rd 0 rfl).cell hcu
                  have n2 := (hS9'.rdI (j + 1) hatj).cell c hcjl
                  have u0 := hS9'.unfrozen 0 rfl hju
                  refine hK.out _ _ ⟨n0, n1, n2⟩ (fun hHeld => ?_)
                  clear hK K k0 k1 k2
                  try simp only [Act.put, List.setIfInBounds_toArray, List.set_cons_zero, List.set_cons_succ]
                  refine takeP (i := 22) (v := ?_) rfl (by kernel_rfl) (fun _ _ _ h => h) (by rfl) ?_ (by assumption) ?_
                  case refine_2 => (intro w'; go_simp; first | done | with_reducible rfl)
                  try simp only [Act.put, List.setIfInBounds_toArray, List.set_cons_zero, List.set_cons_succ]
                  refine readyG (rs := [23]) (by kernel_rfl) (by simp) ?_
                  refine AllG.last rfl (by kernel_rfl) (fun K hK => ?_) AllG.nil
                  go_simp
                  refine hK.out _ _ ?_
                  clear hK K
                  try simp only [Act.put, List.setIfInBounds_toArray, List.set_cons_zero, List.set_cons_succ]
                  refine doneG (by kernel_rfl) ?_ _
                  refine NoPanic.normal ?_
                  have hS10 : St w.heap.size w _ (row 22 vo (us.set j (.slice na (lessD p D fs (ra S1 j) (ra S1 c) c e0).length nc)) :: (rowsI us (elimD p D fs S1 (ra S1 c) c e0 j) ++ [row 2 (.slice na (lessD p D fs (ra S1 j) (ra S1 c) c e0).length nc) (iv (lessD p D fs (ra S1 j) (ra S1 c) c e0))])) := hS9.store 0 rfl (j := j) hju (.slice na (lessD p D fs (ra S1 j) (ra S1 c) c e0).length nc)
                  go_wp2_with fail
                  go_roundw
                  case rel =>
                    obtain ⟨x, hx⟩ := rowsI_new Hle2.out Hje.out (.slice na (lessD p D fs (ra S1 j) (ra S1 c) c e0).length nc) (lessD p D fs (ra S1 j) (ra S1 c) c e0)
                    rw [Hnx.out] at hx
                    have h2 := hS10.perm (hx.cons _)
                    exact ⟨j + 1, us.set j (.slice na (lessD p D fs (ra S1 j) (ra S1 c) c e0).length nc), by omega, by omega, by go_num, by unfold Hid; rw [List.length_set]; exact hus.out, h2.sub ((List.sublist_append_left _ _).cons_cons _)⟩
                  case measure => simp [intOf]; omega
                · have hjn' : j = n := by omega
                  rw [hjn'] at hS
                  clear hjn'
                  go_wp2_with fail
                  go_roundw
                  case rel => exact ⟨c + 1, us, elimD p D fs S1 (ra S1 c) c e0 n, _, by omega, by go_num, rfl, ⟨hus.out, by rw [elimD_len]; exact hS1l, Hre1.out.elimD Hp.out, Hde2.out⟩, HX2.out, hS⟩
                  case measure => simp [intOf]; omega
        · obtain rfl : i = n := by omega
          have hfz := fnz_no (R := S) (t := c) (c := c) (fun j h1 h2 => hz.out j h1 (by have := HlS.out; omega))
          have hx' := hX.out
          rw [detS_none hcn hfz] at hx'
          have HX := Lib.hid hx'
          clear hx' hfz
          go_wp2_with fail
          go_ret
          exact ⟨by rw [← HX.out]; rfl, hS.out⟩
    · obtain rfl : c = n := by omega
      have hx' := hX.out
      rw [show detS p D fs (c - c) c S det = det by rw [Nat.sub_self]; rfl] at hx'
      have HX := Lib.hid hx'
      clear hx'
      go_wp2_with fail
      go_ret
      exact ⟨by rw [← HX.out]; rfl, hS.out⟩


def detC (p d : Int) (xs : List Int) (m : List (List Int)) : Int := if matOk p d xs m = true then (if m.length = (xat m 0).length then 0 else 6) else 1
def detM (p d : Int) (xs : List Int) (m : List (List Int)) : Int := if detC p d xs m = 0 then (redM p d xs m).2.2 else 0

set_option maxHeartbeats 4000000 in
set_option maxRecDepth 100000 in
theorem DeterminantOf_c (p d : Int) (v : Value) (xs : List Int) (vm : Value) (us : List Value) (xss : List (List Int)) (w : World) (hv : RdI w v xs) (hm : RII w vm us xss) (hd : d ≤ 9223372036854775807) :
    Calls Try.prog 32 #[fv p d v, vm] w (Gives2I w (detM p d xs xss) (detC p d xs xss)) := by
  have hS0 := (St.refl w).newboxF 29 #[.int .i64 p, .int .i64 d, v]
  have HV := Lib.hid (ValidMatrix_c p d v xs vm us xss _ (hS0.oldI hv) (hS0.oldII hm) hd)
  have a0 := hS0.bcell 0 rfl 0 rfl
  have a1 := hS0.bcell 0 rfl 1 rfl
  have a2 := hS0.bcell 0 rfl 2 rfl
  unfold fv at HV ⊢
  cases h1 : matOk p d xs xss
  · have HC := Lib.hid (show detC p d xs xss = 1 by rw [detC, if_neg (by rw [h1]; simp)])
    have HM := Lib.hid (show detM p d xs xss = 0 by rw [detM, HC.out]; rfl)
    have H1 := Lib.hid h1; clear h1
    go_enter Try.func32, Try.ntmps32
    go_wp2_with fail
    refine HV.out.mono ?_
    rw [H1.out]
    rintro e w1 ⟨rfl, h1⟩
    have hS1 := hS0.call0 h1
    go_wp2_with fail
    go_ret2
    rw [HM.out, HC.out]
    exact ⟨rfl, hS1.out⟩
  · have hmv := matOk_t h1
    obtain ⟨D, rfl⟩ := Int.eq_ofNat_of_zero_le (show 0 ≤ d by have := hmv.f.d1; omega)
    have hr1 := hmv.rows1
    have hx0 := hm.ixe 0 0 rfl hr1
    have hl0 := (hm.row 0 hr1).len
    have hlm := hm.len
    by_cases hsq : xss.length = (xat xss 0).length
    · have f1 := ne_f (show (xss.length : Int) = ((xat xss 0).length : Int) by omega)
      have HC := Lib.hid (show detC p D xs xss = 0 by rw [detC, if_pos h1, if_pos hsq])
      have HM := Lib.hid (show detM p D xs xss = (red p D xs (xat xss 0).length 0 xss [] 1).2.2 by rw [detM, if_pos HC.out]; rfl)
      have H1 := Lib.hid h1; clear h1
      have HT := fun W (hv : RdI W v xs) => Lib.hid (tablesOf_c p D v xs W hv hmv.f)
      have HR := fun va ua vs us' vm' um vi W (ht : TB W p D xs va ua vs us' vm' um vi) (h : RII W vm us xss) => Lib.hid (reduce_c p D xs va ua vs us' vm' um vi vm us xss (xat xss 0).length W ht h hmv.f (by have := hmv.cols; omega) (by have := hmv.rows; omega) hmv.rct)
      generalize red p D xs (xat xss 0).length 0 xss [] 1 = X at HM HR
      clear hmv hsq
      unfold fv at HT
      unfold tv at HR
      go_enter Try.func32, Try.ntmps32
      go_wp2_with fail
      refine HV.out.mono ?_
      rw [H1.out]
      rintro e w1 ⟨rfl, h1⟩
      have hS1 := hS0.call0 h1
      have c0 := hS1.bcell 0 rfl 0 rfl
      have c1 := hS1.bcell 0 rfl 1 rfl
      have c2 := hS1.bcell 0 rfl 2 rfl
      have hc0 := (hS1.oldII hm).cell 0 hr1
      go_wp2_with fail
      refine (HT _ (hS1.oldI hv)).out.mono ?_
      rintro e w3 ⟨va, ua, vs, us', vm', um, vi, rfl, hua, hus, hum, h3⟩
      have hS3 := hS1.call0 h3.out
      have hTB := tb_of h3 hua hus hum
      go_wp2_with fail
      refine (HR va ua vs us' vm' um vi _ hTB (hS3.oldII hm)).out.mono ?_
      rintro e w4 ⟨v4, u4, p4, rfl, hl4, hk4, h4⟩
      have hS4 := hS3.call h4
      clear hl4 hk4
      go_wp2_with fail
      go_ret2
      rw [HM.out, HC.out]
      exact ⟨rfl, hS4.out⟩
    · have f1 := ne_t (show (xss.length : Int) ≠ ((xat xss 0).length : Int) by omega)
      have HC := Lib.hid (show detC p D xs xss = 6 by rw [detC, if_pos h1, if_neg hsq])
      have HM := Lib.hid (show detM p D xs xss = 0 by rw [detM, HC.out]; rfl)
      have H1 := Lib.hid h1; clear h1
      clear hmv hsq
      go_enter Try.func32, Try.ntmps32
      go_wp2_with fail
      refine HV.out.mono ?_
      rw [H1.out]
      rintro e w1 ⟨rfl, h1⟩
      have hS1 := hS0.call0 h1
      have hc0 := (hS1.oldII hm).cell 0 hr1
      go_wp2_with fail
      go_ret2
      rw [HM.out, HC.out]
      exact ⟨rfl, hS1.out⟩

set_option maxHeartbeats 4000000 in
set_option maxRecDepth 100000 in
theorem sDeterminantOf_c (p d : Int) (v : Value) (xs : List Int) (vm : Value) (us : List Value) (xss : List (List Int)) (w : World) (hv : RdI w v xs) (hm : RII w vm us xss) :
    Calls Try.prog 31 #[fv p d v, vm] w (Gives2I w (detM p d xs xss) (detC p d xs xss)) := by
  have hS0 := (St.refl w).newboxF 29 #[.int .i64 p, .int .i64 d, v]
  have hB0 : BoxF _ w.heap.size p d v := ⟨hS0.bcell 0 rfl 0 rfl, hS0.bcell 0 rfl 1 rfl, hS0.bcell 0 rfl 2 rfl⟩
  have HV := Lib.hid (l17Ok_c p d w.heap.size v xs vm us xss _ (hS0.oldI hv) hB0 (hS0.oldII hm))
  unfold fv
  cases h1 : matOk p d xs xss
  · have HC := Lib.hid (show detC p d xs xss = 1 by rw [detC, if_neg (by rw [h1]; simp)])
    have HM := Lib.hid (show detM p d xs xss = 0 by rw [detM, HC.out]; rfl)
    have H1 := Lib.hid h1; clear h1
    go_enter Try.func31, Try.ntmps31
    go_wp2_with fail
    refine HV.out.mono ?_
    rw [H1.out]
    rintro e w1 ⟨rfl, h1⟩
    have hS1 := hS0.call0 h1
    go_wp2_with fail
    go_ret2
    rw [HM.out, HC.out]
    exact ⟨rfl, hS1.out⟩
  · have hmv := matOk_t h1
    obtain ⟨D, rfl⟩ := Int.eq_ofNat_of_zero_le (show 0 ≤ d by have := hmv.f.d1; omega)
    have hr1 := hmv.rows1
    have hx0 := hm.ixe 0 0 rfl hr1
    have hl0 := (hm.row 0 hr1).len
    have hlm := hm.len
    by_cases hsq : xss.length = (xat xss 0).length
    · have f1 := ne_f (show (xss.length : Int) = ((xat xss 0).length : Int) by omega)
      have HC := Lib.hid (show detC p D xs xss = 0 by rw [detC, if_pos h1, if_pos hsq])
      have hrc : Rect p D xss.length xss := by rw [hsq]; exact hmv.rct
      have HM := Lib.hid (show detM p D xs xss = detS p D xs xss.length 0 xss 1 by
        rw [detM, if_pos HC.out, ← red_det hmv.f.fa (N := xss.length) xss.length 0 (R := xss) (S := xss) (piv := []) (det := 1) rfl (by omega) (by omega) hrc hrc (fun _ _ _ => rfl)]
        show (red p D xs (xat xss 0).length 0 xss [] 1).2.2 = _
        rw [← hsq])
      have H1 := Lib.hid h1; clear h1
      have HD := fun W (hv : RdI W v xs) (hb : BoxF W w.heap.size p D v) (h : RII W vm us xss) => Lib.hid (l17Determinant_c p D w.heap.size v xs vm us xss W hv hb hmv.f h (by have := hmv.rows; omega) hrc)
      generalize detS p D xs xss.length 0 xss 1 = X at HM HD
      clear hmv hsq hrc
      go_enter Try.func31, Try.ntmps31
      go_wp2_with fail
      refine HV.out.mono ?_
      rw [H1.out]
      rintro e w1 ⟨rfl, h1⟩
      have hS1 := hS0.call0 h1
      have hB1 := hB0.keep h1.below
      have hc0 := (hS1.oldII hm).cell 0 hr1
      go_wp2_with fail
      refine (HD _ (hS1.oldI hv) hB1 (hS1.oldII hm)).out.mono ?_
      rintro e w2 ⟨rfl, h2⟩
      have hS2 := hS1.call0 h2
      go_wp2_with fail
      go_ret2
      rw [HM.out, HC.out]
      exact ⟨rfl, hS2.out⟩
    · have f1 := ne_t (show (xss.length : Int) ≠ ((xat xss 0).length : Int) by omega)
      have HC := Lib.hid (show detC p D xs xss = 6 by rw [detC, if_pos h1, if_neg hsq])
      have HM := Lib.hid (show detM p D xs xss = 0 by rw [detM, HC.out]; rfl)
      have H1 := Lib.hid h1; clear h1
      clear hmv hsq
      go_enter Try.func31, Try.ntmps31
      go_wp2_with fail
      refine HV.out.mono ?_
      rw [H1.out]
      rintro e w1 ⟨rfl, h1⟩
      have hS1 := hS0.call0 h1
      have hc0 := (hS1.oldII hm).cell 0 hr1
      go_wp2_with fail
      go_ret2
      rw [HM.out, HC.out]
      exact ⟨rfl, hS1.out⟩

end Go.Proofs.Ytmkfafhgcnbcaaa
