/- Walks: SpanHas of both sides. -/
import Derived.Test.YtmkfafhgcnbcaaaRR
import Derived.Test.YtmkfafhgcnbcaaaPSpan
import Derived.Test.YtmkfafhgcnbcaaaPSol
namespace Go.Proofs.Ytmkfafhgcnbcaaa
set_option linter.unusedSimpArgs false
set_option linter.unusedVariables false
open Go.RowKit
attribute [local go_sem ↓] Go.wp_at_zero Go.wp_at_succ

theorem zeroL_zr (N : Nat) (xs : List Int) (hl : xs.length = N) : zeroL xs = decide (xs = zr N) := by
  unfold zeroL
  rw [Bool.eq_iff_iff]
  simp only [List.all_eq_true, decide_eq_true_eq, beq_iff_eq]
  constructor
  · intro h
    refine cf_ext (by rw [hl, zr_len]) fun j hj => ?_
    rw [cf_zr, cf_eq hj]; exact h _ (List.getElem_mem hj)
  · rintro rfl x hx; exact List.eq_of_mem_replicate hx
theorem rst_take {p : Int} {D : Nat} {fs : List Int} {R : List (List Int)} {piv x : List Int} {t : Nat} : ∀ k, k ≤ t → rst p D fs (R.take t) piv k x = rst p D fs R piv k x
  | 0, _ => rfl
  | k + 1, h => by
    have : ra (R.take t) k = ra R k := by unfold ra; rw [List.getD_eq_getElem?_getD, List.getD_eq_getElem?_getD, List.getElem?_take, if_pos (by omega)]
    rw [rst, rst, rst_take k (by omega), this]
/-- whether a vector lies in the span of the rows -/
def spnB (p d : Int) (xs : List Int) (m : List (List Int)) (v : List Int) : Bool :=
  matOk p d xs m && (decide (v.length = (xat m 0).length) && (vecOk (p ^ d.toNat) v && decide (rst p d.toNat xs (redM p d xs m).1 (redM p d xs m).2.1 (redM p d xs m).2.1.length v = zr (xat m 0).length)))

set_option maxHeartbeats 8000000 in
set_option maxRecDepth 100000 in
theorem inSpan_c (p : Int) (D : Nat) (fs : List Int) (va : Value) (ua : List Value) (vs : Value) (us : List Value) (vm : Value) (um : List Value) (vi : Value) (vM : Value) (uM : List Value) (R : List (List Int)) (vp : Value) (piv : List Int) (vv : Value) (x : List Int) (N : Nat) (w : World)
    (ht : TB w p D fs va ua vs us vm um vi) (hM : RII w vM uM R) (hp : RdI w vp piv) (hx : RdI w vv x) (hf : FV p D fs) (hN : N ≤ 4096) (hR : Rect p D N R) (hl : piv.length ≤ R.length) (hpv : ∀ y ∈ piv, 0 ≤ y ∧ y < (N : Nat)) (hxw : Rw p D N x) :
    Calls Try.prog 83 #[tv p D va vs vm vi, vM, vp, vv] w (GivesB w (decide (rst p D fs R piv piv.length x = zr N))) := by
  have hS0 := (St.refl w).newboxF 78 #[.int .i64 (qn p D), va, vs, vm, vi]
  have HF := Lib.hid hf
  have HRe := Lib.hid hR
  have Hxw := Lib.hid hxw
  have Hpv := Lib.hid hpv
  have HT := Lib.hid ht
  have HM := Lib.hid hM
  have HP := Lib.hid hp
  have Hcl := fun W (h : RdI W vv x) => Lib.hid (Clone_c vv x W h (by rw [hxw.1]; omega))
  have Hq1 := Lib.hid (show 0 < qn p D by have h := (el_zero hf.fa).2; unfold qn; omega)
  have hlp := hp.len
  have xp := hp.ixe
  have xM := hM.ixe
  have Hpl := hp.le
  unfold tv
  clear hf hR hxw hpv ht
  go_enter Try.func83, Try.ntmps83
  go_wp2_with fail
  refine (Hcl _ (hS0.oldI hx)).out.mono ?_
  rintro e w1 ⟨v1, rfl, h1⟩
  have hS1 := (hS0.call h1).perm List.perm_append_comm
  simp only [List.cons_append, List.nil_append] at hS1
  clear h1 Hcl hS0
  go_wp2_with fail
  go_loopw [10, 11, 16] (fun _ _ ii wr => ∃ i : Nat, i ≤ piv.length ∧ ii = .int .i64 i ∧ St w.heap.size w wr [row 2 v1 (iv (rst p D fs R piv i x)), box 78 w.heap.size [.int .i64 (qn p D), va, vs, vm, vi]]) (fun _ _ ii _ => piv.length - (intOf ii).toNat)
  case atStart => exact ⟨0, by omega, rfl, hS1⟩
  case round =>
    obtain ⟨i, hi, rfl, hS⟩ := hrel
    have Hrw := Lib.hid (rst_rw (R := R) (piv := piv) HF.out.fa Hxw.out i)
    by_cases hlt : i < piv.length
    · have hiR : i < R.length := by omega
      have cp := (hS.oldI HP.out).cell i hlt
      have xpi := xp (i : Int) i rfl hlt
      have cM := (hS.oldII HM.out).cell i hiR
      have xMi := xM (i : Int) i rfl hiR
      have hpi := Hpv.out _ (nth_mem hlt)
      obtain ⟨pn, hpn⟩ := Int.eq_ofNat_of_zero_le hpi.1
      have hpN : pn < N := by have := hpi.2; omega
      rw [hpn] at cp
      have hpx : pn < (rst p D fs R piv i x).length := by rw [Hrw.out.1]; exact hpN
      have cx := (hS.rdI 0 rfl).cell pn hpx
      have xx := (hS.rdI 0 rfl).ixe (pn : Int) pn rfl hpx
      obtain ⟨rn, hrn, hrq⟩ := (Hrw.out.el HF.out.fa pn).nat
      rw [show nth (rst p D fs R piv i x) pn = rn from hrn] at cx
      have hT := (hS.oldT HT.out).s
      obtain ⟨s1, s2, s3, s4⟩ := hT.at2 (i := 0) (j := rn) Hq1.out hrq
      have s1' : ∀ W, (Instr.indexAt 25 vs (.int .i64 0)).run Try.prog W = .ok (.pointer (some (el vs 0))) W := s1
      obtain ⟨fn, hfn, hfq⟩ := (fneg_el (p := p) (D := D) HF.out.fa rn).nat
      rw [show fSub p D 0 rn = fn from hfn] at s4
      have Hnx := Lib.hid (show addT p D fs (rst p D fs R piv i x) (xat R i) fn = rst p D fs R piv (i + 1) x by
        rw [rst, show cf piv i = pn from hpn, Int.toNat_natCast, hrn, hfn]; rfl)
      have a0 := hS.bcell 1 rfl 0 rfl
      have a1 := hS.bcell 1 rfl 1 rfl
      have a2 := hS.bcell 1 rfl 2 rfl
      have a3 := hS.bcell 1 rfl 3 rfl
      have a4 := hS.bcell 1 rfl 4 rfl
      have HRi := Lib.hid (HRe.out.ra hiR)
      have Hcall := fun W (hSW : St w.heap.size w W [row 2 v1 (iv (rst p D fs R piv i x)), box 78 w.heap.size [.int .i64 (qn p D), va, vs, vm, vi]]) => Lib.hid (addTimes_c p D fs va ua vs us vm um vi v1 (vat uM i) (rst p D fs R piv i x) (xat R i) fn 0 W hSW rfl (fun w' ts' h => ⟨(h.oldII HM.out).row i hiR, h.oldT HT.out⟩) HF.out.fa (by rw [Hrw.out.1]; exact HRi.out.1) Hrw.out.2 HRi.out.2 ⟨by omega, by have := qn_cast (p := p) (D := D) (by have := HF.out.p2; omega); omega⟩)
      unfold tv at Hcall
      clear hrn hfn hT s1 hpn hpi
      go_wp2_with fail
      refine regionG (fun w' => w'.cell? ⟨w.heap.size, 0, none⟩ = some (.int .i64 (qn p D)) ∧ w'.cell? ⟨w.heap.size, 1, none⟩ = some va ∧ w'.cell? ⟨w.heap.size, 2, none⟩ = some vs ∧ w'.cell? ⟨w.heap.size, 3, none⟩ = some vm ∧ w'.cell? ⟨w.heap.size, 4, none⟩ = some vi ∧ w'.cell? (el vM i) = some (vat uM i) ∧ w'.cell? (el vs 0) = some (vat us 0) ∧ w'.cell? (el v1 pn) = some (.int .i64 rn) ∧ w'.cell? (el (vat us 0) rn) = some (.int .i64 fn)) 16 (by kernel_rfl) ⟨cell_dr a0, cell_dr a1, cell_dr a2, cell_dr a3, cell_dr a4, cell_dr cM, cell_dr s2, cell_dr cx, cell_dr s4⟩ (fun hHeld => ?_)
      refine takeH (i := 0) [] (v := ?_) rfl (by kernel_rfl) (fun _ _ _ h => h) (by rfl) ?_ (by assumption) ?_
      case refine_2 => (intro w' hSw; (try dsimp only at hSw); go_simp; first | done | with_reducible rfl)
      try simp only [Act.put, List.setIfInBounds_toArray, List.set_cons_zero, List.set_cons_succ]
      refine takeP (i := 1) (v := ?_) rfl (by kernel_rfl) (fun _ _ _ h => h) (by rfl) ?_ (by assumption) ?_
      case refine_2 => (intro w'; go_simp; first | done | with_reducible rfl)
      try simp only [Act.put, List.setIfInBounds_toArray, List.set_cons_zero, List.set_cons_succ]
      refine takeP (i := 2) (v := ?_) rfl (by kernel_rfl) (fun _ _ _ h => h) (by rfl) ?_ (by assumption) ?_
      case refine_2 => (intro w'; go_simp; first | done | with_reducible rfl)
      try simp only [Act.put, List.setIfInBounds_toArray, List.set_cons_zero, List.set_cons_succ]
      refine takeP (i := 3) (v := ?_) rfl (by kernel_rfl) (fun _ _ _ h => h) (by rfl) ?_ (by assumption) ?_
      case refine_2 => (intro w'; go_simp; first | done | with_reducible rfl)
      try simp only [Act.put, List.setIfInBounds_toArray, List.set_cons_zero, List.set_cons_succ]
      refine takeP (i := 4) (v := ?_) rfl (by kernel_rfl) (fun _ _ _ h => h) (by rfl) ?_ (by assumption) ?_
      case refine_2 => (intro w'; go_simp; first | done | with_reducible rfl)
      try simp only [Act.put, List.setIfInBounds_toArray, List.set_cons_zero, List.set_cons_succ]
      refine takeH (i := 5) [] (v := ?_) rfl (by kernel_rfl) (fun _ _ _ h => h) (by rfl) ?_ (by assumption) ?_
      case refine_2 => (intro w' hSw; (try dsimp only at hSw); go_simp; first | done | with_reducible rfl)
      try simp only [Act.put, List.setIfInBounds_toArray, List.set_cons_zero, List.set_cons_succ]
      refine takeP (i := 6) (v := ?_) rfl (by kernel_rfl) (fun _ _ _ h => h) (by rfl) ?_ (by assumption) ?_
      case refine_2 => (intro w'; go_simp; first | done | with_reducible rfl)
      try simp only [Act.put, List.setIfInBounds_toArray, List.set_cons_zero, List.set_cons_succ]
      refine takeH (i := 7) [8, 9, 14, 15] (v := ?_) rfl (by kernel_rfl) (fun _ _ _ h => h) (by rfl) ?_ (by assumption) ?_
      case refine_2 => (intro w' hSw; (try dsimp only at hSw); go_simp; first | done | with_reducible rfl)
      try simp only [Act.put, List.setIfInBounds_toArray, List.set_cons_zero, List.set_cons_succ]
      refine takeP (i := 8) (v := ?_) rfl (by kernel_rfl) (fun _ _ _ h => h) (by rfl) ?_ (by assumption) ?_
      case refine_2 => (intro w'; go_simp; first | done | with_reducible rfl)
      try simp only [Act.put, List.setIfInBounds_toArray, List.set_cons_zero, List.set_cons_succ]
      refine takeH (i := 9) [14, 15] (v := ?_) rfl (by kernel_rfl) (fun _ _ _ h => h) (by rfl) ?_ (by assumption) ?_
      case refine_2 => (intro w' hSw; (try dsimp only at hSw); go_simp; first | done | with_reducible rfl)
      try simp only [Act.put, List.setIfInBounds_toArray, List.set_cons_zero, List.set_cons_succ]
      refine takeP (i := 10) (v := ?_) rfl (by kernel_rfl) (fun _ _ _ h => h) (by rfl) ?_ (by assumption) ?_
      case refine_2 => (intro w'; go_simp; first | done | with_reducible rfl)
      try simp only [Act.put, List.setIfInBounds_toArray, List.set_cons_zero, List.set_cons_succ]
      refine takeP (i := 11) (v := ?_) rfl (by kernel_rfl) (fun _ _ _ h => h) (by rfl) ?_ (by assumption) ?_
      case refine_2 => (intro w'; go_simp; first | done | with_reducible rfl)
      try simp only [Act.put, List.setIfInBounds_toArray, List.set_cons_zero, List.set_cons_succ]
      refine takeP (i := 12) (v := ?_) rfl (by kernel_rfl) (fun _ _ _ h => h) (by rfl) ?_ (by assumption) ?_
      case refine_2 => (intro w'; go_simp; first | done | with_reducible rfl)
      try simp only [Act.put, List.setIfInBounds_toArray, List.set_cons_zero, List.set_cons_succ]
      refine takeH (i := 13) [14, 15] (v := ?_) rfl (by kernel_rfl) (fun _ _ _ h => h) (by rfl) ?_ (by assumption) ?_
      case refine_2 => (intro w' hSw; (try dsimp only at hSw); go_simp; first | done | with_reducible rfl)
      try simp only [Act.put, List.setIfInBounds_toArray, List.set_cons_zero, List.set_cons_succ]
      refine takeP (i := 14) (v := ?_) rfl (by kernel_rfl) (fun _ _ _ h => h) (by rfl) ?_ (by assumption) ?_
      case refine_2 => (intro w'; go_simp; first | done | with_reducible rfl)
      try simp only [Act.put, List.setIfInBounds_toArray, List.set_cons_zero, List.set_cons_succ]
      refine takeH (i := 15) [] (v := ?_) rfl (by kernel_rfl) (fun _ _ _ h => h) (by rfl) ?_ (by assumption) ?_
      case refine_2 => (intro w' hSw; (try dsimp only at hSw); go_simp; first | done | with_reducible rfl)
      try simp only [Act.put, List.setIfInBounds_toArray, List.set_cons_zero, List.set_cons_succ]
      refine readyG (rs := [16]) (by kernel_rfl) (by simp) ?_
      refine AllG.last rfl (by kernel_rfl) (fun K hK => ?_) AllG.nil
      go_simp
      refine (Hcall _ hS.drew).out.mono ?_
      rintro e w7 ⟨⟨v7, rfl⟩, h7⟩
      refine hK.out _ _ ?_
      clear hK K
      try simp only [Act.put, List.setIfInBounds_toArray, List.set_cons_zero, List.set_cons_succ]
      refine doneG (by kernel_rfl) ?_ _
      refine NoPanic.normal ?_
      rw [Hnx.out] at h7
      go_wp2_with fail
      go_roundw
      case rel => exact ⟨i + 1, by omega, by go_num, h7⟩
      case measure => simp [intOf]; omega
    · have hip : i = piv.length := by omega
      have hrd := hS.rdI 0 rfl
      have Hz := Lib.hid (isZero_c v1 (rst p D fs R piv i x) wr hrd)
      have Hzz := Lib.hid (show zeroL (rst p D fs R piv i x) = decide (rst p D fs R piv piv.length x = zr N) by rw [← hip]; exact zeroL_zr N _ Hrw.out.1)
      clear hip hrd
      go_wp2_with fail
      refine Hz.out.mono ?_
      rw [Hzz.out]
      rintro e w2 ⟨rfl, h2⟩
      have hS2 := hS.call0 h2
      go_wp2_with fail
      go_ret
      exact ⟨rfl, hS2.out⟩

set_option maxHeartbeats 16000000 in
set_option maxRecDepth 100000 in
theorem SpanHas_c (p d : Int) (v : Value) (xs : List Int) (vm : Value) (us : List Value) (xss : List (List Int)) (vb : Value) (b : List Int) (w : World) (hv : RdI w v xs) (hm : RII w vm us xss) (hb : RdI w vb b) (hd : d ≤ 9223372036854775807) :
    Calls Try.prog 37 #[fv p d v, vm, vb] w (GivesB w (spnB p d xs xss b)) := by
  have hS0 := (St.refl w).newboxF 29 #[.int .i64 p, .int .i64 d, v]
  have HV := Lib.hid (ValidMatrix_c p d v xs vm us xss _ (hS0.oldI hv) (hS0.oldII hm) hd)
  have a0 := hS0.bcell 0 rfl 0 rfl
  have a1 := hS0.bcell 0 rfl 1 rfl
  have a2 := hS0.bcell 0 rfl 2 rfl
  unfold fv at HV ⊢
  cases h1 : matOk p d xs xss
  · have HB := Lib.hid (show spnB p d xs xss b = false by rw [spnB, h1]; rfl)
    have H1 := Lib.hid h1; clear h1
    go_enter Try.func37, Try.ntmps37
    go_wp2_with fail
    refine HV.out.mono ?_
    rw [H1.out]
    rintro e w1 ⟨rfl, h1⟩
    have hS1 := hS0.call0 h1
    go_wp2_with fail
    go_ret
    exact ⟨ret_bool HB.out.symm, hS1.out⟩
  · have hmv := matOk_t h1
    obtain ⟨D, rfl⟩ := Int.eq_ofNat_of_zero_le (show 0 ≤ d by have := hmv.f.d1; omega)
    have H1 := Lib.hid h1
    have hr1 := hmv.rows1
    have hx0 := hm.ixe 0 0 rfl hr1
    have hl0 := (hm.row 0 hr1).len
    have hlb := hb.len
    by_cases hlen : b.length = (xat xss 0).length
    · have f1 := ne_f (show (b.length : Int) = ((xat xss 0).length : Int) by omega)
      have hq := hmv.f.q
      have hq0 : 0 ≤ p ^ (D : Int).toNat := Int.pow_nonneg (by have := hmv.f.p2; omega)
      have HFS := fun W (hv : RdI W v xs) => Lib.hid (fieldSize_c p D v xs W hmv.f)
      have HAI := fun W (h : RdI W vb b) => Lib.hid (areIn_c (p ^ (D : Int).toNat) vb b W h hq0 (by omega))
      unfold fv at HFS
      cases h2 : vecOk (p ^ (D : Int).toNat) b
      · have HB := Lib.hid (show spnB p D xs xss b = false by rw [spnB, h1, h2]; simp)
        have H2 := Lib.hid h2
        clear h1 h2 hmv hlen
        generalize p ^ (D : Int).toNat = q at *
        go_enter Try.func37, Try.ntmps37
        go_wp2_with fail
        refine HV.out.mono ?_
        rw [H1.out]
        rintro e w1 ⟨rfl, h1⟩
        have hS1 := hS0.call0 h1
        have c0 := hS1.bcell 0 rfl 0 rfl
        have c1 := hS1.bcell 0 rfl 1 rfl
        have c2 := hS1.bcell 0 rfl 2 rfl
        have cm := (hS1.oldII hm).cell 0 hr1
        go_wp2_with fail
        refine (HFS _ (hS1.oldI hv)).out.mono ?_
        rintro e w2 ⟨rfl, h2⟩
        have hS2 := hS1.call0 h2
        go_wp2_with fail
        refine (HAI _ (hS2.oldI hb)).out.mono ?_
        rw [H2.out]
        rintro e w3 ⟨rfl, h3⟩
        have hS3 := hS2.call0 h3
        go_wp2_with fail
        go_ret
        exact ⟨ret_bool HB.out.symm, hS3.out⟩
      · have HB := Lib.hid (show spnB p D xs xss b = decide (rst p D xs (redM p D xs xss).1 (redM p D xs xss).2.1 (redM p D xs xss).2.1.length b = zr (xat xss 0).length) by rw [spnB, h1, h2, decide_eq_true hlen]; simp)
        have hb' : In (p ^ D) b := by have := vecOk_in h2; rwa [Int.toNat_natCast] at this
        have hr32 := hmv.rows
        have hc32 := hmv.cols
        have HT := fun W (hv : RdI W v xs) => Lib.hid (tablesOf_c p D v xs W hv hmv.f)
        have HR := fun va ua vs us' vm' um vi W (ht : TB W p D xs va ua vs us' vm' um vi) (h : RII W vm us xss) => Lib.hid (reduce_c p D xs va ua vs us' vm' um vi vm us xss (xat xss 0).length W ht h hmv.f (by have := hmv.cols; omega) (by have := hmv.rows; omega) hmv.rct)
        have Hpre := Lib.hid (red_pre hmv.f.fa (xat xss 0).length 0 (R := xss) (piv := []) (det := 1) hmv.rct (by simp))
        have Hpv := Lib.hid (red_piv (p := p) (D := D) (fs := xs) (xat xss 0).length 0 (R := xss) (piv := []) (det := 1) (by simp))
        have Hf := Lib.hid hmv.f
        have e : redM p D xs xss = red p D xs (xat xss 0).length 0 xss [] 1 := rfl
        rw [e] at HB
        clear e
        generalize red p D xs (xat xss 0).length 0 xss [] 1 = X at HB HR Hpre Hpv
        have H2 := Lib.hid h2
        have Hbw : Hid (Rw p D (xat xss 0).length b) := Lib.hid ⟨hlen, hb'⟩
        clear h1 h2 hmv hlen hb'
        generalize p ^ (D : Int).toNat = q at *
        generalize hN : (xat xss 0).length = N at *
        clear hN
        unfold fv at HT
        unfold tv at HR
        go_enter Try.func37, Try.ntmps37
        go_wp2_with fail
        refine HV.out.mono ?_
        rw [H1.out]
        rintro e w1 ⟨rfl, h1⟩
        have hS1 := hS0.call0 h1
        have c0 := hS1.bcell 0 rfl 0 rfl
        have c1 := hS1.bcell 0 rfl 1 rfl
        have c2 := hS1.bcell 0 rfl 2 rfl
        have cm := (hS1.oldII hm).cell 0 hr1
        go_wp2_with fail
        refine (HFS _ (hS1.oldI hv)).out.mono ?_
        rintro e w2 ⟨rfl, h2⟩
        have hS2 := hS1.call0 h2
        go_wp2_with fail
        refine (HAI _ (hS2.oldI hb)).out.mono ?_
        rw [H2.out]
        rintro e w3 ⟨rfl, h3⟩
        have hS3 := hS2.call0 h3
        have d0 := hS3.bcell 0 rfl 0 rfl
        have d1 := hS3.bcell 0 rfl 1 rfl
        have d2 := hS3.bcell 0 rfl 2 rfl
        clear c0 c1 c2 cm a0 a1 a2 h1 h2 h3 HV HFS HAI hS1 hS2 hS0
        go_wp2_with fail
        refine (HT _ (hS3.oldI hv)).out.mono ?_
        rintro e w4 ⟨va, ua, vs, us', vm', um, vi, rfl, hua, hus, hum, h4⟩
        have hS4 := hS3.call0 h4.out
        have hTB := tb_of h4 hua hus hum
        clear d0 d1 d2 h4
        obtain ⟨aa, ca, ea⟩ := hTB.a.shp'
        obtain ⟨as1, cs1, es⟩ := hTB.s.shp'
        obtain ⟨am, cm, em⟩ := hTB.m.shp'
        obtain ⟨ai, ci, ei⟩ := hTB.i.shp'
        subst ea; subst es; subst em; subst ei
        have HTB := Lib.hid hTB
        clear hTB
        have hS5 := hS4.newboxF 78 #[.int .i64 (qn p D), .slice aa (tb (qn p D) (fAdd p D)).length ca, .slice as1 (tb (qn p D) (fSub p D)).length cs1, .slice am (tb (qn p D) (fMul p D xs)).length cm, .slice ai (invT p D xs).length ci]
        have HT5 := Lib.hid (HTB.out.keep ((St.refl w4).alloc' (.cells #[.int .i64 (qn p D), .slice aa (tb (qn p D) (fAdd p D)).length ca, .slice as1 (tb (qn p D) (fSub p D)).length cs1, .slice am (tb (qn p D) (fMul p D xs)).length cm, .slice ai (invT p D xs).length ci] 78)).below)
        go_wp2_with fail
        refine (HR _ ua _ us' _ um _ _ HT5.out (hS5.oldII hm)).out.mono ?_
        rintro e w5 ⟨v5, u5, p5, rfl, hl5, hk5, h5⟩
        have HT6 := Lib.hid (HT5.out.keep h5.below)
        have hS6 := hS5.call0 h5.out
        have hp5 := h5.rdI 0 rfl
        have hk5' : X.2.1.length ≤ X.1.length := by have := Hpre.out.2; omega
        have hr5 : RII w5 v5 u5 (X.1.take X.2.1.length) := (h5.sub (List.sublist_cons_self _ _)).rii (by rw [hl5, List.length_take]; omega)
        have HI := Lib.hid (inSpan_c p D xs _ ua _ us' _ um _ v5 u5 (X.1.take X.2.1.length) p5 X.2.1 vb b N w5 HT6.out hr5 hp5 (hS6.oldI hb) Hf.out (by omega) (fun r hr => Hpre.out.1 r (List.mem_of_mem_take hr)) (by rw [List.length_take]; omega) (fun y hy => by have := Hpv.out y hy; omega) Hbw.out)
        rw [rst_take _ (Nat.le_refl _), ← HB.out] at HI
        unfold tv at HI
        have g0 := hS6.bcell 0 rfl 0 rfl
        have g1 := hS6.bcell 0 rfl 1 rfl
        have g2 := hS6.bcell 0 rfl 2 rfl
        have g3 := hS6.bcell 0 rfl 3 rfl
        have g4 := hS6.bcell 0 rfl 4 rfl
        clear h5 hl5 hk5 hp5 hr5 hS5 hS4 HR HT hk5'
        go_wp2_with fail
        refine HI.out.mono ?_
        rintro e w6 ⟨rfl, h6⟩
        have hS7 := hS6.call0 h6
        go_wp2_with fail
        go_ret
        exact ⟨rfl, hS7.out⟩
    · have f1 := ne_t (show (b.length : Int) ≠ ((xat xss 0).length : Int) by omega)
      have HB := Lib.hid (show spnB p D xs xss b = false by rw [spnB, decide_eq_false hlen]; simp)
      clear h1 hmv hlen
      go_enter Try.func37, Try.ntmps37
      go_wp2_with fail
      refine HV.out.mono ?_
      rw [H1.out]
      rintro e w1 ⟨rfl, h1⟩
      have hS1 := hS0.call0 h1
      have c0 := hS1.bcell 0 rfl 0 rfl
      have c1 := hS1.bcell 0 rfl 1 rfl
      have c2 := hS1.bcell 0 rfl 2 rfl
      have cm := (hS1.oldII hm).cell 0 hr1
      go_wp2_with fail
      go_ret
      exact ⟨ret_bool HB.out.symm, hS1.out⟩

theorem St.riiApp {B : Nat} {w0 w w1 : World} {v : Value} {us : List Value} {xss : List (List Int)} {u : Value} {xs : List Int} (h : St B w0 w (row 22 v (us ++ [u]) :: rowsI us xss)) (hl : us.length = xss.length) (hu : RdI w u xs) : RII w v (us ++ [u]) (xss ++ [xs]) := by
  refine ⟨h.rd 0 rfl, by simp [hl], fun j hj => ?_⟩
  by_cases hjm : j < xss.length
  · have e1 : vat (us ++ [u]) j = vat us j := by
      unfold vat; rw [List.getD_eq_getElem?_getD, List.getElem?_append_left (by omega), ← List.getD_eq_getElem?_getD]
    have e2 : xat (xss ++ [xs]) j = xat xss j := by
      unfold xat; rw [List.getD_eq_getElem?_getD, List.getElem?_append_left hjm, ← List.getD_eq_getElem?_getD]
    rw [e1, e2]
    exact h.rdI (j + 1) (by rw [List.getElem?_cons_succ]; exact rowsI_get hl hjm)
  · have hje : j = xss.length := by simp at hj; omega
    have e1 : vat (us ++ [u]) j = u := by unfold vat; rw [hje, ← hl]; simp
    have e2 : xat (xss ++ [xs]) j = xs := by unfold xat; rw [hje]; simp
    rw [e1, e2]; exact hu

set_option maxHeartbeats 8000000 in
set_option maxRecDepth 100000 in
theorem l17Has_c (p : Int) (D : Nat) (g : Nat) (v : Value) (fs : List Int) (vM : Value) (uM : List Value) (m : List (List Int)) (vx : Value) (x : List Int) (N : Nat) (w : World)
    (hv : RdI w v fs) (hbx : BoxF w g p D v) (hf : FV p D fs) (hM : RII w vM uM m) (hN : N ≤ 1024) (hml : m.length ≤ 1024) (hm1 : 1 ≤ m.length) (hrect : Rect p D N m) (hx : RdI w vx x) (hxw : Rw p D N x) :
    Calls Try.prog 82 #[.pointer (some ⟨g, 0, none⟩), vM, vx] w (GivesB w (decide (rst p D fs (red p D fs N 0 m [] 1).1 (red p D fs N 0 m [] 1).2.1 (red p D fs N 0 m [] 1).2.1.length x = zr N))) := by
  have Hrk := Lib.hid (rank_has (v := x) hf hrect hxw)
  have Hmx : Hid (Rect p D N (m ++ [x])) := Lib.hid (fun r hr => by
    rcases List.mem_append.1 hr with hr | hr
    · exact hrect r hr
    · simp at hr; subst hr; exact hxw)
  have hcp := Lib.hid (l17Own_c vM uM m w hM (by omega) (fun r hr => by have := (hrect r hr).1; omega))
  have HF := Lib.hid hf
  have HB := Lib.hid hbx
  have HV := Lib.hid hv
  have HM := Lib.hid hM
  have HX := Lib.hid hx
  have Hre := Lib.hid hrect
  have Hmm := Lib.hid (show (m ++ [x]).length = m.length + 1 by simp)
  obtain ⟨ax, cx, ex⟩ := hx.shp'
  subst ex
  clear hf hrect hbx hv hx hM hxw
  generalize hbb : decide (rst p D fs (red p D fs N 0 m [] 1).1 (red p D fs N 0 m [] 1).2.1 (red p D fs N 0 m [] 1).2.1.length x = zr N) = bb
  have Hbb := Lib.hid hbb
  clear hbb
  go_enter Try.func82, Try.ntmps82
  go_wp2_with fail
  refine hcp.out.mono ?_
  rintro e w1 ⟨vo, ul, rfl, hul, h1⟩
  have Hul := Lib.hid (show ul.length = m.length from hul)
  have hS1 : St w.heap.size w w1 (row 22 vo ul :: rowsI ul m) := h1
  clear hcp h1 hul
  go_wp2_with (at_builtin; refine appII hS1 0 rfl (by rw [Hul.out]; omega) rfl _ _ rfl rfl _ rfl rfl ?_; intro v2 w2 hS2)
  have hrw := St.riiApp (w1 := w2) hS2 Hul.out (hS2.oldI HX.out)
  have hB2 := HB.out.keep hS2.below
  have HF1 := Lib.hid (l17Form_c p D g v fs v2 (ul ++ [_]) (m ++ [x]) N w2 (hS2.oldI HV.out) hB2 HF.out hrw (by omega) (by rw [Hmm.out]; omega) (by rw [Hmm.out]; omega) Hmx.out)
  have HF2 := fun W (hv : RdI W v fs) (hb : BoxF W g p D v) (h : RII W vM uM m) => Lib.hid (l17Form_c p D g v fs vM uM m N W hv hb HF.out h (by omega) (by omega) (by omega) Hre.out)
  generalize red p D fs N 0 (m ++ [x]) [] 1 = Y at HF1 Hrk
  generalize red p D fs N 0 m [] 1 = X at HF2 Hrk Hbb
  clear hrw hB2
  go_wp2_with fail
  refine HF1.out.mono ?_
  rintro e w3 ⟨v3, u3, rfl, hl3, hk3, h3⟩
  have hS3 := hS2.call h3
  have hlen3 := (h3.rii (by rw [hl3, List.length_take]; omega)).len
  rw [show (Y.1.take Y.2.1.length).length = Y.2.1.length by rw [List.length_take]; omega] at hlen3
  clear HF1 hl3 hk3 h3
  go_wp2_with fail
  refine (HF2 _ (hS3.oldI HV.out) (HB.out.keep hS3.below) (hS3.oldII HM.out)).out.mono ?_
  rintro e w4 ⟨v4, u4, rfl, hl4, hk4, h4⟩
  have hS4 := hS3.call h4
  have hlen4 := (h4.rii (by rw [hl4, List.length_take]; omega)).len
  rw [show (X.1.take X.2.1.length).length = X.2.1.length by rw [List.length_take]; omega] at hlen4
  clear HF2 hl4 hk4 h4
  go_wp2_with fail
  go_ret
  refine ⟨ret_bool ?_, hS4.out⟩
  rw [← Hbb.out, Bool.eq_iff_iff, decide_eq_true_iff, ← Hrk.out, beq_iff_eq]
  omega

set_option maxHeartbeats 8000000 in
set_option maxRecDepth 100000 in
theorem sSpanHas_c (p d : Int) (v : Value) (xs : List Int) (vm : Value) (us : List Value) (xss : List (List Int)) (vb : Value) (b : List Int) (w : World) (hv : RdI w v xs) (hm : RII w vm us xss) (hb : RdI w vb b) :
    Calls Try.prog 35 #[fv p d v, vm, vb] w (GivesB w (spnB p d xs xss b)) := by
  have hS0 := (St.refl w).newboxF 29 #[.int .i64 p, .int .i64 d, v]
  have hB0 : BoxF _ w.heap.size p d v := ⟨hS0.bcell 0 rfl 0 rfl, hS0.bcell 0 rfl 1 rfl, hS0.bcell 0 rfl 2 rfl⟩
  have HV := Lib.hid (l17Ok_c p d w.heap.size v xs vm us xss _ (hS0.oldI hv) hB0 (hS0.oldII hm))
  unfold fv
  cases h1 : matOk p d xs xss
  · have HB := Lib.hid (show spnB p d xs xss b = false by rw [spnB, h1]; rfl)
    have H1 := Lib.hid h1; clear h1
    go_enter Try.func35, Try.ntmps35
    go_wp2_with fail
    refine HV.out.mono ?_
    rw [H1.out]
    rintro e w1 ⟨rfl, h1⟩
    have hS1 := hS0.call0 h1
    go_wp2_with fail
    go_ret
    exact ⟨ret_bool HB.out.symm, hS1.out⟩
  · have hmv := matOk_t h1
    obtain ⟨D, rfl⟩ := Int.eq_ofNat_of_zero_le (show 0 ≤ d by have := hmv.f.d1; omega)
    have H1 := Lib.hid h1
    have hr1 := hmv.rows1
    have hx0 := hm.ixe 0 0 rfl hr1
    have hl0 := (hm.row 0 hr1).len
    have hlb := hb.len
    by_cases hlen : b.length = (xat xss 0).length
    · have f1 := ne_f (show (b.length : Int) = ((xat xss 0).length : Int) by omega)
      have HL := fun W (hbx : BoxF W w.heap.size p D v) (h : RdI W vb b) => Lib.hid (l17Vector_c p D w.heap.size v xs vb b W hbx hmv.f h)
      cases h2 : vecOk (p ^ (D : Int).toNat) b
      · have HB := Lib.hid (show spnB p D xs xss b = false by rw [spnB, h1, h2]; simp)
        have H2 := Lib.hid h2
        clear h1 h2 hmv hlen
        generalize p ^ (D : Int).toNat = q at *
        go_enter Try.func35, Try.ntmps35
        go_wp2_with fail
        refine HV.out.mono ?_
        rw [H1.out]
        rintro e w1 ⟨rfl, h1⟩
        have hS1 := hS0.call0 h1
        have cm := (hS1.oldII hm).cell 0 hr1
        go_wp2_with fail
        refine (HL _ (hB0.keep h1.below) (hS1.oldI hb)).out.mono ?_
        rw [H2.out]
        rintro e w3 ⟨rfl, h3⟩
        have hS3 := hS1.call0 h3
        go_wp2_with fail
        go_ret
        exact ⟨ret_bool HB.out.symm, hS3.out⟩
      · have HB := Lib.hid (show spnB p D xs xss b = decide (rst p D xs (redM p D xs xss).1 (redM p D xs xss).2.1 (redM p D xs xss).2.1.length b = zr (xat xss 0).length) by rw [spnB, h1, h2, decide_eq_true hlen]; simp)
        have hb' : In (p ^ D) b := by have := vecOk_in h2; rwa [Int.toNat_natCast] at this
        have HH := fun W (hv : RdI W v xs) (hbx : BoxF W w.heap.size p D v) (h : RII W vm us xss) (hb : RdI W vb b) => Lib.hid (l17Has_c p D w.heap.size v xs vm us xss vb b (xat xss 0).length W hv hbx hmv.f h (by have := hmv.cols; omega) (by have := hmv.rows; omega) hr1 hmv.rct hb ⟨hlen, hb'⟩)
        have e : redM p D xs xss = red p D xs (xat xss 0).length 0 xss [] 1 := rfl
        rw [e] at HB
        rw [← HB.out] at HH
        clear e
        have H2 := Lib.hid h2
        clear h1 h2 hmv hlen hb'
        generalize p ^ (D : Int).toNat = q at *
        go_enter Try.func35, Try.ntmps35
        go_wp2_with fail
        refine HV.out.mono ?_
        rw [H1.out]
        rintro e w1 ⟨rfl, h1⟩
        have hS1 := hS0.call0 h1
        have hB1 := hB0.keep h1.below
        have cm := (hS1.oldII hm).cell 0 hr1
        go_wp2_with fail
        refine (HL _ hB1 (hS1.oldI hb)).out.mono ?_
        rw [H2.out]
        rintro e w3 ⟨rfl, h3⟩
        have hS3 := hS1.call0 h3
        go_wp2_with fail
        refine (HH _ (hS3.oldI hv) (hB1.keep h3.below) (hS3.oldII hm) (hS3.oldI hb)).out.mono ?_
        rintro e w4 ⟨rfl, h4⟩
        have hS4 := hS3.call0 h4
        go_wp2_with fail
        go_ret
        exact ⟨rfl, hS4.out⟩
    · have f1 := ne_t (show (b.length : Int) ≠ ((xat xss 0).length : Int) by omega)
      have HB := Lib.hid (show spnB p D xs xss b = false by rw [spnB, decide_eq_false hlen]; simp)
      clear h1 hmv hlen
      go_enter Try.func35, Try.ntmps35
      go_wp2_with fail
      refine HV.out.mono ?_
      rw [H1.out]
      rintro e w1 ⟨rfl, h1⟩
      have hS1 := hS0.call0 h1
      have cm := (hS1.oldII hm).cell 0 hr1
      go_wp2_with fail
      go_ret
      exact ⟨ret_bool HB.out.symm, hS1.out⟩
end Go.Proofs.Ytmkfafhgcnbcaaa
