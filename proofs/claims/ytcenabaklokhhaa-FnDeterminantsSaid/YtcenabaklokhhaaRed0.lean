/- Walks: a multiple of a row is added to another one. Walks: reslices of slices of slices, changes of a row, the closure of reduce. -/
import Derived.Test.YtcenabaklokhhaaDot
import Derived.Test.YtcenabaklokhhaaPSpan
import Derived.Test.YtcenabaklokhhaaMk
import Derived.Test.YtcenabaklokhhaaTimes
import Derived.Test.YtcenabaklokhhaaVMat
namespace Go.Proofs.Ytcenabaklokhhaa
set_option linter.unusedSimpArgs false
set_option linter.unusedVariables false
open Go.RowKit
attribute [local go_sem ↓] Go.wp_at_zero Go.wp_at_succ


set_option maxHeartbeats 4000000 in
set_option maxRecDepth 100000 in
theorem addTimes_c {B : Nat} {w0 : World} {L : List Ent} (p : Int) (D : Nat) (fs : List Int) (va : Value) (ua : List Value) (vs : Value) (us : List Value) (vm : Value) (um : List Value) (vi : Value) (vt vr : Value) (ts rw : List Int) (f : Int) (i : Nat) (w : World)
    (hS : St B w0 w L) (hi : L[i]? = some (row 2 vt (iv ts))) (hR : ∀ (w' : World) (ts' : List Int), St B w0 w' (L.set i (row 2 vt (iv ts'))) → RdI w' vr rw ∧ TB w' p D fs va ua vs us vm um vi)
    (hf : FA p D fs) (hl : rw.length = ts.length) (hti : In (p ^ D) ts) (hri : In (p ^ D) rw) (hfe : El p D f) :
    Calls Try.prog 191 #[tv p D va vs vm vi, vt, vr, .int .i64 f] w fun e w' => (∃ v, e = .returned v) ∧ St B w0 w' (L.set i (row 2 vt (iv (addT p D fs ts rw f)))) := by
  have hil : i < L.length := (List.getElem?_eq_some_iff.1 hi).1
  have hs0 : L.set i (row 2 vt (iv ts)) = L := by
    obtain ⟨hlt, heq⟩ := List.getElem?_eq_some_iff.1 hi
    rw [← heq, List.set_getElem_self]
  have hr0 := (hR w ts (by rw [hs0]; exact hS)).1
  have hlr := hr0.len
  have hle := hr0.le
  have hS0 := hS.newboxF 109 #[.int .i64 (qn p D), va, vs, vm, vi]
  have HF := Lib.hid hf
  have HR := Lib.hid hR
  have Hti := Lib.hid hti
  have Hri := Lib.hid hri
  have Hend := Lib.hid (show up ts rw.length (fun k => fsum p D (cf ts k) (fmul p D fs f (cf rw k)) 1) = addT p D fs ts rw f by rw [hl, up_end]; rfl)
  have Hset := Lib.hid (fun k (hk : k < ts.length) => up_set (r := ts) (k := k) (f := fun k => fsum p D (cf ts k) (fmul p D fs f (cf rw k)) 1) hk)
  obtain ⟨fn, rfl, hfq⟩ := hfe.nat
  have hp : 0 < p := by have := hf.p2; omega
  have Hp := Lib.hid hp
  rw [← hs0, ← up_0 ts (fun k => fsum p D (cf ts k) (fmul p D fs fn (cf rw k)) 1)] at hS0
  clear hf hti hri hR hr0 hS hs0 hp
  have H0 := Lib.hid hi; clear hi
  unfold tv
  go_enter Try.func191, Try.ntmps191
  go_wp2_with fail
  go_loopw [8, 9, 12, 38] (fun _ _ ii _ wr => ∃ k : Nat, k ≤ rw.length ∧ ii = .int .i64 k ∧ St B w0 wr (box 109 w.heap.size [.int .i64 (qn p D), va, vs, vm, vi] :: L.set i (row 2 vt (iv (up ts k fun k => fsum p D (cf ts k) (fmul p D fs fn (cf rw k)) 1))))) (fun _ _ ii _ _ => rw.length - (intOf ii).toNat)
  case atStart => exact ⟨0, by omega, rfl, hS0⟩
  case round =>
    obtain ⟨k, hk, rfl, hS⟩ := hrel
    have hRR := HR.out wr _ (hS.sub ((List.Sublist.refl _).cons _))
    have hix := hRR.1.ix
    by_cases hlt : k < rw.length
    · have hkt : k < ts.length := by omega
      have hku : k < (up ts k fun k => fsum p D (cf ts k) (fmul p D fs fn (cf rw k)) 1).length := by rw [up_len]; exact hkt
      have hat : (box 109 w.heap.size [.int .i64 (qn p D), va, vs, vm, vi] :: L.set i (row 2 vt (iv (up ts k fun k => fsum p D (cf ts k) (fmul p D fs fn (cf rw k)) 1))))[i + 1]? = some (row 2 vt (iv (up ts k fun k => fsum p D (cf ts k) (fmul p D fs fn (cf rw k)) 1))) := by
        rw [List.getElem?_cons_succ, List.getElem?_set_self hil]
      have hcr := hRR.1.cell k hlt
      have hct := (hS.rdI (i + 1) hat).cell k hku
      have hxt := (hS.rdI (i + 1) hat).ixe (k : Int) k rfl hku
      have u1 := hS.unfrozen (i + 1) hat (j := k) (by rw [iv_len]; exact hku)
      rw [show nth (up ts k fun k => fsum p D (cf ts k) (fmul p D fs fn (cf rw k)) 1) k = cf ts k from by have := cf_up (r := ts) (k := k) (f := fun k => fsum p D (cf ts k) (fmul p D fs fn (cf rw k)) 1) hkt; rw [if_neg (by omega)] at this; exact this] at hct
      rw [show nth rw k = cf rw k from rfl] at hcr
      obtain ⟨s, hs, hsq⟩ := (inEl Hp.out Hti.out k).nat
      obtain ⟨x, hx, hxq⟩ := (inEl Hp.out Hri.out k).nat
      obtain ⟨m, hm, hmq⟩ := (fmul_el HF.out fn x).nat
      obtain ⟨t1, t2, t3, t4⟩ := hRR.2.m.at2 hfq hxq
      obtain ⟨t5, t6, t7, t8⟩ := hRR.2.a.at2 hsq hmq
      rw [show fMul p D fs fn x = m from hm] at t4
      have Hn := Lib.hid (show fsum p D (cf ts k) (fmul p D fs fn (cf rw k)) 1 = fAdd p D s m by rw [hs, hx, hm]; rfl)
      rw [hs] at hct
      rw [hx] at hcr
      have b1 := hS.bcell 0 rfl 1 rfl
      have b3 := hS.bcell 0 rfl 3 rfl
      have hs1 := hS.store (i + 1) hat (j := k) (by rw [iv_len]; exact hku) (.int .i64 (fAdd p D s m))
      have hs2 := Lib.hid hs1.drew
      clear hs1 hs hx hm hRR
      go_wp2_with fail
      go_region
      all_goals
        go_wp2_with fail
        go_roundw
        case rel =>
          refine ⟨k + 1, by omega, by go_num, ?_⟩
          have h := hs2.out
          rw [iv_set, List.set_cons_succ, List.set_set] at h
          rw [← Hset.out k hkt, Hn.out]
          exact h
        case measure => simp [intOf]; omega
    · obtain rfl : k = rw.length := by omega
      go_wp2_with fail
      rw [Hend.out] at hS
      (try simp only [Exit.inBlock, Exit.then])
      refine bodyPost_end (results_none rfl _ _ _) rfl ?_
      exact ⟨⟨_, rfl⟩, hS.sub ((List.Sublist.refl _).cons _)⟩


theorem und_elem_iss : Try.prog.underlying 26 = some (.slice (Try.prog.elem 26)) := by kernel_rfl
theorem elem_iss_size : (Try.prog.info? (Try.prog.elem 26)).map (·.size) = some 1 := by kernel_rfl
theorem run_size_elem2 (W : World) : (sizeOf (Try.prog.elem 26)).run Try.prog W = .ok 1 W := by
  obtain ⟨inf, hinf, hs⟩ := Option.map_eq_some_iff.1 elem_iss_size
  simp [sizeOf, typeInfo, hinf, hs]
section
variable {w : World} {v : Value} {us : List Value} {xss : List (List Int)}
theorem rs2_hi (h : RII w v us xss) (hi : Nat) (h2 : hi ≤ xss.length) (W : World) :
    (Instr.slice 26 v none (some (.int .i64 (hi : Int))) none).run Try.prog W = .ok (rsl v 0 hi) W := by
  obtain ⟨⟨⟨a, cap, rfl, hc1, hc2, ha⟩, _⟩, hl, _⟩ := h
  rw [hl] at hc1
  rw [run_slice_h W 26 a _ cap und_elem_iss .i64 hi (by omega) (by omega), run_size_elem2]
  rfl
theorem rs2_lo (h : RII w v us xss) (lo : Nat) (h2 : lo ≤ xss.length) (W : World) :
    (Instr.slice 26 v (some (.int .i64 (lo : Int))) none none).run Try.prog W = .ok (rsl v lo xss.length) W := by
  obtain ⟨⟨⟨a, cap, rfl, hc1, hc2, ha⟩, _⟩, hl, _⟩ := h
  rw [hl] at hc1
  rw [run_slice_l W 26 a _ cap und_elem_iss .i64 lo (by omega) (by rw [hl]; omega), run_size_elem2]
  rw [hl]
  rfl
theorem RII.rs2 (h : RII w v us xss) {lo hi : Nat} (h1 : lo ≤ hi) (h2 : hi ≤ xss.length) : RII w (rsl v lo hi) ((us.take hi).drop lo) ((xss.take hi).drop lo) := by
  refine ⟨rsl_Rd h.1 h1 (by rw [h.2.1]; exact h2), by simp [h.2.1], fun j hj => ?_⟩
  have hj' : j < hi - lo := by simp at hj; omega
  have hl := h.2.1
  have := h.2.2 (lo + j) (by omega)
  rw [vat_eq (by omega), xat_eq (by omega)] at this
  rw [vat_eq (by simp; omega), xat_eq (by simp; omega)]
  simpa using this
end
theorem vat_set {us : List Value} {i k : Nat} {u : Value} (h : i < us.length) : vat (us.set i u) k = if i = k then u else vat us k := by
  unfold vat
  rw [List.getD_eq_getElem?_getD, List.getElem?_set]
  split
  · rename_i e; subst e; simp [h]
  · simp [List.getD_eq_getElem?_getD]
theorem rowsI_no {us : List Value} {R : List (List Int)} (hl : us.length = R.length) {k : Nat} (h : R.length ≤ k) : (rowsI us R)[k]? = none := List.getElem?_eq_none (by rw [rowsI_len hl]; exact h)
theorem rowsI_set {us : List Value} {R : List (List Int)} (hl : us.length = R.length) {j : Nat} (hj : j < R.length) (r : List Int) : (rowsI us R).set j (row 2 (vat us j) (iv r)) = rowsI us (R.set j r) := by
  apply List.ext_getElem?
  intro k
  have hl' : us.length = (R.set j r).length := by simpa using hl
  rw [List.getElem?_set]
  by_cases hk : k < R.length
  · rw [rowsI_get hl' (by simpa using hk)]
    by_cases e : j = k
    · subst e; rw [if_pos rfl, if_pos (by rw [rowsI_len hl]; exact hj), show xat (R.set j r) j = r from (ra_set hj).trans (if_pos rfl)]
    · rw [if_neg e, rowsI_get hl hk, show xat (R.set j r) k = xat R k from (ra_set hj).trans (if_neg e)]
  · rw [rowsI_no hl' (by simp; omega), if_neg (by omega), rowsI_no hl (by omega)]
/-- two rows change places -/
theorem rowsI_swap {us : List Value} {R : List (List Int)} (hl : us.length = R.length) {i j : Nat} (hi : i < R.length) (hj : j < R.length) : (rowsI us R).Perm (rowsI ((us.set i (vat us j)).set j (vat us i)) ((R.set i (xat R j)).set j (xat R i))) := by
  have e : rowsI ((us.set i (vat us j)).set j (vat us i)) ((R.set i (xat R j)).set j (xat R i)) = ((rowsI us R).set i ((rowsI us R)[j]'(by rw [rowsI_len hl]; exact hj))).set j ((rowsI us R)[i]'(by rw [rowsI_len hl]; exact hi)) := by
    have g1 : (rowsI us R)[j]'(by rw [rowsI_len hl]; exact hj) = row 2 (vat us j) (iv (xat R j)) := (List.getElem?_eq_some_iff.1 (rowsI_get hl hj)).2
    have g2 : (rowsI us R)[i]'(by rw [rowsI_len hl]; exact hi) = row 2 (vat us i) (iv (xat R i)) := (List.getElem?_eq_some_iff.1 (rowsI_get hl hi)).2
    rw [g1, g2]
    apply List.ext_getElem?
    intro k
    have hl' : ((us.set i (vat us j)).set j (vat us i)).length = ((R.set i (xat R j)).set j (xat R i)).length := by simpa using hl
    by_cases hk : k < R.length
    · rw [rowsI_get hl' (by simpa using hk), List.getElem?_set, List.getElem?_set, rowsI_get hl hk]
      rw [vat_set (by simp; omega), vat_set (by omega), show xat ((R.set i (xat R j)).set j (xat R i)) k = if j = k then xat R i else xat (R.set i (xat R j)) k from ra_set (by simpa using hj), show xat (R.set i (xat R j)) k = if i = k then xat R j else xat R k from ra_set hi]
      by_cases e : j = k
      · subst e; rw [if_pos rfl, if_pos rfl, if_pos rfl, if_pos (by rw [List.length_set, rowsI_len hl]; exact hj)]
      · rw [if_neg e, if_neg e, if_neg e]
        by_cases e2 : i = k
        · subst e2; rw [if_pos rfl, if_pos rfl, if_pos rfl, if_pos (by rw [rowsI_len hl]; exact hi)]
        · rw [if_neg e2, if_neg e2, if_neg e2]
    · rw [rowsI_no hl' (by simp; omega), List.getElem?_eq_none (by simp [rowsI_len hl]; omega)]
  rw [e]
  exact (List.set_set_perm (by rw [rowsI_len hl]; exact hi) (by rw [rowsI_len hl]; exact hj)).symm

theorem callF_red : ∀ (args : Array Value) (W : World), (callFunc 190 args).run Try.prog W = .ok (.enter 190 args) W :=
  fun args W => callFunc_go (P := Try.prog) Try.func190 (by kernel_rfl) (by kernel_rfl) args W
/-- whether a row is not 0 in column c -/
theorem redNz_c (v : Value) (r : List Int) (g c : Nat) (w : World) (hv : RdI w v r) (hc : w.cell? ⟨g, 0, none⟩ = some (.int .i64 c)) (hlt : c < r.length) :
    Calls Try.prog 190 #[v, .pointer (some ⟨g, 0, none⟩)] w (GivesB w (cf r c != 0)) := by
  have hcc := hv.cell c hlt
  have hx := hv.ixe (c : Int) c rfl hlt
  rw [show nth r c = cf r c from rfl] at hcc
  generalize cf r c = A at hcc
  go_enter Try.func190, Try.ntmps190
  go_wp2_with fail
  go_ret
  exact ⟨rfl, St.refl w⟩

end Go.Proofs.Ytcenabaklokhhaa
