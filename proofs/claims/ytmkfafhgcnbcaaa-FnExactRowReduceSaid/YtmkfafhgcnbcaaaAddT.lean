/- Walks: a multiple of a row is added to another one. -/
import Derived.Test.YtmkfafhgcnbcaaaDot
import Derived.Test.YtmkfafhgcnbcaaaPRed
namespace Go.Proofs.Ytmkfafhgcnbcaaa
set_option linter.unusedSimpArgs false
set_option linter.unusedVariables false
open Go.RowKit
attribute [local go_sem ↓] Go.wp_at_zero Go.wp_at_succ

set_option maxHeartbeats 4000000 in
set_option maxRecDepth 100000 in
theorem addTimes_c {B : Nat} {w0 : World} {L : List Ent} (p : Int) (D : Nat) (fs : List Int) (va : Value) (ua : List Value) (vs : Value) (us : List Value) (vm : Value) (um : List Value) (vi : Value) (vt vr : Value) (ts rw : List Int) (f : Int) (i : Nat) (w : World)
    (hS : St B w0 w L) (hi : L[i]? = some (row 2 vt (iv ts))) (hR : ∀ (w' : World) (ts' : List Int), St B w0 w' (L.set i (row 2 vt (iv ts'))) → RdI w' vr rw ∧ TB w' p D fs va ua vs us vm um vi)
    (hf : FA p D fs) (hl : rw.length = ts.length) (hti : In (p ^ D) ts) (hri : In (p ^ D) rw) (hfe : El p D f) :
    Calls Try.prog 120 #[tv p D va vs vm vi, vt, vr, .int .i64 f] w fun e w' => (∃ v, e = .returned v) ∧ St B w0 w' (L.set i (row 2 vt (iv (addT p D fs ts rw f)))) := by
  have hil : i < L.length := (List.getElem?_eq_some_iff.1 hi).1
  have hs0 : L.set i (row 2 vt (iv ts)) = L := by
    obtain ⟨hlt, heq⟩ := List.getElem?_eq_some_iff.1 hi
    rw [← heq, List.set_getElem_self]
  have hr0 := (hR w ts (by rw [hs0]; exact hS)).1
  have hlr := hr0.len
  have hle := hr0.le
  have hS0 := hS.newboxF 78 #[.int .i64 (qn p D), va, vs, vm, vi]
  have HF := Lib.hid hf
  have HR := Lib.hid hR
  have Hti := Lib.hid hti
  have Hri := Lib.hid hri
  have Hend := Lib.hid (show up ts rw.length (fun k => fsum p D (cf ts k) (fmul p D fs f (cf rw k)) 1) = addT p D fs ts rw f by rw [hl, up_end]; rfl)
  have Hset := Lib.hid (fun k (hk : k < ts.length) => up_set (r := ts) (k := k) (f := fun k => fsum p D (cf ts k) (fmul p D fs f (cf rw k)) 1) hk)
  obtain ⟨fn, rfl, hfq⟩ := hfe.nat
  have hp : 0 < p := by have := hf.p2; omega
  have Hp := Lib.hid hp
  rw [← hs0, ← up_0 ts (fun k => fsum p D (cf ts k) (fmul p D fs fn (cf rw k)) 1)] at hS0
  clear hf hti hri hR hr0 hS hs0 hp
  have H0 := Lib.hid hi; clear hi
  unfold tv
  go_enter Try.func120, Try.ntmps120
  go_wp2_with fail
  go_loopw [8, 9, 12, 38] (fun _ _ ii _ wr => ∃ k : Nat, k ≤ rw.length ∧ ii = .int .i64 k ∧ St B w0 wr (box 78 w.heap.size [.int .i64 (qn p D), va, vs, vm, vi] :: L.set i (row 2 vt (iv (up ts k fun k => fsum p D (cf ts k) (fmul p D fs fn (cf rw k)) 1))))) (fun _ _ ii _ _ => rw.length - (intOf ii).toNat)
  case atStart => exact ⟨0, by omega, rfl, hS0⟩
  case round =>
    obtain ⟨k, hk, rfl, hS⟩ := hrel
    have hRR := HR.out wr _ (hS.sub ((List.Sublist.refl _).cons _))
    have hix := hRR.1.ix
    by_cases hlt : k < rw.length
    · have hkt : k < ts.length := by omega
      have hku : k < (up ts k fun k => fsum p D (cf ts k) (fmul p D fs fn (cf rw k)) 1).length := by rw [up_len]; exact hkt
      have hat : (box 78 w.heap.size [.int .i64 (qn p D), va, vs, vm, vi] :: L.set i (row 2 vt (iv (up ts k fun k => fsum p D (cf ts k) (fmul p D fs fn (cf rw k)) 1))))[i + 1]? = some (row 2 vt (iv (up ts k fun k => fsum p D (cf ts k) (fmul p D fs fn (cf rw k)) 1))) := by
        rw [List.getElem?_cons_succ, List.getElem?_set_self hil]
      have hcr := hRR.1.cell k hlt
      have hct := (hS.rdI (i + 1) hat).cell k hku
      have hxt := (hS.rdI (i + 1) hat).ixe (k : Int) k rfl hku
      have u1 := hS.unfrozen (i + 1) hat (j := k) (by rw [iv_len]; exact hku)
      rw [show nth (up ts k fun k => fsum p D (cf ts k) (fmul p D fs fn (cf rw k)) 1) k = cf ts k from by have := cf_up (r := ts) (k := k) (f := fun k => fsum p D (cf ts k) (fmul p D fs fn (cf rw k)) 1) hkt; rw [if_neg (by omega)] at this; exact this] at hct
      rw [show nth rw k = cf rw k from rfl] at hcr
      obtain ⟨s, hs, hsq⟩ := (inEl Hp.out Hti.out k).nat
      obtain ⟨x, hx, hxq⟩ := (inEl Hp.out Hri.out k).nat
      obtain ⟨m, hm, hmq⟩ := (fmul_el HF.out fn x).nat
      obtain ⟨t1, t2, t3, t4⟩ := hRR.2.m.at2 hfq hxq
      obtain ⟨t5, t6, t7, t8⟩ := hRR.2.a.at2 hsq hmq
      rw [show fMul p D fs fn x = m from hm] at t4
      have Hn := Lib.hid (show fsum p D (cf ts k) (fmul p D fs fn (cf rw k)) 1 = fAdd p D s m by rw [hs, hx, hm]; rfl)
      rw [hs] at hct
      rw [hx] at hcr
      have b1 := hS.bcell 0 rfl 1 rfl
      have b3 := hS.bcell 0 rfl 3 rfl
      have hs1 := hS.store (i + 1) hat (j := k) (by rw [iv_len]; exact hku) (.int .i64 (fAdd p D s m))
      have hs2 := Lib.hid hs1.drew
      clear hs1 hs hx hm hRR
      go_wp2_with fail
      go_region
      all_goals
        go_wp2_with fail
        go_roundw
        case rel =>
          refine ⟨k + 1, by omega, by go_num, ?_⟩
          have h := hs2.out
          rw [iv_set, List.set_cons_succ, List.set_set] at h
          rw [← Hset.out k hkt, Hn.out]
          exact h
        case measure => simp [intOf]; omega
    · obtain rfl : k = rw.length := by omega
      go_wp2_with fail
      rw [Hend.out] at hS
      (try simp only [Exit.inBlock, Exit.then])
      refine bodyPost_end (results_none rfl _ _ _) rfl ?_
      exact ⟨⟨_, rfl⟩, hS.sub ((List.Sublist.refl _).cons _)⟩
end Go.Proofs.Ytmkfafhgcnbcaaa
