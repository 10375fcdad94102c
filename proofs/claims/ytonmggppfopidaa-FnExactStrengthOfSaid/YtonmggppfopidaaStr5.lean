/- Walks: StrengthIndex and StrengthOf of the reference. -/
import Derived.Test.YtonmggppfopidaaStr4
namespace Go.Proofs.Ytonmggppfopidaa
set_option linter.unusedSimpArgs false
set_option linter.unusedVariables false
open Go.RowKit

set_option maxHeartbeats 4000000 in
set_option maxRecDepth 100000 in
theorem sStrengthIndex_c (lv co t : Int) (v : Value) (us : List Value) (rows : List (List Int)) (w : World) (hv : RII w v us rows) :
    Calls Try.prog 61 #[av lv co v, .int .i64 t] w (Gives2I w (strI lv co rows t) (strC lv co rows t)) := by
  have hS0 := (St.refl w).newboxF 45 #[.int .i64 lv, .int .i64 co, v]
  have HV := Lib.hid (l16Ok_c lv co w.heap.size v us rows _ (hS0.oldII hv) ⟨hS0.bcell 0 rfl 0 rfl, hS0.bcell 0 rfl 1 rfl, hS0.bcell 0 rfl 2 rfl⟩)
  unfold av
  go_enter Try.func61, Try.ntmps61
  go_wp2_with fail
  refine HV.out.mono ?_
  rintro e w1 ⟨rfl, h1⟩
  have hS1 := hS0.call0 h1
  clear hS0 h1 HV
  have a0 := hS1.bcell 0 rfl 0 rfl
  have a1 := hS1.bcell 0 rfl 1 rfl
  have a2 := hS1.bcell 0 rfl 2 rfl
  cases hok : okA lv co rows
  · have H := Lib.hid (strC_1 (t := t) hok)
    go_wp2_with fail
    go_ret2
    exact ⟨ret_2i H.out.2.symm H.out.1.symm, hS1.out⟩
  · have Hok := Lib.hid hok
    clear hok
    cases ht : inB t 1 co
    · have H := Lib.hid (strC_2 Hok.out ht)
      go_wp2_with (go_at_call 93; refine (l00In_c _ _ _ _).mono ?_; rintro e w3 ⟨rfl, rfl⟩)
      go_ret2
      exact ⟨ret_2i H.out.2.symm H.out.1.symm, hS1.out⟩
    · have H := Lib.hid (strC_0 Hok.out ht)
      obtain ⟨t1, t2⟩ : 1 ≤ t ∧ t ≤ co := by simpa [inB] using ht
      obtain ⟨hsh, hlen, hrow⟩ := okA_t Hok.out
      obtain ⟨l1, l2, k1, k2⟩ := shapeB_t hsh
      have ec : Hid (((co.toNat : Nat) : Int) = co) := by unfold Hid; omega
      have et : Hid (((t.toNat : Nat) : Int) = t) := by unfold Hid; omega
      have hcall := Lib.hid (l16Index_c lv co.toNat w.heap.size v us rows t.toNat w1 (hS1.oldII hv) (by rw [ec.out]; exact ⟨a0, a1, a2⟩) l1 l2 (by omega) (by omega) (by omega) (fun row hr => by have := hrow row hr; rw [Int.toNat_of_nonneg (by omega)]; exact this) hlen)
      rw [ec.out, et.out] at hcall
      clear hrow hsh
      go_wp2_with (go_at_call 93; refine (l00In_c _ _ _ _).mono ?_; rintro e w3 ⟨rfl, rfl⟩)
      refine hcall.out.mono ?_
      rintro e w2 ⟨rfl, h2⟩
      have hS2 := hS1.call0 h2
      go_wp2_with fail
      go_ret2
      exact ⟨ret_2i H.out.2.symm H.out.1.symm, hS2.out⟩

set_option maxHeartbeats 4000000 in
set_option maxRecDepth 100000 in
theorem sStrengthOf_c (lv co : Int) (v : Value) (us : List Value) (rows : List (List Int)) (w : World) (hv : RII w v us rows) :
    Calls Try.prog 63 #[av lv co v] w (GivesI w (strO lv co rows)) := by
  have hS0 := (St.refl w).newboxF 45 #[.int .i64 lv, .int .i64 co, v]
  have HV := Lib.hid (l16Ok_c lv co w.heap.size v us rows _ (hS0.oldII hv) ⟨hS0.bcell 0 rfl 0 rfl, hS0.bcell 0 rfl 1 rfl, hS0.bcell 0 rfl 2 rfl⟩)
  unfold av
  go_enter Try.func63, Try.ntmps63
  go_wp2_with fail
  refine HV.out.mono ?_
  rintro e w1 ⟨rfl, h1⟩
  have hS1 := hS0.call0 h1
  clear hS0 h1 HV
  have a1 := hS1.bcell 0 rfl 1 rfl
  cases hok : okA lv co rows
  · have H := Lib.hid (show strO lv co rows = 0 by rw [strO, if_neg (by rw [hok]; simp)])
    go_wp2_with fail
    go_ret
    exact ⟨ret_i64 H.out.symm, hS1.out⟩
  · have H := Lib.hid (show strO lv co rows = strF lv co rows co.toNat by rw [strO, if_pos hok])
    obtain ⟨hsh, hlen, hrow⟩ := okA_t hok
    obtain ⟨l1, l2, k1, k2⟩ := shapeB_t hsh
    have ec : Hid (((co.toNat : Nat) : Int) = co) := by unfold Hid; omega
    have hcall := fun (t : Nat) (h : 1 ≤ t ∧ t ≤ co.toNat) W hv hb => Lib.hid (l16Index_c lv co.toNat w.heap.size v us rows t W hv hb l1 l2 (by omega) h.1 h.2 (fun row hr => by have := hrow row hr; rw [Int.toNat_of_nonneg (by omega)]; exact this) hlen)
    rw [ec.out] at hcall
    clear hrow hsh hok
    go_wp2_with fail
    go_loopw [3] (fun s wr => ∃ t : Nat, (t : Int) ≤ co ∧ s = .int .i64 t ∧ Hid (strO lv co rows = strF lv co rows t) ∧ St w.heap.size w wr [box 45 w.heap.size [.int .i64 lv, .int .i64 co, v]]) (fun s _ => (intOf s).toNat)
    case atStart => exact ⟨co.toNat, by omega, by rw [ec.out], H, hS1⟩
    case round =>
      obtain ⟨t, ht, rfl, hI, hS⟩ := hrel
      cases t with
      | zero =>
        go_wp2_with fail
        go_ret
        exact ⟨ret_i64 (by rw [hI.out]; rfl), hS.out⟩
      | succ t =>
        have hc := hcall (t + 1) (by omega) wr (hS.oldII hv) ⟨hS.bcell 0 rfl 0 rfl, hS.bcell 0 rfl 1 rfl, hS.bcell 0 rfl 2 rfl⟩
        clear hcall
        go_wp2_with fail
        refine hc.out.mono ?_
        rintro e w2 ⟨rfl, h2⟩
        have hS2 := hS.call0 h2
        by_cases hp : 0 < strN lv co rows (t + 1)
        · go_wp2_with fail
          go_ret
          exact ⟨ret_i64 (by rw [hI.out, strF, if_pos hp]; push_cast; rfl), hS2.out⟩
        · have HP := Lib.hid (show strF lv co rows (t + 1) = strF lv co rows t by rw [strF, if_neg hp])
          go_wp2_with fail
          go_roundw
          case rel => exact ⟨t, by omega, by first | rfl | (congr 1; push_cast; omega), by rw [Hid, hI.out, HP.out], hS2⟩
          case measure => simp [intOf]
end Go.Proofs.Ytonmggppfopidaa
