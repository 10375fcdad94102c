/- Walks: rows and columns exchanged. -/
import Derived.Test.YtmkfafhgcnbcaaaVMat3
namespace Go.Proofs.Ytmkfafhgcnbcaaa
set_option linter.unusedSimpArgs false
set_option linter.unusedVariables false
open Go.RowKit
attribute [local go_sem ↓] Go.wp_at_zero Go.wp_at_succ

def colOf (m : List (List Int)) (c : Nat) : List Int := m.map fun r => nth r c
/-- the columns, i rows being taken, and k places of the next one -/
def trP (m : List (List Int)) (n i k : Nat) : List (List Int) := (List.range n).map fun c => colOf (m.take (if c < k then i + 1 else i)) c
def trL (m : List (List Int)) (n : Nat) : List (List Int) := (List.range n).map fun c => colOf m c
theorem trP_len (m : List (List Int)) (n i k : Nat) : (trP m n i k).length = n := by simp [trP]
theorem trL_len (m : List (List Int)) (n : Nat) : (trL m n).length = n := by simp [trL]
theorem xat_trP {m : List (List Int)} {n i k c : Nat} (h : c < n) : xat (trP m n i k) c = colOf (m.take (if c < k then i + 1 else i)) c := by simp [xat, trP, h]
theorem trP_0 (m : List (List Int)) (n : Nat) : trP m n 0 0 = List.replicate n [] := by
  apply List.ext_getElem
  · simp [trP]
  · intro c h1 h2; simp [trP, colOf]
theorem trP_row (m : List (List Int)) (n i : Nat) : trP m n i n = trP m n (i + 1) 0 := by
  apply List.ext_getElem
  · simp [trP]
  · intro c h1 h2
    have : c < n := by simpa [trP] using h1
    simp [trP, this]
theorem trP_end (m : List (List Int)) (n : Nat) : trP m n m.length 0 = trL m n := by simp [trP, trL]
theorem trP_step {m : List (List Int)} {n i k : Nat} (hi : i < m.length) (hk : k < n) : (trP m n i k).set k (xat (trP m n i k) k ++ [nth (xat m i) k]) = trP m n i (k + 1) := by
  apply List.ext_getElem
  · simp [trP]
  · intro c h1 h2
    have hc : c < n := by simpa [trP] using h2
    rw [List.getElem_set]
    by_cases e : k = c
    · subst e
      rw [if_pos rfl, xat_trP hk, if_neg (by omega)]
      simp only [trP, List.getElem_map, List.getElem_range]
      rw [if_pos (by omega), take_xat hi]; simp [colOf]
    · rw [if_neg e]
      simp only [trP, List.getElem_map, List.getElem_range]
      by_cases h : c < k
      · rw [if_pos h, if_pos (by omega)]
      · rw [if_neg h, if_neg (by omega)]

theorem St.nilRows {B : Nat} {w0 w : World} {L : List Ent} (h : St B w0 w L) : ∀ n : Nat, St B w0 w (L ++ rowsI (nils n) (List.replicate n []))
  | 0 => by simpa [nils, rowsI] using h
  | n + 1 => by
    have ih := (St.nilRows h n).newnil 2
    refine ih.perm ?_
    have e : rowsI (nils (n + 1)) (List.replicate (n + 1) []) = row 2 (.slice none 0 0) [] :: rowsI (nils n) (List.replicate n []) := by
      simp [nils, rowsI, List.replicate_succ, iv]
    rw [e]
    refine (List.perm_append_comm).trans ?_
    exact (List.perm_middle (a := row 2 (.slice none 0 0) []) (l₁ := L) (l₂ := rowsI (nils n) (List.replicate n []))).symm
theorem own2_put {v : Value} {us : List Value} {xss : List (List Int)} (hl : us.length = xss.length) {k : Nat} (hk : k < xss.length) (u : Value) (ys : List Int) :
    ((own2 v us xss).set (k + 1) (row 2 u (iv ys))).set 0 (row 22 v (us.set k u)) = own2 v (us.set k u) (xss.set k ys) := by
  simp only [own2, List.set_cons_succ, List.set_cons_zero]
  congr 1
  unfold rowsI
  apply List.ext_getElem
  · simp [hl]
  · intro j h1 h2
    rw [List.getElem_set, List.getElem_zipWith, List.getElem_zipWith, List.getElem_set, List.getElem_set]
    by_cases e : k = j
    · subst e; simp
    · simp [e]

set_option maxHeartbeats 4000000 in
set_option maxRecDepth 100000 in
theorem columnsOf_c (vm : Value) (us : List Value) (m : List (List Int)) (n : Nat) (w : World) (hm : RII w vm us m) (hn : n ≤ 4096) (hml : m.length ≤ 4096) (hrect : ∀ r ∈ m, r.length = n) :
    Calls Try.prog 74 #[vm, .int .i64 n] w (MakesII w (trL m n)) := by
  have hlm := hm.len
  have him := hm.ix
  have Hrect := Lib.hid hrect
  clear hrect
  go_enter Try.func74, Try.ntmps74
  go_wp2_with (at_make; refine mkII (St.refl w) rfl _ _ rfl _ _ n rfl rfl (by omega) ?_; intro v1 w1 hS1)
  have hS1 := hS1.nilRows n
  rw [← trP_0 m n] at hS1
  go_wp2_with fail
  go_loopw [7, 8, 9, 14, 20] (fun _ _ _ i _ wr => ∃ (j : Nat) (ws : List Value), j ≤ m.length ∧ i = .int .i64 j ∧ Hid (ws.length = n) ∧ St w.heap.size w wr (own2 v1 ws (trP m n j 0))) (fun _ _ _ i _ _ => m.length - (intOf i).toNat)
  case atStart => exact ⟨0, nils n, by omega, rfl, by simp [Hid, nils], hS1⟩
  case round =>
    obtain ⟨j, ws, hj, rfl, hw, hS⟩ := hrel
    by_cases hlt : j < m.length
    · have hcj := (hS.oldII hm).cell j hlt
      have hrj := Lib.hid (hm.row j hlt)
      have hnl := Lib.hid (Hrect.out _ (xat_mem hlt))
      have hlr := hrj.out.len
      have hir := hrj.out.ix
      rw [hnl.out] at hlr hir
      go_wp2_with fail
      go_loopw [8, 9, 20] (fun _ _ c wx => ∃ (k : Nat) (ws : List Value), k ≤ n ∧ c = .int .i64 k ∧ Hid (ws.length = n) ∧ St w.heap.size w wx (own2 v1 ws (trP m n j k))) (fun _ _ c _ => n - (intOf c).toNat)
      case atStart => exact ⟨0, ws, by omega, rfl, hw, hS⟩
      case round =>
        obtain ⟨k, ws, hk, rfl, hw, hS⟩ := hrel
        by_cases hkn : k < n
        · have hck := (hS.oldI hrj.out).cell k (by rw [hnl.out]; exact hkn)
          have hlw : Hid (ws.length = (trP m n j k).length) := by unfold Hid; rw [hw.out, trP_len]
          have hkl := Lib.hid (show k < (trP m n j k).length by rw [trP_len]; exact hkn)
          have hr0 := hS.rii hlw.out
          have hxk := hr0.ixe (k : Int) k rfl hkl.out
          have hcv := hr0.cell k hkl.out
          have hat : Hid ((own2 v1 ws (trP m n j k))[k + 1]? = some (row 2 (vat ws k) (iv (xat (trP m n j k) k)))) := by
            unfold Hid; rw [own2, List.getElem?_cons_succ]; exact rowsI_get hlw.out hkl.out
          have hxl : Hid ((xat (trP m n j k) k).length < 4294967296) := by unfold Hid; rw [xat_trP hkn]; simp [colOf]; omega
          have hstep := Lib.hid (trP_step (n := n) hlt hkn)
          have hput := fun u => Lib.hid (own2_put (v := v1) hlw.out hkl.out u (xat (trP m n j k) k ++ [nth (xat m j) k]))
          have hkw := Lib.hid (show k < ws.length by rw [hw.out]; exact hkn)
          clear hr0
          go_wp2_with (first
            | (at_builtin; refine appI hS (k + 1) hat.out hxl.out rfl _ _ rfl rfl _ rfl ?_; intro v3 w3 hS3; have hsl := (hS3.rd (k + 1) (by rw [List.getElem?_set_self (by have := List.getElem?_eq_some_iff.1 hat.out; exact this.1)])).sl)
            | (refine stoII hS3 0 rfl k hkw.out rfl (.tmp 34) (.tmp 33) rfl rfl v3 hsl.cells hsl.one rfl ?_; intro w4 hS4))
          go_roundw
          case rel =>
            refine ⟨k + 1, ws.set k v3, by omega, by go_num, by simp [Hid, hw.out], ?_⟩
            rw [(hput v3).out, hstep.out] at hS4
            exact hS4
          case measure => simp [intOf]; omega
        · obtain rfl : k = n := by omega
          go_wp2_with fail
          go_roundw
          case rel => exact ⟨j + 1, ws, by omega, by go_num, hw, by rw [← trP_row]; exact hS⟩
          case measure => simp [intOf]; omega
    · obtain rfl : j = m.length := by omega
      rw [trP_end] at hS
      go_wp2_with fail
      go_ret
      exact ⟨_, ws, rfl, by rw [hw.out, trL_len], hS⟩
end Go.Proofs.Ytmkfafhgcnbcaaa
