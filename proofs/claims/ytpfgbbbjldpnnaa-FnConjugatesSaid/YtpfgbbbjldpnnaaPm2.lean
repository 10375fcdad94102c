/- Walks: permutations that are made and drawn; composition, inverses. -/
import Derived.Test.YtpfgbbbjldpnnaaPm1
import Derived.Test.YtpfgbbbjldpnnaaAt
namespace Go.Proofs.Ytpfgbbbjldpnnaa
set_option linter.unusedSimpArgs false
set_option linter.unusedVariables false
open Go.RowKit
attribute [local go_sem ↓] Go.wp_at_zero Go.wp_at_succ

/-- a permutation of n numbers, in memory of its own -/
def MakesP (w : World) (n : Nat) (e : Ending) (w' : World) : Prop := ∃ v xs, e = .returned v ∧ xs.length = n ∧ IsP xs ∧ St w.heap.size w w' [row 2 v (iv xs)]
set_option maxHeartbeats 2000000 in
set_option maxRecDepth 100000 in
theorem b10Perm_c (w : World) (cm : Value) (ms : List UInt8) (n : Nat) (hm : RdB w cm ms) (hn : n ≤ 1000) : Calls Try.prog 14 #[cm, .int .i64 n] w (MakesP w n) := by
  have hS0 : St w.heap.size w (w.alloc (.cells #[] 2)) [row 2 (.slice (some ⟨w.heap.size, 0, none⟩) 0 0) (iv [])] := (St.refl w).new 2 #[] (by simp)
  go_enter Try.func14, Try.ntmps14
  go_wp2_with fail
  go_loopw [5, 6] (fun o x wr => ∃ k : Nat, k ≤ n ∧ x = .int .i64 k ∧ St w.heap.size w wr [row 2 o (iv (iot k))]) (fun _ x _ => n - (intOf x).toNat)
  case atStart => exact ⟨0, by omega, rfl, hS0⟩
  case round =>
    obtain ⟨k, hk, rfl, hS⟩ := hrel
    have hkl := iot_len k
    by_cases hlt : k < n
    · go_wp2_with (at_builtin; refine appI hS 0 rfl (by omega) rfl _ _ rfl rfl _ rfl ?_; intro v2 w2 hS2)
      go_roundw
      case rel => exact ⟨k + 1, by omega, by go_num, by rw [iot_succ]; exact hS2⟩
      case measure => simp [intOf]; omega
    · obtain rfl : k = n := by omega
      go_wp2_with fail
      go_loopw [7, 8, 9] (fun x _ _ wr => ∃ (j : Nat) (xs : List Int), j ≤ k ∧ x = .int .i64 ((j : Int) - 1) ∧ Hid (xs.length = k) ∧ Hid (IsP xs) ∧ St w.heap.size w wr [row 2 u5 (iv xs)]) (fun x _ _ _ => (intOf x).toNat)
      case atStart => exact ⟨k, iot k, by omega, by go_num, iot_len k, iot_isP k, hS⟩
      case round =>
        clear hS
        obtain ⟨j, xs, hj, rfl, hl, hp, hS⟩ := hrel
        by_cases h2 : 2 ≤ j
        · go_wp2_with fail
          refine (b10At_c _ cm ms ((j : Int) - 1) j (hS.oldB hm) (by omega) (by omega) (by omega)).mono ?_
          rintro e w2 ⟨x, rfl, x0, x1, rfl⟩
          obtain ⟨y, rfl⟩ := Int.eq_ofNat_of_zero_le x0
          have hyk : y < k := by omega
          have hr := hS.rdI 0 rfl
          have hi1 := hr.ixe ((j : Int) - 1) (j - 1) (by omega) (by rw [hl.out]; omega)
          have hi2 := hr.ixe (y : Int) y rfl (by rw [hl.out]; omega)
          have hc1 := hr.cell (j - 1) (by rw [hl.out]; omega)
          have hc2 := hr.cell y (by rw [hl.out]; omega)
          have Hsw := Lib.hid (hp.out.swp (i := j - 1) (k := y) (by rw [hl.out]; omega) (by rw [hl.out]; omega))
          clear hr x1 x0
          go_wp2_with (first
            | (refine stoI hS2 0 rfl y (by rw [List.length_set, hl.out]; exact hyk) rfl _ _ rfl rfl _ rfl ?_; intro w3 hS3)
            | (refine stoI hS 0 rfl (j - 1) (by rw [hl.out]; omega) rfl _ _ rfl rfl _ rfl ?_; intro w2 hS2))
          go_roundw
          case rel => exact ⟨j - 1, swp2 xs (j - 1) y, by omega, by go_num, by unfold Hid; rw [swp2_len]; exact hl.out, Hsw.out, hS3⟩
          case measure => simp [intOf]; omega
        · go_wp2_with fail
          go_ret
          exact ⟨_, xs, rfl, hl.out, hp.out, hS⟩

set_option maxHeartbeats 1000000 in
set_option maxRecDepth 100000 in
theorem l04One_c (n : Nat) (w : World) (hn : n ≤ 1000) : Calls Try.prog 106 #[.int .i64 n] w (MakesI w (iot n)) := by
  have hS0 : St w.heap.size w (w.alloc (.cells #[] 2)) [row 2 (.slice (some ⟨w.heap.size, 0, none⟩) 0 0) (iv [])] := (St.refl w).new 2 #[] (by simp)
  go_enter Try.func106, Try.ntmps106
  go_wp2_with fail
  go_loopw [3, 4] (fun o x wr => ∃ k : Nat, k ≤ n ∧ x = .int .i64 k ∧ St w.heap.size w wr [row 2 o (iv (iot k))]) (fun _ x _ => n - (intOf x).toNat)
  case atStart => exact ⟨0, by omega, rfl, hS0⟩
  case round =>
    obtain ⟨k, hk, rfl, hS⟩ := hrel
    have hkl := iot_len k
    by_cases hlt : k < n
    · go_wp2_with (at_builtin; refine appI hS 0 rfl (by omega) rfl _ _ rfl rfl _ rfl ?_; intro v2 w2 hS2)
      go_roundw
      case rel => exact ⟨k + 1, by omega, by go_num, by rw [iot_succ]; exact hS2⟩
      case measure => simp [intOf]; omega
    · obtain rfl : k = n := by omega
      go_wp2_with fail
      go_ret
      exact ⟨_, rfl, hS⟩
/-- a permutation of n numbers, and the source goes on -/
def PermS (w0 : World) (cv : Value) (g K n : Nat) (L : List Ent) (e : Ending) (w' : World) : Prop := ∃ v xs, e = .returned v ∧ xs.length = n ∧ IsP xs ∧ Src w0 w' cv g K (row 2 v (iv xs) :: L)
set_option maxHeartbeats 2000000 in
set_option maxRecDepth 100000 in
theorem l04DrawPerm_c (w0 w : World) (cv : Value) (bs : List UInt8) (g K : Nat) (L : List Ent) (n : Nat) (hb : RdB w0 cv bs) (h : Src w0 w cv g K L) (hK : K < 100000000000) (hn : n ≤ 1000) :
    Calls Try.prog 71 #[.pointer (some ⟨g, 0, none⟩), .int .i64 n] w (PermS w0 cv g (K + 2 * n) n L) := by
  go_enter Try.func71, Try.ntmps71
  go_wp2_with fail
  refine (l04One_c n w hn).mono ?_
  rintro e w1 ⟨u, rfl, h1⟩
  have h2 := (h.call h1).perm List.perm_append_comm
  simp only [List.cons_append, List.nil_append] at h2
  clear h h1
  go_wp2_with fail
  go_loopw [6, 7, 8] (fun x _ _ wr => ∃ (j : Nat) (xs : List Int), j ≤ n ∧ x = .int .i64 ((j : Int) - 1) ∧ Hid (xs.length = n) ∧ Hid (IsP xs) ∧ Src w0 wr cv g (K + 2 * (n - j)) (row 2 u (iv xs) :: L)) (fun x _ _ _ => (intOf x).toNat)
  case atStart => exact ⟨n, iot n, by omega, by go_num, iot_len n, iot_isP n, h2.mono (by omega)⟩
  case round =>
    clear h2
    obtain ⟨j, xs, hj, rfl, hl, hp, hs⟩ := hrel
    by_cases h2 : 2 ≤ j
    · go_wp2_with fail
      refine (pick_c w0 wr cv bs g _ _ _ hb hs (by omega)).mono ?_
      rintro e w2 ⟨x, x0, x1, rfl, h3⟩
      obtain ⟨y, rfl⟩ := Int.eq_ofNat_of_zero_le x0
      have hyj : y < j := by omega
      have hyk : y < n := by omega
      have hr := h3.rdI 0 rfl
      have hi1 := hr.ixe ((j : Int) - 1) (j - 1) (by omega) (by rw [hl.out]; omega)
      have hi2 := hr.ixe (y : Int) y rfl (by rw [hl.out]; omega)
      have hc1 := hr.cell (j - 1) (by rw [hl.out]; omega)
      have hc2 := hr.cell y (by rw [hl.out]; omega)
      have Hsw := Lib.hid (hp.out.swp (i := j - 1) (k := y) (by rw [hl.out]; omega) (by rw [hl.out]; omega))
      obtain ⟨pp, ss, s0, s1, hS⟩ := h3
      clear hr x1 x0 hs
      go_wp2_with (first
        | (refine stoI hS2 1 rfl y (by rw [List.length_set, hl.out]; exact hyk) rfl _ _ rfl rfl _ rfl ?_; intro w3 hS3)
        | (refine stoI hS 1 rfl (j - 1) (by rw [hl.out]; omega) rfl _ _ rfl rfl _ rfl ?_; intro w2 hS2))
      go_roundw
      case rel => exact ⟨j - 1, swp2 xs (j - 1) y, by omega, by go_num, by unfold Hid; rw [swp2_len]; exact hl.out, Hsw.out, pp, ss, s0, by omega, hS3⟩
      case measure => simp [intOf]; omega
    · go_wp2_with fail
      go_ret
      exact ⟨_, xs, rfl, hl.out, hp.out, hs.mono (by omega)⟩
/-- some list of at most m numbers, and the source goes on -/
def ListS (w0 : World) (cv : Value) (g K m : Nat) (L : List Ent) (e : Ending) (w' : World) : Prop := ∃ v xs, e = .returned v ∧ xs.length ≤ m ∧ Src w0 w' cv g K (row 2 v (iv xs) :: L)
theorem deg_ok {x : Int} (h : x ∈ ([0, 1, 2, 3, 5, 6, 8, 12, 13, 32] : List Int)) : ∃ n : Nat, x = n ∧ n ≤ 32 := by
  have : ([0, 1, 2, 3, 5, 6, 8, 12, 13, 32] : List Int).all (fun x => decide (0 ≤ x) && decide (x ≤ 32)) = true := by decide
  have := List.all_eq_true.1 this x h
  simp only [Bool.and_eq_true, decide_eq_true_eq] at this
  exact ⟨x.toNat, by omega, by omega⟩
set_option maxHeartbeats 4000000 in
set_option maxRecDepth 100000 in
theorem l04Draw_c (w0 w : World) (cv : Value) (bs : List UInt8) (g K : Nat) (L : List Ent) (hb : RdB w0 cv bs) (h : Src w0 w cv g K L) (hK : K < 10000000000) :
    Calls Try.prog 54 #[.pointer (some ⟨g, 0, none⟩)] w (ListS w0 cv g (K + 100) 33 L) := by
  go_enter Try.func54, Try.ntmps54
  go_wp2_with fail
  refine (among_lit [0, 1, 2, 3, 5, 6, 8, 12, 13, 32] w0 w cv bs g _ L hb h (by decide) (by omega)).mono ?_
  rintro e w1 ⟨x, hx, rfl, h1⟩
  obtain ⟨n, rfl, hn⟩ := deg_ok hx
  clear hx h
  go_wp2_with fail
  refine (l04DrawPerm_c w0 w1 cv bs g _ L n hb h1 (by omega) (by omega)).mono ?_
  rintro e w2 ⟨u, xs, rfl, hl, hp, h2⟩
  have Hl := Lib.hid hl
  clear hl hp h1
  have hln := (h2.rdI 0 rfl).len
  rw [Hl.out] at hln
  go_wp2_with fail
  refine (pick_c w0 w2 cv bs g _ _ 8 hb h2 (by omega)).mono ?_
  rintro e w3 ⟨x, x0, x1, rfl, h3⟩
  by_cases e0 : x = 0
  · subst e0
    by_cases hn0 : 0 < n
    · go_wp2_with fail
      refine (pick_c w0 w3 cv bs g _ _ n hb h3 (by omega)).mono ?_
      rintro e w4 ⟨y, y0, y1, rfl, h4⟩
      obtain ⟨y, rfl⟩ := Int.eq_ofNat_of_zero_le y0
      have hy : y < n := by omega
      go_wp2_with fail
      refine (among_lit [-1, 0, 1, 33, (n : Int)] w0 w4 cv bs g _ _ hb h4 (by simp) (by omega)).mono ?_
      rintro e w5 ⟨z, _, rfl, h5⟩
      have hi2 := (h5.rdI 0 rfl).ixe (y : Int) y rfl (by rw [Hl.out]; omega)
      obtain ⟨pp, ss, s0, s1, hS⟩ := h5
      go_wp2_with (refine stoI hS 1 rfl y (by rw [Hl.out]; exact hy) rfl _ _ rfl rfl _ rfl ?_; intro w6 hS6)
      go_ret
      exact ⟨_, _, rfl, by rw [List.length_set, Hl.out]; omega, pp, ss, s0, by omega, hS6⟩
    · go_wp2_with fail
      go_ret
      exact ⟨_, xs, rfl, by rw [Hl.out]; omega, h3.mono (by omega)⟩
  · have f0 := eq_f e0
    by_cases e1 : x = 1
    · subst e1
      go_wp2_with fail
      refine (one_c w0 w3 cv bs g _ _ 4 hb h3 (by omega)).mono ?_
      rintro e w4 ⟨b, rfl, h4⟩
      cases b
      · go_wp2_with fail
        go_ret
        exact ⟨_, xs, rfl, by rw [Hl.out]; omega, h4.mono (by omega)⟩
      · obtain ⟨pp, ss, s0, s1, hS⟩ := h4
        go_wp2_with (at_builtin; refine appI hS 1 rfl (by rw [Hl.out]; omega) rfl _ _ rfl rfl _ rfl ?_; intro v6 w6 hS6)
        go_ret
        exact ⟨_, _, rfl, by rw [List.length_append, Hl.out]; simp; omega, pp, ss, s0, by omega, hS6⟩
    · have f1 := eq_f e1
      go_wp2_with fail
      go_ret
      exact ⟨_, xs, rfl, by rw [Hl.out]; omega, h3.mono (by omega)⟩
end Go.Proofs.Ytpfgbbbjldpnnaa
