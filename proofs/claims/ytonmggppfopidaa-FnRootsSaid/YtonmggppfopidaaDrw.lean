/- Walks: what the laws on numbers draw. -/
import Derived.Test.YtonmggppfopidaaSrc
import Derived.Test.YtonmggppfopidaaNum
namespace Go.Proofs.Ytonmggppfopidaa
set_option linter.unusedSimpArgs false
set_option linter.unusedVariables false
open Go.RowKit

theorem Src.lit {w0 w : World} {cv : Value} {g K : Nat} {L : List Ent} (h : Src w0 w cv g K L) (xs : List Int) (hm : xs.length ≤ 1000) :
    Src w0 (w.alloc (.cells (iv xs).toArray 2)) cv g K (row 2 (.slice (some ⟨w.heap.size, 0, none⟩) xs.length xs.length) (iv xs) :: L) := by
  obtain ⟨p, s, h0, h1, hS⟩ := h
  refine ⟨p, s, h0, h1, ?_⟩
  have h2 := hS.new 2 (iv xs).toArray (by simp [iv_len]; unfold maxLen; omega)
  simp only [List.size_toArray, iv_len] at h2
  refine h2.perm ?_
  refine List.Perm.trans (List.perm_append_comm) ?_
  simp only [List.cons_append, List.nil_append]
  exact List.Perm.swap _ _ _

/-- one of some numbers that are written out -/
theorem among_lit (xs : List Int) (w0 w : World) (cv : Value) (bs : List UInt8) (g K : Nat) (L : List Ent) (hb : RdB w0 cv bs) (h : Src w0 w cv g K L) (hne : 0 < xs.length ∧ xs.length ≤ 1000)
    (hK : K < 1000000000000) :
    Calls Try.prog 84 #[.pointer (some ⟨g, 0, none⟩), .slice (some ⟨w.heap.size, 0, none⟩) xs.length xs.length] (w.alloc (.cells (iv xs).toArray 2)) (AmongPost xs fun w' => Src w0 w' cv g (K + 2) L) :=
  among_c w0 _ cv bs g K L _ xs hb (h.lit xs hne.2) hne.1 hK

/-- some number, and the source goes on -/
def Some1 (R : World → Prop) (e : Ending) (w' : World) : Prop := ∃ x : Int, e = .returned (.int .i64 x) ∧ R w'
def Some2 (R : World → Prop) (e : Ending) (w' : World) : Prop := ∃ x y : Int, e = .returned (.tuple #[.int .i64 x, .int .i64 y]) ∧ R w'
def Some4 (R : World → Prop) (e : Ending) (w' : World) : Prop := ∃ x y z u : Int, e = .returned (.tuple #[.int .i64 x, .int .i64 y, .int .i64 z, .int .i64 u]) ∧ R w'

theorem b10Long_c (w : World) (cv : Value) (bs : List UInt8) (hb : RdB w cv bs) :
    Calls Try.prog 16 #[cv] w fun e w' => e = .returned (.bool (decide (1048576 < bs.length))) ∧ w = w' := by
  have hln := hb.len
  go_enter Try.func16, Try.ntmps16
  go_wp2_with fail
  go_ret
  exact ⟨ret_bool (by simp; omega), rfl⟩

set_option maxHeartbeats 2000000 in
set_option maxRecDepth 100000 in
theorem l02DrawNumber_c (w0 w : World) (cv : Value) (bs : List UInt8) (g K : Nat) (L : List Ent) (hb : RdB w0 cv bs) (h : Src w0 w cv g K L) (hK : K < 100000000000) :
    Calls Try.prog 66 #[.pointer (some ⟨g, 0, none⟩)] w (Some1 fun w' => Src w0 w' cv g (K + 30) L) := by
  go_enter Try.func66, Try.ntmps66
  go_wp2_with fail
  refine (pick_c w0 w cv bs g K L 6 hb h (by omega)).mono ?_
  rintro e w1 ⟨x, hx0, hx1, rfl, h1⟩
  by_cases e0 : x = 0
  · subst e0
    go_wp2_with fail
    refine (among_lit [0, 1, -1, 1000000, 1000001, 999983, 524288, 531441, 4] w0 w1 cv bs g _ L hb h1 (by decide) (by omega)).mono ?_
    rintro e w2 ⟨y, _, rfl, h2⟩
    go_wp2_with fail
    go_ret
    exact ⟨_, rfl, h2.mono (by omega)⟩
  · have f0 := eq_f e0
    by_cases e1 : x = 1
    · subst e1
      go_wp2_with fail
      refine (pick_c w0 w1 cv bs g _ L 6 hb h1 (by omega)).mono ?_
      rintro e w2 ⟨k, hk0, hk1, rfl, h2⟩
      go_wp2_with fail
      go_loopw [3, 4] (fun a c wr => ∃ (m : Int) (q : Nat), a = .int .i64 m ∧ c = .int .i64 q ∧ q ≤ 5 ∧ Src w0 wr cv g (K + 14 - 2 * q) L) (fun _ c _ => (intOf c).toNat)
      case atStart =>
        obtain ⟨q, rfl⟩ := Int.eq_ofNat_of_zero_le hk0
        exact ⟨1, q, rfl, rfl, by omega, h2.mono (by omega)⟩
      case round =>
        obtain ⟨m, q, rfl, rfl, hq, hs⟩ := hrel
        by_cases hq0 : 0 < q
        · go_wp2_with fail
          refine (among_lit [2, 3, 5, 7] w0 wr cv bs g _ L hb hs (by decide) (by omega)).mono ?_
          rintro e w3 ⟨y, _, rfl, h3⟩
          go_wp2_with fail
          go_roundw
          case rel => exact ⟨_, q - 1, rfl, by go_num, by omega, h3.mono (by omega)⟩
          case measure => simp [intOf]; omega
        · go_wp2_with fail
          go_ret
          exact ⟨_, rfl, hs.mono (by omega)⟩
    · have f1 := eq_f e1
      by_cases e2 : x = 2
      · subst e2
        go_wp2_with fail
        refine (among_lit [2, 3, 5, 7, 11] w0 w1 cv bs g _ L hb h1 (by decide) (by omega)).mono ?_
        rintro e w2 ⟨y, _, rfl, h2⟩
        go_wp2_with fail
        refine (pick_c w0 w2 cv bs g _ L 4 hb h2 (by omega)).mono ?_
        rintro e w3 ⟨k, hk0, hk1, rfl, h3⟩
        go_wp2_with fail
        go_loop [6, 7] (fun a c => ∃ (m : Int) (q : Nat), a = .int .i64 m ∧ c = .int .i64 q ∧ q ≤ 5) (fun _ c => (intOf c).toNat)
        case atStart =>
          obtain ⟨q, rfl⟩ := Int.eq_ofNat_of_zero_le hk0
          exact ⟨y, q, rfl, rfl, by omega⟩
        case round =>
          obtain ⟨m, q, rfl, rfl, hq⟩ := hrel
          by_cases hq0 : 0 < q
          · go_wp2_with fail
            go_round
            case rel => exact ⟨_, q - 1, rfl, by go_num, by omega⟩
            case measure => simp [intOf]; omega
          · go_wp2_with fail
            go_ret
            exact ⟨_, rfl, h3.mono (by omega)⟩
      · have f2 := eq_f e2
        by_cases e3 : x = 3
        · subst e3
          go_wp2_with fail
          refine (pick_c w0 w1 cv bs g _ L 1000 hb h1 (by omega)).mono ?_
          rintro e w2 ⟨k, hk0, hk1, rfl, h2⟩
          go_wp2_with fail
          refine (pick_c w0 w2 cv bs g _ L 1000 hb h2 (by omega)).mono ?_
          rintro e w3 ⟨k3, hk30, hk31, rfl, h3⟩
          go_wp2_with fail
          go_ret
          exact ⟨_, rfl, h3.mono (by omega)⟩
        · have f3 := eq_f e3
          go_wp2_with fail
          refine (pick_c w0 w1 cv bs g _ L 130 hb h1 (by omega)).mono ?_
          rintro e w2 ⟨k, hk0, hk1, rfl, h2⟩
          go_wp2_with fail
          go_ret
          exact ⟨_, rfl, h2.mono (by omega)⟩

theorem DrawFactorsOf_c (w : World) (cv : Value) (bs : List UInt8) (hb : RdB w cv bs) :
    Calls Try.prog 17 #[cv] w (Some1 fun w' => St w.heap.size w w' []) := by
  go_enter Try.func17, Try.ntmps17
  go_wp2_with fail
  refine (l00From_c w cv bs hb).mono ?_
  rintro e w1 ⟨rfl, h1⟩
  go_wp2_with fail
  refine (l02DrawNumber_c w w1 cv bs _ _ [] hb h1 (by omega)).mono ?_
  rintro e w2 ⟨x, rfl, h2⟩
  go_wp2_with fail
  go_ret
  exact ⟨_, rfl, h2.st⟩
end Go.Proofs.Ytonmggppfopidaa
