/- Walks: what the laws on numbers draw. -/
import Derived.Test.YtpfgbbbjldpnnaaSrc
import Derived.Test.YtpfgbbbjldpnnaaNum
namespace Go.Proofs.Ytpfgbbbjldpnnaa
set_option linter.unusedSimpArgs false
set_option linter.unusedVariables false
open Go.RowKit

theorem Src.lit {w0 w : World} {cv : Value} {g K : Nat} {L : List Ent} (h : Src w0 w cv g K L) (xs : List Int) (hm : xs.length ≤ 1000) :
    Src w0 (w.alloc (.cells (iv xs).toArray 2)) cv g K (row 2 (.slice (some ⟨w.heap.size, 0, none⟩) xs.length xs.length) (iv xs) :: L) := by
  obtain ⟨p, s, h0, h1, hS⟩ := h
  refine ⟨p, s, h0, h1, ?_⟩
  have h2 := hS.new 2 (iv xs).toArray (by simp [iv_len]; unfold maxLen; omega)
  simp only [List.size_toArray, iv_len] at h2
  refine h2.perm ?_
  refine List.Perm.trans (List.perm_append_comm) ?_
  simp only [List.cons_append, List.nil_append]
  exact List.Perm.swap _ _ _

/-- one of some numbers that are written out -/
theorem among_lit (xs : List Int) (w0 w : World) (cv : Value) (bs : List UInt8) (g K : Nat) (L : List Ent) (hb : RdB w0 cv bs) (h : Src w0 w cv g K L) (hne : 0 < xs.length ∧ xs.length ≤ 1000)
    (hK : K < 1000000000000) :
    Calls Try.prog 79 #[.pointer (some ⟨g, 0, none⟩), .slice (some ⟨w.heap.size, 0, none⟩) xs.length xs.length] (w.alloc (.cells (iv xs).toArray 2)) (AmongPost xs fun w' => Src w0 w' cv g (K + 2) L) :=
  among_c w0 _ cv bs g K L _ xs hb (h.lit xs hne.2) hne.1 hK

/-- some number, and the source goes on -/
def Some1 (R : World → Prop) (e : Ending) (w' : World) : Prop := ∃ x : Int, e = .returned (.int .i64 x) ∧ R w'
def Some2 (R : World → Prop) (e : Ending) (w' : World) : Prop := ∃ x y : Int, e = .returned (.tuple #[.int .i64 x, .int .i64 y]) ∧ R w'
def Some4 (R : World → Prop) (e : Ending) (w' : World) : Prop := ∃ x y z u : Int, e = .returned (.tuple #[.int .i64 x, .int .i64 y, .int .i64 z, .int .i64 u]) ∧ R w'

theorem b10Long_c (w : World) (cv : Value) (bs : List UInt8) (hb : RdB w cv bs) :
    Calls Try.prog 9 #[cv] w fun e w' => e = .returned (.bool (decide (1048576 < bs.length))) ∧ w = w' := by
  have hln := hb.len
  go_enter Try.func9, Try.ntmps9
  go_wp2_with fail
  go_ret
  exact ⟨ret_bool (by simp; omega), rfl⟩

end Go.Proofs.Ytpfgbbbjldpnnaa
