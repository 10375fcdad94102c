/- Walks: residues. -/
import Derived.Test.YtpfgbbbjldpnnaaNum
import Derived.Test.YtpfgbbbjldpnnaaPCrt
namespace Go.Proofs.Ytpfgbbbjldpnnaa
set_option linter.unusedSimpArgs false
set_option linter.unusedVariables false
open Go.RowKit
def resB (a m : Int) : Bool := inB m 1 1000 && inB a 0 (m - 1)
def Res (a m : Int) : Prop := 1 ≤ m ∧ m ≤ 1000 ∧ 0 ≤ a ∧ a < m
theorem resB_true {a m : Int} (h : Res a m) : resB a m = true := by
  unfold resB; obtain ⟨h1, h2, h3, h4⟩ := h; rw [inB_true ⟨h1, h2⟩, inB_true ⟨h3, by omega⟩]; rfl
theorem resB_false {a m : Int} (h : ¬ Res a m) : resB a m = false := by
  unfold resB; unfold Res at h
  by_cases h1 : 1 ≤ m ∧ m ≤ 1000
  · rw [inB_false (n := a) (by omega)]; simp
  · rw [inB_false h1]; rfl

theorem abs_c (n : Int) (w : World) (h : -1000000 ≤ n ∧ n ≤ 1000000) : Calls Try.prog 96 #[.int .i64 n] w fun e w' => e = .returned (.int .i64 (if n < 0 then -n else n)) ∧ w = w' := by
  obtain ⟨h1, h2⟩ := h
  by_cases hn : n < 0
  · go_enter Try.func96, Try.ntmps96
    go_wp2_with fail
    go_ret
    exact ⟨ret_i64 (by simp [hn]), rfl⟩
  · go_enter Try.func96, Try.ntmps96
    go_wp2_with fail
    go_ret
    exact ⟨ret_i64 (by simp [hn]), rfl⟩

/-- what SolveChinese answers for residues -/
def ChinPost (w : World) (a m b n : Int) (e : Ending) (w' : World) : Prop :=
  St w.heap.size w w' [] ∧
  ((∃ x k : Int, e = .returned (.tuple #[.int .i64 x, .int .i64 (m / gcdI m n * n), .int .i64 0]) ∧ 0 ≤ k ∧ x = a + k * m ∧ x < m / gcdI m n * n ∧ x % n = b) ∨
   (e = .returned (.tuple #[.int .i64 0, .int .i64 0, .int .i64 3]) ∧ ∀ k : Int, 0 ≤ k → a + k * m < m / gcdI m n * n → (a + k * m) % n ≠ b))

end Go.Proofs.Ytpfgbbbjldpnnaa
