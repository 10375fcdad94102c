/- Walks: ValidSet of the program. -/
import Derived.Test.YtpfgbbbjldpnnaaNum
import Derived.Test.YtpfgbbbjldpnnaaPSet
namespace Go.Proofs.Ytpfgbbbjldpnnaa
set_option linter.unusedSimpArgs false
set_option linter.unusedVariables false
open Go.RowKit

def validSetB (xs : List Int) (n : Int) : Bool := incB (-1) n xs && inB n 0 32

theorem incB_drop {xs : List Int} {k : Nat} (hk : k < xs.length) (last n : Int) :
    incB last n (xs.drop k) = if nth xs k ≤ last ∨ n ≤ nth xs k then false else incB (nth xs k) n (xs.drop (k + 1)) := by
  rw [drop_nth hk]; rfl

set_option maxHeartbeats 1000000 in
theorem ValidSet_c (v : Value) (xs : List Int) (n : Int) (w : World) (hv : RdI w v xs) :
    Calls Try.prog 59 #[v, .int .i64 n] w fun e w' => e = .returned (.bool (validSetB xs n)) ∧ w = w' := by
  have hln := hv.len
  have hix := hv.ix
  have hcell := hv.cell
  have hm := hv.le
  go_enter Try.func59, Try.ntmps59
  go_wp2_with fail
  go_loop [5, 7, 10] (fun l x i => ∃ (k : Nat) (last : Int), k ≤ xs.length ∧ i = .int .i64 k ∧ l = .int .i64 last ∧ Hid (incB (-1) n xs = incB last n (xs.drop k))) (fun _ _ i => xs.length - (intOf i).toNat)
  case atStart => exact ⟨0, -1, by omega, rfl, rfl, rfl⟩
  case round =>
    obtain ⟨k, last, hk, rfl, rfl, hI⟩ := hrel
    by_cases hlt : k < xs.length
    · have hd := Lib.hid (incB_drop hlt last n)
      by_cases h1 : nth xs k ≤ last
      · go_wp2_with fail
        go_ret
        exact ⟨ret_bool (by rw [validSetB, hI.out, hd.out]; simp [h1]), rfl⟩
      · by_cases h2 : n ≤ nth xs k
        · go_wp2_with fail
          go_ret
          exact ⟨ret_bool (by rw [validSetB, hI.out, hd.out]; simp [h2]), rfl⟩
        · go_wp2_with fail
          go_round
          case rel => exact ⟨k + 1, nth xs k, by omega, by go_num, rfl, by rw [Hid, hI.out, hd.out]; simp [h1, h2]⟩
          case measure => simp [intOf]; omega
    · go_wp2_with (go_at_call 67; refine (within_c _ _ _ _).mono ?_; rintro e w' ⟨rfl, rfl⟩)
      go_ret
      exact ⟨ret_bool (by rw [validSetB, hI.out, List.drop_of_length_le (by omega)]; simp [incB]), rfl⟩
end Go.Proofs.Ytpfgbbbjldpnnaa
