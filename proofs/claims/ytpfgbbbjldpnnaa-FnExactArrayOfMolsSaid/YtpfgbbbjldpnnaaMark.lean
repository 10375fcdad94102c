/- Walks: marks into arrays. -/
import Derived.Test.YtpfgbbbjldpnnaaArr2
import Derived.Test.YtpfgbbbjldpnnaaMrk
namespace Go.Proofs.Ytpfgbbbjldpnnaa
set_option linter.unusedSimpArgs false
set_option linter.unusedVariables false
open Go.RowKit

theorem markArray_c {B : Nat} {w0 w : World} {L2 : List Ent} (lv co : Int) (v : Value) (us : List Value) (xss : List (List Int)) (k : Int) (h0 : 0 ≤ k) (h1 : k + tot xss ≤ 4611686018427387904) (hl : us.length = xss.length) (hS : St B w0 w (own2 v us xss ++ L2)) :
    Calls Try.prog 43 #[av lv co v, .int .i64 k] w fun e w' => e = .returned (.int .i64 (k + tot xss)) ∧ St B w0 w' (own2 v us (mrkL k xss) ++ L2) := by
  have hcall := Lib.hid (markInt64SS_c v us xss k h0 h1 hl (hS.alloc' (.cells #[.int .i64 lv, .int .i64 co, v] 59)))
  clear h0 h1 hl
  unfold av
  go_enter Try.func43, Try.ntmps43
  go_wp2_with fail
  refine hcall.out.mono ?_
  rintro e w2 ⟨rfl, hS2⟩
  go_wp2_with fail
  go_ret
  exact ⟨rfl, hS2⟩

theorem heldArray_c (lv co : Int) (v : Value) (us : List Value) (xss : List (List Int)) (k : Int) (w : World) (h0 : 0 ≤ k) (h1 : k + tot xss ≤ 4611686018427387904) (hv : RII w v us (mrkL k xss)) :
    Calls Try.prog 44 #[av lv co v, .int .i64 k] w (GivesI w (k + tot xss)) := by
  have hS1 := (St.refl w).newbox 59 #[.int .i64 lv, .int .i64 co, v]
  have hcall := Lib.hid (heldInt64SS_c v us xss k _ h0 h1 (hS1.oldII hv))
  have hnn : 0 ≤ k + tot xss := by omega
  clear h1
  unfold av
  go_enter Try.func44, Try.ntmps44
  go_wp2_with fail
  refine hcall.out.mono ?_
  rintro e w2 ⟨rfl, rfl⟩
  go_wp2_with fail
  go_ret
  exact ⟨rfl, hS1.out⟩
end Go.Proofs.Ytpfgbbbjldpnnaa
