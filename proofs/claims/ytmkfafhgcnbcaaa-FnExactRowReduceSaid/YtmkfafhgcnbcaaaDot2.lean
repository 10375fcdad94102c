/- Walks: the reference's sums of products. -/
import Derived.Test.YtmkfafhgcnbcaaaDot
namespace Go.Proofs.Ytmkfafhgcnbcaaa
set_option linter.unusedSimpArgs false
set_option linter.unusedVariables false
open Go.RowKit
attribute [local go_sem ↓] Go.wp_at_zero Go.wp_at_succ

theorem FV.q64 {p : Int} {D : Nat} {fs : List Int} (h : FV p D fs) : p ^ D ≤ 64 := by have := h.q; rwa [Int.toNat_natCast] at this
theorem El.lim {p : Int} {D : Nat} {fs : List Int} {a : Int} (h : El p D a) (hf : FV p D fs) : 0 ≤ a ∧ a ≤ 1000000 := by have := h.1; have := h.2; have := hf.q64; omega

set_option maxHeartbeats 4000000 in
set_option maxRecDepth 100000 in
theorem l17Dot_c (p : Int) (D : Nat) (g : Nat) (v : Value) (fs : List Int) (vx vy : Value) (xs ys : List Int) (w : World)
    (hv : RdI w v fs) (hbx : BoxF w g p D v) (hf : FV p D fs) (hx : RdI w vx xs) (hy : RdI w vy ys) (hl : xs.length ≤ ys.length) (hxi : In (p ^ D) xs) (hyi : In (p ^ D) ys) :
    Calls Try.prog 75 #[.pointer (some ⟨g, 0, none⟩), vx, vy] w (GivesI w (dotN p D fs xs ys xs.length)) := by
  have HF := Lib.hid hf
  have HB := Lib.hid hbx
  have Hx := Lib.hid hxi
  have Hy := Lib.hid hyi
  clear hf hxi hyi hbx
  have hlx := hx.len
  have hle := hx.le
  go_enter Try.func75, Try.ntmps75
  go_wp2_with fail
  go_loopw [7, 8] (fun s i wr => ∃ k : Nat, k ≤ xs.length ∧ i = .int .i64 k ∧ s = .int .i64 (dotN p D fs xs ys k) ∧ St w.heap.size w wr []) (fun _ i _ => xs.length - (intOf i).toNat)
  case atStart => exact ⟨0, by omega, rfl, rfl, St.refl w⟩
  case round =>
    obtain ⟨k, hk, rfl, rfl, hS⟩ := hrel
    by_cases hlt : k < xs.length
    · have hly : k < ys.length := by omega
      have hcx := (hS.oldI hx).cell k hlt
      have hcy := (hS.oldI hy).cell k hly
      have hxx := (hS.oldI hx).ixe (k : Int) k rfl hlt
      have hyx := (hS.oldI hy).ixe (k : Int) k rfl hly
      have Hs := Lib.hid ((dotN_el HF.out.fa xs ys k).lim HF.out)
      have Hp := Lib.hid ((fmul_el HF.out.fa (nth xs k) (nth ys k)).lim HF.out)
      have Ha := Lib.hid ((Hx.out.el hlt).lim HF.out)
      have Hb := Lib.hid ((Hy.out.el hly).lim HF.out)
      go_wp2_with fail
      go_region_held3 (fun w' => w'.cell? (el vx k) = some (.int .i64 (nth xs k)) ∧ w'.cell? (el vy k) = some (.int .i64 (nth ys k))) (((try dsimp only); (repeat' apply And.intro); all_goals (repeat (first | assumption | exact cell_dr (by assumption) | refine cell_dr ?_ | refine cell_al ?_ | refine cell_sc (by assumption) ?_))))
        (first
        | (go_at_call 112; refine (l03Mul_c p D g v fs _ _ _ (hS.drew.oldI hv) (hS.drew.oldF HB.out) HF.out Ha.out.1 Ha.out.2 Hb.out.1 Hb.out.2).mono ?_; rintro e w2 ⟨rfl, h2⟩; have hS2 := hS.drew.call0 h2; have f0 := (hS2.oldI hx).cell k hlt; have f1 := (hS2.oldI hy).cell k hly)
        | (go_at_call 111; refine (l03Sum_c p D g v fs _ _ _ _ (hS2.oldF HB.out) HF.out Hs.out.1 Hs.out.2 Hp.out.1 Hp.out.2 (by omega) (by omega)).mono ?_; rintro e w3 ⟨rfl, h3⟩; have hS3 := hS2.call0 h3; have f2 := (hS3.oldI hx).cell k hlt; have f3 := (hS3.oldI hy).cell k hly))
      all_goals
        go_wp2_with fail
        go_roundw
        case rel => exact ⟨k + 1, by omega, by go_num, rfl, hS3⟩
        case measure => simp [intOf]; omega
    · obtain rfl : k = xs.length := by omega
      go_wp2_with fail
      go_ret
      exact ⟨rfl, hS.out⟩
end Go.Proofs.Ytmkfafhgcnbcaaa
