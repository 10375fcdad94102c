/- Walks: DeriveArray of both sides. -/
import Derived.Test.YtmkfafhgcnbcaaaFull2
import Derived.Test.YtmkfafhgcnbcaaaCopy
import Derived.IntWalk
namespace Go.Proofs.Ytmkfafhgcnbcaaa
set_option linter.unusedSimpArgs false
set_option linter.unusedVariables false
open Go.RowKit

def derGood (lv co : Int) (xss : List (List Int)) (c x : Int) : Bool := okA lv co xss && inB c 0 (co - 1) && inB x 0 (lv - 1) && decide (co ≠ 1)
def derRow (c : Nat) (xs : List Int) : List Int := xs.take c ++ xs.drop (c + 1)
def derRows (c : Nat) (x : Int) (xss : List (List Int)) : List (List Int) := (xss.filter fun xs => nth xs c == x).map (derRow c)
def derA (lv co : Int) (xss : List (List Int)) (c x : Int) : AV := if derGood lv co xss c x = true then ⟨lv, co - 1, derRows c.toNat x xss⟩ else noA
def derC (lv co : Int) (xss : List (List Int)) (c x : Int) : Int := if okA lv co xss = false then 1 else if inB c 0 (co - 1) = false ∨ inB x 0 (lv - 1) = false then 2 else if co = 1 then 6 else 0

theorem okA_t {lv co : Int} {xss : List (List Int)} (h : okA lv co xss = true) : shapeB lv co = true ∧ xss.length ≤ 256 ∧ ∀ xs ∈ xss, (xs.length : Int) = co ∧ ∀ x ∈ xs, 0 ≤ x ∧ x ≤ lv - 1 := by
  simp only [okA, Bool.and_eq_true, decide_eq_true_eq, List.all_eq_true] at h
  refine ⟨h.1.1, h.1.2, fun xs hx => ?_⟩
  have := h.2 xs hx
  simp only [rowOk, Bool.and_eq_true, decide_eq_true_eq, anyP, Bool.not_eq_true', List.any_eq_false] at this
  refine ⟨this.1, fun x hx => ?_⟩
  have := this.2 x hx
  simpa [inB] using this

theorem derRows_snoc {c : Nat} {x : Int} {xss : List (List Int)} {k : Nat} (hk : k < xss.length) :
    derRows c x (xss.take (k + 1)) = if nth (xat xss k) c == x then derRows c x (xss.take k) ++ [derRow c (xat xss k)] else derRows c x (xss.take k) := by
  rw [take_xat hk, derRows, derRows, List.filter_append, List.map_append]
  by_cases h : (nth (xat xss k) c == x) = true
  · rw [if_pos h]; simp [h]
  · rw [if_neg h]; simp [h]

theorem rvv_two {w : World} {v1 v2 : Value} {us1 us2 : List Value} (h1 : Rd w v1 us1) (h2 : Rd w v2 us2) (T : TypeId) :
    RVV (w.alloc (.cells #[v1, v2] T)) (.slice (some ⟨w.heap.size, 0, none⟩) 2 2) [v1, v2] [us1, us2] := by
  have hb : Below w.heap.size w (w.alloc (.cells #[v1, v2] T)) := ((St.refl w).alloc' _).below
  refine ⟨⟨⟨_, _, rfl, by simp, by unfold maxLen; omega, .inr (by simp)⟩, ?_⟩, rfl, ?_⟩
  · intro i u hu
    match i, hu with
    | 0, hu => simp at hu; subst hu; simp [el, add_mk]
    | 1, hu => simp at hu; subst hu; simp [el, add_mk]
  · intro j hj
    match j, hj with
    | 0, _ => exact h1.keep hb
    | 1, _ => exact h2.keep hb

theorem RdI.shp {w : World} {v : Value} {xs : List Int} (h : RdI w v xs) (n : Nat) (hn : xs.length = n) : ∃ a c, v = .slice a n c := by
  obtain ⟨a, c, hv⟩ := h.sl.sh
  rw [iv_len, hn] at hv
  exact ⟨a, c, hv⟩
end Go.Proofs.Ytmkfafhgcnbcaaa
