/- The sign of a composition is the product of the signs. -/
import Derived.Test.YtpfgbbbjldpnnaaPSg
import Derived.Test.YtpfgbbbjldpnnaaPDm
namespace Go.Proofs.Ytpfgbbbjldpnnaa
set_option linter.unusedSimpArgs false
set_option linter.unusedVariables false
/-- the field of three elements -/
theorem fv3 : FV 3 ((1 : Nat) : Int) [0, 1] := fOk_t (by decide +kernel)
/-- the sign by the number of cycles -/
noncomputable def sgn (n : Nat) (p : Nat → Nat) : Int := if (n - cyc n p) % 2 = 0 then 1 else -1
/-- the rows of the permutation matrix -/
def pmR (n : Nat) (p : Nat → Nat) : List (List Int) := (List.range n).map fun i => tab n fun j => if p i = j then 1 else 0
theorem pmR_rect (n : Nat) (p : Nat → Nat) : Rect 3 1 n (pmR n p) := fun r hr => by
  obtain ⟨i, _, rfl⟩ := List.mem_map.1 hr
  refine ⟨by simp [tab], fun x hx => ?_⟩
  obtain ⟨j, _, rfl⟩ := List.mem_map.1 hx
  split <;> decide
theorem pmR_m {n : Nat} {p : Nat → Nat} {i j : Nat} (hi : i < n) (hj : j < n) : toM fv3 (pmR n p) i j = (pm p : Nat → Nat → Fe fv3) i j := by
  have hl : i < (pmR n p).length := by simp [pmR, hi]
  unfold toM
  rw [ra_eq hl]
  show em fv3 (cf ((pmR n p)[i]) j) = _
  have e : (pmR n p)[i] = tab n fun j => if p i = j then 1 else 0 := by simp [pmR]
  rw [e, cf_tab hj]
  unfold pm
  split
  · exact em_1
  · exact em_0
theorem sgn_fe {n : Nat} {p : Nat → Nat} : (sg (n - cyc n p) (1 : Fe fv3)).1 = if sgn n p = 1 then 1 else 2 := by
  unfold sg sgn
  split
  · rw [if_pos rfl]; rfl
  · rw [if_neg (by decide), fe_neg, fe_1]; decide
theorem sgn_pm (n : Nat) (p : Nat → Nat) : sgn n p = 1 ∨ sgn n p = -1 := by unfold sgn; split <;> simp
theorem sgn_comp {n : Nat} {p q : Nat → Nat} (hp : Bij n p) (hq : Bij n q) : sgn n (fun x => q (p x)) = sgn n p * sgn n q := by
  have H := fe_rng fv3
  have h1 := (det_both (h := fv3) (pmR_rect n p) (by simp [pmR])).2 (pm q)
  have h2 : dt n (toM fv3 (pmR n p)) = dt n (pm p) := dt_congr n fun i j hi hj => pmR_m hi hj
  have h3 : dt n (mm n (toM fv3 (pmR n p)) (pm q)) = dt n (pm fun x => q (p x) : Nat → Nat → Fe fv3) := dt_congr n fun i j hi hj => by
    rw [← pm_mm H hp hi j]
    exact Sm_congr fun k hk => by rw [pmR_m hi hk]
  rw [h2, h3, dt_pm H n _ (bij_comp hp hq), dt_pm H n _ hp, dt_pm H n _ hq] at h1
  have h4 := congrArg Subtype.val h1
  rw [fe_mul, sgn_fe, sgn_fe, sgn_fe] at h4
  rcases sgn_pm n p with e1 | e1 <;> rcases sgn_pm n q with e2 | e2 <;> rcases sgn_pm n (fun x => q (p x)) with e3 | e3 <;> rw [e1, e2, e3] at h4 ⊢ <;> first | rfl | (revert h4; decide)
end Go.Proofs.Ytpfgbbbjldpnnaa
