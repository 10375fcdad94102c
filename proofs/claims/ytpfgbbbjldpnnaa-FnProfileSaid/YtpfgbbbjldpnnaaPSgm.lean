/- Signs of permutations: by the number of cycles, and as determinants. The sign of a composition is the product of the signs. -/
import Derived.Test.YtpfgbbbjldpnnaaPDm
namespace Go.Proofs.Ytpfgbbbjldpnnaa
set_option linter.unusedSimpArgs false
set_option linter.unusedVariables false

/-- p maps the numbers below n to themselves and keeps them apart -/
structure Bij (n : Nat) (p : Nat → Nat) : Prop where
  lt : ∀ x, x < n → p x < n
  inj : ∀ x y, x < n → y < n → p x = p y → x = y
def it (p : Nat → Nat) : Nat → Nat → Nat
  | 0, x => x
  | k + 1, x => p (it p k x)
/-- x is the least number of its cycle -/
def Lead (p : Nat → Nat) (x : Nat) : Prop := ∀ k, x ≤ it p k x
open Classical in
/-- the number of cycles -/
noncomputable def cyc : Nat → (Nat → Nat) → Nat
  | 0, _ => 0
  | n + 1, p => cyc n p + if Lead p n then 1 else 0
/-- point n is taken out of its cycle -/
def byp (p : Nat → Nat) (n : Nat) : Nat → Nat := fun y => if p y = n then p n else p y
/-- every number below n is met -/
theorem Bij.onto {n : Nat} {p : Nat → Nat} (h : Bij n p) {y : Nat} (hy : y < n) : ∃ x, x < n ∧ p x = y := by
  refine Classical.byContradiction fun hno => ?_
  have hnd : ((List.range n).map p).Nodup := by
    rw [List.nodup_iff_pairwise_ne, List.pairwise_iff_getElem]
    intro a b ha hb hab
    simp only [List.length_map, List.length_range] at ha hb
    simp only [List.getElem_map, List.getElem_range]
    intro e
    have := h.inj a b ha hb e
    omega
  have hy' : y ∉ (List.range n).map p := fun hm => by
    obtain ⟨x, hx, e⟩ := List.mem_map.1 hm
    exact hno ⟨x, List.mem_range.1 hx, e⟩
  have hsub : y :: (List.range n).map p ⊆ List.range n := fun z hz => by
    rcases List.mem_cons.1 hz with rfl | hz
    · exact List.mem_range.2 hy
    · obtain ⟨x, hx, rfl⟩ := List.mem_map.1 hz
      exact List.mem_range.2 (h.lt x (List.mem_range.1 hx))
  have := List.Nodup.length_le_of_subset (List.nodup_cons.2 ⟨hy', hnd⟩) hsub
  simp at this
  omega
section
variable {n : Nat} {p : Nat → Nat}
theorem byp_bij (h : Bij (n + 1) p) : Bij n (byp p n) := by
  have hn := h.lt n (by omega)
  constructor
  · intro x hx
    unfold byp
    have hx' := h.lt x (by omega)
    split
    · rename_i e
      have : p n ≠ n := fun e2 => by have := h.inj x n (by omega) (by omega) (by rw [e, e2]); omega
      omega
    · omega
  · intro x y hx hy e
    unfold byp at e
    by_cases e1 : p x = n
    · by_cases e2 : p y = n
      · exact h.inj x y (by omega) (by omega) (by rw [e1, e2])
      · rw [if_pos e1, if_neg e2] at e
        have := h.inj n y (by omega) (by omega) e; omega
    · by_cases e2 : p y = n
      · rw [if_neg e1, if_pos e2] at e
        have := h.inj x n (by omega) (by omega) e; omega
      · rw [if_neg e1, if_neg e2] at e
        exact h.inj x y (by omega) (by omega) e
theorem it_lt (h : Bij n p) {x : Nat} (hx : x < n) : ∀ k, it p k x < n
  | 0 => hx
  | k + 1 => h.lt _ (it_lt h hx k)
/-- the numbers that are met without n are met with it -/
theorem it_byp (h : Bij (n + 1) p) {x : Nat} : ∀ k, ∃ l, it p l x = it (byp p n) k x
  | 0 => ⟨0, rfl⟩
  | k + 1 => by
    obtain ⟨l, e⟩ := it_byp h (x := x) k
    by_cases e1 : p (it p l x) = n
    · refine ⟨l + 2, ?_⟩
      show p (p (it p l x)) = byp p n (it (byp p n) k x)
      rw [← e]; unfold byp; rw [if_pos e1, e1]
    · refine ⟨l + 1, ?_⟩
      show p (it p l x) = byp p n (it (byp p n) k x)
      rw [← e]; unfold byp; rw [if_neg e1]
theorem byp_it (h : Bij (n + 1) p) {x : Nat} (hx : x < n) : ∀ k, (it p k x ≠ n ∧ ∃ l, it (byp p n) l x = it p k x) ∨ (it p k x = n ∧ p n ≠ n ∧ ∃ l, it (byp p n) l x = p n)
  | 0 => .inl ⟨by show x ≠ n; omega, 0, rfl⟩
  | k + 1 => by
    rcases byp_it h hx k with ⟨h1, l, e⟩ | ⟨h1, h2, l, e⟩
    · by_cases e1 : p (it p k x) = n
      · refine .inr ⟨e1, fun e2 => ?_, l + 1, ?_⟩
        · have := h.inj (it p k x) n (it_lt h (by omega) k) (by omega) (by rw [e1, e2])
          exact h1 this
        · show byp p n (it (byp p n) l x) = p n
          rw [e]; unfold byp; rw [if_pos e1]
      · refine .inl ⟨e1, l + 1, ?_⟩
        show byp p n (it (byp p n) l x) = p (it p k x)
        rw [e]; unfold byp; rw [if_neg e1]
    · refine .inl ⟨?_, l, ?_⟩
      · show p (it p k x) ≠ n; rw [h1]; exact h2
      · show it (byp p n) l x = p (it p k x); rw [h1]; exact e
theorem lead_byp (h : Bij (n + 1) p) {x : Nat} (hx : x < n) : Lead p x ↔ Lead (byp p n) x := by
  constructor
  · intro hl k
    obtain ⟨l, e⟩ := it_byp h (x := x) k
    rw [← e]; exact hl l
  · intro hl k
    rcases byp_it h hx k with ⟨_, l, e⟩ | ⟨h1, _⟩
    · rw [← e]; exact hl l
    · rw [h1]; omega
theorem lead_last (h : Bij (n + 1) p) : Lead p n ↔ p n = n := by
  have hn := h.lt n (by omega)
  constructor
  · intro hl
    have := hl 1
    have e : it p 1 n = p n := rfl
    omega
  · intro e k
    have : it p k n = n := by
      induction k with
      | zero => rfl
      | succ k ih => show p (it p k n) = n; rw [ih, e]
    rw [this]; exact Nat.le_refl _
theorem cyc_congr {q : Nat → Nat} : ∀ m, (∀ x, x < m → (Lead p x ↔ Lead q x)) → cyc m p = cyc m q
  | 0, _ => rfl
  | m + 1, h => by
    rw [cyc, cyc, cyc_congr m fun x hx => h x (by omega)]
    congr 1
    by_cases e : Lead p m
    · rw [if_pos e, if_pos ((h m (by omega)).1 e)]
    · rw [if_neg e, if_neg (fun e' => e ((h m (by omega)).2 e'))]
theorem cyc_byp (h : Bij (n + 1) p) : cyc (n + 1) p = cyc n (byp p n) + if p n = n then 1 else 0 := by
  rw [cyc, cyc_congr n fun x hx => lead_byp h hx]
  congr 1
  by_cases e : p n = n
  · rw [if_pos e, if_pos ((lead_last h).2 e)]
  · rw [if_neg e, if_neg fun e' => e ((lead_last h).1 e')]
theorem cyc_le : ∀ m, cyc m p ≤ m
  | 0 => Nat.le_refl _
  | m + 1 => by
    rw [cyc]
    have := cyc_le m
    split <;> omega
end

/-! ### permutation matrices -/
section
variable {R : Type} [Add R] [Mul R] [Neg R] [Zero R] [One R]
def pm (p : Nat → Nat) : Nat → Nat → R := fun i j => if p i = j then 1 else 0
/-- a matrix whose last row and column are those of the unit matrix -/
theorem dt_last (H : Rng R) : ∀ (n : Nat) (M : Nat → Nat → R), M n n = 1 → (∀ j, j < n → M n j = 0) → (∀ i, i < n → M i n = 0) → dt (n + 1) M = dt n M
  | 0, M, h1, _, _ => by
    show Sm 1 (fun i => sg i (M i 0 * dt 0 _)) = 1
    rw [Sm_one H (k := 0) (by omega) (fun i hi hne => by omega), h1]
    unfold sg; simp only [Nat.zero_mod, if_true]; exact H.one_mul 1
  | n + 1, M, h1, h2, h3 => by
    rw [dt, Sm, h2 0 (by omega), H.zero_mul, sg_zero H, H.add_zero]
    rw [dt]
    refine Sm_congr fun i hi => ?_
    congr 2
    refine dt_last H n _ ?_ ?_ ?_
    · show M (skp i n) (n + 1) = 1
      rw [show skp i n = n + 1 by unfold skp; rw [if_neg (by omega)]]; exact h1
    · intro j hj
      show M (skp i n) (j + 1) = 0
      rw [show skp i n = n + 1 by unfold skp; rw [if_neg (by omega)]]; exact h2 (j + 1) (by omega)
    · intro k hk
      show M (skp i k) (n + 1) = 0
      exact h3 _ (by unfold skp; split <;> omega)
/-- the sign by the number of cycles is the determinant -/
theorem dt_pm (H : Rng R) : ∀ (n : Nat) (p : Nat → Nat), Bij n p → dt n (pm p : Nat → Nat → R) = sg (n - cyc n p) 1
  | 0, p, _ => rfl
  | n + 1, p, h => by
    have hb := byp_bij h
    have ih := dt_pm H n (byp p n) hb
    have hle := cyc_le (p := byp p n) n
    rw [cyc_byp h]
    by_cases e : p n = n
    · rw [if_pos e, dt_last H n (pm p) (by unfold pm; rw [if_pos e]) (fun j hj => by unfold pm; rw [if_neg (by omega)]) (fun i hi => by
        unfold pm; rw [if_neg]; intro e2; have := h.inj i n (by omega) (by omega) (by rw [e2, e]); omega)]
      rw [show n + 1 - (cyc n (byp p n) + 1) = n - cyc n (byp p n) by omega, ← ih]
      refine dt_congr n fun i j hi _ => ?_
      unfold pm byp
      rw [if_neg (show ¬ p i = n from fun e2 => by have := h.inj i n (by omega) (by omega) (by rw [e2, e]); omega)]
    · obtain ⟨i0, hi0, e0⟩ := h.onto (show n < n + 1 by omega)
      have hin : i0 < n := by
        refine Nat.lt_of_le_of_ne (by omega) fun e2 => ?_
        rw [e2] at e0; exact e e0
      rw [if_neg e, show n + 1 - (cyc n (byp p n) + 0) = (n - cyc n (byp p n)) + 1 by omega, sg_succ H, ← ih]
      have hs := dt_swap H (n := n + 1) (i := i0) (k := n) (by omega) (by omega) (by omega) (pm p : Nat → Nat → R)
      rw [← H.neg_neg (dt (n + 1) (pm p)), ← hs]
      congr 1
      have hpn := h.lt n (by omega)
      have hlast : ∀ j, rs (rs (pm p : Nat → Nat → R) i0 (pm p n)) n (pm p i0) n j = if n = j then 1 else 0 := fun j => by
        rw [rs_at]; unfold pm; rw [e0]
      have hoth : ∀ i j, i < n → rs (rs (pm p : Nat → Nat → R) i0 (pm p n)) n (pm p i0) i j = if byp p n i = j then 1 else 0 := fun i j hi => by
        rw [rs_ne _ (by omega)]
        by_cases ei : i = i0
        · rw [ei, rs_at]; unfold pm byp; rw [if_pos e0]
        · rw [rs_ne _ ei]; unfold pm byp
          rw [if_neg (show ¬ p i = n from fun e2 => ei (h.inj i i0 (by omega) (by omega) (by rw [e2, e0])))]
      rw [dt_last H n _ (by rw [hlast, if_pos rfl]) (fun j hj => by rw [hlast, if_neg (by omega)]) (fun i hi => by
        rw [hoth i n hi, if_neg]; have := hb.lt i hi; omega)]
      exact dt_congr n fun i j hi _ => by rw [hoth i j hi]; rfl
/-- the matrix of a composition -/
theorem pm_mm (H : Rng R) {n : Nat} {p q : Nat → Nat} (hp : Bij n p) {i : Nat} (hi : i < n) (j : Nat) : mm n (pm p : Nat → Nat → R) (pm q) i j = pm (fun x => q (p x)) i j := by
  unfold mm
  rw [Sm_one H (hp.lt i hi)]
  · show (if p i = p i then (1 : R) else 0) * (if q (p i) = j then 1 else 0) = if q (p i) = j then 1 else 0
    rw [if_pos rfl, H.one_mul]
  · intro k _ hk
    show (if p i = k then (1 : R) else 0) * _ = 0
    rw [if_neg (fun e => hk e.symm), H.zero_mul]
theorem bij_comp {n : Nat} {p q : Nat → Nat} (hp : Bij n p) (hq : Bij n q) : Bij n (fun x => q (p x)) :=
  ⟨fun x hx => hq.lt _ (hp.lt x hx), fun x y hx hy e => hp.inj x y hx hy (hq.inj _ _ (hp.lt x hx) (hp.lt y hy) e)⟩
end

/-- the field of three elements -/
theorem fv3 : FV 3 ((1 : Nat) : Int) [0, 1] := fOk_t (by decide +kernel)
/-- the sign by the number of cycles -/
noncomputable def sgn (n : Nat) (p : Nat → Nat) : Int := if (n - cyc n p) % 2 = 0 then 1 else -1
/-- the rows of the permutation matrix -/
def pmR (n : Nat) (p : Nat → Nat) : List (List Int) := (List.range n).map fun i => tab n fun j => if p i = j then 1 else 0
theorem pmR_rect (n : Nat) (p : Nat → Nat) : Rect 3 1 n (pmR n p) := fun r hr => by
  obtain ⟨i, _, rfl⟩ := List.mem_map.1 hr
  refine ⟨by simp [tab], fun x hx => ?_⟩
  obtain ⟨j, _, rfl⟩ := List.mem_map.1 hx
  split <;> decide
theorem pmR_m {n : Nat} {p : Nat → Nat} {i j : Nat} (hi : i < n) (hj : j < n) : toM fv3 (pmR n p) i j = (pm p : Nat → Nat → Fe fv3) i j := by
  have hl : i < (pmR n p).length := by simp [pmR, hi]
  unfold toM
  rw [ra_eq hl]
  show em fv3 (cf ((pmR n p)[i]) j) = _
  have e : (pmR n p)[i] = tab n fun j => if p i = j then 1 else 0 := by simp [pmR]
  rw [e, cf_tab hj]
  unfold pm
  split
  · exact em_1
  · exact em_0
theorem sgn_fe {n : Nat} {p : Nat → Nat} : (sg (n - cyc n p) (1 : Fe fv3)).1 = if sgn n p = 1 then 1 else 2 := by
  unfold sg sgn
  split
  · rw [if_pos rfl]; rfl
  · rw [if_neg (by decide), fe_neg, fe_1]; decide
theorem sgn_pm (n : Nat) (p : Nat → Nat) : sgn n p = 1 ∨ sgn n p = -1 := by unfold sgn; split <;> simp
theorem sgn_comp {n : Nat} {p q : Nat → Nat} (hp : Bij n p) (hq : Bij n q) : sgn n (fun x => q (p x)) = sgn n p * sgn n q := by
  have H := fe_rng fv3
  have h1 := (det_both (h := fv3) (pmR_rect n p) (by simp [pmR])).2 (pm q)
  have h2 : dt n (toM fv3 (pmR n p)) = dt n (pm p) := dt_congr n fun i j hi hj => pmR_m hi hj
  have h3 : dt n (mm n (toM fv3 (pmR n p)) (pm q)) = dt n (pm fun x => q (p x) : Nat → Nat → Fe fv3) := dt_congr n fun i j hi hj => by
    rw [← pm_mm H hp hi j]
    exact Sm_congr fun k hk => by rw [pmR_m hi hk]
  rw [h2, h3, dt_pm H n _ (bij_comp hp hq), dt_pm H n _ hp, dt_pm H n _ hq] at h1
  have h4 := congrArg Subtype.val h1
  rw [fe_mul, sgn_fe, sgn_fe, sgn_fe] at h4
  rcases sgn_pm n p with e1 | e1 <;> rcases sgn_pm n q with e2 | e2 <;> rcases sgn_pm n (fun x => q (p x)) with e3 | e3 <;> rw [e1, e2, e3] at h4 ⊢ <;> first | rfl | (revert h4; decide)

end Go.Proofs.Ytpfgbbbjldpnnaa
