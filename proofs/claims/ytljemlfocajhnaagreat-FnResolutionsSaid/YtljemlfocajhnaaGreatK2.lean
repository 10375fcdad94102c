/- The texts of this claim, run 2: PDm PSgm. -/
import Derived.Test.YtljemlfocajhnaaGreatK1

section
/- Determinants by the expansion along the first column, over any commutative ring. Determinants multiply: row reduction against the expansion along the first column. -/
namespace Go.Proofs.YtljemlfocajhnaaGreat
set_option linter.unusedSimpArgs false
set_option linter.unusedVariables false

structure Rng (R : Type) [Add R] [Mul R] [Neg R] [Zero R] [One R] : Prop where
  add_assoc : ∀ a b c : R, a + b + c = a + (b + c)
  add_comm : ∀ a b : R, a + b = b + a
  zero_add : ∀ a : R, 0 + a = a
  neg_add : ∀ a : R, -a + a = 0
  mul_assoc : ∀ a b c : R, a * b * c = a * (b * c)
  mul_comm : ∀ a b : R, a * b = b * a
  one_mul : ∀ a : R, 1 * a = a
  mul_add : ∀ a b c : R, a * (b + c) = a * b + a * c
section
variable {R : Type} [Add R] [Zero R]
def Sm : Nat → (Nat → R) → R
  | 0, _ => 0
  | n + 1, f => Sm n f + f n
theorem Sm_congr {n : Nat} {f g : Nat → R} (h : ∀ i, i < n → f i = g i) : Sm n f = Sm n g := by
  induction n with
  | zero => rfl
  | succ n ih => rw [Sm, Sm, ih (fun i hi => h i (by omega)), h n (by omega)]
end
section
variable {R : Type}
def skp (i k : Nat) : Nat := if k < i then k else k + 1
/-- row i is replaced -/
def rs (M : Nat → Nat → R) (i : Nat) (r : Nat → R) : Nat → Nat → R := fun k j => if k = i then r j else M k j
theorem skp_lt {n i k : Nat} (hi : i < n + 1) (hk : k < n) : skp i k < n + 1 := by unfold skp; split <;> omega
theorem skp_ne (i k : Nat) : skp i k ≠ i := by unfold skp; split <;> omega
/-- where row i lies behind row t is left out -/
def unsk (t i : Nat) : Nat := if i < t then i else i - 1
theorem skp_unsk {t i : Nat} (h : i ≠ t) : skp t (unsk t i) = i := by
  unfold skp unsk
  by_cases h1 : i < t
  · rw [if_pos h1, if_pos h1]
  · rw [if_neg h1, if_neg (by omega)]; omega
theorem skp_inj {t k l : Nat} (h : skp t k = skp t l) : k = l := by unfold skp at h; split at h <;> split at h <;> omega
theorem minor_rs (M : Nat → Nat → R) {t i : Nat} (h : i ≠ t) (r : Nat → R) : (fun k j => rs M i r (skp t k) (j + 1)) = rs (fun k j => M (skp t k) (j + 1)) (unsk t i) (fun j => r (j + 1)) := by
  funext k j
  unfold rs
  by_cases e : k = unsk t i
  · rw [if_pos (by rw [e, skp_unsk h]), if_pos e]
  · rw [if_neg (fun e' => e (skp_inj (t := t) (by rw [e', skp_unsk h]))), if_neg e]
theorem minor_rs_same (M : Nat → Nat → R) (i : Nat) (r : Nat → R) : (fun k j => rs M i r (skp i k) (j + 1)) = fun k j => M (skp i k) (j + 1) := by
  funext k j
  unfold rs; rw [if_neg (skp_ne i k)]
theorem rs_at (M : Nat → Nat → R) (i : Nat) (r : Nat → R) (j : Nat) : rs M i r i j = r j := by unfold rs; rw [if_pos rfl]
theorem rs_ne (M : Nat → Nat → R) {i k : Nat} (h : k ≠ i) (r : Nat → R) (j : Nat) : rs M i r k j = M k j := by unfold rs; rw [if_neg h]
theorem rs_self (M : Nat → Nat → R) (i : Nat) : rs M i (M i) = M := by
  funext k j; unfold rs; split
  · rename_i e; rw [e]
  · rfl
theorem rs_comm (M : Nat → Nat → R) {i k : Nat} (h : i ≠ k) (r s : Nat → R) : rs (rs M i r) k s = rs (rs M k s) i r := by
  funext a b; unfold rs
  by_cases e1 : a = k
  · rw [if_pos e1, if_neg (by omega), if_pos e1]
  · rw [if_neg e1]
    by_cases e2 : a = i
    · rw [if_pos e2, if_pos e2]
    · rw [if_neg e2, if_neg e2, if_neg e1]
end
section
variable {R : Type} [Add R] [Mul R] [Neg R] [Zero R] [One R]
namespace Rng
theorem add_zero (H : Rng R) (a : R) : a + 0 = a := by rw [H.add_comm, H.zero_add]
theorem add_neg (H : Rng R) (a : R) : a + -a = 0 := by rw [H.add_comm, H.neg_add]
theorem add_left (H : Rng R) {a b c : R} (h : a + b = a + c) : b = c := by
  have := congrArg (fun x => -a + x) h
  simp only [← H.add_assoc, H.neg_add, H.zero_add] at this
  exact this
theorem neg_eq (H : Rng R) {a b : R} (h : a + b = 0) : b = -a := H.add_left (a := a) (by rw [h, H.add_neg])
theorem mul_zero (H : Rng R) (a : R) : a * 0 = 0 := by
  have : a * 0 + a * 0 = a * 0 + 0 := by rw [← H.mul_add, H.zero_add, H.add_zero]
  exact H.add_left this
theorem zero_mul (H : Rng R) (a : R) : 0 * a = 0 := by rw [H.mul_comm, H.mul_zero]
theorem add_mul (H : Rng R) (a b c : R) : (a + b) * c = a * c + b * c := by rw [H.mul_comm, H.mul_add, H.mul_comm c a, H.mul_comm c b]
theorem mul_one (H : Rng R) (a : R) : a * 1 = a := by rw [H.mul_comm, H.one_mul]
theorem neg_neg (H : Rng R) (a : R) : - -a = a := (H.neg_eq (H.neg_add a)).symm
theorem neg_zero (H : Rng R) : -(0 : R) = 0 := (H.neg_eq (H.zero_add 0)).symm
theorem mul_neg (H : Rng R) (a b : R) : a * -b = -(a * b) := H.neg_eq (by rw [← H.mul_add, H.add_neg, H.mul_zero])
theorem neg_mul (H : Rng R) (a b : R) : -a * b = -(a * b) := by rw [H.mul_comm, H.mul_neg, H.mul_comm]
theorem neg_sum (H : Rng R) (a b : R) : -(a + b) = -a + -b := (H.neg_eq (by
  rw [H.add_assoc, ← H.add_assoc b, H.add_comm b, H.add_assoc, H.add_neg, H.add_zero, H.add_neg])).symm
theorem swap4 (H : Rng R) (a b c d : R) : a + b + (c + d) = a + c + (b + d) := by
  rw [H.add_assoc, ← H.add_assoc b, H.add_comm b c, H.add_assoc c, ← H.add_assoc a]
end Rng

/-! ### sums -/
theorem Sm_zero (H : Rng R) {n : Nat} {f : Nat → R} (h : ∀ i, i < n → f i = 0) : Sm n f = 0 := by
  induction n with
  | zero => rfl
  | succ n ih => rw [Sm, ih (fun i hi => h i (by omega)), h n (by omega), H.zero_add]
theorem Sm_add (H : Rng R) (n : Nat) (f g : Nat → R) : Sm n (fun i => f i + g i) = Sm n f + Sm n g := by
  induction n with
  | zero => exact (H.zero_add 0).symm
  | succ n ih => rw [Sm, Sm, Sm, ih, H.swap4]
theorem Sm_mul (H : Rng R) (n : Nat) (a : R) (f : Nat → R) : Sm n (fun i => a * f i) = a * Sm n f := by
  induction n with
  | zero => exact (H.mul_zero a).symm
  | succ n ih => rw [Sm, Sm, ih, H.mul_add]
theorem Sm_one (H : Rng R) {n k : Nat} {f : Nat → R} (hk : k < n) (h : ∀ i, i < n → i ≠ k → f i = 0) : Sm n f = f k := by
  induction n with
  | zero => omega
  | succ n ih =>
    by_cases e : k = n
    · subst e; rw [Sm, Sm_zero H (fun i hi => h i (by omega) (by omega)), H.zero_add]
    · rw [Sm, ih (by omega) (fun i hi hne => h i (by omega) hne), h n (by omega) (by omega), H.add_zero]
theorem Sm_two (H : Rng R) {n k : Nat} {f : Nat → R} (hk : k + 1 < n) (h : ∀ i, i < n → i ≠ k → i ≠ k + 1 → f i = 0) : Sm n f = f k + f (k + 1) := by
  induction n with
  | zero => omega
  | succ n ih =>
    by_cases e : k + 1 = n
    · subst e; rw [Sm, Sm_one H (k := k) (by omega) (fun i hi hne => h i (by omega) hne (by omega))]
    · rw [Sm, ih (by omega) (fun i hi h1 h2 => h i (by omega) h1 h2), h n (by omega) (by omega) (by omega), H.add_zero]

/-! ### determinants -/
def sg (i : Nat) (a : R) : R := if i % 2 = 0 then a else -a
def dt : Nat → (Nat → Nat → R) → R
  | 0, _ => 1
  | n + 1, M => Sm (n + 1) fun i => sg i (M i 0 * dt n (fun k j => M (skp i k) (j + 1)))
theorem sg_zero (H : Rng R) (i : Nat) : sg i (0 : R) = 0 := by unfold sg; split; rfl; exact H.neg_zero
theorem sg_add (H : Rng R) (i : Nat) (a b : R) : sg i (a + b) = sg i a + sg i b := by unfold sg; split; rfl; exact H.neg_sum a b
theorem sg_mul (H : Rng R) (i : Nat) (a b : R) : sg i (a * b) = a * sg i b := by unfold sg; split; rfl; exact (H.mul_neg a b).symm
theorem sg_succ (H : Rng R) (i : Nat) (a : R) : sg (i + 1) a = -sg i a := by
  unfold sg
  by_cases h : i % 2 = 0
  · rw [if_pos h, if_neg (by omega)]
  · rw [if_neg h, if_pos (by omega), H.neg_neg]
/-- the determinant sees n rows and columns alone -/
theorem dt_congr : ∀ (n : Nat) {M N : Nat → Nat → R}, (∀ i j, i < n → j < n → M i j = N i j) → dt n M = dt n N
  | 0, _, _, _ => rfl
  | n + 1, M, N, h => Sm_congr fun i hi => by
    rw [h i 0 hi (by omega), dt_congr n (N := fun k j => N (skp i k) (j + 1)) fun k j hk hj => h _ _ (skp_lt hi hk) (by omega)]
/-- linear in each row -/
theorem dt_lin (H : Rng R) : ∀ (n : Nat) (M : Nat → Nat → R) (i : Nat) (a : R) (r s : Nat → R), i < n → dt n (rs M i fun j => a * r j + s j) = a * dt n (rs M i r) + dt n (rs M i s)
  | 0, _, _, _, _, _, h => by omega
  | n + 1, M, i, a, r, s, h => by
    rw [dt, dt, dt, ← Sm_mul H, ← Sm_add H]
    refine Sm_congr fun t ht => ?_
    by_cases e : i = t
    · subst e
      rw [minor_rs_same, minor_rs_same, minor_rs_same, rs_at, rs_at, rs_at, H.add_mul, sg_add H, H.mul_assoc, sg_mul H i a]
    · rw [minor_rs M e, minor_rs M e, minor_rs M e, rs_ne M (fun h => e h.symm), rs_ne M (fun h => e h.symm), rs_ne M (fun h => e h.symm)]
      have ih := dt_lin H n (fun k j => M (skp t k) (j + 1)) (unsk t i) a (fun j => r (j + 1)) (fun j => s (j + 1)) (by unfold unsk; split <;> omega)
      rw [ih, H.mul_add, sg_add H, ← H.mul_assoc, H.mul_comm (M t 0) a, H.mul_assoc, sg_mul H t a]
/-- two rows behind each other that agree -/
theorem dt_adj (H : Rng R) : ∀ (n : Nat) (M : Nat → Nat → R) (i : Nat), i + 1 < n → (∀ j, M i j = M (i + 1) j) → dt n M = 0
  | 0, _, _, h, _ => by omega
  | n + 1, M, i, h, he => by
    rw [dt, Sm_two H (k := i) h]
    · have e : (fun k j => M (skp (i + 1) k) (j + 1)) = fun k j => M (skp i k) (j + 1) := by
        funext k j
        by_cases hk : k = i
        · subst hk
          rw [show skp (k + 1) k = k by unfold skp; rw [if_pos (by omega)], show skp k k = k + 1 by unfold skp; rw [if_neg (by omega)]]
          exact he (j + 1)
        · have : skp (i + 1) k = skp i k := by unfold skp; split <;> split <;> omega
          rw [this]
      rw [e, ← he 0, sg_succ H, H.add_neg]
    · intro t ht h1 h2
      have := dt_adj H n (fun k j => M (skp t k) (j + 1)) (unsk t i) (by unfold unsk; split <;> omega) (fun j => by
        have e1 : skp t (unsk t i) = i := skp_unsk (fun e => h1 e.symm)
        have e2 : skp t (unsk t i + 1) = i + 1 := by unfold skp unsk; split <;> split <;> omega
        show M (skp t (unsk t i)) (j + 1) = M (skp t (unsk t i + 1)) (j + 1)
        rw [e1, e2]; exact he (j + 1))
      rw [this, H.mul_zero, sg_zero H]
theorem dt_sum (H : Rng R) {n : Nat} (M : Nat → Nat → R) {i : Nat} (r s : Nat → R) (hi : i < n) : dt n (rs M i fun j => r j + s j) = dt n (rs M i r) + dt n (rs M i s) := by
  have := dt_lin H n M i 1 r s hi
  simp only [H.one_mul] at this
  exact this
theorem dt_zrow (H : Rng R) {n : Nat} (M : Nat → Nat → R) {i : Nat} (hi : i < n) : dt n (rs M i fun _ => 0) = 0 := by
  have := dt_sum H M (fun _ => 0) (fun _ => 0) hi
  simp only [H.zero_add] at this
  exact (H.add_left (a := dt n (rs M i fun _ => 0)) (by rw [H.add_zero]; exact this)).symm
theorem dt_scale (H : Rng R) {n : Nat} (M : Nat → Nat → R) {i : Nat} (a : R) (r : Nat → R) (hi : i < n) : dt n (rs M i fun j => a * r j) = a * dt n (rs M i r) := by
  have := dt_lin H n M i a r (fun _ => 0) hi
  simp only [H.add_zero, dt_zrow H M hi] at this
  exact this
/-- if equal rows at i and k give 0, an exchange of them changes the sign -/
theorem dt_flip (H : Rng R) {n : Nat} {i k : Nat} (hi : i < n) (hk : k < n) (hne : i ≠ k) (M : Nat → Nat → R) (h0 : ∀ r : Nat → R, dt n (rs (rs M i r) k r) = 0) (r s : Nat → R) :
    dt n (rs (rs M i s) k r) = -dt n (rs (rs M i r) k s) := by
  have h := h0 fun j => r j + s j
  rw [dt_sum H _ r s hk, rs_comm M hne, rs_comm M hne, dt_sum H _ r s hi, dt_sum H _ r s hi, ← rs_comm M hne, ← rs_comm M hne, ← rs_comm M hne, ← rs_comm M hne, h0, h0, H.zero_add, H.add_zero] at h
  exact (H.neg_eq (by rw [H.add_comm]; exact h))
/-- two equal rows -/
theorem dt_eq (H : Rng R) {n : Nat} {i : Nat} : ∀ (d : Nat) (M : Nat → Nat → R), i + 1 + d < n → (∀ j, M i j = M (i + 1 + d) j) → dt n M = 0
  | 0, M, h, he => dt_adj H n M i (by omega) he
  | d + 1, M, h, he => by
    have hf := dt_flip H (n := n) (i := i + 1 + d) (k := i + 1 + d + 1) (by omega) (by omega) (by omega) M (fun r => by
      refine dt_adj H n _ (i + 1 + d) (by omega) fun j => ?_
      rw [rs_ne _ (by omega), rs_at, rs_at]) (M (i + 1 + d + 1)) (M (i + 1 + d))
    rw [rs_self, show rs M (i + 1 + d + 1) (M (i + 1 + d + 1)) = M from rs_self M _] at hf
    rw [hf, dt_eq H (i := i) d _ (by omega), H.neg_zero]
    intro j
    rw [rs_ne _ (by omega), rs_ne _ (by omega), rs_ne _ (by omega), rs_at]
    exact he j
theorem dt_same (H : Rng R) {n : Nat} {i k : Nat} (hi : i < n) (hk : k < n) (hne : i ≠ k) (M : Nat → Nat → R) (he : ∀ j, M i j = M k j) : dt n M = 0 := by
  rcases Nat.lt_or_gt_of_ne hne with h | h
  · exact dt_eq H (i := i) (k - i - 1) M (by omega) (by rw [show i + 1 + (k - i - 1) = k by omega]; exact he)
  · exact dt_eq H (i := k) (i - k - 1) M (by omega) (by rw [show k + 1 + (i - k - 1) = i by omega]; exact fun j => (he j).symm)
/-- an exchange of two rows -/
theorem dt_swap (H : Rng R) {n : Nat} {i k : Nat} (hi : i < n) (hk : k < n) (hne : i ≠ k) (M : Nat → Nat → R) : dt n (rs (rs M i (M k)) k (M i)) = -dt n M := by
  have := dt_flip H hi hk hne M (fun r => dt_same H hi hk hne _ fun j => by rw [rs_ne _ hne, rs_at, rs_at]) (M i) (M k)
  rw [rs_self, rs_self] at this
  exact this
/-- a multiple of another row is added -/
theorem dt_addrow (H : Rng R) {n : Nat} {i k : Nat} (hi : i < n) (hk : k < n) (hne : i ≠ k) (M : Nat → Nat → R) (a : R) : dt n (rs M i fun j => a * M k j + M i j) = dt n M := by
  rw [dt_lin H n M i a _ _ hi, rs_self, dt_same H hi hk hne (rs M i (M k)) (fun j => by rw [rs_at, rs_ne _ (fun e => hne e.symm)]), H.mul_zero, H.zero_add]
/-- products -/
def mm (n : Nat) (A B : Nat → Nat → R) : Nat → Nat → R := fun i j => Sm n fun k => A i k * B k j
end
section
variable {R : Type} [Add R] [Mul R] [Zero R]
theorem mm_rs (n : Nat) (A B : Nat → Nat → R) (i : Nat) (r : Nat → R) : mm n (rs A i r) B = rs (mm n A B) i (fun j => Sm n fun k => r k * B k j) := by
  funext a b
  unfold mm rs
  by_cases e : a = i
  · rw [if_pos e]; exact Sm_congr fun k _ => by rw [if_pos e]
  · rw [if_neg e]; exact Sm_congr fun k _ => by rw [if_neg e]
end

section
variable {p : Int} {D : Nat} {fs : List Int}
/-- the elements of a field -/
def Fe (_ : FV p D fs) : Type := { a : Int // El p D a }
variable {h : FV p D fs}
instance : Add (Fe h) := ⟨fun a b => ⟨fsum p D a.1 b.1 1, fsum_el h.fa.pos _ _ _⟩⟩
instance : Mul (Fe h) := ⟨fun a b => ⟨fmul p D fs a.1 b.1, fmul_el h.fa _ _⟩⟩
instance : Neg (Fe h) := ⟨fun a => ⟨fneg p D a.1, fneg_el h.fa _⟩⟩
instance : Zero (Fe h) := ⟨⟨0, el_zero h.fa⟩⟩
instance : One (Fe h) := ⟨⟨1, el_one h.fa⟩⟩
theorem fe_add (a b : Fe h) : (a + b).1 = fsum p D a.1 b.1 1 := rfl
theorem fe_mul (a b : Fe h) : (a * b).1 = fmul p D fs a.1 b.1 := rfl
theorem fe_neg (a : Fe h) : (-a).1 = fneg p D a.1 := rfl
theorem fe_ext {a b : Fe h} (e : a.1 = b.1) : a = b := Subtype.ext e
theorem fe_rng (h : FV p D fs) : Rng (Fe h) where
  add_assoc a b c := fe_ext (fadd_assoc h.fa a.1 b.2 c.1)
  add_comm a b := fe_ext (fsum_comm _ _)
  zero_add a := fe_ext (fadd0 h.fa a.2)
  neg_add a := fe_ext (by rw [fe_add, fe_neg, fsum_comm]; exact fneg_self h.fa a.2)
  mul_assoc a b c := fe_ext (fmul_assoc h.fa a.1 b.1 c.1)
  mul_comm a b := fe_ext (fmul_comm h.fa _ _)
  one_mul a := fe_ext (one_fmul h.fa a.2)
  mul_add a b c := fe_ext (fmul_fsum h.fa a.1 b.1 c.1 1)
def feMk (h : FV p D fs) (x : Int) (hx : 0 ≤ x ∧ x < p ^ D) : Fe h := ⟨x, hx⟩
/-- an element, or 0 -/
def em (h : FV p D fs) (x : Int) : Fe h := if hx : 0 ≤ x ∧ x < p ^ D then feMk h x hx else 0
theorem em_val {x : Int} (hx : El p D x) : (em h x).1 = x := by
  have hx' : 0 ≤ x ∧ x < p ^ D := hx
  unfold em; rw [dif_pos hx']; rfl
theorem em_add {x y : Int} (hx : El p D x) (hy : El p D y) : em h (fsum p D x y 1) = em h x + em h y := fe_ext (by rw [em_val (fsum_el h.fa.pos _ _ _), fe_add, em_val hx, em_val hy])
theorem em_mul {x y : Int} (hx : El p D x) (hy : El p D y) : em h (fmul p D fs x y) = em h x * em h y := fe_ext (by rw [em_val (fmul_el h.fa _ _), fe_mul, em_val hx, em_val hy])
theorem em_neg {x : Int} (hx : El p D x) : em h (fneg p D x) = -em h x := fe_ext (by rw [em_val (fneg_el h.fa _), fe_neg, em_val hx])
theorem em_0 : em h 0 = 0 := fe_ext (by rw [em_val (el_zero h.fa)]; rfl)
theorem em_1 : em h 1 = 1 := fe_ext (by rw [em_val (el_one h.fa)]; rfl)
/-- a matrix by its rows -/
def toM (h : FV p D fs) (R : List (List Int)) : Nat → Nat → Fe h := fun i j => em h (cf (ra R i) j)
variable {n : Nat} {R : List (List Int)} {t c i : Nat}
/-- one matrix is the other one behind row operations with the factor u -/
def RO (h : FV p D fs) (n : Nat) (M : Nat → Nat → Fe h) (u : Fe h) (M' : Nat → Nat → Fe h) : Prop := ∀ B, dt n (mm n M B) = u * dt n (mm n M' B)
theorem RO.trans {M M' M'' : Nat → Nat → Fe h} {u v : Fe h} (h1 : RO h n M u M') (h2 : RO h n M' v M'') : RO h n M (u * v) M'' := fun B => by rw [h1 B, h2 B, (fe_rng h).mul_assoc]
theorem RO.refl (M : Nat → Nat → Fe h) : RO h n M 1 M := fun B => by rw [(fe_rng h).one_mul]
theorem RO.swap (M : Nat → Nat → Fe h) {i k : Nat} (hi : i < n) (hk : k < n) (hne : i ≠ k) : RO h n M (-1) (rs (rs M i (M k)) k (M i)) := fun B => by
  have H := fe_rng h
  have e : mm n (rs (rs M i (M k)) k (M i)) B = rs (rs (mm n M B) i (mm n M B k)) k (mm n M B i) := by rw [mm_rs, mm_rs]; rfl
  rw [e, dt_swap H hi hk hne, H.neg_mul, H.one_mul, H.neg_neg]
theorem RO.scale (M : Nat → Nat → Fe h) {i : Nat} (hi : i < n) {a f : Fe h} (haf : a * f = 1) : RO h n M a (rs M i fun j => f * M i j) := fun B => by
  have H := fe_rng h
  have e : mm n (rs M i fun j => f * M i j) B = rs (mm n M B) i fun j => f * mm n M B i j := by
    rw [mm_rs]; congr 1; funext j
    show _ = f * Sm n fun k => M i k * B k j
    rw [← Sm_mul H]; exact Sm_congr fun k _ => H.mul_assoc _ _ _
  rw [e, dt_scale H _ _ _ hi, rs_self, ← H.mul_assoc, haf, H.one_mul]
theorem RO.addrow (M : Nat → Nat → Fe h) {i k : Nat} (hi : i < n) (hk : k < n) (hne : i ≠ k) (a : Fe h) : RO h n M 1 (rs M i fun j => a * M k j + M i j) := fun B => by
  have H := fe_rng h
  have e : mm n (rs M i fun j => a * M k j + M i j) B = rs (mm n M B) i fun j => a * mm n M B k j + mm n M B i j := by
    rw [mm_rs]; congr 1; funext j
    show _ = a * Sm n (fun l => M k l * B l j) + Sm n fun l => M i l * B l j
    rw [← Sm_mul H, ← Sm_add H]; exact Sm_congr fun l _ => by rw [H.add_mul, H.mul_assoc]
  rw [e, dt_addrow H hi hk hne, H.one_mul]
theorem RO.congr {M M' N : Nat → Nat → Fe h} {u : Fe h} (hr : RO h n M u M') (he : ∀ i j, i < n → j < n → M' i j = N i j) : RO h n M u N := fun B => by
  rw [hr B]; congr 1
  exact dt_congr n fun i j hi _ => Sm_congr fun k hk => by rw [he i k hi hk]
/-- multiples of row t are added to all others -/
theorem RO.elim (M : Nat → Nat → Fe h) (ht : t < n) (g : Nat → Fe h) : ∀ k, k ≤ n → RO h n M 1 (fun i j => if i < k ∧ i ≠ t then g i * M t j + M i j else M i j)
  | 0, _ => (RO.refl M).congr fun i j _ _ => by rw [if_neg (by omega)]
  | k + 1, hk => by
    have ih := RO.elim M ht g k (by omega)
    by_cases e : k = t
    · refine ih.congr fun i j _ _ => ?_
      by_cases h1 : i < k ∧ i ≠ t
      · rw [if_pos h1, if_pos ⟨by omega, h1.2⟩]
      · rw [if_neg h1, if_neg (by omega)]
    · have h2 := ih.trans (RO.addrow (fun i j => if i < k ∧ i ≠ t then g i * M t j + M i j else M i j) (i := k) (k := t) (by omega) ht e (g k))
      rw [(fe_rng h).one_mul] at h2
      refine h2.congr fun i j _ _ => ?_
      by_cases ei : i = k
      · subst ei
        rw [rs_at, if_neg (show ¬ (t < i ∧ t ≠ t) from fun hh => hh.2 rfl), if_neg (show ¬ (i < i ∧ i ≠ t) from fun hh => Nat.lt_irrefl _ hh.1), if_pos ⟨by omega, e⟩]
      · rw [rs_ne _ ei]
        by_cases h1 : i < k ∧ i ≠ t
        · rw [if_pos h1, if_pos ⟨by omega, h1.2⟩]
        · rw [if_neg h1, if_neg (by omega)]
/-- one step of the reduction -/
theorem RO.step (hR : Rect p D n R) (hl : R.length = n) (ht : t < n) (hi : i < n) (hc : c < n) (h0 : cf (ra R i) c ≠ 0) :
    RO h n (toM h R) (if i = t then em h (cf (ra R i) c) else -em h (cf (ra R i) c)) (toM h (stepR p D fs R t c i)) := by
  have H := fe_rng h
  have hai : El p D (cf (ra R i) c) := inEl h.fa.pos (hR.ra (by omega)).2 c
  have hfi := finv_ok h hai h0
  have haf : em h (cf (ra R i) c) * em h (finv p D fs (cf (ra R i) c)) = 1 := by rw [← em_mul hai hfi.1, hfi.2, em_1]
  -- behind the exchange
  have h1 : ∃ M1 : Nat → Nat → Fe h, RO h n (toM h R) (if i = t then 1 else -1) M1 ∧ (∀ k j, k < n → M1 k j = if k = t then em h (cf (ra R i) j) else em h (cf (if k = i then ra R t else ra R k) j)) := by
    by_cases e : i = t
    · refine ⟨toM h R, by rw [if_pos e]; exact RO.refl _, fun k j _ => ?_⟩
      by_cases ek : k = t
      · rw [if_pos ek, ek, e]; rfl
      · rw [if_neg ek, if_neg (by omega)]; rfl
    · refine ⟨_, by rw [if_neg e]; exact RO.swap (toM h R) ht hi (fun e' => e e'.symm), fun k j _ => ?_⟩
      by_cases ek : k = t
      · rw [if_pos ek, ek, rs_ne _ (fun e' => e e'.symm), rs_at]; rfl
      · rw [if_neg ek]
        by_cases ei : k = i
        · rw [if_pos ei, ei, rs_at]; rfl
        · rw [if_neg ei, rs_ne _ ei, rs_ne _ ek]; rfl
  obtain ⟨M1, r1, e1⟩ := h1
  have r2 := r1.trans (RO.scale M1 ht haf)
  have r3 := r2.trans (RO.elim (rs M1 t fun j => em h (finv p D fs (cf (ra R i) c)) * M1 t j) ht (fun k => -M1 k c) n (Nat.le_refl _))
  have hu : (if i = t then (1 : Fe h) else -1) * em h (cf (ra R i) c) * 1 = if i = t then em h (cf (ra R i) c) else -em h (cf (ra R i) c) := by
    rw [H.mul_one]
    split
    · exact H.one_mul _
    · rw [H.neg_mul, H.one_mul]
  rw [hu] at r3
  refine r3.congr fun k j hk hj => ?_
  have hP : ∀ j, j < n → em h (cf (scaleI p D fs (ra R i) c) j) = em h (finv p D fs (cf (ra R i) c)) * em h (cf (ra R i) j) := fun j hj => by
    unfold scaleI
    rw [cf_tab (by rw [(hR.ra (by omega)).1]; exact hj), em_mul hfi.1 (inEl h.fa.pos (hR.ra (by omega)).2 j)]
  unfold toM
  rw [ra_stepR (by omega) (by omega) (by omega)]
  by_cases ek : k = t
  · subst ek
    rw [if_neg (fun hh => hh.2 rfl), if_pos rfl, rs_at, e1 _ _ hk, if_pos rfl, hP j hj]
  · rw [if_pos ⟨hk, ek⟩, if_neg ek, rs_at, rs_ne _ ek, e1 _ _ ht, if_pos rfl, e1 _ _ hk, if_neg ek, e1 _ _ hk, if_neg ek]
    have hr : Rw p D n (if k = i then ra R t else ra R k) := by split; exact hR.ra (by omega); exact hR.ra (by omega)
    rw [subI_add h.fa hr, cf_addT (by rw [hr.1]; exact hj), em_add (hr.el h.fa j) (fmul_el h.fa _ _), em_mul (fneg_el h.fa _) ((scaleI_rw (c := c) h.fa (hR.ra (by omega) : Rw p D n (ra R i))).el h.fa j), em_neg (hr.el h.fa c), hP j hj, H.add_comm]
/-! ### what the reduction ends in -/
variable {N : Nat} {piv : List Int}
/-! ### inverses -/
/-- the left half of a row is its right half times A -/
def Half (h : FV p D fs) (n : Nat) (A : Nat → Nat → Fe h) (w : List Int) : Prop := ∀ j, j < n → em h (cf w j) = Sm n fun k => em h (cf w (n + k)) * A k j
theorem Half.sp {W : List (List Int)} {A : Nat → Nat → Fe h} (hW : Rect p D (n + n) W) (hh : ∀ w ∈ W, Half h n A w) {x : List Int} (hx : Sp p D fs (n + n) W x) : Half h n A x := by
  have H := fe_rng h
  induction hx with
  | zero =>
    intro j _
    rw [cf_zr, em_0]
    exact (Sm_zero H fun k _ => by rw [cf_zr, em_0, H.zero_mul]).symm
  | add hx hr hf ih =>
    rename_i y r f
    have hy := hx.rw h.fa
    have hrr : Rw p D (n + n) r := hW _ hr
    intro j hj
    have e : ∀ q, q < n + n → em h (cf (addT p D fs y r f) q) = em h (cf y q) + em h f * em h (cf r q) := fun q hq => by
      rw [cf_addT (by rw [hy.1]; exact hq), em_add (hy.el h.fa q) (fmul_el h.fa _ _), em_mul hf (hrr.el h.fa q)]
    rw [e j (by omega), ih j hj, hh r hr j hj, ← Sm_mul H, ← Sm_add H]
    exact Sm_congr fun k hk => by rw [e (n + k) (by omega), H.add_mul, H.mul_assoc]
end

end Go.Proofs.YtljemlfocajhnaaGreat
end

section
/- Signs of permutations: by the number of cycles, and as determinants. The sign of a composition is the product of the signs. -/
namespace Go.Proofs.YtljemlfocajhnaaGreat
set_option linter.unusedSimpArgs false
set_option linter.unusedVariables false

/-- p maps the numbers below n to themselves and keeps them apart -/
structure Bij (n : Nat) (p : Nat → Nat) : Prop where
  lt : ∀ x, x < n → p x < n
  inj : ∀ x y, x < n → y < n → p x = p y → x = y
def it (p : Nat → Nat) : Nat → Nat → Nat
  | 0, x => x
  | k + 1, x => p (it p k x)
/-- x is the least number of its cycle -/
def Lead (p : Nat → Nat) (x : Nat) : Prop := ∀ k, x ≤ it p k x
/-- every number below n is met -/
theorem Bij.onto {n : Nat} {p : Nat → Nat} (h : Bij n p) {y : Nat} (hy : y < n) : ∃ x, x < n ∧ p x = y := by
  refine Classical.byContradiction fun hno => ?_
  have hnd : ((List.range n).map p).Nodup := by
    rw [List.nodup_iff_pairwise_ne, List.pairwise_iff_getElem]
    intro a b ha hb hab
    simp only [List.length_map, List.length_range] at ha hb
    simp only [List.getElem_map, List.getElem_range]
    intro e
    have := h.inj a b ha hb e
    omega
  have hy' : y ∉ (List.range n).map p := fun hm => by
    obtain ⟨x, hx, e⟩ := List.mem_map.1 hm
    exact hno ⟨x, List.mem_range.1 hx, e⟩
  have hsub : y :: (List.range n).map p ⊆ List.range n := fun z hz => by
    rcases List.mem_cons.1 hz with rfl | hz
    · exact List.mem_range.2 hy
    · obtain ⟨x, hx, rfl⟩ := List.mem_map.1 hz
      exact List.mem_range.2 (h.lt x (List.mem_range.1 hx))
  have := List.Nodup.length_le_of_subset (List.nodup_cons.2 ⟨hy', hnd⟩) hsub
  simp at this
  omega
section
variable {n : Nat} {p : Nat → Nat}
theorem it_lt (h : Bij n p) {x : Nat} (hx : x < n) : ∀ k, it p k x < n
  | 0 => hx
  | k + 1 => h.lt _ (it_lt h hx k)
end

/-! ### permutation matrices -/
section
variable {R : Type} [Add R] [Mul R] [Neg R] [Zero R] [One R]
end

end Go.Proofs.YtljemlfocajhnaaGreat
end
