/- Logarithms and squares of a finite field, as the law asks for them, in plain terms. -/
import Derived.Test.YtcenabaklokhhaaPSq
import Derived.Test.YtcenabaklokhhaaPTrF
import Derived.Test.YtcenabaklokhhaaInt
namespace Go.Proofs.Ytcenabaklokhhaa
set_option linter.unusedSimpArgs false
set_option linter.unusedVariables false
section
variable {p : Int} {D : Nat} {fs : List Int}
/-- the first element from a on, of the next f, that is primitive -/
def prS1 (p : Int) (D : Nat) (fs : List Int) : Nat → Nat → Nat
  | 0, a => a
  | f + 1, a => if ordF p D fs a = q1 p D then a else prS1 p D fs f (a + 1)
def prF (p : Int) (D : Nat) (fs : List Int) : Nat := prS1 p D fs (q1 p D) 1
theorem prS1_hit {f a : Nat} (h : ordF p D fs a = q1 p D) : prS1 p D fs f a = a := by
  cases f with
  | zero => rfl
  | succ f => rw [prS1, if_pos h]
theorem prS1_next {f a : Nat} (h : ordF p D fs a ≠ q1 p D) : prS1 p D fs (f + 1) a = prS1 p D fs f (a + 1) := by rw [prS1, if_neg h]
theorem prS1_spec : ∀ (f a g : Nat), a ≤ g → g ≤ a + f → ordF p D fs g = q1 p D → a ≤ prS1 p D fs f a ∧ prS1 p D fs f a ≤ g ∧ ordF p D fs (prS1 p D fs f a) = q1 p D
  | 0, a, g, h1, h2, h3 => by
    have : g = a := by omega
    subst this; exact ⟨Nat.le_refl _, Nat.le_refl _, h3⟩
  | f + 1, a, g, h1, h2, h3 => by
    by_cases e : ordF p D fs a = q1 p D
    · rw [prS1_hit e]; exact ⟨Nat.le_refl _, h1, e⟩
    · rw [prS1_next e]
      have hne : a ≠ g := fun e2 => e (e2 ▸ h3)
      obtain ⟨x, y, z⟩ := prS1_spec f (a + 1) g (by omega) (by omega) h3
      exact ⟨by omega, y, z⟩
/-- what the least primitive element is -/
structure PrimOk (p : Int) (D : Nat) (fs : List Int) (g : Nat) : Prop where
  pos : 1 ≤ g
  el : El p D g
  ord : ordF p D fs g = q1 p D
theorem prim_ok (h : FV p D fs) : PrimOk p D fs (prF p D fs) := by
  obtain ⟨g, hg, g0, ho⟩ := gen_ord h
  obtain ⟨G, rfl⟩ := Int.eq_ofNat_of_zero_le hg.1
  have hG : 1 ≤ G := by omega
  have hlt := hg.2
  have hq := q1_cast h
  have e := (ord_ok h hg g0).uniq ho
  obtain ⟨a, b, c⟩ := prS1_spec (p := p) (D := D) (fs := fs) (q1 p D) 1 G hG (by omega) e
  exact ⟨a, ⟨by omega, by unfold prF; omega⟩, c⟩
theorem PrimOk.ok (h : FV p D fs) {g : Nat} (hg : PrimOk p D fs g) : OrdOk p D fs g (q1 p D) := by
  have := ord_ok h hg.el (by have := hg.pos; omega)
  rwa [hg.ord] at this
/-- the table behind n steps: at each power of g that was met its exponent -/
def logP (p : Int) (D : Nat) (fs : List Int) (g : Int) : Nat → List Int
  | 0 => (List.replicate (q1 p D + 1) 0).set 0 (-1)
  | n + 1 => (logP p D fs g n).set (pw p D fs g n).toNat n
theorem logP_len (g : Int) : ∀ n, (logP p D fs g n).length = q1 p D + 1
  | 0 => by simp [logP]
  | n + 1 => by rw [logP, List.length_set, logP_len g n]
def logL (p : Int) (D : Nat) (fs : List Int) : List Int := logP p D fs (prF p D fs) (q1 p D)
theorem nthS {xs : List Int} {i j : Nat} {x : Int} (h : i < xs.length) : nth (xs.set i x) j = if i = j then x else nth xs j := by
  unfold nth
  rw [List.getD_eq_getElem?_getD, List.getElem?_set]
  split
  · rename_i e; subst e; simp [h]
  · simp
theorem pw_lt (h : FV p D fs) (g : Int) (n : Nat) : (pw p D fs g n).toNat < q1 p D + 1 ∧ ((pw p D fs g n).toNat : Int) = pw p D fs g n := by
  have := pw_el h.fa g n
  have hq := q1_cast h
  have h1 := this.1
  have h2 := this.2
  omega
theorem logP_at (h : FV p D fs) {g : Nat} (hg : PrimOk p D fs g) : ∀ n, n ≤ q1 p D → nth (logP p D fs g n) 0 = -1 ∧ ∀ j, j < n → nth (logP p D fs g n) (pw p D fs g j).toNat = j
  | 0, _ => ⟨by rw [logP, nthS (by simp)]; simp, fun j hj => by omega⟩
  | n + 1, hn => by
    obtain ⟨h0, ih⟩ := logP_at h hg n (by omega)
    have hl := (pw_lt h (g : Int) n).1
    have hnz := pw_nz h hg.el (by have := hg.pos; omega) n
    have hc := (pw_lt h (g : Int) n).2
    refine ⟨?_, fun j hj => ?_⟩
    · rw [logP, nthS (by rw [logP_len]; exact hl), if_neg (by omega)]; exact h0
    · rw [logP, nthS (by rw [logP_len]; exact hl)]
      by_cases e : n = j
      · subst e; rw [if_pos rfl]
      · rw [if_neg ?_]
        · exact ih j (by omega)
        · intro e2
          have hc2 := (pw_lt h (g : Int) j).2
          have e3 : pw p D fs g n = pw p D fs g j := by omega
          exact e ((hg.ok h).inj h hg.el (by have := hg.pos; omega) (by omega) (by omega) e3)
/-- what the table holds -/
structure LogOk (p : Int) (D : Nat) (fs : List Int) (g : Int) (L : List Int) : Prop where
  len : L.length = q1 p D + 1
  zero : nth L 0 = -1
  at' : ∀ x : Nat, 1 ≤ x → x < q1 p D + 1 → 0 ≤ nth L x ∧ nth L x < q1 p D ∧ pw p D fs g (nth L x).toNat = x
theorem log_ok (h : FV p D fs) : LogOk p D fs (prF p D fs) (logL p D fs) := by
  have hg := prim_ok h
  obtain ⟨h0, ha⟩ := logP_at h hg (q1 p D) (Nat.le_refl _)
  refine ⟨logP_len _ _, h0, fun x hx1 hx => ?_⟩
  have hq := q1_cast h
  obtain ⟨i, hi, e⟩ := (hg.ok h).onto h hg.el (by have := hg.pos; omega) (x := (x : Int)) ⟨by omega, by omega⟩ (by omega)
  have := ha i hi
  rw [e, Int.toNat_natCast] at this
  unfold logL
  rw [this]
  exact ⟨by omega, by omega, by rw [Int.toNat_natCast]; exact e⟩
/-- logarithms of products -/
theorem LogOk.mul (h : FV p D fs) {L : List Int} (hL : LogOk p D fs (prF p D fs) L) {a b : Int} (ha : El p D a) (hb : El p D b) (a0 : 0 < a) (b0 : 0 < b) :
    nth L (fmul p D fs a b).toNat = (nth L a.toNat + nth L b.toNat) % (q1 p D : Int) ∧ (fmul p D fs a b).toNat < q1 p D + 1 := by
  have hg := prim_ok h
  have hq := q1_cast h
  have hm := fmul_el h.fa a b
  have hm0 : fmul p D fs a b ≠ 0 := fun e => by rcases h.nzd ha hb e with e | e <;> omega
  have ha1 := ha.2
  have hb1 := hb.2
  have hm1 := hm.1
  have hm2 := hm.2
  obtain ⟨x1, x2, x3⟩ := hL.at' a.toNat (by omega) (by omega)
  obtain ⟨y1, y2, y3⟩ := hL.at' b.toNat (by omega) (by omega)
  obtain ⟨z1, z2, z3⟩ := hL.at' (fmul p D fs a b).toNat (by omega) (by omega)
  rw [Int.toNat_of_nonneg (by omega)] at x3 y3 z3
  have e := (hg.ok h).log_mul h hg.el (by have := hg.pos; omega) (i := (nth L a.toNat).toNat) (j := (nth L b.toNat).toNat) (k := (nth L (fmul p D fs a b).toNat).toNat) (by omega) (by rw [x3, y3, z3])
  refine ⟨?_, by omega⟩
  have : ((nth L (fmul p D fs a b).toNat).toNat : Int) = (((nth L a.toNat).toNat + (nth L b.toNat).toNat : Nat) : Int) % (q1 p D : Int) := by
    rw [e, Int.natCast_emod]
  push_cast at this
  rw [Int.toNat_of_nonneg z1, Int.toNat_of_nonneg x1, Int.toNat_of_nonneg y1] at this
  exact this
/-- the squares of the numbers 1, .., n -/
def sqsL (p : Int) (D : Nat) (fs : List Int) (n : Nat) : List Int := (List.range n).map fun k : Nat => fmul p D fs ((k + 1 : Nat) : Int) ((k + 1 : Nat) : Int)
theorem sqsL_succ (n : Nat) : sqsL p D fs (n + 1) = sqsL p D fs n ++ [fmul p D fs ((n + 1 : Nat) : Int) ((n + 1 : Nat) : Int)] := by simp [sqsL, List.range_succ]
theorem mem_sqsL (h : FV p D fs) {x : Int} : x ∈ sqsL p D fs (q1 p D) ↔ ∃ a, El p D a ∧ a ≠ 0 ∧ x = fmul p D fs a a := by
  have hq := q1_cast h
  unfold sqsL
  rw [List.mem_map]
  constructor
  · rintro ⟨k, hk, rfl⟩
    have := List.mem_range.1 hk
    exact ⟨((k + 1 : Nat) : Int), ⟨by omega, by omega⟩, by omega, rfl⟩
  · rintro ⟨a, ha, a0, rfl⟩
    have h1 := ha.1
    have h2 := ha.2
    refine ⟨a.toNat - 1, List.mem_range.2 (by omega), ?_⟩
    rw [show ((a.toNat - 1 + 1 : Nat) : Int) = a by omega]
/-- what the list of squares is -/
structure SqOk (p : Int) (D : Nat) (fs : List Int) (S : List Int) : Prop where
  len : S.length = if p = 2 then q1 p D else q1 p D / 2
  bd : ∀ x ∈ S, 1 ≤ x ∧ x ≤ q1 p D
  even : p ≠ 2 → ∀ L, LogOk p D fs (prF p D fs) L → ∀ x ∈ S, nth L x.toNat % 2 = 0
theorem sq_ok (h : FV p D fs) {S : List Int} (hn : S.Nodup) (hm : ∀ x, x ∈ S ↔ x ∈ sqsL p D fs (q1 p D)) : SqOk p D fs S where
  len := sq_len h hn fun x => by rw [hm, mem_sqsL h]
  bd x hx := by
    obtain ⟨a, ha, a0, rfl⟩ := (mem_sqsL h).1 ((hm x).1 hx)
    have h1 := fmul_el h.fa a a
    have h2 : fmul p D fs a a ≠ 0 := fun e => by rcases h.nzd ha ha e with e | e <;> exact a0 e
    have hq := q1_cast h
    have := h1.1
    have := h1.2
    omega
  even h2 L hL x hx := by
    obtain ⟨a, ha, a0, rfl⟩ := (mem_sqsL h).1 ((hm x).1 hx)
    have h1 := fmul_el h.fa a a
    have h3 : fmul p D fs a a ≠ 0 := fun e => by rcases h.nzd ha ha e with e | e <;> exact a0 e
    have hq := q1_cast h
    have h4 := h1.1
    have h5 := h1.2
    have hg := prim_ok h
    obtain ⟨z1, z2, z3⟩ := hL.at' (fmul p D fs a a).toNat (by omega) (by omega)
    rw [Int.toNat_of_nonneg (by omega)] at z3
    have := (hg.ok h).log_sq h hg.el (by have := hg.pos; omega) h2 ha a0 (i := (nth L (fmul p D fs a a).toNat).toNat) (by omega) z3
    omega
end
end Go.Proofs.Ytcenabaklokhhaa
