/- Powers and orders in a finite field, in plain terms. -/
import Derived.Test.YtcenabaklokhhaaPSpan
namespace Go.Proofs.Ytcenabaklokhhaa
set_option linter.unusedSimpArgs false
set_option linter.unusedVariables false
section
variable {p : Int} {D : Nat} {fs : List Int}
theorem one_pw (h : FA p D fs) : ∀ n, pw p D fs 1 n = 1
  | 0 => rfl
  | n + 1 => by rw [pw, one_pw h n, one_fmul h (el_one h)]
theorem pw_1 (h : FA p D fs) {a : Int} (ha : El p D a) : pw p D fs a 1 = a := by rw [pw, pw, one_fmul h ha]
theorem pw_mul (h : FA p D fs) (g : Int) (i : Nat) : ∀ m, pw p D fs g (i * m) = pw p D fs (pw p D fs g i) m
  | 0 => rfl
  | m + 1 => by rw [Nat.mul_succ, pw_add h, pw_mul h g i m, pw]
theorem pw_sq (h : FA p D fs) {a : Int} (ha : El p D a) (m : Nat) : pw p D fs (fmul p D fs a a) m = pw p D fs a (2 * m) := by
  rw [pw_mul h a 2 m]
  congr 1
  rw [pw, pw_1 h ha]
/-- one step of the binary method -/
theorem pw_half (h : FA p D fs) {a : Int} (ha : El p D a) (r : Int) (n : Nat) :
    fmul p D fs r (pw p D fs a n) = fmul p D fs (if n % 2 = 1 then fmul p D fs r a else r) (pw p D fs (fmul p D fs a a) (n / 2)) := by
  rw [pw_sq h ha]
  by_cases e : n % 2 = 1
  · rw [if_pos e, fmul_assoc h]
    congr 1
    have hn : n = 1 + 2 * (n / 2) := by omega
    conv => lhs; rw [hn, pw_add h, pw_1 h ha]
  · rw [if_neg e]
    congr 2
    omega
def q1 (p : Int) (D : Nat) : Nat := (p ^ D - 1).toNat
theorem pw_fermat (h : FV p D fs) {a : Int} (ha : El p D a) (h0 : a ≠ 0) : pw p D fs a (q1 p D) = 1 := by
  obtain ⟨g, _, hg, hall⟩ := h.gen
  obtain ⟨i, _, rfl⟩ := hall a (by have := ha.1; omega) ha.2
  rw [← pw_mul h.fa, Nat.mul_comm, pw_mul h.fa]
  show pw p D fs (pw p D fs g (p ^ D - 1).toNat) i = 1
  rw [hg, one_pw h.fa]
theorem q1_pos (h : FV p D fs) : 1 ≤ q1 p D := by
  have h1 := le_pow h.p2 (m := D) (by have := h.d1; omega)
  have := h.p2
  unfold q1; omega
theorem q1_cast (h : FV p D fs) : (q1 p D : Int) = p ^ D - 1 := by
  have h1 := le_pow h.p2 (m := D) (by have := h.d1; omega)
  have := h.p2
  unfold q1; omega
theorem pw_q (h : FV p D fs) {a : Int} (ha : El p D a) : pw p D fs a (q1 p D + 1) = a := by
  rw [pw]
  by_cases h0 : a = 0
  · rw [h0, fmul_zero h.fa]
  · rw [pw_fermat h ha h0, one_fmul h.fa ha]
theorem pw_inv (h : FV p D fs) {a : Int} (ha : El p D a) (h0 : a ≠ 0) : fmul p D fs a (pw p D fs a (q1 p D - 1)) = 1 := by
  have h1 := q1_pos h
  rw [fmul_comm h.fa]
  show pw p D fs a (q1 p D - 1 + 1) = 1
  rw [show q1 p D - 1 + 1 = q1 p D by omega, pw_fermat h ha h0]
theorem pw_nz (h : FV p D fs) {a : Int} (ha : El p D a) (h0 : a ≠ 0) : ∀ n, pw p D fs a n ≠ 0
  | 0 => by show (1 : Int) ≠ 0; decide
  | n + 1 => fun e => by
    rcases h.nzd (pw_el h.fa a n) ha e with e | e
    · exact pw_nz h ha h0 n e
    · exact h0 e
/-! ### orders -/
/-- the first exponent from n on at which the power is 1 -/
def ordS (p : Int) (D : Nat) (fs : List Int) (a : Int) : Nat → Nat → Nat
  | 0, n => n
  | f + 1, n => if pw p D fs a n = 1 then n else ordS p D fs a f (n + 1)
def ordF (p : Int) (D : Nat) (fs : List Int) (a : Int) : Nat := ordS p D fs a (q1 p D) 1
theorem ordS_spec {a : Int} : ∀ (f n : Nat), pw p D fs a (n + f) = 1 → n ≤ ordS p D fs a f n ∧ ordS p D fs a f n ≤ n + f ∧ pw p D fs a (ordS p D fs a f n) = 1 ∧ ∀ m, n ≤ m → m < ordS p D fs a f n → pw p D fs a m ≠ 1
  | 0, n, h => ⟨Nat.le_refl _, Nat.le_refl _, h, fun m h1 h2 => by rw [ordS] at h2; omega⟩
  | f + 1, n, h => by
    rw [ordS]
    by_cases e : pw p D fs a n = 1
    · rw [if_pos e]; exact ⟨Nat.le_refl _, by omega, e, fun m h1 h2 => by omega⟩
    · rw [if_neg e]
      obtain ⟨h1, h2, h3, h4⟩ := ordS_spec f (n + 1) (by rw [show n + 1 + f = n + (f + 1) by omega]; exact h)
      refine ⟨by omega, by omega, h3, fun m hm1 hm2 => ?_⟩
      by_cases em : m = n
      · rw [em]; exact e
      · exact h4 m (by omega) hm2
theorem ordS_hit {a : Int} {f n : Nat} (h : pw p D fs a n = 1) : ordS p D fs a f n = n := by
  cases f with
  | zero => rfl
  | succ f => rw [ordS, if_pos h]
theorem ordS_next {a : Int} {f n : Nat} (h : pw p D fs a n ≠ 1) (hf : pw p D fs a (n + f) = 1) : ∃ f', f = f' + 1 ∧ ordS p D fs a f n = ordS p D fs a f' (n + 1) := by
  cases f with
  | zero => exact absurd hf h
  | succ f => exact ⟨f, rfl, by rw [ordS, if_neg h]⟩
structure OrdOk (p : Int) (D : Nat) (fs : List Int) (a : Int) (n : Nat) : Prop where
  pos : 1 ≤ n
  le : n ≤ q1 p D
  one : pw p D fs a n = 1
  min : ∀ m, 1 ≤ m → m < n → pw p D fs a m ≠ 1
theorem ord_ok (h : FV p D fs) {a : Int} (ha : El p D a) (h0 : a ≠ 0) : OrdOk p D fs a (ordF p D fs a) := by
  have hq := q1_pos h
  by_cases e : pw p D fs a 1 = 1
  · have : ordF p D fs a = 1 := ordS_hit e
    rw [this]
    exact ⟨by omega, hq, e, fun m h1 h2 => by omega⟩
  · obtain ⟨f', hf, hn⟩ : ∃ f', q1 p D = f' + 1 ∧ ordF p D fs a = ordS p D fs a f' 2 := ⟨q1 p D - 1, by omega, by
      unfold ordF
      rw [show q1 p D = (q1 p D - 1) + 1 by omega, ordS, if_neg e, Nat.add_sub_cancel]⟩
    by_cases e2 : f' = 0
    · rw [e2] at hf
      rw [Nat.zero_add] at hf
      have := pw_fermat h ha h0
      rw [hf] at this
      exact absurd this e
    · obtain ⟨h1, h2, h3, h4⟩ := ordS_spec (p := p) (D := D) (fs := fs) (a := a) (f' - 1) 2 (by
        rw [show 2 + (f' - 1) = q1 p D by omega]; exact pw_fermat h ha h0)
      have h5 : ordS p D fs a f' 2 = ordS p D fs a (f' - 1) 2 := by
        -- a power that is 1 is met in time
        have key : ∀ (f n : Nat), pw p D fs a (n + f) = 1 → ordS p D fs a (f + 1) n = ordS p D fs a f n := by
          intro f
          induction f with
          | zero => intro n hn; exact (ordS_hit (f := 0 + 1) (by simpa using hn)).trans rfl
          | succ f ih =>
            intro n hn
            rw [ordS]
            by_cases en : pw p D fs a n = 1
            · rw [if_pos en]; rw [ordS, if_pos en]
            · rw [if_neg en, ih (n + 1) (by rw [show n + 1 + f = n + (f + 1) by omega]; exact hn)]
              rw [ordS, if_neg en]
        have := key (f' - 1) 2 (by rw [show 2 + (f' - 1) = q1 p D by omega]; exact pw_fermat h ha h0)
        rwa [show f' - 1 + 1 = f' by omega] at this
      rw [hn, h5]
      refine ⟨by omega, by omega, h3, fun m hm1 hm2 => ?_⟩
      by_cases em : m = 1
      · rw [em]; exact e
      · exact h4 m (by omega) hm2
/-- the order divides every exponent at which the power is 1 -/
theorem OrdOk.dvd (h : FV p D fs) {a : Int} {n : Nat} (ho : OrdOk p D fs a n) {m : Nat} (hm : pw p D fs a m = 1) : m % n = 0 := by
  have hn := ho.pos
  have e : m = n * (m / n) + m % n := (Nat.div_add_mod m n).symm
  have hr : pw p D fs a (m % n) = 1 := by
    have h1 : pw p D fs a (n * (m / n) + m % n) = 1 := by rw [← e]; exact hm
    rw [pw_add h.fa, pw_mul h.fa, ho.one, one_pw h.fa, one_fmul h.fa (pw_el h.fa _ _)] at h1
    exact h1
  refine Classical.byContradiction fun hne => ho.min (m % n) (by omega) (Nat.mod_lt _ hn) hr
theorem OrdOk.dvd_q (h : FV p D fs) {a : Int} {n : Nat} (ho : OrdOk p D fs a n) (ha : El p D a) (h0 : a ≠ 0) : q1 p D % n = 0 := ho.dvd h (pw_fermat h ha h0)
theorem OrdOk.uniq {a : Int} {n m : Nat} (hn : OrdOk p D fs a n) (hm : OrdOk p D fs a m) : n = m := by
  rcases Nat.lt_trichotomy n m with h | h | h
  · exact absurd hn.one (hm.min n hn.pos h)
  · exact h
  · exact absurd hm.one (hn.min m hm.pos h)
/-- powers of a below its order differ -/
theorem OrdOk.inj (h : FV p D fs) {a : Int} {n : Nat} (ho : OrdOk p D fs a n) (ha : El p D a) (h0 : a ≠ 0) {i j : Nat} (hi : i < n) (hj : j < n) (e : pw p D fs a i = pw p D fs a j) : i = j := by
  have key : ∀ {i j : Nat}, i < j → j < n → pw p D fs a i ≠ pw p D fs a j := fun {i j} hij hj e => by
    have e2 : pw p D fs a j = fmul p D fs (pw p D fs a i) (pw p D fs a (j - i)) := by rw [← pw_add h.fa]; congr 1; omega
    rw [← e] at e2
    -- cancel the power
    obtain ⟨b, hb, hb1⟩ := h.inv (a := pw p D fs a i) (by have := (pw_el h.fa a i).1; have := pw_nz h ha h0 i; omega) (pw_el h.fa a i).2
    have e3 : fmul p D fs b (pw p D fs a i) = fmul p D fs b (fmul p D fs (pw p D fs a i) (pw p D fs a (j - i))) := congrArg _ e2
    rw [← fmul_assoc h.fa, fmul_comm h.fa b, hb1, one_fmul h.fa (pw_el h.fa _ _)] at e3
    exact ho.min (j - i) (by omega) (by omega) e3.symm
  rcases Nat.lt_trichotomy i j with hlt | heq | hgt
  · exact absurd e (key hlt hj)
  · exact heq
  · exact absurd e.symm (key hgt hi)
/-- there is an element whose order is q - 1 -/
theorem gen_ord (h : FV p D fs) : ∃ g, El p D g ∧ g ≠ 0 ∧ OrdOk p D fs g (q1 p D) := by
  obtain ⟨g, hg, hg1, hall⟩ := h.gen
  have hq := q1_pos h
  have hqc := q1_cast h
  have g0 : g ≠ 0 := fun e => by
    have h1 : pw p D fs g (q1 p D - 1 + 1) = 1 := by rw [show q1 p D - 1 + 1 = q1 p D by omega]; exact hg1
    rw [pw, e, fmul_zero h.fa] at h1
    cases h1
  refine ⟨g, hg, g0, hq, Nat.le_refl _, hg1, fun m hm1 hm2 e => ?_⟩
  -- all elements but 0 are among the first m powers
  have hsub : ((List.range (q1 p D)).map fun i : Nat => (i : Int) + 1) ⊆ (List.range m).map (pw p D fs g) := fun x hx => by
    obtain ⟨i, hi, rfl⟩ := List.mem_map.1 hx
    have hi' := List.mem_range.1 hi
    obtain ⟨k, _, hk⟩ := hall ((i : Int) + 1) (by omega) (by omega)
    refine List.mem_map.2 ⟨k % m, List.mem_range.2 (Nat.mod_lt _ (by omega)), ?_⟩
    rw [← hk]
    have e1 : k = m * (k / m) + k % m := (Nat.div_add_mod k m).symm
    conv => rhs; rw [e1, pw_add h.fa, pw_mul h.fa, e, one_pw h.fa, one_fmul h.fa (pw_el h.fa _ _)]
  have hnd : ((List.range (q1 p D)).map fun i : Nat => (i : Int) + 1).Nodup := by
    rw [List.nodup_iff_pairwise_ne, List.pairwise_iff_getElem]
    intro i j hi hj hij
    simp
    omega
  have := List.Nodup.length_le_of_subset hnd hsub
  simp at this
  omega
end
end Go.Proofs.Ytcenabaklokhhaa
