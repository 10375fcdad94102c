/- Every field has an element whose powers are all elements but 0. -/
import Derived.Test.YtmkfafhgcnbcaaaPAlg
namespace Go.Proofs.Ytmkfafhgcnbcaaa
set_option linter.unusedSimpArgs false
set_option linter.unusedVariables false

/-- n powers, from x on -/
def pws (p : Int) (D : Nat) (fs : List Int) (g : Int) : Nat → Int → List Int
  | 0, _ => []
  | n + 1, x => x :: pws p D fs g n (fmul p D fs x g)
def pw (p : Int) (D : Nat) (fs : List Int) (g : Int) : Nat → Int
  | 0 => 1
  | n + 1 => fmul p D fs (pw p D fs g n) g
theorem pws_get {p : Int} {D : Nat} {fs : List Int} {g : Int} : ∀ (n k : Nat), pws p D fs g n (pw p D fs g k) = (List.range n).map fun i => pw p D fs g (k + i)
  | 0, _ => rfl
  | n + 1, k => by
    rw [pws, List.range_succ_eq_map, List.map_cons, List.map_map]
    have := pws_get (p := p) (D := D) (fs := fs) (g := g) n (k + 1)
    rw [pw] at this
    rw [this, Nat.add_zero]
    congr 1
    exact List.map_congr_left fun i _ => by simp [Nat.add_right_comm, Nat.add_assoc, Nat.add_comm 1]
/-- the powers of g are all elements but 0, of which there are m -/
def genB (p : Int) (D : Nat) (fs : List Int) (g : Int) (m : Nat) : Bool :=
  let L := pws p D fs g (m + 1) 1
  let K := L.take m
  (List.range m).all (fun i => K.contains ((i : Int) + 1)) && cf L m == 1 && decide (0 ≤ g) && decide (g ≤ m)
def hints : List (Nat × Nat × Nat × Nat) := [(2, 4, 15, 3), (2, 6, 9, 3), (2, 6, 23, 3), (2, 6, 53, 3), (3, 2, 1, 4), (3, 3, 8, 6), (3, 3, 11, 5), (3, 3, 14, 4), (3, 3, 26, 4), (5, 2, 2, 6), (5, 2, 3, 7), (5, 2, 6, 7), (5, 2, 14, 8), (5, 2, 19, 6), (5, 2, 21, 6), (7, 2, 1, 9), (7, 2, 2, 8), (7, 2, 4, 8), (7, 2, 11, 10), (7, 2, 13, 10), (7, 2, 16, 10), (7, 2, 22, 11), (7, 2, 27, 11), (7, 2, 29, 8), (7, 2, 34, 8), (7, 2, 37, 8), (7, 2, 46, 9), (7, 2, 48, 9)]
def hint (p D n : Nat) : Nat := match hints.find? fun h => h.1 == p && h.2.1 == D && h.2.2.1 == n with
  | some h => h.2.2.2
  | none => p
def proots : List (Nat × Nat) := [(2, 1), (3, 2), (5, 2), (7, 3), (11, 2), (13, 2), (17, 3), (19, 2), (23, 5), (29, 2), (31, 3), (37, 2), (41, 6), (43, 3), (47, 5), (53, 2), (59, 2), (61, 2)]
def proot (p : Nat) : Nat := match proots.find? fun h => h.1 == p with
  | some h => h.2
  | none => 0
theorem gen1_check : ((List.range 65).all fun p => decide (p < 2) || !prS p || genB p 1 [0, 1] (proot p) (p - 1)) = true := by decide +kernel
theorem gen2_check : ((List.range 7).all fun D => decide (D < 2) || (List.range 9).all fun p => decide (p < 2) || !prS p || decide (64 < p ^ D) || (List.range (p ^ D)).all fun n => !irrB p (dgt p D n ++ [1]) || genB p D (dgt p D n ++ [1]) (hint p D n) (p ^ D - 1)) = true := by decide +kernel

theorem fmul_D1 {p : Int} {fs fs' : List Int} (h : FA p 1 fs) (h' : FA p 1 fs') (a b : Int) : fmul p 1 fs a b = fmul p 1 fs' a b := by
  rw [fmul_num h, fmul_num h']
  congr 1
theorem pws_D1 {p : Int} {fs fs' : List Int} (h : FA p 1 fs) (h' : FA p 1 fs') (g : Int) : ∀ (n : Nat) (x : Int), pws p 1 fs g n x = pws p 1 fs' g n x
  | 0, _ => rfl
  | n + 1, x => by rw [pws, pws, pws_D1 h h' g n, fmul_D1 h h']
/-- there is such an element -/
theorem FV.genB {p : Int} {D : Nat} {fs : List Int} (h : FV p D fs) : ∃ g, genB p D fs g (p ^ D - 1).toNat = true := by
  have hp := h.p2
  obtain ⟨P, rfl⟩ := Int.eq_ofNat_of_zero_le (show 0 ≤ p by omega)
  have hpr : prS P = true := (prS_iff (by have := h.p64; omega)).2 ((isPr_iff (by have := h.p64; omega)).1 h.pr)
  have hq := h.q
  rw [Int.toNat_natCast] at hq
  have hqn : P ^ D ≤ 64 := by exact_mod_cast hq
  have e : (((P : Nat) : Int) ^ D - 1).toNat = P ^ D - 1 := by
    rw [← Int.natCast_pow]; omega
  rw [e]
  by_cases hD : D = 1
  · subst hD
    have h1 := gen1_check
    rw [List.all_eq_true] at h1
    have h1 := h1 P (List.mem_range.2 (by have := h.p64; omega))
    rw [decide_eq_false (by omega), hpr, Bool.false_or, Bool.not_true, Bool.false_or] at h1
    refine ⟨proot P, ?_⟩
    have h2 : FA P 1 [0, 1] := ⟨hp, by omega, rfl, rfl⟩
    unfold Go.Proofs.Ytmkfafhgcnbcaaa.genB at h1 ⊢
    rw [pws_D1 h.fa h2, Nat.pow_one]
    exact h1
  · have hD2 : 2 ≤ D := by have := h.d1; omega
    have hP8 : P ≤ 8 := by
      apply Classical.byContradiction; intro hn
      have h1 : P ^ 2 ≤ P ^ D := Nat.pow_le_pow_right (by omega) hD2
      have h2 : 9 ^ 2 ≤ P ^ 2 := Nat.pow_le_pow_left (by omega) 2
      omega
    have h1 := gen2_check
    rw [List.all_eq_true] at h1
    have h1 := h1 D (List.mem_range.2 (by have := h.d6; omega))
    rw [decide_eq_false (by omega), Bool.false_or, List.all_eq_true] at h1
    have h1 := h1 P (List.mem_range.2 (by omega))
    rw [decide_eq_false (by omega), hpr, decide_eq_false (by omega), Bool.false_or, Bool.not_true, Bool.false_or, Bool.false_or, List.all_eq_true] at h1
    have hl := h.fa.len
    have hfs : fs = fs.take D ++ [1] := by
      have h2 : fs.drop D = [1] := by
        rw [List.drop_eq_getElem_cons (show D < fs.length by omega), List.drop_eq_nil_of_le (by omega), ← cf_eq (show D < fs.length by omega), h.fa.top]
      rw [← h2, List.take_append_drop]
    have hin : In P (fs.take D) := fun x hx => h.inp x (List.mem_of_mem_take hx)
    have htl : (fs.take D).length = D := by rw [List.length_take]; omega
    have hdg := dgt_num (p := P) (by omega) htl hin
    have h3 := num_el (D := D) (p := P) (by omega) htl hin
    obtain ⟨n, hn⟩ := Int.eq_ofNat_of_zero_le h3.1
    have h4 := h3.2
    rw [hn] at h4 hdg
    have h1 := h1 n (List.mem_range.2 (by exact_mod_cast h4))
    rw [hdg, ← hfs, h.irr, Bool.not_true, Bool.false_or] at h1
    exact ⟨_, h1⟩
/-- what that says -/
theorem FV.gen {p : Int} {D : Nat} {fs : List Int} (h : FV p D fs) : ∃ g, El p D g ∧ pw p D fs g (p ^ D - 1).toNat = 1 ∧ ∀ a, 0 < a → a < p ^ D → ∃ i, i < (p ^ D - 1).toNat ∧ pw p D fs g i = a := by
  obtain ⟨g, hg⟩ := h.genB
  have h0 := pow_ge h.p2 D
  generalize hm : (p ^ D - 1).toNat = m at *
  simp only [Go.Proofs.Ytmkfafhgcnbcaaa.genB, Bool.and_eq_true, decide_eq_true_eq, beq_iff_eq] at hg
  obtain ⟨⟨⟨h1, h2⟩, h3⟩, h4⟩ := hg
  have e : pws p D fs g (m + 1) 1 = (List.range (m + 1)).map fun i => pw p D fs g i := by
    have := pws_get (p := p) (D := D) (fs := fs) (g := g) (m + 1) 0
    rw [pw] at this; simpa using this
  rw [e] at h1 h2
  refine ⟨g, ⟨h3, by omega⟩, ?_, fun a ha hlt => ?_⟩
  · simpa [cf] using h2
  · rw [List.all_eq_true] at h1
    have := h1 (a - 1).toNat (List.mem_range.2 (by omega))
    rw [List.contains_iff_mem, ← List.map_take, List.take_range, List.mem_map] at this
    obtain ⟨i, hi, hi2⟩ := this
    rw [List.mem_range] at hi
    exact ⟨i, by omega, by rw [hi2]; omega⟩
section
variable {p : Int} {D : Nat} {fs : List Int}
theorem pw_el (h : FA p D fs) (g : Int) : ∀ n, El p D (pw p D fs g n)
  | 0 => el_one h
  | _ + 1 => fmul_el h _ _
theorem pw_add (h : FA p D fs) (g : Int) (m : Nat) : ∀ n, pw p D fs g (m + n) = fmul p D fs (pw p D fs g m) (pw p D fs g n)
  | 0 => (fmul_one h (pw_el h g m)).symm
  | n + 1 => by rw [← Nat.add_assoc, pw, pw_add h g m n, fmul_assoc h, pw]
/-- every element but 0 has an inverse -/
theorem FV.inv {a : Int} (h : FV p D fs) (h0 : 0 < a) (h1 : a < p ^ D) : ∃ b, El p D b ∧ fmul p D fs a b = 1 := by
  obtain ⟨g, _, hg, hall⟩ := h.gen
  obtain ⟨i, hi, rfl⟩ := hall a h0 h1
  refine ⟨pw p D fs g ((p ^ D - 1).toNat - i), pw_el h.fa g _, ?_⟩
  rw [← pw_add h.fa, show i + ((p ^ D - 1).toNat - i) = (p ^ D - 1).toNat by omega, hg]
theorem inv_uniq (h : FA p D fs) {a b c : Int} (hb : El p D b) (hc : El p D c) (h1 : fmul p D fs a b = 1) (h2 : fmul p D fs a c = 1) : b = c := by
  have e : fmul p D fs (fmul p D fs b a) c = fmul p D fs b (fmul p D fs a c) := fmul_assoc h _ _ _
  rw [h2, fmul_one h hb, fmul_comm h b a, h1, fmul_comm h, fmul_one h hc] at e
  exact e.symm
/-- no zero divisors -/
theorem FV.nzd {a b : Int} (h : FV p D fs) (ha : El p D a) (hb : El p D b) (h0 : fmul p D fs a b = 0) : a = 0 ∨ b = 0 := by
  by_cases e : a = 0
  · exact .inl e
  · obtain ⟨c, hc, h1⟩ := h.inv (a := a) (by have := ha.1; omega) ha.2
    right
    have h2 : fmul p D fs (fmul p D fs c a) b = fmul p D fs c (fmul p D fs a b) := fmul_assoc h.fa _ _ _
    rwa [fmul_comm h.fa c a, h1, h0, fmul_zero h.fa, fmul_comm h.fa, fmul_one h.fa hb] at h2
end
end Go.Proofs.Ytmkfafhgcnbcaaa
