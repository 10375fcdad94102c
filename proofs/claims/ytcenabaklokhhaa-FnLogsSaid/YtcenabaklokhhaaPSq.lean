/- Logarithms and squares in a finite field, in plain terms. -/
import Derived.Test.YtcenabaklokhhaaPFp
namespace Go.Proofs.Ytcenabaklokhhaa
set_option linter.unusedSimpArgs false
set_option linter.unusedVariables false
theorem odd_check : ((List.range 65).all fun p => !(isPr (p : Int)) || p == 2 || p % 2 == 1) = true := by decide +kernel
section
variable {p : Int} {D : Nat} {fs : List Int}
theorem FV.odd (h : FV p D fs) (h2 : p ≠ 2) : p % 2 = 1 := by
  have h0 := h.p2
  have h1 := h.p64
  obtain ⟨n, rfl⟩ := Int.eq_ofNat_of_zero_le (show 0 ≤ p by omega)
  have hc := odd_check
  rw [List.all_eq_true] at hc
  have hc := hc n (List.mem_range.2 (by omega))
  rw [h.pr] at hc
  simp at hc
  omega
theorem q1_even (h : FV p D fs) (h2 : p ≠ 2) : q1 p D % 2 = 0 := by
  have hp := h.odd h2
  have key : ∀ n : Nat, p ^ n % 2 = 1 := fun n => by
    induction n with
    | zero => rw [Int.pow_zero]; rfl
    | succ n ih => rw [Int.pow_succ, Int.mul_emod, ih, hp]; rfl
  have := q1_cast h
  have := key D
  omega
theorem q1_odd (h : FV p D fs) (h2 : p = 2) : q1 p D % 2 = 1 := by
  subst h2
  have hD := h.fa.D1
  obtain ⟨E, rfl⟩ := Nat.exists_eq_add_of_le' hD
  have e := q1_cast h
  rw [Int.pow_succ] at e
  omega
section
variable {g : Int}
/-- every element but 0 is a power of one whose order is q - 1 -/
theorem OrdOk.onto (ho : OrdOk p D fs g (q1 p D)) (h : FV p D fs) (hg : El p D g) (g0 : g ≠ 0) {x : Int} (hx : El p D x) (x0 : x ≠ 0) : ∃ i, i < q1 p D ∧ pw p D fs g i = x := by
  have hqc := q1_cast h
  have hq := q1_pos h
  refine Classical.byContradiction fun hno => ?_
  have hnd : ((List.range (q1 p D)).map (pw p D fs g)).Nodup := by
    rw [List.nodup_iff_pairwise_ne, List.pairwise_iff_getElem]
    intro a b ha hb hab
    simp only [List.length_map, List.length_range] at ha hb
    simp only [List.getElem_map, List.getElem_range]
    intro e
    have := ho.inj h hg g0 ha hb e
    omega
  have hnm : x ∉ (List.range (q1 p D)).map (pw p D fs g) := fun hm => by
    obtain ⟨i, hi, e⟩ := List.mem_map.1 hm
    exact hno ⟨i, List.mem_range.1 hi, e⟩
  have hin : ∀ z, El p D z → z ≠ 0 → z ∈ (List.range (q1 p D)).map fun i : Nat => (i : Int) + 1 := fun z hz z0 => by
    have h1 := hz.1; have h2 := hz.2
    exact List.mem_map.2 ⟨(z - 1).toNat, List.mem_range.2 (by omega), by omega⟩
  have hsub : x :: (List.range (q1 p D)).map (pw p D fs g) ⊆ (List.range (q1 p D)).map fun i : Nat => (i : Int) + 1 := fun z hz => by
    rcases List.mem_cons.1 hz with rfl | hz
    · exact hin _ hx x0
    · obtain ⟨i, _, rfl⟩ := List.mem_map.1 hz
      exact hin _ (pw_el h.fa g i) (pw_nz h hg g0 i)
  have := List.Nodup.length_le_of_subset (List.nodup_cons.2 ⟨hnm, hnd⟩) hsub
  simp at this
  omega
theorem OrdOk.mod (ho : OrdOk p D fs g (q1 p D)) (h : FV p D fs) (k : Nat) : pw p D fs g (k % q1 p D) = pw p D fs g k := by
  conv => rhs; rw [← Nat.div_add_mod k (q1 p D), pw_add h.fa, pw_mul h.fa, ho.one, one_pw h.fa, one_fmul h.fa (pw_el h.fa _ _)]
/-- logarithms add -/
theorem OrdOk.log_mul (ho : OrdOk p D fs g (q1 p D)) (h : FV p D fs) (hg : El p D g) (g0 : g ≠ 0) {i j k : Nat} (hk : k < q1 p D) (e : pw p D fs g k = fmul p D fs (pw p D fs g i) (pw p D fs g j)) : k = (i + j) % q1 p D := by
  have hq := q1_pos h
  refine ho.inj h hg g0 hk (Nat.mod_lt _ (by omega)) ?_
  rw [e, ho.mod h, pw_add h.fa]
theorem OrdOk.log_sq (ho : OrdOk p D fs g (q1 p D)) (h : FV p D fs) (hg : El p D g) (g0 : g ≠ 0) (h2 : p ≠ 2) {i : Nat} {a : Int} (ha : El p D a) (a0 : a ≠ 0) (hi : i < q1 p D) (e : pw p D fs g i = fmul p D fs a a) : i % 2 = 0 := by
  obtain ⟨j, _, rfl⟩ := ho.onto h hg g0 ha a0
  have h1 := ho.log_mul h hg g0 hi e
  have h3 := q1_even h h2
  obtain ⟨m, hm⟩ : ∃ m, q1 p D = 2 * m := ⟨q1 p D / 2, by omega⟩
  rw [hm, show j + j = 2 * j by omega, Nat.mul_mod_mul_left] at h1
  omega
end
theorem len_eq {a b : List Int} (ha : a.Nodup) (hb : b.Nodup) (h : ∀ x, x ∈ a ↔ x ∈ b) : a.length = b.length :=
  Nat.le_antisymm (List.Nodup.length_le_of_subset ha fun x hx => (h x).1 hx) (List.Nodup.length_le_of_subset hb fun x hx => (h x).2 hx)
/-- the number of squares -/
theorem sq_len (h : FV p D fs) {L : List Int} (hn : L.Nodup) (hm : ∀ x, x ∈ L ↔ ∃ a, El p D a ∧ a ≠ 0 ∧ x = fmul p D fs a a) : L.length = if p = 2 then q1 p D else q1 p D / 2 := by
  obtain ⟨g, hg, g0, ho⟩ := gen_ord h
  have hq := q1_pos h
  have hnd : ∀ (n : Nat) (f : Nat → Nat), (∀ i, i < n → f i < q1 p D) → (∀ i j, i < n → j < n → f i = f j → i = j) → ((List.range n).map fun i => pw p D fs g (f i)).Nodup := fun n f hf hi => by
    rw [List.nodup_iff_pairwise_ne, List.pairwise_iff_getElem]
    intro a b ha hb hab
    simp only [List.length_map, List.length_range] at ha hb
    simp only [List.getElem_map, List.getElem_range]
    intro e
    have := hi a b ha hb (ho.inj h hg g0 (hf a ha) (hf b hb) e)
    omega
  split
  · rename_i h2
    have hodd := q1_odd h h2
    have := len_eq hn (hnd (q1 p D) id (fun i hi => hi) (fun i j _ _ e => e)) fun x => by
      rw [hm, List.mem_map]
      constructor
      · rintro ⟨a, ha, a0, rfl⟩
        obtain ⟨j, _, rfl⟩ := ho.onto h hg g0 ha a0
        refine ⟨(j + j) % q1 p D, List.mem_range.2 (Nat.mod_lt _ (by omega)), ?_⟩
        show pw p D fs g ((j + j) % q1 p D) = _
        rw [ho.mod h, pw_add h.fa]
      · rintro ⟨i, hi, rfl⟩
        have hi := List.mem_range.1 hi
        obtain ⟨j, hj⟩ : ∃ j, pw p D fs g i = pw p D fs g (j + j) := by
          by_cases e : i % 2 = 0
          · exact ⟨i / 2, by congr 1; omega⟩
          · refine ⟨(i + q1 p D) / 2, ?_⟩
            rw [show (i + q1 p D) / 2 + (i + q1 p D) / 2 = i + q1 p D by omega, pw_add h.fa, ho.one, fmul_comm h.fa, one_fmul h.fa (pw_el h.fa _ _)]
        refine ⟨pw p D fs g j, pw_el h.fa _ _, pw_nz h hg g0 _, ?_⟩
        show pw p D fs g i = _
        rw [hj, pw_add h.fa]
    rw [this]; simp
  · rename_i h2
    have hev := q1_even h h2
    have := len_eq hn (hnd (q1 p D / 2) (fun i => i + i) (fun i hi => by omega) (fun i j _ _ e => by omega)) fun x => by
      rw [hm, List.mem_map]
      constructor
      · rintro ⟨a, ha, a0, rfl⟩
        obtain ⟨j, hj, rfl⟩ := ho.onto h hg g0 ha a0
        by_cases e : j < q1 p D / 2
        · exact ⟨j, List.mem_range.2 e, pw_add h.fa _ _ _⟩
        · refine ⟨j - q1 p D / 2, List.mem_range.2 (by omega), ?_⟩
          rw [← pw_add h.fa, show j + j = (j - q1 p D / 2 + (j - q1 p D / 2)) + q1 p D by omega, pw_add h.fa g _ (q1 p D), ho.one, fmul_comm h.fa _ 1, one_fmul h.fa (pw_el h.fa _ _)]
      · rintro ⟨i, _, rfl⟩
        exact ⟨pw p D fs g i, pw_el h.fa _ _, pw_nz h hg g0 _, pw_add h.fa _ _ _⟩
    rw [this]; simp
end
end Go.Proofs.Ytcenabaklokhhaa
