/- The values of all polynomials with T coefficients: strength T and index 1, in plain terms. -/
import Derived.Test.YtcenabaklokhhaaPHor
import Derived.Test.YtcenabaklokhhaaPStr
namespace Go.Proofs.Ytcenabaklokhhaa
set_option linter.unusedSimpArgs false
set_option linter.unusedVariables false
def rowP (q : Nat) (cs : List Int) (m : Nat) : List Int := (List.range m).map fun j : Nat => if j = q then cf cs 0 else hor ((spl q).1 : Nat) (spl q).2 (mkF q) j cs
def rowsP (q T m K : Nat) : List (List Int) := (List.range K).map fun k : Nat => rowP q (dgt q T k).reverse m
theorem pn_rowP {q m j : Nat} {cs : List Int} (h : j < m) : pn (rowP q cs m) j = if j = q then cf cs 0 else hor ((spl q).1 : Nat) (spl q).2 (mkF q) j cs := by simp [pn, rowP, h]
theorem incB_props {n : Int} : ∀ {xs : List Int} {last : Int}, incB last n xs = true → (∀ x ∈ xs, last < x ∧ x < n) ∧ xs.Nodup
  | [], _, _ => ⟨by simp, by simp⟩
  | x :: xs, last, h => by
    rw [incB] at h
    split at h
    · cases h
    · rename_i hx
      obtain ⟨h1, h2⟩ := incB_props h
      refine ⟨fun y hy => ?_, List.nodup_cons.2 ⟨fun hm => ?_, h2⟩⟩
      · rcases List.mem_cons.1 hy with rfl | hy
        · omega
        · have := h1 y hy; omega
      · have := h1 x hm; omega
/-- equal numbers have equal digits -/
theorem numF_inj {lv : Int} (hl : 2 ≤ lv) {r r' : List Int} : ∀ (cols : List Int) (n n' : Int), (∀ c ∈ cols, (0 ≤ pn r c.toNat ∧ pn r c.toNat ≤ lv - 1) ∧ (0 ≤ pn r' c.toNat ∧ pn r' c.toNat ≤ lv - 1)) →
    cols.foldl (fun n c => n * lv + pn r c.toNat) n = cols.foldl (fun n c => n * lv + pn r' c.toNat) n' → n = n' ∧ ∀ c ∈ cols, pn r c.toNat = pn r' c.toNat
  | [], _, _, _, e => ⟨e, by simp⟩
  | c :: cols, n, n', hb, e => by
    obtain ⟨e1, e2⟩ := numF_inj hl cols _ _ (fun d hd => hb d (by simp [hd])) e
    dsimp only at e1
    have hc := hb c (by simp)
    have m1 : (n * lv + pn r c.toNat) % lv = pn r c.toNat := by rw [Int.add_comm, Int.add_mul_emod_self_right]; exact Int.emod_eq_of_lt hc.1.1 (by omega)
    have m2 : (n' * lv + pn r' c.toNat) % lv = pn r' c.toNat := by rw [Int.add_comm, Int.add_mul_emod_self_right]; exact Int.emod_eq_of_lt hc.2.1 (by omega)
    have hd : pn r c.toNat = pn r' c.toNat := by rw [← m1, e1, m2]
    refine ⟨?_, fun d hdm => ?_⟩
    · rw [hd] at e1
      have e3 : n * lv = n' * lv := by omega
      exact Int.eq_of_mul_eq_mul_right (by omega) e3
    · rcases List.mem_cons.1 hdm with rfl | hdm
      · exact hd
      · exact e2 d hdm
/-- a map of the numbers below K into themselves that keeps numbers apart meets each once -/
theorem count_one {K : Nat} {f : Nat → Int} (hb : ∀ k, k < K → 0 ≤ f k ∧ f k < K) (hi : ∀ k l, k < K → l < K → f k = f l → k = l) {j : Nat} (hj : j < K) : ((List.range K).map f).count (j : Int) = 1 := by
  have hnd : ((List.range K).map f).Nodup := by
    rw [List.nodup_iff_pairwise_ne, List.pairwise_iff_getElem]
    intro a b ha hb' hab
    simp only [List.length_map, List.length_range] at ha hb'
    simp only [List.getElem_map, List.getElem_range]
    intro e
    have := hi a b ha hb' e
    omega
  have hmem : (j : Int) ∈ (List.range K).map f := by
    refine Classical.byContradiction fun hno => ?_
    have hsub : (j : Int) :: (List.range K).map f ⊆ (List.range K).map fun k : Nat => (k : Int) := fun x hx => by
      rcases List.mem_cons.1 hx with rfl | hx
      · exact List.mem_map.2 ⟨j, List.mem_range.2 hj, rfl⟩
      · obtain ⟨k, hk, rfl⟩ := List.mem_map.1 hx
        have := hb k (List.mem_range.1 hk)
        exact List.mem_map.2 ⟨(f k).toNat, List.mem_range.2 (by omega), by omega⟩
    have := List.Nodup.length_le_of_subset (List.nodup_cons.2 ⟨hno, hnd⟩) hsub
    simp at this
    omega
  have h1 : 0 < ((List.range K).map f).count (j : Int) := List.count_pos_iff.2 hmem
  have h2 := List.nodup_iff_count.1 hnd (j : Int)
  omega
section
variable {q T m : Nat}
theorem dgt_el (h2 : 2 ≤ q) (hmk : MK q) (k : Int) : ∀ c ∈ (dgt q T k).reverse, El ((spl q).1 : Nat) (spl q).2 c := fun c hc => by
  have h := dgt_in (base := q) (by omega) T k c (List.mem_reverse.1 hc)
  refine ⟨h.1, ?_⟩
  rw [← Int.natCast_pow, hmk.pw]; exact h.2
theorem el_q (hmk : MK q) {x : Int} (h : El ((spl q).1 : Nat) (spl q).2 x) : 0 ≤ x ∧ x ≤ (q : Int) - 1 := by
  have := h.2
  rw [← Int.natCast_pow, hmk.pw] at this
  exact ⟨h.1, by omega⟩
theorem q_el (hmk : MK q) {x : Int} (h0 : 0 ≤ x) (h1 : x < q) : El ((spl q).1 : Nat) (spl q).2 x := ⟨h0, by rw [← Int.natCast_pow, hmk.pw]; exact h1⟩
theorem rowP_el (h2 : 2 ≤ q) (h64 : q ≤ 64) (hmk : MK q) (hT : 1 ≤ T) (k : Int) {j : Nat} (hj : j < m) : 0 ≤ pn (rowP q (dgt q T k).reverse m) j ∧ pn (rowP q (dgt q T k).reverse m) j ≤ (q : Int) - 1 := by
  rw [pn_rowP hj]
  split
  · exact el_q hmk (dgt_el h2 hmk k _ (cf_mem (by rw [List.length_reverse, dgt_len]; omega)))
  · exact el_q hmk (hor_el (hmk.fv h64) _)
/-- rows that agree in T columns are the same -/
theorem rowP_inj (h2 : 2 ≤ q) (h64 : q ≤ 64) (hmk : MK q) (hT : 1 ≤ T) (hmq : m ≤ q + 1) {cols : List Int} (hc : incB (-1) m cols = true) (hl : cols.length = T) {k l : Nat} (hk : k < q ^ T) (hlq : l < q ^ T)
    (he : ∀ c ∈ cols, pn (rowP q (dgt q T k).reverse m) c.toNat = pn (rowP q (dgt q T l).reverse m) c.toNat) : k = l := by
  obtain ⟨hb, hnd⟩ := incB_props hc
  have hfv := hmk.fv h64
  have ek := dgt_el (T := T) h2 hmk k
  have ew := dgt_el (T := T) h2 hmk l
  have lk : (dgt q T k).reverse.length = T := by rw [List.length_reverse, dgt_len]
  have lw : (dgt q T l).reverse.length = T := by rw [List.length_reverse, dgt_len]
  have hv : ∀ c ∈ cols, c ≠ (q : Int) → hor ((spl q).1 : Nat) (spl q).2 (mkF q) c (dgt q T k).reverse = hor ((spl q).1 : Nat) (spl q).2 (mkF q) c (dgt q T l).reverse := fun c hcm hne => by
    have h1 := hb c hcm
    have h3 := he c hcm
    rw [pn_rowP (by omega), pn_rowP (by omega), if_neg (by omega), if_neg (by omega), Int.toNat_of_nonneg (by omega)] at h3
    exact h3
  have hcs : (dgt q T k).reverse = (dgt q T l).reverse := by
    by_cases hq : (q : Int) ∈ cols
    · -- the leading coefficients agree
      have h0 := he _ hq
      have h1 := hb _ hq
      rw [pn_rowP (by omega), pn_rowP (by omega), Int.toNat_natCast, if_pos rfl, if_pos rfl] at h0
      generalize (dgt q T k).reverse = a at *
      generalize (dgt q T l).reverse = b at *
      obtain ⟨c, a, rfl⟩ : ∃ c a', a = c :: a' := by cases a with | nil => simp at lk; omega | cons c a => exact ⟨c, a, rfl⟩
      obtain ⟨d, b, rfl⟩ : ∃ d b', b = d :: b' := by cases b with | nil => simp at lw; omega | cons d b => exact ⟨d, b, rfl⟩
      have hcd : c = d := h0
      subst hcd
      have hfl : (cols.erase (q : Int)).length = T - 1 := by rw [List.length_erase_of_mem hq, hl]
      rw [hor_injL hfv (pts := cols.erase (q : Int)) (a := a) (b := b) (c := c) (fun x hx => by
          have hx1 := hb x (List.mem_of_mem_erase hx)
          have hx2 : x ≠ (q : Int) := fun e => by
            have := (List.Nodup.mem_erase_iff hnd).1 hx
            exact this.1 e
          exact q_el hmk (by omega) (by omega)) (hnd.erase _) (ek c (by simp)) (fun y hy => ek y (by simp [hy])) (fun y hy => ew y (by simp [hy])) (by simp at lk; omega) (by simp at lw; omega)
        (fun x hx => hv x (List.mem_of_mem_erase hx) ((List.Nodup.mem_erase_iff hnd).1 hx).1)]
    · exact hor_inj hfv (pts := cols) (fun x hx => by
        have hx1 := hb x hx
        have hx2 : x ≠ (q : Int) := fun e => hq (e ▸ hx)
        exact q_el hmk (by omega) (by omega)) hnd ek ew (by rw [lk, hl]) (by rw [lw, hl]) (fun x hx => hv x hx fun e => hq (e ▸ hx))
  have h5 : dgt q T k = dgt q T l := List.reverse_inj.1 hcs
  have p1 := numL_dgt (base := q) (by omega) T k (by omega) (by rw [← Int.natCast_pow]; omega)
  have p2 := numL_dgt (base := q) (by omega) T l (by omega) (by rw [← Int.natCast_pow]; omega)
  rw [h5, p2] at p1
  omega
theorem rowsP_cnt (h2 : 2 ≤ q) (h64 : q ≤ 64) (hmk : MK q) (hT : 1 ≤ T) (hmq : m ≤ q + 1) {cols : List Int} (hc : incB (-1) m cols = true) (hl : cols.length = T) {j : Nat} (hj : j < q ^ T) : cntR q cols (rowsP q T m (q ^ T)) j = 1 := by
  obtain ⟨hb, _⟩ := incB_props hc
  have hbd : ∀ k : Nat, ∀ c ∈ cols, 0 ≤ pn (rowP q (dgt q T k).reverse m) c.toNat ∧ pn (rowP q (dgt q T k).reverse m) c.toNat ≤ (q : Int) - 1 := fun k c hcm => by
    have := hb c hcm
    exact rowP_el h2 h64 hmk hT k (by omega)
  have h1 := count_one (K := q ^ T) (f := fun k => numC q cols (rowP q (dgt q T k).reverse m)) (fun k _ => by
      have := numC_bd (lv := q) (by omega) (hbd k)
      rw [hl, ← Int.natCast_pow] at this
      exact this) (fun k l hk hl' e => rowP_inj h2 h64 hmk hT hmq hc hl hk hl' (numF_inj (by omega) cols 0 0 (fun c hcm => ⟨hbd k c hcm, hbd l c hcm⟩) e).2) hj
  have h3 : (rowsP q T m (q ^ T)).countP (fun row => numC q cols row == (j : Int)) = 1 := by
    rw [← h1]
    unfold rowsP
    rw [List.countP_map, List.count, List.countP_map]
    rfl
  unfold cntR
  rw [h3]; rfl
theorem rowsP_len (K : Nat) : (rowsP q T m K).length = K := by simp [rowsP]
/-- strength T, index 1 -/
theorem rowsP_str (h2 : 2 ≤ q) (h64 : q ≤ 64) (hmk : MK q) (hT : 1 ≤ T) (hTm : T ≤ m) (hm8 : m ≤ 8) (hmq : m ≤ q + 1) : strG q m (rowsP q T m (q ^ T)) T ((q ^ T : Nat) : Int) = 1 := by
  have hK : 0 < q ^ T := Nat.pow_pos (by omega)
  unfold strG
  rw [rowsP_len, if_neg (by omega), if_pos, Int.ediv_self (by omega)]
  intro r hr
  obtain ⟨hc, hl, _⟩ := (subs_small (n := m) (k := T) hm8 hT hTm).2 r hr
  rw [Int.toNat_natCast]
  refine evB_eq hK (by rw [rowsP_len]; omega) fun j hj => ?_
  rw [rowsP_cnt h2 h64 hmk hT hmq hc hl hj, rowsP_len, Int.ediv_self (by omega)]
end
end Go.Proofs.Ytcenabaklokhhaa
