/- Derived and doubled arrays of strength T and index 1, in plain terms. -/
import Derived.Test.YtcenabaklokhhaaPPoly
namespace Go.Proofs.Ytcenabaklokhhaa
set_option linter.unusedSimpArgs false
set_option linter.unusedVariables false
/-- strength T and index 1, columns by count -/
structure OA1 (lv m T : Nat) (rows : List (List Int)) : Prop where
  len : ∀ r ∈ rows, r.length = m
  bd : ∀ r ∈ rows, ∀ i, i < m → 0 ≤ pn r i ∧ pn r i ≤ (lv : Int) - 1
  cnt : ∀ cols : List Int, incB (-1) m cols = true → cols.length = T → ∀ j, j < lv ^ T → cntR lv cols rows j = 1
theorem rowsP_oa {q T m : Nat} (h2 : 2 ≤ q) (h64 : q ≤ 64) (hmk : MK q) (hT : 1 ≤ T) (hmq : m ≤ q + 1) : OA1 q m T (rowsP q T m (q ^ T)) where
  len r hr := by obtain ⟨k, _, rfl⟩ := List.mem_map.1 hr; simp [rowP]
  bd r hr i hi := by obtain ⟨k, _, rfl⟩ := List.mem_map.1 hr; exact rowP_el h2 h64 hmk hT k hi
  cnt cols hc hl j hj := rowsP_cnt h2 h64 hmk hT hmq hc hl hj
theorem strG_of {lv m T : Nat} {rows : List (List Int)} {i : Nat} (hlv : 2 ≤ lv) (hT : 1 ≤ T) (hTm : T ≤ m) (hm8 : m ≤ 8) (hi : 1 ≤ i) (hlen : rows.length = lv ^ T * i)
    (hc : ∀ cols : List Int, incB (-1) m cols = true → cols.length = T → ∀ j, j < lv ^ T → cntR lv cols rows j = i) : strG lv m rows T ((lv ^ T : Nat) : Int) = i := by
  have hK : 0 < lv ^ T := Nat.pow_pos (by omega)
  have hle : lv ^ T ≤ rows.length := by rw [hlen]; exact Nat.le_mul_of_pos_right _ (by omega)
  have hd : (rows.length : Int) / ((lv ^ T : Nat) : Int) = i := by
    rw [hlen, Int.natCast_mul]; exact Int.mul_ediv_cancel_left _ (by omega)
  unfold strG
  rw [if_neg (by omega), if_pos, hd]
  intro r hr
  obtain ⟨hc1, hl, _⟩ := (subs_small (n := m) (k := T) hm8 hT hTm).2 r hr
  rw [Int.toNat_natCast]
  refine evB_eq hK (by omega) fun j hj => ?_
  rw [hc _ hc1 hl j hj, hd]
theorem incB_range {m T : Nat} (hT : T ≤ m) : ∃ cols : List Int, incB (-1) m cols = true ∧ cols.length = T := by
  have key : ∀ k a : Nat, a + k ≤ m → incB ((a : Int) - 1) m ((List.range' a k).map fun x : Nat => (x : Int)) = true := by
    intro k
    induction k with
    | zero => intro a _; rfl
    | succ k ih =>
      intro a ha
      rw [List.range'_succ, List.map_cons, incB, if_neg (by omega)]
      have := ih (a + 1) (by omega)
      rwa [show ((a + 1 : Nat) : Int) - 1 = a by omega] at this
  exact ⟨_, key T 0 (by omega), by simp⟩
namespace OA1
variable {lv m T : Nat} {rows : List (List Int)}
theorem length (h : OA1 lv m T rows) (hlv : 2 ≤ lv) (hTm : T ≤ m) : rows.length = lv ^ T := by
  obtain ⟨cols, hc, hl⟩ := incB_range hTm
  have hb := incB_gt hc
  have := cts_all (lv := lv) (cols := cols) (rows := rows) (K := lv ^ T) (fun r hr => by
    have := numC_bd (lv := lv) (by omega) (row := r) (cols := cols) (fun c hcm => by have := hb c hcm; exact h.bd r hr _ (by omega))
    rw [hl, ← Int.natCast_pow] at this; exact this) (c := 1) (fun j hj => h.cnt cols hc hl j hj)
  omega
theorem str (h : OA1 lv m T rows) (hlv : 2 ≤ lv) (hT : 1 ≤ T) (hTm : T ≤ m) (hm8 : m ≤ 8) : strG lv m rows T ((lv ^ T : Nat) : Int) = 1 :=
  strG_of (i := 1) hlv hT hTm hm8 (by omega) (by rw [h.length hlv hTm]; omega) h.cnt
/-- the doubled array has index 2 -/
theorem twice (h : OA1 lv m T rows) (hlv : 2 ≤ lv) (hT : 1 ≤ T) (hTm : T ≤ m) (hm8 : m ≤ 8) : strG lv m (rows ++ rows) T ((lv ^ T : Nat) : Int) = 2 :=
  strG_of (i := 2) hlv hT hTm hm8 (by omega) (by rw [List.length_append, h.length hlv hTm]; omega) fun cols hc hl j hj => by
    have := h.cnt cols hc hl j hj
    unfold cntR at this ⊢
    rw [List.countP_append]; omega
end OA1

/-! ### a column taken out -/
def drRow (c : Nat) (xs : List Int) : List Int := xs.take c ++ xs.drop (c + 1)
def drRows (c : Nat) (x : Int) (rows : List (List Int)) : List (List Int) := (rows.filter fun xs => pn xs c == x).map (drRow c)
theorem pn_drRow {c : Nat} {xs : List Int} (h : c < xs.length) (i : Nat) : pn (drRow c xs) i = if i < c then pn xs i else pn xs (i + 1) := by
  unfold pn drRow
  simp only [List.getD_eq_getElem?_getD]
  split
  · rw [List.getElem?_append_left (by rw [List.length_take]; omega), List.getElem?_take, if_pos (by omega)]
  · rw [List.getElem?_append_right (by rw [List.length_take]; omega), List.length_take, List.getElem?_drop, show c + 1 + (i - min c xs.length) = i + 1 by omega]
/-- column y of the derived array is this column -/
def shf (c y : Int) : Int := if y < c then y else y + 1
def insC (c : Int) : List Int → List Int
  | [] => [c]
  | x :: xs => if x < c then x :: insC c xs else c :: (x :: xs).map (· + 1)
theorem insC_len (c : Int) : ∀ xs, (insC c xs).length = xs.length + 1
  | [] => rfl
  | x :: xs => by
    unfold insC
    split
    · rw [List.length_cons, insC_len c xs, List.length_cons]
    · simp
theorem incB_shift {n : Int} : ∀ {xs : List Int} {l : Int}, incB l n xs = true → incB (l + 1) (n + 1) (xs.map (· + 1)) = true
  | [], _, _ => rfl
  | x :: xs, l, h => by
    rw [incB] at h
    split at h
    · cases h
    · rw [List.map_cons, incB, if_neg (by omega)]; exact incB_shift h
theorem incB_ins {c n : Int} (hc : c < n + 1) : ∀ {xs : List Int} {l : Int}, l < c → incB l n xs = true → incB l (n + 1) (insC c xs) = true
  | [], l, hl, _ => by unfold insC; rw [incB, if_neg (by omega)]; rfl
  | x :: xs, l, hl, h => by
    have h' := h
    rw [incB] at h
    split at h
    · cases h
    · unfold insC
      split
      · rw [incB, if_neg (by omega)]; exact incB_ins hc (by omega) h
      · rw [incB, if_neg (by omega)]
        have h3 : incB (c - 1) n (x :: xs) = true := by rw [incB, if_neg (by omega)]; exact h
        have := incB_shift h3
        rwa [show c - 1 + 1 = c by omega] at this
theorem insC_all {c n : Int} {P : Int → Prop} : ∀ {xs : List Int} {l : Int}, incB l n xs = true → ((∀ y ∈ insC c xs, P y) ↔ P c ∧ ∀ y ∈ xs, P (shf c y))
  | [], _, _ => by simp [insC]
  | x :: xs, l, h => by
    have hx := h
    rw [incB] at h
    split at h
    · cases h
    · have ih := insC_all (c := c) (P := P) h
      unfold insC
      split
      · rename_i hxc
        have e : shf c x = x := by unfold shf; rw [if_pos hxc]
        rw [List.forall_mem_cons, List.forall_mem_cons, ih, e]
        exact ⟨fun ⟨a, b, d⟩ => ⟨b, a, d⟩, fun ⟨b, a, d⟩ => ⟨a, b, d⟩⟩
      · rename_i hxc
        have hge : ∀ y ∈ x :: xs, shf c y = y + 1 := fun y hy => by
          unfold shf; rw [if_neg]
          rcases List.mem_cons.1 hy with rfl | hy
          · exact hxc
          · have := incB_gt h y hy; omega
        rw [List.forall_mem_cons]
        refine and_congr Iff.rfl ⟨fun h y hy => ?_, fun h y hy => ?_⟩
        · rw [hge y hy]; exact h _ (List.mem_map.2 ⟨y, hy, rfl⟩)
        · obtain ⟨z, hz, rfl⟩ := List.mem_map.1 hy
          have := h z hz
          rwa [hge z hz] at this
/-- every number is that of some values -/
theorem assign {lv : Int} (hl : 2 ≤ lv) : ∀ (cols : List Int), cols.Nodup → ∀ j, 0 ≤ j → j < lv ^ cols.length →
    ∃ v : Int → Int, (∀ c, 0 ≤ v c ∧ v c ≤ lv - 1) ∧ ∀ n, cols.foldl (fun n c => n * lv + v c) n = n * lv ^ cols.length + j
  | [], _, j, h0, h1 => by
    refine ⟨fun _ => 0, fun _ => by dsimp; omega, fun n => ?_⟩
    simp at h1
    simp; omega
  | c :: cols, hnd, j, h0, h1 => by
    have hp : 0 < lv ^ cols.length := Int.pow_pos (by omega)
    obtain ⟨hnc, hnd'⟩ := List.nodup_cons.1 hnd
    have hq0 : 0 ≤ j / lv ^ cols.length := Int.ediv_nonneg h0 (by omega)
    have hq1 : j / lv ^ cols.length < lv := by
      apply Int.ediv_lt_of_lt_mul hp
      rw [List.length_cons, Int.pow_succ] at h1
      rw [Int.mul_comm]; exact h1
    obtain ⟨v, hv, hf⟩ := assign hl cols hnd' (j % lv ^ cols.length) (Int.emod_nonneg _ (by omega)) (Int.emod_lt_of_pos _ hp)
    refine ⟨fun y => if y = c then j / lv ^ cols.length else v y, fun y => ?_, fun n => ?_⟩
    · dsimp only
      split
      · omega
      · exact hv y
    · have hcg : ∀ (l : List Int) (n : Int), (∀ y ∈ l, y ≠ c) → l.foldl (fun n y => n * lv + if y = c then j / lv ^ cols.length else v y) n = l.foldl (fun n y => n * lv + v y) n := by
        intro l
        induction l with
        | nil => intro n _; rfl
        | cons y l ih =>
          intro n hy
          rw [List.foldl_cons, List.foldl_cons, if_neg (hy y (by simp))]
          exact ih _ fun z hz => hy z (by simp [hz])
      rw [List.foldl_cons]
      show cols.foldl (fun n y => n * lv + if y = c then j / lv ^ cols.length else v y) (n * lv + if c = c then j / lv ^ cols.length else v c) = _
      rw [if_pos rfl, hcg cols _ (fun y hy e => hnc (e ▸ hy)), hf, List.length_cons, Int.pow_succ, Int.add_mul]
      have e1 := Int.mul_ediv_add_emod j (lv ^ cols.length)
      have e2 : n * (lv ^ cols.length * lv) = n * lv * lv ^ cols.length := by rw [Int.mul_comm (lv ^ cols.length), Int.mul_assoc]
      have e3 : j / lv ^ cols.length * lv ^ cols.length = lv ^ cols.length * (j / lv ^ cols.length) := Int.mul_comm _ _
      rw [e2, e3]; omega
theorem numC_congr {lv : Int} {r r' : List Int} {cols : List Int} (h : ∀ c ∈ cols, pn r c.toNat = pn r' c.toNat) : numC lv cols r = numC lv cols r' := by
  unfold numC
  have : ∀ (l : List Int) (n : Int), (∀ c ∈ l, pn r c.toNat = pn r' c.toNat) → l.foldl (fun n c => n * lv + pn r c.toNat) n = l.foldl (fun n c => n * lv + pn r' c.toNat) n := by
    intro l
    induction l with
    | nil => intro n _; rfl
    | cons y l ih =>
      intro n hy
      rw [List.foldl_cons, List.foldl_cons, hy y (by simp)]
      exact ih _ fun z hz => hy z (by simp [hz])
  exact this cols 0 h
theorem pn_tab {n i : Nat} {f : Nat → Int} (h : i < n) : pn (tab n f) i = f i := cf_tab h
/-- the derived array has strength T - 1 and index 1 -/
theorem OA1.der {lv m T : Nat} {rows : List (List Int)} (h : OA1 lv (m + 1) (T + 1) rows) (hlv : 2 ≤ lv) {c : Nat} (hc : c < m + 1) {x : Int} (hx0 : 0 ≤ x) (hx1 : x ≤ (lv : Int) - 1) : OA1 lv m T (drRows c x rows) where
  len r hr := by
    obtain ⟨s, hs, rfl⟩ := List.mem_map.1 hr
    have := h.len s (List.mem_filter.1 hs).1
    unfold drRow; rw [List.length_append, List.length_take, List.length_drop]; omega
  bd r hr i hi := by
    obtain ⟨s, hs, rfl⟩ := List.mem_map.1 hr
    have hs := (List.mem_filter.1 hs).1
    rw [pn_drRow (by rw [h.len s hs]; exact hc)]
    split
    · exact h.bd s hs i (by omega)
    · exact h.bd s hs (i + 1) (by omega)
  cnt cols hcs hl j hj := by
    have hb := incB_gt hcs
    have hnd := (incB_props hcs).2
    obtain ⟨v, hv, hf⟩ := assign (lv := lv) (by omega) cols hnd j (by omega) (by rw [hl, ← Int.natCast_pow]; omega)
    -- the row of the values
    let R : List Int := tab (m + 1) fun i => if i = c then x else if i < c then v i else v ((i : Int) - 1)
    let R' : List Int := tab m fun i => v i
    have hR : ∀ i, i < m + 1 → 0 ≤ pn R i ∧ pn R i ≤ (lv : Int) - 1 := fun i hi => by
      show 0 ≤ pn (tab (m + 1) _) i ∧ pn (tab (m + 1) _) i ≤ _
      rw [pn_tab hi]
      split
      · exact ⟨hx0, hx1⟩
      · split
        · exact hv _
        · exact hv _
    have hR' : ∀ y, 0 ≤ y → y < (m : Int) → pn R' y.toNat = v y := fun y h0 h1 => by
      show pn (tab m _) _ = _
      rw [pn_tab (by omega), Int.toNat_of_nonneg h0]
    have hRc : pn R c = x := by show pn (tab (m + 1) _) _ = _; rw [pn_tab hc, if_pos rfl]
    have hRs : ∀ y, 0 ≤ y → y < (m : Int) → pn R (shf c y).toNat = v y := fun y h0 h1 => by
      show pn (tab (m + 1) _) _ = _
      unfold shf
      split
      · rename_i hyc
        rw [pn_tab (by omega), if_neg (by omega), if_pos (by omega), Int.toNat_of_nonneg h0]
      · rename_i hyc
        rw [pn_tab (by omega), if_neg (by omega), if_neg (by omega), show (((y + 1).toNat : Nat) : Int) - 1 = y by omega]
    have hnum : numC lv cols R' = j := by
      have h1 : numC lv cols R' = cols.foldl (fun n c => n * (lv : Int) + v c) 0 := by
        unfold numC
        have : ∀ (l : List Int) (n : Int), (∀ c ∈ l, 0 ≤ c ∧ c < (m : Int)) → l.foldl (fun n c => n * (lv : Int) + pn R' c.toNat) n = l.foldl (fun n c => n * (lv : Int) + v c) n := by
          intro l
          induction l with
          | nil => intro n _; rfl
          | cons y l ih =>
            intro n hy
            rw [List.foldl_cons, List.foldl_cons, hR' y (hy y (by simp)).1 (hy y (by simp)).2]
            exact ih _ fun z hz => hy z (by simp [hz])
        exact this cols 0 fun y hy => by have := hb y hy; omega
      rw [h1, hf]; omega
    have hi := incB_ins (c := (c : Int)) (n := m) (by omega) (l := -1) (by omega) hcs
    have hib := incB_gt hi
    have hJ := numC_bd (lv := lv) (by omega) (row := R) (cols := insC c cols) (fun y hy => by have := hib y hy; exact hR _ (by omega))
    rw [insC_len, hl, ← Int.natCast_pow] at hJ
    obtain ⟨J, eJ⟩ := Int.eq_ofNat_of_zero_le hJ.1
    have hcnt := h.cnt (insC c cols) (by rw [Int.natCast_add]; exact hi) (by rw [insC_len, hl]) J (by omega)
    unfold cntR at hcnt ⊢
    rw [← hcnt]
    congr 1
    unfold drRows
    rw [List.countP_map, List.countP_filter]
    refine List.countP_congr fun row hrow => ?_
    have hlr := h.len row hrow
    have hbr := h.bd row hrow
    have hall := insC_all (c := (c : Int)) (n := m) (P := fun y => pn row y.toNat = pn R y.toNat) hcs
    simp only [Function.comp, Bool.and_eq_true, beq_iff_eq]
    have hdr : ∀ y ∈ cols, pn (drRow c row) y.toNat = pn row (shf c y).toNat := fun y hy => by
      have := hb y hy
      rw [pn_drRow (by omega)]
      unfold shf
      by_cases hyc : y < (c : Int)
      · rw [if_pos hyc, if_pos (by omega)]
      · rw [if_neg hyc, if_neg (by omega), show (y + 1).toNat = y.toNat + 1 by omega]
    constructor
    · rintro ⟨e1, e2⟩
      rw [← eJ]
      refine numC_congr (hall.2 ⟨?_, fun y hy => ?_⟩)
      · show pn row ((c : Int)).toNat = pn R ((c : Int)).toNat
        rw [Int.toNat_natCast, e2, hRc]
      · have hy' := hb y hy
        rw [← hnum] at e1
        have := (numF_inj (lv := lv) (by omega) cols 0 0 (fun d hd => by
          have hd' := hb d hd
          refine ⟨?_, ?_⟩
          · rw [hdr d hd]; refine hbr _ ?_; unfold shf; split <;> omega
          · rw [hR' d (by omega) (by omega)]; exact hv d) e1).2 y hy
        show pn row (shf c y).toNat = pn R (shf c y).toNat
        rw [← hdr y hy, this, hR' y (by omega) (by omega), hRs y (by omega) (by omega)]
    · intro e1
      rw [← eJ] at e1
      have h1 := (numF_inj (lv := lv) (by omega) (insC c cols) 0 0 (fun d hd => by
          have hd' := hib d hd
          exact ⟨hbr _ (by omega), hR _ (by omega)⟩) e1).2
      obtain ⟨h2, h3⟩ := hall.1 h1
      refine ⟨?_, ?_⟩
      · rw [← hnum]
        refine numC_congr fun y hy => ?_
        have hy' := hb y hy
        rw [hdr y hy, hR' y (by omega) (by omega), ← hRs y (by omega) (by omega)]
        exact h3 y hy
      · have h2' : pn row ((c : Int)).toNat = pn R ((c : Int)).toNat := h2
        rw [Int.toNat_natCast, hRc] at h2'
        exact h2'
end Go.Proofs.Ytcenabaklokhhaa
