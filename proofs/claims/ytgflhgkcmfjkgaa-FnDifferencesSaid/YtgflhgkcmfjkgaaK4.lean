/- The texts of this claim, run 4: PDif Cmp Mk Ds0 Ds1 AnyR Src Src2 Drw Set2 Arr2. -/
import Derived.Test.YtgflhgkcmfjkgaaK2
import Derived.Test.YtgflhgkcmfjkgaaK3
import Derived.Deep.RegionHeld3
import Derived.Deep.DrawnRows
import Derived.Shelf.SlSortCmp.NoneTotal
section
/- Plain: differences of sets of residues, their translates, the designs of families. -/
namespace Go.Proofs.Ytgflhgkcmfjkgaa
set_option linter.unusedSimpArgs false
set_option linter.unusedVariables false

/-! ### sums over lists -/
def smN {α : Type} (f : α → Nat) : List α → Nat
  | [] => 0
  | a :: r => f a + smN f r
section
variable {α β : Type}
theorem smN_congr {f g : α → Nat} : ∀ {l : List α}, (∀ x ∈ l, f x = g x) → smN f l = smN g l
  | [], _ => rfl
  | a :: r, h => by rw [smN, smN, h a (List.mem_cons_self ..), smN_congr fun x hx => h x (List.mem_cons_of_mem _ hx)]
theorem smN_add (f g : α → Nat) : ∀ l, smN (fun x => f x + g x) l = smN f l + smN g l
  | [] => rfl
  | a :: r => by simp only [smN, smN_add f g r]; omega
theorem smN_zero : ∀ l : List α, smN (fun _ => 0) l = 0
  | [] => rfl
  | a :: r => by rw [smN, smN_zero r]
theorem smN_one : ∀ l : List α, smN (fun _ => 1) l = l.length
  | [] => rfl
  | a :: r => by rw [smN, smN_one r, List.length_cons]; omega
theorem smN_app (f : α → Nat) : ∀ l r, smN f (l ++ r) = smN f l + smN f r
  | [], r => by simp [smN]
  | a :: l, r => by rw [List.cons_append, smN, smN, smN_app f l r]; omega
theorem smN_map (f : β → Nat) (g : α → β) : ∀ l, smN f (l.map g) = smN (fun x => f (g x)) l
  | [] => rfl
  | a :: r => by rw [List.map_cons, smN, smN, smN_map f g r]
theorem smN_flat (f : β → Nat) (g : α → List β) : ∀ l, smN f (l.flatMap g) = smN (fun x => smN f (g x)) l
  | [] => rfl
  | a :: r => by rw [List.flatMap_cons, smN_app, smN, smN_flat f g r]
theorem smN_perm (f : α → Nat) {l r : List α} (h : l.Perm r) : smN f l = smN f r := by
  induction h with
  | nil => rfl
  | cons x _ ih => rw [smN, smN, ih]
  | swap x y l => simp only [smN]; omega
  | trans _ _ h1 h2 => rw [h1, h2]
theorem smN_comm (F : α → β → Nat) : ∀ (s : List α) (t : List β), smN (fun a => smN (F a) t) s = smN (fun b => smN (fun a => F a b) s) t
  | [], t => (smN_zero t).symm
  | a :: s, t => by
    rw [smN, smN_comm F s t, ← smN_add]
    rfl
theorem smN_cnt (p : α → Bool) : ∀ l, l.countP p = smN (fun x => if p x = true then 1 else 0) l
  | [] => rfl
  | a :: r => by rw [List.countP_cons, smN, smN_cnt p r]; omega
end
theorem smN_at {s : List Int} (hn : s.Nodup) (a0 : Int) (Q : Prop) [Decidable Q] : smN (fun a => if a = a0 ∧ Q then 1 else 0) s = if a0 ∈ s ∧ Q then 1 else 0 := by
  induction s with
  | nil => rfl
  | cons x r ih =>
    obtain ⟨h1, h2⟩ := List.nodup_cons.1 hn
    rw [smN, ih h2]
    by_cases hQ : Q
    · by_cases e : x = a0
      · subst e
        rw [if_pos ⟨rfl, hQ⟩, if_neg (fun h => h1 h.1), if_pos ⟨List.mem_cons_self .., hQ⟩]
      · rw [if_neg (fun h => e h.1)]
        by_cases hm : a0 ∈ r
        · rw [if_pos ⟨hm, hQ⟩, if_pos ⟨List.mem_cons_of_mem _ hm, hQ⟩]
        · rw [if_neg (fun h => hm h.1), if_neg (fun h => (List.mem_cons.1 h.1).elim (fun h => e h.symm) hm)]
    · rw [if_neg (fun h => hQ h.2), if_neg (fun h => hQ h.2), if_neg (fun h => hQ h.2)]
/-- one number of a range -/
theorem smN_rng (x : Int) : ∀ n : Nat, smN (fun d : Nat => if x = (d : Int) then 1 else 0) (List.range n) = if 0 ≤ x ∧ x < n then 1 else 0
  | 0 => by rw [if_neg (by omega)]; rfl
  | n + 1 => by
    rw [List.range_succ, smN_app, smN_rng x n, smN, smN]
    by_cases e : x = (n : Int)
    · rw [if_neg (by omega), if_pos e, if_pos (by omega)]
    · rw [if_neg e]
      by_cases h : 0 ≤ x ∧ x < (n : Int)
      · rw [if_pos h, if_pos (by omega)]
      · rw [if_neg h, if_neg (by omega)]

/-! ### residues -/
theorem md2 {n u : Int} (h0 : 0 ≤ u) (h1 : u < 2 * n) : u % n = if u < n then u else u - n := by
  split
  · exact Int.emod_eq_of_lt h0 (by assumption)
  · rw [← Int.sub_emod_right, Int.emod_eq_of_lt (by omega) (by omega)]
def dfm (n : Nat) (a b : Int) : Int := (a - b + n) % n
/-- the residues of a set, moved -/
def trZ (n : Nat) (s : List Int) (b : Nat) : List Int := srt (s.map fun x => (x + b) % n)
def dfr (n : Nat) (t : List Int) (a : Int) : List Int := (t.filter fun b => decide (a ≠ b)).map (dfm n a)
def dfl (n : Nat) (s : List Int) : List Int := s.flatMap (dfr n s)
def dfA (n : Nat) (A : List (List Int)) : List Int := A.flatMap (dfl n)
/-- how often each residue occurs -/
def tabL (n : Nat) (L : List Int) : List Int := (List.range n).map fun d : Nat => (L.countP (fun x => decide (x = (d : Int))) : Int)
theorem tabL_len (n : Nat) (L : List Int) : (tabL n L).length = n := by simp [tabL]
theorem tabL_nth {n : Nat} {L : List Int} {d : Nat} (h : d < n) : nth (tabL n L) d = (L.countP (fun x => decide (x = (d : Int))) : Int) := by
  rw [nth_eq (by rw [tabL_len]; exact h)]; simp [tabL]
theorem tabL_snoc {n : Nat} {L : List Int} {d : Nat} (h : d < n) : tabL n (L ++ [(d : Int)]) = (tabL n L).set d (nth (tabL n L) d + 1) := by
  have hz := tabL_nth (L := L) h
  generalize nth (tabL n L) d = z at hz
  subst hz
  refine List.ext_getElem (by simp [tabL_len]) fun i h1 h2 => ?_
  rw [tabL_len] at h1
  rw [List.getElem_set]
  simp only [tabL, List.getElem_map, List.getElem_range]
  rw [List.countP_append, List.countP_singleton]
  by_cases e : d = i
  · subst e; rw [if_pos rfl]; simp
  · rw [if_neg e, if_neg (by simp; omega)]; simp
theorem tabL_nil (n : Nat) : tabL n [] = List.replicate n 0 := by
  refine List.ext_getElem (by simp [tabL_len]) fun i h1 h2 => ?_
  simp [tabL]
/-- a set of residues -/
abbrev Rst (n : Nat) (s : List Int) : Prop := incB (-1) n s = true
theorem Rst.nd {n : Nat} {s : List Int} (h : Rst n s) : s.Nodup := pw_nodup (incB_pw h)
theorem Rst.bd {n : Nat} {s : List Int} (h : Rst n s) : ∀ x ∈ s, 0 ≤ x ∧ x < n := fun x hx => by
  have := incB_gt h x hx
  omega
theorem dfr_cnt (n : Nat) (a d : Int) : ∀ t, (dfr n t a).countP (fun x => decide (x = d)) = smN (fun b => if a ≠ b ∧ dfm n a b = d then 1 else 0) t
  | [] => rfl
  | b :: t => by
    have ih := dfr_cnt n a d t
    unfold dfr at ih ⊢
    rw [smN, ← ih, List.filter_cons]
    by_cases e : a = b
    · rw [if_neg (by simpa using e), if_neg (fun h => h.1 e), Nat.zero_add]
    · rw [if_pos (by simpa using e), List.map_cons, List.countP_cons]
      by_cases h : dfm n a b = d
      · rw [if_pos (by simpa using h), if_pos ⟨e, h⟩]; omega
      · rw [if_neg (by simpa using h), if_neg (fun h2 => h h2.2)]; omega
theorem dfl_cnt (n : Nat) (s : List Int) (d : Int) : (dfl n s).countP (fun x => decide (x = d)) = smN (fun a => smN (fun b => if a ≠ b ∧ dfm n a b = d then 1 else 0) s) s := by
  rw [smN_cnt, dfl, smN_flat]
  refine smN_congr fun a _ => ?_
  rw [← smN_cnt, dfr_cnt]
theorem dfA_cnt (n : Nat) (A : List (List Int)) (d : Int) : (dfA n A).countP (fun x => decide (x = d)) = smN (fun s => smN (fun a => smN (fun b => if a ≠ b ∧ dfm n a b = d then 1 else 0) s) s) A := by
  rw [smN_cnt, dfA, smN_flat]
  refine smN_congr fun s _ => ?_
  rw [← smN_cnt, dfl_cnt]
theorem dfm_v {n : Nat} {a b : Int} (ha : 0 ≤ a ∧ a < n) (hb : 0 ≤ b ∧ b < n) : dfm n a b = if b ≤ a then a - b else a - b + n := by
  rw [dfm, md2 (by omega) (by omega)]; split <;> split <;> omega
theorem dfA_bd {n : Nat} {A : List (List Int)} (hA : ∀ s ∈ A, Rst n s) : ∀ x ∈ dfA n A, 0 < x ∧ x < n := by
  intro x hx
  obtain ⟨s, hs, hx⟩ := List.mem_flatMap.1 hx
  obtain ⟨a, ha, hx⟩ := List.mem_flatMap.1 hx
  obtain ⟨b, hb, rfl⟩ := List.mem_map.1 hx
  obtain ⟨hb, hab⟩ := List.mem_filter.1 hb
  have hab : a ≠ b := by simpa using hab
  have h1 := Rst.bd (hA s hs) a ha
  have h2 := Rst.bd (hA s hs) b hb
  rw [dfm_v h1 h2]
  split <;> omega
/-- no difference is 0 -/
theorem dif_zero {n : Nat} {A : List (List Int)} (hn : 0 < n) (hA : ∀ s ∈ A, Rst n s) : nth (tabL n (dfA n A)) 0 = 0 := by
  rw [tabL_nth hn]
  have : (dfA n A).countP (fun x => decide (x = ((0 : Nat) : Int))) = 0 := by
    rw [List.countP_eq_zero]
    intro x hx
    have := (dfA_bd hA x hx).1
    simp only [decide_eq_true_eq]; omega
  rw [this]; rfl
/-- differences both ways -/
theorem dif_neg {n : Nat} {A : List (List Int)} (hA : ∀ s ∈ A, Rst n s) {i : Nat} (h0 : 0 < i) (hi : i < n) : nth (tabL n (dfA n A)) i = nth (tabL n (dfA n A)) (n - i) := by
  rw [tabL_nth hi, tabL_nth (by omega), dfA_cnt, dfA_cnt]
  congr 1
  refine smN_congr fun s hs => ?_
  rw [smN_comm]
  refine smN_congr fun b hb => smN_congr fun a ha => ?_
  have h1 := Rst.bd (hA s hs) a ha
  have h2 := Rst.bd (hA s hs) b hb
  rw [dfm_v h1 h2, dfm_v h2 h1]
  by_cases e : a = b
  · rw [if_neg (fun h => h.1 e), if_neg (fun h => h.1 e.symm)]
  · by_cases h : a - b = i ∨ a - b + n = i
    · rw [if_pos ⟨e, by split <;> omega⟩, if_pos ⟨Ne.symm e, by split <;> omega⟩]
    · rw [if_neg (fun hh => by have := hh.2; split at this <;> omega), if_neg (fun hh => by have := hh.2; split at this <;> omega)]
theorem tab_sum {n : Nat} : ∀ {L : List Int}, (∀ x ∈ L, 0 < x ∧ x < (n : Int)) → smN (fun d : Nat => L.countP (fun x => decide (x = (d : Int)))) (List.range n) = L.length := by
  intro L h
  rw [smN_congr (g := fun d : Nat => smN (fun x => if x = (d : Int) then 1 else 0) L) fun d _ => by rw [smN_cnt]; simp only [decide_eq_true_eq]]
  rw [smN_comm, ← smN_one L]
  refine smN_congr fun x hx => ?_
  have := h x hx
  rw [smN_rng, if_pos (by omega)]
theorem dfl_len {n : Nat} {s : List Int} (h : s.Nodup) : (dfl n s).length = s.length * (s.length - 1) := by
  rw [← smN_one, dfl, smN_flat, smN_congr (g := fun _ => s.length - 1) fun a ha => ?_]
  · have : ∀ (c : Nat) (l : List Int), smN (fun _ => c) l = l.length * c := fun c l => by
      induction l with
      | nil => simp [smN]
      | cons x r ih => rw [smN, ih, List.length_cons, Nat.add_mul]; omega
    exact this _ _
  · rw [smN_one, dfr, List.length_map, ← List.countP_eq_length_filter]
    have h1 := List.length_eq_countP_add_countP (fun b => decide (a ≠ b)) (l := s)
    have h2 : s.countP (fun b => !decide (a ≠ b)) = 1 := by
      have := smN_at h a True
      rw [if_pos ⟨ha, trivial⟩] at this
      refine (smN_cnt _ s).trans ((smN_congr fun b _ => ?_).trans this)
      by_cases e : a = b
      · subst e; simp
      · rw [if_neg (by simpa using e), if_neg (fun h => e h.1.symm)]
    have h3 : s.countP (fun b => !decide (a ≠ b)) = s.countP (fun b => decide ¬(decide (a ≠ b)) = true) := List.countP_congr fun b _ => by simp
    omega
def sqS : List (List Int) → Int
  | [] => 0
  | s :: r => (s.length : Int) * ((s.length : Int) - 1) + sqS r
theorem sqS_app : ∀ a b, sqS (a ++ b) = sqS a + sqS b
  | [], b => by simp [sqS]
  | s :: a, b => by rw [List.cons_append, sqS, sqS, sqS_app a b]; omega
theorem dfA_len {n : Nat} : ∀ {A : List (List Int)}, (∀ s ∈ A, Rst n s) → ((dfA n A).length : Int) = sqS A
  | [], _ => rfl
  | s :: A, h => by
    have h1 := dfl_len (n := n) (Rst.nd (h s (List.mem_cons_self ..)))
    have h2 := dfA_len fun t ht => h t (List.mem_cons_of_mem _ ht)
    rw [dfA, List.flatMap_cons, List.length_append, sqS, ← h2, h1]
    rw [dfA]
    cases s with
    | nil => simp
    | cons x r =>
      simp only [List.length_cons, Nat.add_sub_cancel]; push_cast
      rw [show ((r.length : Int) + 1 - 1) = r.length by omega]
def sumZ : List Int → Int
  | [] => 0
  | x :: r => x + sumZ r
theorem sumZ_app : ∀ a b, sumZ (a ++ b) = sumZ a + sumZ b
  | [], b => by simp [sumZ]
  | s :: a, b => by rw [List.cons_append, sumZ, sumZ, sumZ_app a b]; omega
theorem sumZ_map {α : Type} (f : α → Nat) : ∀ l, sumZ (l.map fun x => (f x : Int)) = (smN f l : Int)
  | [] => rfl
  | a :: r => by rw [List.map_cons, sumZ, sumZ_map f r, smN]; omega
/-- DIFFERENCES ADD UP -/
theorem dif_sum {n : Nat} {A : List (List Int)} (hA : ∀ s ∈ A, Rst n s) : sumZ (tabL n (dfA n A)) = sqS A := by
  rw [tabL, sumZ_map, tab_sum (dfA_bd hA), dfA_len hA]

/-! ### translates -/
theorem mv_inj {n : Nat} {a b : Int} {c : Nat} (ha : 0 ≤ a ∧ a < n) (hb : 0 ≤ b ∧ b < n) (hc : c < n) (h : (a + c) % n = (b + c) % n) : a = b := by
  rw [md2 (by omega) (by omega), md2 (by omega) (by omega)] at h
  split at h <;> split at h <;> omega
theorem trZ_perm (n : Nat) (s : List Int) (b : Nat) : (trZ n s b).Perm (s.map fun x => (x + b) % n) := srt_perm _
theorem trZ_len (n : Nat) (s : List Int) (b : Nat) : (trZ n s b).length = s.length := by rw [trZ, srt_len, List.length_map]
theorem trZ_mem {n : Nat} {s : List Int} {b : Nat} {x : Int} : x ∈ trZ n s b ↔ ∃ a ∈ s, (a + b) % n = x := by
  rw [(trZ_perm n s b).mem_iff, List.mem_map]
theorem map_nd {s : List Int} {f : Int → Int} (hn : s.Nodup) (hf : ∀ a ∈ s, ∀ b ∈ s, f a = f b → a = b) : (s.map f).Nodup := by
  induction s with
  | nil => exact List.nodup_nil
  | cons x r ih =>
    obtain ⟨h1, h2⟩ := List.nodup_cons.1 hn
    rw [List.map_cons, List.nodup_cons]
    refine ⟨fun hm => ?_, ih h2 fun a ha b hb => hf a (List.mem_cons_of_mem _ ha) b (List.mem_cons_of_mem _ hb)⟩
    obtain ⟨y, hy, e⟩ := List.mem_map.1 hm
    have := hf y (List.mem_cons_of_mem _ hy) x (List.mem_cons_self ..) e
    exact h1 (this ▸ hy)
theorem trZ_rst {n : Nat} {s : List Int} {b : Nat} (h : Rst n s) (hn : 0 < n) (hb : b < n) : Rst n (trZ n s b) := by
  refine incB_of (fun x hx => ?_) (pw_lt (srt_up _) ((srt_perm _).nodup_iff.2 (map_nd h.nd fun x hx y hy e => mv_inj (Rst.bd h x hx) (Rst.bd h y hy) hb e)))
  obtain ⟨a, _, rfl⟩ := trZ_mem.1 hx
  have h1 := Int.emod_nonneg (a + b) (show (n : Int) ≠ 0 by omega)
  have h2 := Int.emod_lt_of_pos (a + b) (show (0 : Int) < n by omega)
  omega
/-- DIFFERENCES DO NOT DEPEND ON TRANSLATION -/
theorem dif_trans {n : Nat} {s : List Int} {b : Nat} (h : Rst n s) (hb : b < n) : tabL n (dfA n [trZ n s b]) = tabL n (dfA n [s]) := by
  refine List.map_congr_left fun d _ => ?_
  congr 1
  rw [dfA_cnt, dfA_cnt, smN, smN, smN, smN]
  congr 1
  have hp := trZ_perm n s b
  rw [smN_perm _ hp, smN_map]
  refine smN_congr fun x hx => ?_
  rw [smN_perm _ hp, smN_map]
  refine smN_congr fun y hy => ?_
  have h1 := Rst.bd h x hx
  have h2 := Rst.bd h y hy
  have e1 : (x + b) % (n : Int) = (y + b) % n ↔ x = y := ⟨mv_inj h1 h2 hb, fun e => by rw [e]⟩
  have e2 : dfm n ((x + b) % n) ((y + b) % n) = dfm n x y := by
    rw [dfm, dfm, ← Int.emod_emod_of_dvd (x - y + n) (Int.dvd_refl n), Int.add_emod, Int.sub_emod, Int.emod_emod, Int.emod_emod, ← Int.sub_emod, ← Int.add_emod, show x + b - (y + b) + (n : Int) = x - y + n by omega, Int.emod_emod]
  rw [e2]
  simp only [ne_eq, e1]
/-- a translate of a translate -/
theorem trZ_trS {n : Nat} {s : List Int} (hn : 0 < n) (b c : Nat) : trZ n (trZ n s b) c = trZ n s ((b + c) % n) := by
  rw [trZ, trZ]
  refine sorted_eq ((srt_perm _).trans ((((srt_perm _).map _).trans ?_).trans (srt_perm _).symm)) (srt_up _) (srt_up _)
  rw [List.map_map]
  refine List.Perm.of_eq (List.map_congr_left fun x _ => ?_)
  simp only [Function.comp]
  rw [Int.emod_add_emod, Int.natCast_emod, Int.add_emod_emod]
  congr 1; push_cast; omega
theorem trZ_0 {n : Nat} {s : List Int} (h : Rst n s) : trZ n s 0 = s := by
  rw [trZ, List.map_congr_left (g := id) fun x hx => by
    have := Rst.bd h x hx
    simp only [id]; rw [Int.emod_eq_of_lt (by omega) (by omega)]; omega, List.map_id]
  exact sorted_eq (srt_perm _) (srt_up _) (pw_le (incB_pw h))

/-! ### the least translate -/
def nrK (n : Nat) (s : List Int) : Nat → List Int
  | 0 => s
  | b + 1 => if cmpI (trZ n s b) (nrK n s b) < 0 then trZ n s b else nrK n s b
theorem nrK_le (n : Nat) (s : List Int) : ∀ k b, b < k → cmpI (nrK n s k) (trZ n s b) ≤ 0
  | 0, b, h => by omega
  | k + 1, b, h => by
    rw [nrK]
    split
    · rename_i hc
      by_cases e : b = k
      · rw [e, cmpI_self]; omega
      · exact cmpI_trans (by omega) (nrK_le n s k b (by omega))
    · rename_i hc
      by_cases e : b = k
      · rw [e]; have := cmpI_neg (trZ n s k) (nrK n s k); omega
      · exact nrK_le n s k b (by omega)
theorem nrK_of {n : Nat} {s : List Int} (h : Rst n s) (hn : 0 < n) : ∀ k, k ≤ n → ∃ b, b < n ∧ nrK n s k = trZ n s b
  | 0, _ => ⟨0, hn, (trZ_0 h).symm⟩
  | k + 1, hk => by
    rw [nrK]
    split
    · exact ⟨k, by omega, rfl⟩
    · exact nrK_of h hn k (by omega)
/-- LEAST TRANSLATES DO NOT DEPEND ON TRANSLATION -/
theorem nr_trans {n : Nat} {s : List Int} {b : Nat} (h : Rst n s) (hb : b < n) : nrK n (trZ n s b) n = nrK n s n := by
  have hn : 0 < n := by omega
  obtain ⟨c, hc, e1⟩ := nrK_of h hn n (Nat.le_refl _)
  obtain ⟨d, hd, e2⟩ := nrK_of (trZ_rst h hn hb) hn n (Nat.le_refl _)
  have h1 := nrK_le n s n ((b + d) % n) (Nat.mod_lt _ hn)
  have h2 := nrK_le n (trZ n s b) n ((c + (n - b)) % n) (Nat.mod_lt _ hn)
  rw [← trZ_trS hn, ← e2] at h1
  have e3 : trZ n (trZ n s b) ((c + (n - b)) % n) = nrK n s n := by
    rw [trZ_trS hn, e1]
    congr 1
    rw [Nat.add_mod_mod, show b + (c + (n - b)) = c + n by omega, Nat.add_mod_right, Nat.mod_eq_of_lt hc]
  rw [e3] at h2
  exact cmpI_eq (by have := cmpI_neg (nrK n s n) (nrK n (trZ n s b) n); omega)

/-! ### the design of a family -/
def dvU (n : Nat) (A : List (List Int)) : List (List Int) := A.flatMap fun s => (List.range n).map (trZ n s)
def dvB (n : Nat) (A : List (List Int)) : List (List Int) := srtL (dvU n A)
theorem dvU_len (n : Nat) (A : List (List Int)) : (dvU n A).length = A.length * n := by
  rw [← smN_one, dvU, smN_flat, smN_congr (g := fun _ => n) fun s _ => by rw [smN_one]; simp]
  induction A with
  | nil => simp [smN]
  | cons x r ih => rw [smN, ih, List.length_cons, Nat.add_mul]; omega
theorem cntD_sm (p : List Int → Bool) (A : List (List Int)) : cntD p A = (smN (fun b => if p b = true then 1 else 0) A : Int) := by
  rw [cntD, ← List.countP_eq_length_filter, smN_cnt]
/-- the pairs of a set -/
theorem dev_one {n : Nat} {s : List Int} (h : Rst n s) {x y : Nat} (hxy : x < y) (hy : y < n) :
    smN (fun b => if (decide ((x : Int) ∈ trZ n s b) && decide ((y : Int) ∈ trZ n s b)) = true then 1 else 0) (List.range n) = smN (fun a => if (a + (y - x : Nat)) % (n : Int) ∈ s then 1 else 0) s := by
  have key : ∀ b ∈ List.range n, (if (decide ((x : Int) ∈ trZ n s b) && decide ((y : Int) ∈ trZ n s b)) = true then 1 else 0) = smN (fun a => if a = dfm n x b ∧ (dfm n x b + (y - x : Nat)) % (n : Int) ∈ s then 1 else 0) s := by
    intro b hb
    have hb := List.mem_range.1 hb
    rw [smN_at h.nd]
    have m1 : ∀ z : Nat, z < n → ((z : Int) ∈ trZ n s b ↔ dfm n z b ∈ s) := fun z hz => by
      rw [trZ_mem]
      constructor
      · rintro ⟨a, ha, e⟩
        have h1 := Rst.bd h a ha
        have : dfm n z b = a := by
          rw [dfm_v (by omega) (by omega)]
          rw [md2 (by omega) (by omega)] at e
          split at e <;> split <;> omega
        rw [this]; exact ha
      · intro hm
        refine ⟨_, hm, ?_⟩
        rw [dfm_v (by omega) (by omega)]
        split
        · rw [md2 (by omega) (by omega)]; split <;> omega
        · rw [md2 (by omega) (by omega)]; split <;> omega
    have m2 : (dfm n x b + (y - x : Nat)) % (n : Int) = dfm n y b := by
      rw [dfm_v (by omega) (by omega), dfm_v (by omega) (by omega)]
      split <;> split <;> rw [md2 (by omega) (by omega)] <;> split <;> omega
    rw [m2]
    simp only [Bool.and_eq_true, decide_eq_true_eq, m1 x (by omega), m1 y hy]
  rw [smN_congr key, smN_comm]
  refine smN_congr fun a ha => ?_
  have h1 := Rst.bd h a ha
  have key2 : ∀ b ∈ List.range n, (if a = dfm n x b ∧ (dfm n x b + (y - x : Nat)) % (n : Int) ∈ s then 1 else 0) = (if dfm n x a = (b : Int) then 1 else 0) * (if (a + (y - x : Nat)) % (n : Int) ∈ s then 1 else 0) := by
    intro b hb
    have hb := List.mem_range.1 hb
    have e : a = dfm n x b ↔ dfm n x a = (b : Int) := by
      rw [dfm_v (by omega) (by omega), dfm_v (by omega) (by omega)]
      split <;> split <;> omega
    by_cases hh : a = dfm n x b
    · rw [← hh, if_pos (show dfm n x a = b from e.1 hh)]
      simp
    · rw [if_neg (fun h => hh h.1), if_neg (fun h => hh (e.2 h)), Nat.zero_mul]
  rw [smN_congr key2]
  have hmul : ∀ (c : Nat) (f : Nat → Nat) (l : List Nat), smN (fun b => f b * c) l = smN f l * c := fun c f l => by
    induction l with
    | nil => simp [smN]
    | cons x r ih => rw [smN, smN, ih, Nat.add_mul]
  rw [hmul, smN_rng]
  have : 0 ≤ dfm n x a ∧ dfm n x a < n := by
    rw [dfm_v (by omega) (by omega)]; split <;> omega
  rw [if_pos this, Nat.one_mul]
theorem dif_one {n : Nat} {s : List Int} (h : Rst n s) {d : Nat} (h0 : 0 < d) (hd : d < n) :
    smN (fun a => smN (fun b => if a ≠ b ∧ dfm n a b = (d : Int) then 1 else 0) s) s = smN (fun a => if (a + d) % (n : Int) ∈ s then 1 else 0) s := by
  rw [smN_comm]
  refine smN_congr fun b hb => ?_
  have h2 := Rst.bd h b hb
  have := smN_at h.nd ((b + d) % (n : Int)) True
  simp only [and_true] at this
  rw [← this]
  refine smN_congr fun a ha => ?_
  have h1 := Rst.bd h a ha
  have e : (a ≠ b ∧ dfm n a b = (d : Int)) ↔ a = (b + d) % (n : Int) := by
    rw [dfm_v h1 h2, md2 (by omega) (by omega)]
    split <;> split <;> omega
  by_cases hh : a = (b + d) % (n : Int)
  · rw [if_pos hh, if_pos (e.2 hh)]
  · rw [if_neg hh, if_neg (fun h => hh (e.1 h))]
/-- FAMILIES DEVELOP INTO DESIGNS WITH AS MANY PAIRS -/
theorem dev_pair {n : Nat} {A : List (List Int)} (hA : ∀ s ∈ A, Rst n s) {x y : Nat} (hxy : x < y) (hy : y < n) : parF (dvB n A) x y = nth (tabL n (dfA n A)) (y - x) := by
  rw [tabL_nth (by omega), dfA_cnt, parF, dvB, cntD_perm (srtL_perm _), cntD_sm, dvU, smN_flat]
  congr 1
  refine smN_congr fun s hs => ?_
  rw [smN_map, dev_one (hA s hs) hxy hy, dif_one (hA s hs) (by omega) (by omega)]
theorem dv_ok {n : Nat} {A : List (List Int)} (h1 : 1 ≤ n) (h32 : n ≤ 32) (hA : ∀ s ∈ A, Rst n s) (hne : ∀ s ∈ A, 0 < s.length) (hl : (dvU n A).length ≤ 128) : dOk n (dvB n A) = true := by
  refine (DOk.mk' (by omega) (by omega) hl fun b hb => ?_).ok
  obtain ⟨s, hs, hb⟩ := List.mem_flatMap.1 hb
  obtain ⟨c, hc, rfl⟩ := List.mem_map.1 hb
  exact ⟨by rw [trZ_len]; exact hne s hs, trZ_rst (hA s hs) (by omega) (List.mem_range.1 hc)⟩
/-- the next residue -/
def shfZ (n : Nat) : List Int := (List.range n).map fun x : Nat => ((x : Int) + 1) % n
theorem shfZ_len (n : Nat) : (shfZ n).length = n := by simp [shfZ]
theorem imL_shf {n : Nat} {s : List Int} {b : Nat} (h : Rst n s) (hn : 0 < n) (hb : b < n) : imL (shfZ n) (trZ n s b) = trZ n s ((b + 1) % n) := by
  rw [← trZ_trS hn, imL]
  conv => rhs; rw [trZ]
  congr 1
  refine List.map_congr_left fun x hx => ?_
  have h1 := Rst.bd (trZ_rst h hn hb) x hx
  obtain ⟨k, rfl⟩ := Int.eq_ofNat_of_zero_le h1.1
  rw [Int.toNat_natCast, nth_eq (by rw [shfZ_len]; omega)]
  simp [shfZ]
/-- DEVELOPED DESIGNS ARE CYCLIC -/
theorem dv_cyc {n : Nat} {A : List (List Int)} (hn : 0 < n) (hA : ∀ s ∈ A, Rst n s) : srtL ((dvB n A).map (imL (shfZ n))) = dvB n A := by
  refine srtL_congr (((srtL_perm _).map _).trans ?_)
  rw [dvU, List.map_flatMap]
  have hone : ∀ s ∈ A, (((List.range n).map (trZ n s)).map (imL (shfZ n))).Perm ((List.range n).map (trZ n s)) := fun s hs => by
    rw [List.map_map]
    rw [List.map_congr_left (g := trZ n s ∘ fun b => (b + 1) % n) fun b hb => by simp only [Function.comp]; exact imL_shf (hA s hs) hn (List.mem_range.1 hb), ← List.map_map]
    refine List.Perm.map _ ?_
    obtain ⟨m, rfl⟩ : ∃ m, n = m + 1 := ⟨n - 1, by omega⟩
    rw [List.range_succ, List.map_append, List.map_singleton, Nat.mod_self, List.map_congr_left (g := Nat.succ) fun b hb => by
      have := List.mem_range.1 hb
      exact Nat.mod_eq_of_lt (by omega)]
    refine List.perm_append_comm.trans ?_
    rw [List.singleton_append, ← List.range_succ_eq_map, ← List.range_succ]
  clear hn
  induction A with
  | nil => exact .refl _
  | cons s r ih =>
    rw [List.flatMap_cons, List.flatMap_cons]
    exact (hone s (List.mem_cons_self ..)).append (ih (fun t ht => hA t (List.mem_cons_of_mem _ ht)) fun t ht => hone t (List.mem_cons_of_mem _ ht))
end Go.Proofs.Ytgflhgkcmfjkgaa
end

section
/- Comparison of lists: slices.Compare, the reference's CompareLists, slices.IsSortedFunc. -/
namespace Go.Proofs.Ytgflhgkcmfjkgaa
set_option linter.unusedSimpArgs false
set_option linter.unusedVariables false
open Go.RowKit

theorem isNaNC_c (x : Int) (w : World) : Calls Try.prog 108 #[.int .i64 x] w fun e w' => e = .returned (.bool false) ∧ w = w' := by
  have h := ne_f (rfl : x = x)
  go_enter Try.func108, Try.ntmps108
  go_wp2_with fail
  go_ret
  exact ⟨rfl, rfl⟩
def cmp1 (x y : Int) : Int := if x < y then -1 else if y < x then 1 else 0
theorem cmpC_c (x y : Int) (w : World) : Calls Try.prog 69 #[.int .i64 x, .int .i64 y] w fun e w' => e = .returned (.int .i64 (cmp1 x y)) ∧ w = w' := by
  by_cases h1 : x < y
  · rw [cmp1, if_pos h1]
    go_enter Try.func69, Try.ntmps69
    go_wp2_with (go_at_call 108; refine (isNaNC_c _ _).mono ?_; rintro e w3 ⟨rfl, rfl⟩)
    go_ret
    exact ⟨rfl, rfl⟩
  · by_cases h2 : y < x
    · rw [cmp1, if_neg h1, if_pos h2]
      go_enter Try.func69, Try.ntmps69
      go_wp2_with (go_at_call 108; refine (isNaNC_c _ _).mono ?_; rintro e w3 ⟨rfl, rfl⟩)
      go_ret
      exact ⟨rfl, rfl⟩
    · rw [cmp1, if_neg h1, if_neg h2]
      go_enter Try.func69, Try.ntmps69
      go_wp2_with (go_at_call 108; refine (isNaNC_c _ _).mono ?_; rintro e w3 ⟨rfl, rfl⟩)
      go_ret
      exact ⟨rfl, rfl⟩
theorem cmpI_drop {xs ys : List Int} {k : Nat} (h1 : k < xs.length) (h2 : k < ys.length) : cmpI (xs.drop k) (ys.drop k) = if cmp1 (nth xs k) (nth ys k) ≠ 0 then cmp1 (nth xs k) (nth ys k) else cmpI (xs.drop (k + 1)) (ys.drop (k + 1)) := by
  rw [drop_nth h1, drop_nth h2, cmpI, cmp1]
  by_cases h : nth xs k < nth ys k
  · rw [if_pos h, if_pos h, if_pos (by omega)]
  · rw [if_neg h, if_neg h]
    by_cases h' : nth ys k < nth xs k
    · rw [if_pos h', if_pos h', if_pos (by omega)]
    · rw [if_neg h', if_neg h', if_neg (by omega)]
theorem cmpI_e1 {xs ys : List Int} {k : Nat} (h1 : k < xs.length) (h2 : ys.length ≤ k) : cmpI (xs.drop k) (ys.drop k) = 1 := by
  rw [drop_nth h1, List.drop_of_length_le h2]; rfl
theorem cmpI_e2 {xs ys : List Int} {k : Nat} (h1 : xs.length ≤ k) (h2 : k < ys.length) : cmpI (xs.drop k) (ys.drop k) = -1 := by
  rw [drop_nth h2, List.drop_of_length_le h1]; rfl
theorem cmpI_e3 {xs ys : List Int} {k : Nat} (h1 : xs.length ≤ k) (h2 : ys.length ≤ k) : cmpI (xs.drop k) (ys.drop k) = 0 := by
  rw [List.drop_of_length_le h2, List.drop_of_length_le h1]; rfl
set_option maxHeartbeats 1000000 in
set_option maxRecDepth 100000 in
theorem Compare_c (va vb : Value) (xs ys : List Int) (w : World) (ha : RdI w va xs) (hb : RdI w vb ys) :
    Calls Try.prog 35 #[va, vb] w fun e w' => e = .returned (.int .i64 (cmpI xs ys)) ∧ w = w' := by
  have hla := ha.len
  have hlb := hb.len
  have hia := ha.ix
  have hib := hb.ix
  have hca := ha.cell
  have hcb := hb.cell
  have hma := ha.le
  have hmb := hb.le
  go_enter Try.func35, Try.ntmps35
  go_wp2_with fail
  go_loop [5, 6, 7, 8, 11] (fun _ _ _ _ i => ∃ k : Nat, k ≤ xs.length ∧ k ≤ ys.length ∧ i = .int .i64 k ∧ Hid (cmpI (xs.drop k) (ys.drop k) = cmpI xs ys)) (fun _ _ _ _ i => xs.length - (intOf i).toNat)
  case atStart => exact ⟨0, by omega, by omega, rfl, rfl⟩
  case round =>
    obtain ⟨k, hk, hk2, rfl, hI⟩ := hrel
    by_cases k1 : k < xs.length
    · by_cases k2 : k < ys.length
      · have hd := cmpI_drop k1 k2
        by_cases hc : cmp1 (nth xs k) (nth ys k) = 0
        · rw [if_neg (by omega), hI.out] at hd
          have HD := Lib.hid hd
          have HC := Lib.hid hc
          clear hd hc
          go_wp2_with (go_at_call 69; refine (cmpC_c _ _ _).mono ?_; rw [HC.out]; rintro e w3 ⟨rfl, rfl⟩)
          go_round
          case rel => exact ⟨k + 1, by omega, by omega, by go_num, HD.out.symm⟩
          case measure => simp [intOf]; omega
        · rw [if_pos hc, hI.out] at hd
          have HD := Lib.hid hd
          clear hd
          go_wp2_with (go_at_call 69; refine (cmpC_c _ _ _).mono ?_; rintro e w3 ⟨rfl, rfl⟩)
          go_ret
          exact ⟨by rw [HD.out]; rfl, rfl⟩
      · have HD := Lib.hid (cmpI_e1 k1 (show ys.length ≤ k by omega))
        rw [hI.out] at HD
        go_wp2_with fail
        go_ret
        exact ⟨by rw [HD.out]; rfl, rfl⟩
    · by_cases k2 : k < ys.length
      · have HD := Lib.hid (cmpI_e2 (show xs.length ≤ k by omega) k2)
        rw [hI.out] at HD
        go_wp2_with fail
        go_ret
        exact ⟨by rw [HD.out]; rfl, rfl⟩
      · have HD := Lib.hid (cmpI_e3 (show xs.length ≤ k by omega) (show ys.length ≤ k by omega))
        rw [hI.out] at HD
        go_wp2_with fail
        go_ret
        exact ⟨by rw [HD.out]; rfl, rfl⟩

set_option maxHeartbeats 1000000 in
set_option maxRecDepth 100000 in
theorem sCompareLists_c (va vb : Value) (xs ys : List Int) (w : World) (ha : RdI w va xs) (hb : RdI w vb ys) :
    Calls Try.prog 95 #[va, vb] w (GivesI w (cmpI xs ys)) := by
  have hla := ha.len
  have hlb := hb.len
  have hia := ha.ix
  have hib := hb.ix
  have hma := ha.le
  have hmb := hb.le
  go_enter Try.func95, Try.ntmps95
  go_wp2_with fail
  go_loopw [5] (fun i wr => ∃ k : Nat, k ≤ xs.length ∧ k ≤ ys.length ∧ i = .int .i64 k ∧ Hid (cmpI (xs.drop k) (ys.drop k) = cmpI xs ys) ∧ St w.heap.size w wr []) (fun i _ => xs.length - (intOf i).toNat)
  case atStart => exact ⟨0, by omega, by omega, rfl, rfl, St.refl w⟩
  case round =>
    obtain ⟨k, hk, hk2, rfl, hI, hS⟩ := hrel
    by_cases k1 : k < xs.length
    · by_cases k2 : k < ys.length
      · have hd := cmpI_drop k1 k2
        rw [hI.out] at hd
        have hqa := fun s : SS w.heap.size w [] => (s.st.oldI ha).cell k k1
        have hqb := fun s : SS w.heap.size w [] => (s.st.oldI hb).cell k k2
        generalize nth xs k = x at *
        generalize nth ys k = y at *
        rcases Int.lt_trichotomy x y with h | h | h
        · have HD : Hid (cmpI xs ys = -1) := by rw [Hid, hd, if_pos (by rw [cmp1, if_pos h]; decide), cmp1, if_pos h]
          clear hd
          go_wp2_with fail
          have hne : Nonempty (SS _ _ _) := ⟨⟨_, hS⟩⟩
          refine wp_region_st (by kernel_rfl) (by kernel_rfl) hS ?_
          repeat (go_big_quiet_step (fail))
          refine wpQuiet_nil ?_
          rintro _ ⟨s2, rfl⟩
          have hS2 := s2.st
          generalize s2.w = w2 at hS2 ⊢
          go_wp2_with fail
          go_ret
          exact ⟨ret_i64 HD.out.symm, hS2⟩
        · subst h
          rw [if_neg (by simp [cmp1])] at hd
          have HD := Lib.hid hd
          clear hd
          have hirr : ¬ x < x := by omega
          go_wp2_with fail
          have hne : Nonempty (SS _ _ _) := ⟨⟨_, hS⟩⟩
          refine wp_region_st (by kernel_rfl) (by kernel_rfl) hS ?_
          repeat (go_big_quiet_step (fail))
          refine wpQuiet_nil ?_
          rintro _ ⟨s2, rfl⟩
          have hS2 := s2.st
          generalize s2.w = w2 at hS2 ⊢
          go_wp2_with fail
          have hne : Nonempty (SS _ _ _) := ⟨⟨_, hS2⟩⟩
          refine wp_region_st (by kernel_rfl) (by kernel_rfl) hS2 ?_
          repeat (go_big_quiet_step (fail))
          refine wpQuiet_nil ?_
          rintro _ ⟨s2, rfl⟩
          have hS3 := s2.st
          generalize s2.w = w3 at hS3 ⊢
          go_wp2_with fail
          go_roundw
          case rel => exact ⟨k + 1, by omega, by omega, by go_num, HD.out.symm, hS3⟩
          case measure => simp [intOf]; omega
        · have hn : ¬ x < y := by omega
          have HD : Hid (cmpI xs ys = 1) := by rw [Hid, hd, if_pos (by rw [cmp1, if_neg hn, if_pos h]; decide), cmp1, if_neg hn, if_pos h]
          clear hd
          go_wp2_with fail
          have hne : Nonempty (SS _ _ _) := ⟨⟨_, hS⟩⟩
          refine wp_region_st (by kernel_rfl) (by kernel_rfl) hS ?_
          repeat (go_big_quiet_step (fail))
          refine wpQuiet_nil ?_
          rintro _ ⟨s2, rfl⟩
          have hS2 := s2.st
          generalize s2.w = w2 at hS2 ⊢
          go_wp2_with fail
          have hne : Nonempty (SS _ _ _) := ⟨⟨_, hS2⟩⟩
          refine wp_region_st (by kernel_rfl) (by kernel_rfl) hS2 ?_
          repeat (go_big_quiet_step (fail))
          refine wpQuiet_nil ?_
          rintro _ ⟨s2, rfl⟩
          have hS3 := s2.st
          generalize s2.w = w3 at hS3 ⊢
          go_wp2_with fail
          go_ret
          exact ⟨ret_i64 HD.out.symm, hS3⟩
      · have HD := Lib.hid (cmpI_e1 k1 (show ys.length ≤ k by omega))
        rw [hI.out] at HD
        go_wp2_with fail
        go_ret
        exact ⟨ret_i64 HD.out.symm, hS⟩
    · by_cases k2 : k < ys.length
      · have HD := Lib.hid (cmpI_e2 (show xs.length ≤ k by omega) k2)
        rw [hI.out] at HD
        go_wp2_with fail
        go_ret
        exact ⟨ret_i64 HD.out.symm, hS⟩
      · have HD := Lib.hid (cmpI_e3 (show xs.length ≤ k by omega) (show ys.length ≤ k by omega))
        rw [hI.out] at HD
        go_wp2_with fail
        go_ret
        exact ⟨ret_i64 HD.out.symm, hS⟩
theorem srtB_no {A : List (List Int)} {k : Nat} (h : k + 1 < A.length) (hc : leL (xat A k) (xat A (k + 1)) = false) : srtB A = false := by
  cases hs : srtB A with
  | false => rfl
  | true =>
    have := List.pairwise_iff_getElem.1 (srtB_pw.1 hs) k (k + 1) (by omega) h (by omega)
    rw [xat_eq (show k < A.length by omega), xat_eq h, this] at hc
    cases hc
set_option maxHeartbeats 2000000 in
set_option maxRecDepth 100000 in
theorem IsSortedR_c (v : Value) (us : List Value) (A : List (List Int)) (w : World) (hv : RII w v us A) :
    Calls Try.prog 76 #[v, .func (.func 35) #[] #[]] w (GivesB w (srtB A)) := by
  have hcf : ∀ (args : Array Value) (W : World), (callFunc 35 args).run Try.prog W = .ok (.enter 35 args) W :=
    fun args W => callFunc_go (P := Try.prog) Try.func35 (by kernel_rfl) (by kernel_rfl) args W
  have hln := hv.len
  have hix := hv.ixe
  have hm := hv.le
  by_cases h0 : A.length = 0
  · have hA : Hid (srtB A = true) := by rw [List.eq_nil_of_length_eq_zero h0]; rfl
    go_enter Try.func76, Try.ntmps76
    go_wp2_with fail
    go_loopw [5] (fun i wr => i = .int .i64 (-1) ∧ St w.heap.size w wr []) (fun _ _ => 0)
    case atStart => exact ⟨by go_num, St.refl w⟩
    case round =>
      obtain ⟨rfl, hS⟩ := hrel
      go_wp2_with fail
      go_ret
      exact ⟨ret_bool hA.out.symm, hS⟩
  · go_enter Try.func76, Try.ntmps76
    go_wp2_with fail
    go_loopw [5] (fun i wr => ∃ k : Nat, k + 1 ≤ A.length ∧ i = .int .i64 k ∧ Hid (srtB (A.drop k) = true) ∧ St w.heap.size w wr []) (fun i _ => (intOf i).toNat)
    case atStart => exact ⟨A.length - 1, by omega, by go_num, by
      have : A.drop (A.length - 1) = [xat A (A.length - 1)] := by rw [drop_xat (show A.length - 1 < A.length by omega), List.drop_of_length_le (by omega)]
      rw [Hid, this]; rfl, St.refl w⟩
    case round =>
      obtain ⟨k, hk, rfl, hI, hS⟩ := hrel
      by_cases hk0 : 0 < k
      · obtain ⟨m, hmk⟩ : ∃ m, m + 1 = k := ⟨k - 1, by omega⟩
        have R1 := Lib.hid fun s : SS w.heap.size w [] => (s.st.oldII hv).row k (by omega)
        have R0 := Lib.hid fun s : SS w.heap.size w [] => (s.st.oldII hv).row m (by omega)
        have hq1 := fun s : SS w.heap.size w [] => (s.st.oldII hv).cell k (by omega)
        have hq0 := fun s : SS w.heap.size w [] => (s.st.oldII hv).cell m (by omega)
        have x1 := hix (k : Int) k rfl (by omega)
        have x0 := hix ((k : Int) - 1) m (by omega) (by omega)
        have hw : IntKind.i64.wrap ((k : Int) - 1) = ((k : Int) - 1) := IntWalk.i64_in _ (by omega)
        have Hmk := Lib.hid hmk
        have hd := srtB_drop (A := A) (k := m) (by omega)
        rw [hmk, hI.out, Bool.and_true] at hd
        have hno : leL (xat A m) (xat A k) = false → srtB A = false := fun h => srtB_no (k := m) (by omega) (by rw [hmk]; exact h)
        clear hmk
        cases hc : leL (xat A m) (xat A k)
        · have hlt : cmpI (xat A k) (xat A m) < 0 := by
            have := of_decide_eq_false hc
            have := cmpI_neg (xat A m) (xat A k); omega
          have HN := Lib.hid (hno hc)
          clear hd hc hno
          go_wp2_with fail
          have hne : Nonempty (SS _ _ _) := ⟨⟨_, hS⟩⟩
          refine wp_region_st (by kernel_rfl) (by kernel_rfl) hS ?_
          repeat (go_big_quiet_step ((go_at_call 35; exact st_quiet0 (Compare_c _ _ _ _ _ (R1.out _) (R0.out _)))))
          refine wpQuiet_nil ?_
          rintro _ ⟨s2, rfl⟩
          have hS2 := s2.st
          generalize s2.w = w2 at hS2 ⊢
          go_wp2_with fail
          go_ret
          exact ⟨ret_bool HN.out.symm, hS2⟩
        · have hlt : ¬ cmpI (xat A k) (xat A m) < 0 := by
            have := of_decide_eq_true hc
            have := cmpI_neg (xat A m) (xat A k); omega
          rw [hc] at hd
          have HD := Lib.hid hd
          clear hd hc hno
          go_wp2_with fail
          have hne : Nonempty (SS _ _ _) := ⟨⟨_, hS⟩⟩
          refine wp_region_st (by kernel_rfl) (by kernel_rfl) hS ?_
          repeat (go_big_quiet_step ((go_at_call 35; exact st_quiet0 (Compare_c _ _ _ _ _ (R1.out _) (R0.out _)))))
          refine wpQuiet_nil ?_
          rintro _ ⟨s2, rfl⟩
          have hS2 := s2.st
          generalize s2.w = w2 at hS2 ⊢
          go_wp2_with fail
          go_roundw
          case rel => exact ⟨m, by have := Hmk.out; omega, by rw [← Hmk.out]; go_num, HD, hS2⟩
          case measure => (have := Hmk.out; simp [intOf]; omega)
      · obtain rfl : k = 0 := by omega
        go_wp2_with fail
        go_ret
        exact ⟨ret_bool (by rw [← hI.out]; rfl), hS⟩
end Go.Proofs.Ytgflhgkcmfjkgaa
end

section
/- make inside a region that draws its order. A region that loads cells and writes them by its last stores: what is held of the world is asked until the first of these stores alone. A region that loads cells and writes them at its end: an operation taken first, by a chain of operations that wait for each other. -/
namespace Go.Proofs.Ytgflhgkcmfjkgaa
set_option linter.unusedSimpArgs false
set_option linter.unusedVariables false
open Go.RowKit
theorem cell_dr {w : World} {a : Addr} {v : Value} (h : w.cell? a = some v) : w.drew.cell? a = some v := h
section
variable {P : Program} {ops : Array Oper} {o : Oper} {a : Act} {K : Act → World → Prop} {Q : Exit → Act → World → Prop} {E : Prop}
end
section
variable {ops : Array Oper} {o : Oper} {a : Act} {K : Act → World → Prop} {Q : Exit → Act → World → Prop} {E : Prop} {B : Nat} {w0 w : World} {L : List Ent}
end

section
variable {P : Program} {ops : Array Oper} {Q : Exit → Act → World → Prop} {md : Region.Mode} {S : World → Prop} {st : Nat}

/-- whichever order is picked; S is shown behind every operation till operation st has come up -/
def anyG (P : Program) (md : Region.Mode) (ops : Array Oper) (Q : Exit → Act → World → Prop) (S : World → Prop) (st : Nat) : Nat → Array Bool → Act → World → Prop
  | 0, listed, a, w => Region.ready md ops listed = [] ∧ Q .normal a w
  | n + 1, listed, a, w => (Region.ready md ops listed = [] → Q .normal a w) ∧
    ∀ i ∈ Region.ready md ops listed, wpOp P ops Q i (fun a' w' => ((listed.setIfInBounds i true).getD st true = false → S w') ∧ anyG P md ops Q S st n (listed.setIfInBounds i true) a' w') a w

theorem wpAny_of_G : ∀ (n : Nat) (listed : Array Bool) (a : Act) (w : World), anyG P md ops Q S st n listed a w → wpAny P md ops Q n listed a w
  | 0, _, _, _, h => h
  | n + 1, _, _, _, h => ⟨h.1, fun i hi => wpOp_mono (fun a' w' h' => wpAny_of_G n _ a' w' h'.2) (h.2 i hi)⟩

theorem set_un {listed : Array Bool} {j k : Nat} (hne : j ≠ k) (h : listed.getD k true = false) : (listed.setIfInBounds j true).getD k true = false := by rw [getD_set_ne true hne]; exact h
/-- what waits for an operation that has not come up cannot come up -/
theorem not_ready {listed : Array Bool} {j k : Nat} (hk : listed.getD k true = false) (hw : ∃ o, ops[j]? = some o ∧ ∃ e ∈ o.after, Region.binds md e = true ∧ e.on = k) : j ∉ Region.ready md ops listed := by
  intro h
  obtain ⟨_, o, ho, hall⟩ := mem_ready.1 h
  obtain ⟨o', ho', e, he, hb, rfl⟩ := hw
  rw [ho] at ho'; cases ho'
  have h1 := hall e he hb
  rcases Nat.lt_or_ge e.on listed.size with h' | h'
  · simp [h'] at hk h1; rw [hk] at h1; cases h1
  · simp [Array.getElem?_eq_none h'] at h1

/-- an operation that yields in whatever world may be taken first -/
theorem anyG_pure {i : Nat} {oi : Oper} {v : Value} (hi : ops[i]? = some oi) (hsel : ∀ (j : Nat) (o : Oper) cs b, ops[j]? = some o → o.op ≠ .select cs b)
    (hQ : ∀ c a w, Q (.panic c) (a.put oi.dst v) w → Q (.panic c) a w) (hne : i ≠ st) :
    ∀ (n : Nat) (listed : Array Bool) (a : Act) (w : World),
      (∀ j oj, ops[j]? = some oj → j ≠ i → listed.getD j true = false → (∀ e ∈ oj.after, Region.binds md e = true → e.on ≠ i) → oi.apart ops oj = true) →
      i ∈ Region.ready md ops listed → YieldsIf P ops (fun _ => True) oi v a → (listed.getD st true = false → S w) →
      anyG P md ops Q S st n (listed.setIfInBounds i true) (a.put oi.dst v) w → anyG P md ops Q S st (n + 1) listed a w := by
  intro n
  induction n with
  | zero =>
    intro listed a w _ hr hy hS H
    refine ⟨fun h => (by rw [h] at hr; cases hr), fun j hj => ?_⟩
    by_cases hji : j = i
    · subst hji; exact hy.wpOp hi trivial ⟨fun e => hS (by rwa [getD_set_ne true hne] at e), H⟩
    · have := ready_mono hj hji
      rw [H.1] at this
      cases this
  | succ n ih =>
    intro listed a w hfree hr hy hS H
    have hiu : listed.getD i true = false := (mem_ready.1 hr).1
    refine ⟨fun h => (by rw [h] at hr; cases hr), fun j hj => ?_⟩
    by_cases hji : j = i
    · subst hji; exact hy.wpOp hi trivial ⟨fun e => hS (by rwa [getD_set_ne true hne] at e), H⟩
    · have h1 := H.2 j (ready_mono hj hji)
      obtain ⟨hjun, oj, hoj, hall⟩ := mem_ready.1 hj
      have hnot : ∀ e ∈ oj.after, Region.binds md e = true → e.on ≠ i := fun e he hb heq => not_ready hiu ⟨oj, hoj, e, he, hb, heq⟩ hj
      have h2 := wpOp_putIf hoj (hfree j oj hoj hji hjun hnot) (fun cs b => hsel i oi cs b hi) (fun cs b => hsel j oj cs b hoj) hQ hy h1
      refine wpOp_mono (fun a' w' h3 => ?_) h2
      have hSw : (listed.setIfInBounds j true).getD st true = false → S w' := fun e => h3.2.1 (by rw [Array.setIfInBounds_comm _ _ (Ne.symm hji), getD_set_ne true hne]; exact e)
      refine ⟨hSw, ih (listed.setIfInBounds j true) a' w' ?_ (ready_mono hr (Ne.symm hji)) h3.1 hSw ?_⟩
      · intro m om hm hmi hun hno
        refine hfree m om hm hmi ?_ hno
        by_cases hjm : j = m
        · subst hjm; exact hjun
        · rwa [getD_set_ne true hjm] at hun
      · rw [Array.setIfInBounds_comm _ _ hji]
        exact h3.2.2
/-- number i is taken first, whatever the world -/
theorem takeP {i : Nat} {oi : Oper} {v : Value} {n : Nat} {listed : Array Bool} {a : Act} {w : World} (hi : ops[i]? = some oi)
    (hs : (Region.noSelect ops && Region.free md ops listed i && (Region.ready md ops listed).contains i && (!(i == st))) = true)
    (hQ : ∀ c a w, Q (.panic c) (a.put oi.dst v) w → Q (.panic c) a w) (hw : Region.wanted oi (yielded ops a.tmps) = true) (hy : ∀ w, (execOp a.eval oi).run P w = .ok (.value v) w) (hS : S w)
    (h : anyG P md ops Q S st n (listed.setIfInBounds i true) (a.put oi.dst v) w) : anyG P md ops Q S st (n + 1) listed a w := by
  simp only [Bool.and_eq_true, Bool.not_eq_true', beq_eq_false_iff_ne] at hs
  obtain ⟨⟨⟨h1, h2⟩, h3⟩, h4⟩ := hs
  exact anyG_pure hi (Region.noSelect_spec h1) hQ h4 n listed a w (Region.free_spec hi h2) (by simpa using h3) (.inl ⟨hw, fun w _ => hy w⟩) (fun _ => hS) h

def waits (md : Region.Mode) (ops : Array Oper) (j k : Nat) : Bool := match ops[j]? with
  | some o => o.after.any fun e => Region.binds md e && e.on == k
  | none => false
theorem waits_spec {j k : Nat} (h : waits md ops j k = true) : ∃ o, ops[j]? = some o ∧ ∃ e ∈ o.after, Region.binds md e = true ∧ e.on = k := by
  unfold waits at h
  cases ho : ops[j]? with
  | none => rw [ho] at h; cases h
  | some o =>
    rw [ho] at h
    simp only [Array.any_eq_true', Bool.and_eq_true, beq_iff_eq] at h
    obtain ⟨e, he, hb, hk⟩ := h
    exact ⟨o, rfl, e, he, hb, hk⟩
def AllG (P : Program) (md : Region.Mode) (ops : Array Oper) (Q : Exit → Act → World → Prop) (S : World → Prop) (st n : Nat) (listed : Array Bool) (a : Act) (w : World) (rs : List Nat) : Prop :=
  ∀ i ∈ rs, wpOp P ops Q i (fun a' w' => ((listed.setIfInBounds i true).getD st true = false → S w') ∧ anyG P md ops Q S st n (listed.setIfInBounds i true) a' w') a w
theorem AllG.nil {n : Nat} {listed : Array Bool} {a : Act} {w : World} : AllG P md ops Q S st n listed a w [] := fun _ h => by cases h
/-- an operation ahead of st -/
theorem AllG.cons {n : Nat} {listed : Array Bool} {a : Act} {w : World} {i : Nat} {o : Oper} {rs : List Nat} (ho : ops[i]? = some o)
    (h : ∀ K' : Act → World → Prop, Shut (∀ a w, S w → (S w → anyG P md ops Q S st n (listed.setIfInBounds i true) a w) → K' a w) → if Region.wanted o (yielded ops a.tmps) = true then Oper.wp P o a w K' Q else K' (a.put o.dst undef) w)
    (hs : AllG P md ops Q S st n listed a w rs) : AllG P md ops Q S st n listed a w (i :: rs) := fun j hj => by
  rcases List.mem_cons.1 hj with rfl | hj
  · exact wpOp_step ho (fun K' hK => h K' (fun a w hS hW => hK a w ⟨fun _ => hS, hW hS⟩))
  · exact hs j hj
/-- st itself, or one behind it -/
theorem AllG.last {n : Nat} {listed : Array Bool} {a : Act} {w : World} {i : Nat} {o : Oper} {rs : List Nat} (ho : ops[i]? = some o) (hl : (listed.setIfInBounds i true).getD st true = true)
    (h : ∀ K' : Act → World → Prop, Shut (∀ a w, anyG P md ops Q S st n (listed.setIfInBounds i true) a w → K' a w) → if Region.wanted o (yielded ops a.tmps) = true then Oper.wp P o a w K' Q else K' (a.put o.dst undef) w)
    (hs : AllG P md ops Q S st n listed a w rs) : AllG P md ops Q S st n listed a w (i :: rs) := fun j hj => by
  rcases List.mem_cons.1 hj with rfl | hj
  · exact wpOp_step ho (fun K' hK => h K' (fun a w hW => hK a w ⟨fun e => (by rw [hl] at e; cases e), hW⟩))
  · exact hs j hj
theorem readyG {rs : List Nat} {n : Nat} {listed : Array Bool} {a : Act} {w : World} (hr : Region.ready md ops listed = rs) (hne : rs ≠ [])
    (h : AllG P md ops Q S st n listed a w rs) : anyG P md ops Q S st (n + 1) listed a w := ⟨fun h0 => absurd (hr ▸ h0) hne, hr ▸ h⟩
theorem doneG {listed : Array Bool} {a : Act} {w : World} (hr : Region.ready md ops listed = []) (h : Q .normal a w) : ∀ n, anyG P md ops Q S st n listed a w
  | 0 => ⟨hr, h⟩
  | _ + 1 => ⟨fun _ => h, by rw [hr]; simp⟩
/-- the beginning -/
theorem regionG {id : Nat} {a : Act} {w : World} (S : World → Prop) (st : Nat) (hm : P.follows .mixedOrders = true) (hS : S w.drew)
    (h : S w.drew → anyG P .any ops (NoPanic Q) S st ops.size (Array.replicate ops.size false) a w.drew) : (Code.region id ops true).wp P Q a w :=
  wp_region_noPanic (wp_region_any hm (wpAny_of_G _ _ _ _ (h hS)))
end

section
variable {P : Program} {ops : Array Oper} {Q : Exit → Act → World → Prop} {md : Region.Mode} {S : World → Prop} {st : Nat}
theorem anyG_firstL {i : Nat} {oi : Oper} {v : Value} (ks : List Nat) (hi : ops[i]? = some oi) (hsel : ∀ (j : Nat) (o : Oper) cs b, ops[j]? = some o → o.op ≠ .select cs b)
    (hQ : ∀ c a w, Q (.panic c) (a.put oi.dst v) w → Q (.panic c) a w)
    (hks : ∀ k ∈ ks, k = i ∨ ∃ m ∈ i :: ks, ∃ o, ops[k]? = some o ∧ ∃ e ∈ o.after, Region.binds md e = true ∧ e.on = m) (hst : ∃ m ∈ i :: ks, ∃ o, ops[st]? = some o ∧ ∃ e ∈ o.after, Region.binds md e = true ∧ e.on = m) :
    ∀ (n : Nat) (listed : Array Bool) (a : Act) (w : World), (∀ k ∈ ks, listed.getD k true = false) → listed.getD st true = false →
      (∀ j oj, ops[j]? = some oj → j ≠ i → listed.getD j true = false → (∀ e ∈ oj.after, Region.binds md e = true → e.on ≠ i) → oi.apart ops oj = true) →
      i ∈ Region.ready md ops listed → YieldsIf P ops S oi v a → S w →
      anyG P md ops Q S st n (listed.setIfInBounds i true) (a.put oi.dst v) w → anyG P md ops Q S st (n + 1) listed a w := by
  intro n
  induction n with
  | zero =>
    intro listed a w hk hs _ hr hy hS H
    refine ⟨fun h => (by rw [h] at hr; cases hr), fun j hj => ?_⟩
    by_cases hji : j = i
    · subst hji; exact hy.wpOp hi hS ⟨fun _ => hS, H⟩
    · have := ready_mono hj hji
      rw [H.1] at this
      cases this
  | succ n ih =>
    intro listed a w hk hs hfree hr hy hS H
    have hiu : listed.getD i true = false := (mem_ready.1 hr).1
    have hun : ∀ m ∈ i :: ks, listed.getD m true = false := fun m hm => by
      rcases List.mem_cons.1 hm with rfl | hm
      · exact hiu
      · exact hk m hm
    refine ⟨fun h => (by rw [h] at hr; cases hr), fun j hj => ?_⟩
    by_cases hji : j = i
    · subst hji; exact hy.wpOp hi hS ⟨fun _ => hS, H⟩
    · have hjk : j ∉ ks := by
        intro hjm
        rcases hks j hjm with e | ⟨m, hm, hw⟩
        · exact hji e
        · exact not_ready (hun m hm) hw hj
      obtain ⟨ms, hms, hws⟩ := hst
      have hjs : j ≠ st := by
        rintro rfl
        exact not_ready (hun ms hms) hws hj
      have h1 := H.2 j (ready_mono hj hji)
      obtain ⟨hjun, oj, hoj, hall⟩ := mem_ready.1 hj
      have hnot : ∀ e ∈ oj.after, Region.binds md e = true → e.on ≠ i := fun e he hb heq => not_ready hiu ⟨oj, hoj, e, he, hb, heq⟩ hj
      have h2 := wpOp_putIf hoj (hfree j oj hoj hji hjun hnot) (fun cs b => hsel i oi cs b hi) (fun cs b => hsel j oj cs b hoj) hQ hy h1
      have hsj : (listed.setIfInBounds j true).getD st true = false := set_un hjs hs
      refine wpOp_mono (fun a' w' h3 => ?_) h2
      have hSw : S w' := h3.2.1 (set_un hjs (set_un (fun e => by subst e; exact not_ready (hun ms hms) hws hr) hs))
      refine ⟨fun _ => hSw, ih (listed.setIfInBounds j true) a' w' (fun k hkm => set_un (fun e => hjk (e ▸ hkm)) (hk k hkm)) hsj ?_ (ready_mono hr (Ne.symm hji)) h3.1 hSw ?_⟩
      · intro m om hm hmi hun hno
        refine hfree m om hm hmi ?_ hno
        by_cases hjm : j = m
        · subst hjm; exact hjun
        · rwa [getD_set_ne true hjm] at hun
      · rw [Array.setIfInBounds_comm _ _ hji]
        exact h3.2.2
/-- number i is taken first; ks: operations that wait for it, for each other, and st for one of them -/
theorem takeH {i : Nat} (ks : List Nat) {oi : Oper} {v : Value} {n : Nat} {listed : Array Bool} {a : Act} {w : World} (hi : ops[i]? = some oi)
    (hs : (Region.noSelect ops && Region.free md ops listed i && (Region.ready md ops listed).contains i && (ks.all fun k => k == i || (i :: ks).any fun m => waits md ops k m) && ((i :: ks).any fun m => waits md ops st m) && (ks.all fun k => !listed.getD k true) && (!listed.getD st true)) = true)
    (hQ : ∀ c a w, Q (.panic c) (a.put oi.dst v) w → Q (.panic c) a w) (hw : Region.wanted oi (yielded ops a.tmps) = true) (hy : ∀ w, S w → (execOp a.eval oi).run P w = .ok (.value v) w) (hS : S w)
    (h : anyG P md ops Q S st n (listed.setIfInBounds i true) (a.put oi.dst v) w) : anyG P md ops Q S st (n + 1) listed a w := by
  simp only [Bool.and_eq_true, Bool.not_eq_true', Bool.or_eq_true, beq_iff_eq, List.all_eq_true] at hs
  obtain ⟨⟨⟨⟨⟨⟨h1, h2⟩, h3⟩, h4⟩, h5⟩, h6⟩, h7⟩ := hs
  refine anyG_firstL ks hi (Region.noSelect_spec h1) hQ (fun k hk => ?_) ?_ n listed a w h6 h7 (Region.free_spec hi h2) (by simpa using h3) (.inl ⟨hw, hy⟩) hS h
  · rcases h4 k hk with e | e
    · exact .inl e
    · obtain ⟨m, hm, hmw⟩ := List.any_eq_true.1 e
      exact .inr ⟨m, hm, waits_spec hmw⟩
  · obtain ⟨m, hm, hmw⟩ := List.any_eq_true.1 h5
    exact ⟨m, hm, waits_spec hmw⟩
end

end Go.Proofs.Ytgflhgkcmfjkgaa
end

section
/- slices.SortFunc at [][]int64 with slices.Compare: rows that a call owns, put in order; slices.IsSortedFunc. -/
namespace Go.Proofs.Ytgflhgkcmfjkgaa
set_option linter.unusedSimpArgs false
set_option linter.unusedVariables false
open Go.RowKit
attribute [local go_sem ↓] Go.wp_at_zero Go.wp_at_succ

def Try.mSortR_ren : Go.Shelf.Ren := ⟨fun | 6 => 34 | 15 => 68 | 14 => 67 | 28 => 106 | 29 => 107 | 20 => 98 | 21 => 99 | 22 => 100 | 23 => 101 | 24 => 102 | 25 => 103 | 26 => 104 | 27 => 105 | 46 => 126 | 47 => 127 | 48 => 128 | 49 => 129 | 50 => 130 | 57 => 135 | n => n, fun | 22 => 33 | 24 => 30 | 25 => 67 | 3 => 3 | 39 => 105 | 0 => 0 | 53 => 133 | 55 => 99 | 4 => 4 | 46 => 127 | 45 => 126 | 50 => 73 | 5 => 5 | 9 => 9 | 66 => 146 | 70 => 150 | 76 => 155 | 77 => 156 | n => n, fun | n => n⟩
theorem Try.mSortR : Go.Proofs.SlLaysF.n6 Try.prog Try.mSortR_ren := {
  mixed := by kernel_rfl
  f6 := ⟨Try.f34.name, by decide, Try.func34.trans (congrArg some (by kernel_rfl))⟩
  f14 := ⟨Try.f67.name, by decide, Try.func67.trans (congrArg some (by kernel_rfl))⟩
  f15 := Try.func68.trans (congrArg some (by kernel_rfl))
  f20 := ⟨Try.f98.name, by decide, Try.func98.trans (congrArg some (by kernel_rfl))⟩
  f21 := ⟨Try.f99.name, by decide, Try.func99.trans (congrArg some (by kernel_rfl))⟩
  f22 := ⟨Try.f100.name, by decide, Try.func100.trans (congrArg some (by kernel_rfl))⟩
  f23 := ⟨Try.f101.name, by decide, Try.func101.trans (congrArg some (by kernel_rfl))⟩
  f24 := ⟨Try.f102.name, by decide, Try.func102.trans (congrArg some (by kernel_rfl))⟩
  f25 := ⟨Try.f103.name, by decide, Try.func103.trans (congrArg some (by kernel_rfl))⟩
  f26 := ⟨Try.f104.name, by decide, Try.func104.trans (congrArg some (by kernel_rfl))⟩
  f27 := ⟨Try.f105.name, by decide, Try.func105.trans (congrArg some (by kernel_rfl))⟩
  f28 := Try.func106.trans (congrArg some (by kernel_rfl))
  f29 := Try.func107.trans (congrArg some (by kernel_rfl))
  f46 := ⟨Try.f126.name, by decide, Try.func126.trans (congrArg some (by kernel_rfl))⟩
  f47 := Try.func127.trans (congrArg some (by kernel_rfl))
  f48 := Try.func128.trans (congrArg some (by kernel_rfl))
  f49 := ⟨Try.f129.name, by decide, Try.func129.trans (congrArg some (by kernel_rfl))⟩
  f50 := ⟨Try.f130.name, by decide, Try.func130.trans (congrArg some (by kernel_rfl))⟩
  f57 := ⟨Try.f135.name, by decide, Try.func135.trans (congrArg some (by kernel_rfl))⟩
  t0 := Try.underlying0
  a0 := Try.isAgg0
  z0 := Try.sizeOf0
  v0 := Try.zeroValue0
  t3 := Try.underlying3
  a3 := Try.isAgg3
  z3 := Try.sizeOf3
  v3 := Try.zeroValue3
  t4 := Try.underlying4
  a4 := Try.isAgg4
  z4 := Try.sizeOf4
  v4 := Try.zeroValue4
  t5 := Try.underlying5
  a5 := Try.isAgg5
  z5 := Try.sizeOf5
  v5 := Try.zeroValue5
  t9 := Try.underlying9
  a9 := Try.isAgg9
  z9 := Try.sizeOf9
  v9 := Try.zeroValue9
  t22 := Try.underlying33
  a22 := Try.isAgg33
  z22 := Try.sizeOf33
  v22 := Try.zeroValue33
  a24 := Try.isAgg30
  z24 := Try.sizeOf30
  t25 := Try.underlying67
  a25 := Try.isAgg67
  z25 := Try.sizeOf67
  v25 := Try.zeroValue67
  t39 := Try.underlying105
  a39 := Try.isAgg105
  z39 := Try.sizeOf105
  v39 := Try.zeroValue105
  t45 := Try.underlying126
  a45 := Try.isAgg126
  z45 := Try.sizeOf126
  v45 := Try.zeroValue126
  t46 := Try.underlying127
  a46 := Try.isAgg127
  z46 := Try.sizeOf127
  v46 := Try.zeroValue127
  t50 := Try.underlying73
  a50 := Try.isAgg73
  z50 := Try.sizeOf73
  v50 := Try.zeroValue73
  t53 := Try.underlying133
  a53 := Try.isAgg133
  z53 := Try.sizeOf133
  v53 := Try.zeroValue133
  t55 := Try.underlying99
  a55 := Try.isAgg99
  z55 := Try.sizeOf99
  v55 := Try.zeroValue99
  t66 := Try.underlying146
  a66 := Try.isAgg146
  z66 := Try.sizeOf146
  v66 := Try.zeroValue146
  t70 := Try.underlying150
  a70 := Try.isAgg150
  z70 := Try.sizeOf150
  v70 := Try.zeroValue150
  t76 := Try.underlying155
  a76 := Try.isAgg155
  z76 := Try.sizeOf155
  v76 := Try.zeroValue155
  t77 := Try.underlying156
  a77 := Try.isAgg156
  z77 := Try.sizeOf156
  v77 := Try.zeroValue156
}

/-! ### a row of any kind -/
theorem holds_of_blockE {α : Type} [Inhabited α] (enc : α → Value) {w : World} {g : Nat} {cur : Array Value} {e : TypeId} {ss : List α} (hb : w.heap[g]? = some (.cells cur e (0, 0))) (ht : cur.toList.take ss.length = ss.map enc) : Go.Sort.Holds enc w g 0 ss.toArray := by
  intro j hj
  have hj' : j < ss.length := by simpa using hj
  refine ⟨?_, by simp [World.frozen?, hb]⟩
  have h1 : (cur.toList.take ss.length)[j]? = (ss.map enc)[j]? := by rw [ht]
  rw [List.getElem?_take_of_lt hj'] at h1
  simp only [World.cell?, hb, Nat.zero_add]
  simp only [Option.isSome_none, Bool.false_eq_true, if_false]
  rw [← Array.getElem?_toList, h1]
  simp [hj']
theorem heap_sortedE {α : Type} [Inhabited α] (enc : α → Value) {w : World} {g n : Nat} {os : Array Obj} {cur : Array Value} {e : TypeId} {fr : Nat × Nat} (d : Array α) (hb : w.heap[g]? = some (.cells cur e fr)) :
    (Go.Sort.grow (Go.Sort.putRow enc (Go.Sort.ahead w n) g 0 d) os).heap[g]? = some (.cells (Go.Sort.putCells enc 0 d cur) e fr) := by
  have hg : g < w.heap.size := (Array.getElem?_eq_some_iff.1 hb).1
  rw [Go.Sort.heap_grow_old _ _ (by simpa using hg)]
  simp [Go.Sort.putRow, Go.Sort.mapBlock, Go.Sort.ahead, Array.getElem?_modify, hb, Go.Sort.onCells]
theorem grownBy_sortedE {α : Type} [Inhabited α] (enc : α → Value) {w : World} {g n : Nat} {os : Array Obj} (d : Array α) : w.grownBy (Go.Sort.grow (Go.Sort.putRow enc (Go.Sort.ahead w n) g 0 d) os) (some g) := by
  refine ⟨rfl, rfl, rfl, by simp, fun k hk hne => ?_⟩
  rw [Go.Sort.heap_grow_old _ _ (by simpa using hk)]
  have : g ≠ k := fun e => hne (by rw [e])
  simp [Go.Sort.putRow, Go.Sort.mapBlock, Go.Sort.ahead, Array.getElem?_modify, this]
theorem take_putCellsE {α : Type} [Inhabited α] (enc : α → Value) (cur : Array Value) (d : Array α) (h : d.size ≤ cur.size) : (Go.Sort.putCells enc 0 d cur).toList.take d.size = d.toList.map enc := by
  apply List.ext_getElem?
  intro j
  by_cases hj : j < d.size
  · rw [List.getElem?_take_of_lt hj, Array.getElem?_toList]
    simp [Go.Sort.putCells, hj, show j < cur.size by omega]
  · rw [List.getElem?_take_eq_none (by omega), List.getElem?_eq_none (by simp; omega)]

end Go.Proofs.Ytgflhgkcmfjkgaa
end

section
/- slices.SortFunc at [][]int64 with slices.Compare: the rows of an owned list of rows are put in order. -/
namespace Go.Proofs.Ytgflhgkcmfjkgaa
set_option linter.unusedSimpArgs false
set_option linter.unusedVariables false
open Go.RowKit

theorem callR_cmp : ∀ (args : Array Value) (W : World), (callFunc 35 args).run Try.prog W = .ok (.enter 35 args) W :=
  fun args W => callFunc_go (P := Try.prog) Try.func35 (by kernel_rfl) (by kernel_rfl) args W
def cfR (A : List (List Int)) (x y : Fin A.length) : Int := cmpI (xat A x) (xat A y)
theorem swoR (A : List (List Int)) : Go.Sort.SWO (Go.Proofs.ltOf (cfR A)) where
  irrefl x := by simp [Go.Proofs.ltOf, cfR, cmpI_self]
  trans x y z h1 h2 := by
    have a1 := of_decide_eq_true h1
    have a2 := of_decide_eq_true h2
    refine decide_eq_true ?_
    unfold cfR at *
    have h3 := cmpI_trans (a := xat A x) (b := xat A y) (c := xat A z) (by omega) (by omega)
    rcases Int.lt_or_le (cmpI (xat A x) (xat A z)) 0 with h | h
    · exact h
    · have h4 := cmpI_eq (a := xat A x) (b := xat A z) (by omega)
      rw [h4] at a1
      have := cmpI_neg (xat A y) (xat A z)
      omega
  ntrans x y z h1 h2 := by
    have a1 := of_decide_eq_false h1
    have a2 := of_decide_eq_false h2
    refine decide_eq_false ?_
    unfold cfR at *
    have n1 := cmpI_neg (xat A x) (xat A y)
    have n2 := cmpI_neg (xat A y) (xat A z)
    have n3 := cmpI_neg (xat A x) (xat A z)
    have h3 := cmpI_trans (a := xat A z) (b := xat A y) (c := xat A x) (by omega) (by omega)
    omega
theorem fin_map {α : Type} (us : List α) (d : α) {n : Nat} (h : us.length = n) : (List.finRange n).map (fun k : Fin n => us.getD k d) = us := by
  subst h
  apply List.ext_getElem
  · simp
  · intro i h1 h2
    simp at h1 ⊢
theorem rows_fin {us : List Value} {A : List (List Int)} (h : us.length = A.length) : rowsI us A = (List.finRange A.length).map fun k : Fin A.length => row 2 (vat us k) (iv (xat A k)) := by
  apply List.ext_getElem
  · simp [rowsI, h]
  · intro i h1 h2
    simp [rowsI, h] at h1
    simp [rowsI, vat, xat, h, h1]
set_option maxHeartbeats 1000000 in
theorem SortRows_c {B : Nat} {w0 w : World} {L : List Ent} {v : Value} {us : List Value} {A : List (List Int)} (hS : St B w0 w (own2 v us A ++ L)) (hl : us.length = A.length) (hlen : A.length < 100000) :
    Calls Try.prog 34 #[v, .func (.func 35) #[] #[]] w fun e w' => ∃ us' : List Value, e = .returned (.tuple #[]) ∧ us'.length = A.length ∧ St B w0 w' (own2 v us' (srtL A) ++ L) := by
  have hi : (own2 v us A ++ L)[0]? = some (row 30 v us) := rfl
  by_cases h0 : A = []
  · subst h0
    have hu : us = [] := by simpa using hl
    subst hu
    obtain ⟨a, c, hv⟩ := (hS.rd 0 hi).sl.sh
    subst hv
    refine Calls.mono (Go.Proofs.AnyF.slices_SortFunc_none (P := Try.prog) (ρ := Try.mSortR_ren) { Try.mSortR with } a c (.func (.func 35) #[] #[]) w) ?_
    rintro e w' ⟨rfl, rfl⟩
    exact ⟨[], rfl, rfl, hS⟩
  · have hpos : 0 < A.length := by cases A with
      | nil => exact absurd rfl h0
      | cons _ _ => simp
    haveI : Inhabited (Fin A.length) := ⟨⟨0, hpos⟩⟩
    have hrow : ∀ {W : World} {u : List Value}, St B w0 W (row 30 v u :: (rowsI us A ++ L)) → ∀ k : Fin A.length, RdI W (vat us k) (xat A k) := by
      intro W u h k
      refine h.rdI (k + 1) (e := 2) ?_
      rw [List.getElem?_cons_succ, List.getElem?_append_left (by rw [rowsI_len hl]; exact k.isLt)]
      exact rowsI_get hl k.isLt
    have hok := hS.ok _ (List.mem_of_getElem? hi)
    rcases hok with ⟨hp, _⟩ | ⟨_, hv, hu⟩ | ⟨_, g, cap, cur, hv, hB, hh, h1, h2, h3, h4⟩
    · simp [row] at hp
    · simp only [row] at hu
      rw [hu] at hl; simp at hl; omega
    · simp only [row] at hv h1 h4 hh
      subst hv
      have hblk : g < w.heap.size := (Array.getElem?_eq_some_iff.1 hh).1
      have hOne : Go.Proofs.OneCell (fun k : Fin A.length => vat us k) := fun k => (hrow hS k).sl.one
      have hd : (List.finRange A.length).toArray.size = us.length := by simp [hl]
      have hH : Go.Sort.Holds (fun k : Fin A.length => vat us k) w g 0 (List.finRange A.length).toArray := holds_of_blockE _ hh (by
        rw [List.length_finRange]
        exact (by rw [← hl]; exact h4 : cur.toList.take A.length = us).trans (fin_map us undef hl).symm)
      have putAll : ∀ (m : Nat) (os : Array Obj) (dk : Array (Fin A.length)), dk.size = us.length → St B w0 (Go.Proofs.sortWorld (fun k : Fin A.length => vat us k) w g 0 m dk os) (row 30 (.slice (some ⟨g, 0, none⟩) us.length cap) (dk.toList.map fun k : Fin A.length => vat us k) :: (rowsI us A ++ L)) := by
        intro m os dk hs
        have := hS.put 0 hi (w' := Go.Proofs.sortWorld (fun k : Fin A.length => vat us k) w g 0 m dk os) ?_ (row 30 (.slice (some ⟨g, 0, none⟩) us.length cap) (dk.toList.map fun k : Fin A.length => vat us k)) (.inr (.inr ⟨rfl, g, cap, _, ?_, hB, heap_sortedE (fun k : Fin A.length => vat us k) _ hh, ?_, h2, ?_, ?_⟩)) (.inl rfl)
        · exact this
        · exact grownBy_sortedE (fun k : Fin A.length => vat us k) dk
        · simp [row, hs]
        · simp [row, hs]; exact h1
        · simp [Go.Sort.putCells, h3]
        · have := take_putCellsE (fun k : Fin A.length => vat us k) cur dk (by omega)
          rw [hs] at this
          simpa [row, hs] using this
      have hcmp : Go.Proofs.CmpLays1 Try.prog 35 #[] (fun k : Fin A.length => vat us k) (cfR A) g 0 (List.finRange A.length).toArray.size w := by
        refine Go.Proofs.CmpReads.lays fun m os dk hs x y => ?_
        have hp := putAll m os dk (by rw [hs, hd])
        refine (Compare_c _ _ _ _ _ (hrow hp x) (hrow hp y)).mono ?_
        rintro e w' ⟨rfl, rfl⟩
        exact ⟨rfl, 0, rfl⟩
      have hc := Go.Proofs.Any.slices_SortFunc (P := Try.prog) (ρ := Try.mSortR_ren) Try.mSortR (fun k : Fin A.length => vat us k) hOne (cfR A) (swoR A) 35 #[] g 0 cap (List.finRange A.length).toArray w callR_cmp hcmp hH hblk (by rw [hd]; omega)
      rw [hd] at hc
      refine Calls.mono hc ?_
      rintro e w' ⟨rfl, d', n, os, hperm, hso, rfl⟩
      have hds : d'.size = us.length := by have := hperm.1; omega
      have hpm : d'.toList.Perm (List.finRange A.length) := by
        have := hperm.2.2
        rw [show d'.extract 0 us.length = d' by rw [← hds]; simp, show (List.finRange A.length).toArray.extract 0 us.length = (List.finRange A.length).toArray by rw [← hd]; simp only [Array.extract_size]] at this
        simpa using this
      have hA : (d'.toList.map fun k : Fin A.length => xat A k) = srtL A := by
        refine srtL_eq ?_ ?_
        · have := hpm.map fun k : Fin A.length => xat A k
          rwa [show (List.finRange A.length).map (fun k : Fin A.length => xat A k) = A from fin_map A [] rfl] at this
        · rw [List.pairwise_map, List.pairwise_iff_getElem]
          intro i j hi' hj' hij
          have := hso i j (by omega) hij (by rw [← hds]; simpa using hj')
          have := of_decide_eq_false this
          unfold cfR at this
          have e1 : d'[i]! = d'.toList[i] := by simp at hi'; simp [hi']
          have e2 : d'[j]! = d'.toList[j] := by simp at hj'; simp [hj']
          rw [e1, e2] at this
          have := cmpI_neg (xat A d'.toList[j]) (xat A d'.toList[i])
          exact decide_eq_true (by omega)
      have hp := putAll n os d' hds
      refine ⟨d'.toList.map fun k : Fin A.length => vat us k, rfl, by simp [hds, hl], ?_⟩
      rw [← hA]
      refine hp.perm ?_
      unfold own2
      refine List.Perm.cons _ (List.Perm.append_right _ ?_)
      rw [rows_fin hl]
      refine (hpm.map _).symm.trans (.of_eq ?_)
      unfold rowsI
      rw [List.zipWith_map, List.zipWith_self]
end Go.Proofs.Ytgflhgkcmfjkgaa
end

section
/- Walks: slices.ContainsFunc on rows of integers. -/
namespace Go.Proofs.Ytgflhgkcmfjkgaa
set_option linter.unusedSimpArgs false
set_option linter.unusedVariables false
open Go.RowKit

/-! slices.ContainsFunc on rows -/
def anyR (p : List Int → Bool) (xss : List (List Int)) : Bool := xss.any p
def idxR (p : List Int → Bool) (xss : List (List Int)) (k : Nat) : Int := match (xss.drop k).findIdx? p with | some j => (k + j : Nat) | none => -1
theorem idxR_step {p : List Int → Bool} {xs : List (List Int)} {k : Nat} (hk : k < xs.length) (h : p (xat xs k) = false) : idxR p xs k = idxR p xs (k + 1) := by
  unfold idxR
  rw [drop_xat hk, List.findIdx?_cons, h]
  cases (xs.drop (k + 1)).findIdx? p with
  | none => rfl
  | some j => simp; omega
theorem idxR_hit {p : List Int → Bool} {xs : List (List Int)} {k : Nat} (hk : k < xs.length) (h : p (xat xs k) = true) : idxR p xs k = k := by
  unfold idxR; rw [drop_xat hk, List.findIdx?_cons, h]; simp
theorem idxR_end {p : List Int → Bool} {xs : List (List Int)} {k : Nat} (hk : xs.length ≤ k) : idxR p xs k = -1 := by
  unfold idxR; rw [List.drop_of_length_le hk]; rfl
theorem idxR_any {p : List Int → Bool} {xs : List (List Int)} : decide (0 ≤ idxR p xs 0) = anyR p xs := by
  unfold idxR anyR
  rw [List.drop_zero]
  cases h : xs.findIdx? p with
  | none =>
    have hy : xs.any p = false := by
      rw [List.any_eq_false]
      intro x hx
      have := List.findIdx?_eq_none_iff.1 h x hx
      simp [this]
    rw [hy]; simp
  | some j =>
    have hy : xs.any p = true := by
      obtain ⟨hj, hp, _⟩ := List.findIdx?_eq_some_iff_getElem.1 h
      exact List.any_eq_true.2 ⟨_, List.getElem_mem hj, hp⟩
    rw [hy]; simp

set_option maxHeartbeats 1000000 in
set_option maxRecDepth 100000 in
theorem IndexFuncR_c (K : FuncId) (caps : Array Value) (p : List Int → Bool) (v : Value) (us : List Value) (xss : List (List Int)) (w : World) (hv : RII w v us xss)
    (hcf : ∀ (args : Array Value) (W : World), (callFunc K args).run Try.prog W = .ok (.enter K args) W)
    (hK : ∀ (j : Nat) (W : World), St w.heap.size w W [] → j < xss.length → Calls Try.prog K (#[vat us j] ++ caps) W (GivesB W (p (xat xss j)))) :
    Calls Try.prog 131 #[v, .func (.func K) #[] caps] w (GivesI w (idxR p xss 0)) := by
  have HK := Lib.hid hK
  clear hK
  have hln := hv.len
  have hix := hv.ix
  have hm := hv.le
  go_enter Try.func131, Try.ntmps131
  go_wp2_with fail
  go_loopw [5, 8] (fun _ i wr => ∃ k : Nat, k ≤ xss.length ∧ i = .int .i64 k ∧ Hid (idxR p xss 0 = idxR p xss k) ∧ St w.heap.size w wr []) (fun _ i _ => xss.length - (intOf i).toNat)
  case atStart => exact ⟨0, by omega, rfl, rfl, St.refl w⟩
  case round =>
    obtain ⟨k, hk, rfl, hI, hS⟩ := hrel
    by_cases hlt : k < xss.length
    · have hc := (hS.oldII hv).cell k hlt
      go_wp2_with fail
      refine (HK.out _ _ hS hlt).mono ?_
      cases hp : p (xat xss k)
      · have Hp := Lib.hid hp; clear hp
        rintro e w2 ⟨rfl, h2⟩
        have hS2 := hS.call0 h2
        go_wp2_with fail
        go_roundw
        case rel => exact ⟨k + 1, by omega, by go_num, by rw [Hid, hI.out, idxR_step hlt Hp.out], hS2⟩
        case measure => simp [intOf]; omega
      · have Hp := Lib.hid hp; clear hp
        rintro e w2 ⟨rfl, h2⟩
        have hS2 := hS.call0 h2
        go_wp2_with fail
        go_ret
        exact ⟨ret_i64 (by rw [hI.out, idxR_hit hlt Hp.out]), hS2⟩
    · go_wp2_with fail
      go_ret
      exact ⟨ret_i64 (by rw [hI.out, idxR_end (by omega)]), hS⟩
theorem ContainsFuncR_c (K : FuncId) (caps : Array Value) (p : List Int → Bool) (v : Value) (us : List Value) (xss : List (List Int)) (w : World) (hv : RII w v us xss)
    (hcf : ∀ (args : Array Value) (W : World), (callFunc K args).run Try.prog W = .ok (.enter K args) W)
    (hK : ∀ (j : Nat) (W : World), St w.heap.size w W [] → j < xss.length → Calls Try.prog K (#[vat us j] ++ caps) W (GivesB W (p (xat xss j)))) :
    Calls Try.prog 109 #[v, .func (.func K) #[] caps] w (GivesB w (anyR p xss)) := by
  have HK := Lib.hid hK
  clear hK
  go_enter Try.func109, Try.ntmps109
  go_wp2_with fail
  refine (IndexFuncR_c K caps p v us xss w hv hcf HK.out).mono ?_
  rintro e w1 ⟨rfl, h1⟩
  go_wp2_with fail
  go_ret
  exact ⟨ret_bool idxR_any, h1⟩

end Go.Proofs.Ytgflhgkcmfjkgaa
end

section
/- The source of choices that the laws draw from. -/
namespace Go.Proofs.Ytgflhgkcmfjkgaa
set_option linter.unusedSimpArgs false
set_option linter.unusedVariables false
open Go.RowKit

/-- the cells of some bytes -/
def bv (bs : List UInt8) : List Value := bs.map fun b => Value.int .u8 b.toNat
def RdB (w : World) (v : Value) (bs : List UInt8) : Prop := Rd w v (bv bs)
theorem bv_len (bs : List UInt8) : (bv bs).length = bs.length := by simp [bv]
def bnth (bs : List UInt8) (j : Nat) : Int := ((bs.getD j 0).toNat : Int)
theorem bnth_bd (bs : List UInt8) (j : Nat) : 0 ≤ bnth bs j ∧ bnth bs j ≤ 255 := by
  unfold bnth; have := (bs.getD j 0).toNat_lt; omega
theorem bv_get {bs : List UInt8} {j : Nat} (h : j < bs.length) : (bv bs).getD j undef = .int .u8 (bnth bs j) := by
  simp [bv, bnth, List.getD, List.getElem?_eq_getElem h]

theorem Try.und_bs : Try.prog.underlying 22 = some (.slice 5) := by kernel_rfl
theorem Try.size_b : (Try.prog.info? 5).map (·.size) = some 1 := by kernel_rfl

section
variable {w w' : World} {v : Value} {bs : List UInt8}
theorem RdB.le (h : RdB w v bs) : bs.length ≤ 9223372036854775807 := by have := h.sl.le; rwa [bv_len] at this
theorem RdB.len (h : RdB w v bs) (ty : TypeId) (W : World) : (Builtin.len_ #[22] ty #[v]).run Try.prog W = .ok (.int .i64 bs.length) W := by
  have := run_len_sl (P := Try.prog) h.sl 22 ty Try.und_bs W; rwa [bv_len] at this
theorem RdB.ix (h : RdB w v bs) (k : IntKind) (i : Int) (h0 : 0 ≤ i) (hi : i < bs.length) (W : World) :
    (Instr.indexAt 22 v (.int k i)).run Try.prog W = .ok (.pointer (some (el v i.toNat))) W :=
  run_ix_sl (P := Try.prog) h.sl 22 Try.und_bs Try.size_b k i h0 (by rw [bv_len]; exact hi) W
theorem RdB.cell (h : RdB w v bs) (j : Nat) (hj : j < bs.length) : w.cell? (el v j) = some (.int .u8 (bnth bs j)) := by
  rw [Rd.cell h (by rw [bv_len]; exact hj), bv_get hj]
theorem RdB.keep (h : RdB w v bs) (hb : Below w.heap.size w w') : RdB w' v bs := Rd.keep h hb
theorem RdB.sh (h : RdB w v bs) : ∃ a n c, v = .slice a n c := by obtain ⟨a, c, hv, _⟩ := h.sl; exact ⟨a, _, c, hv⟩
end
theorem St.oldB {w0 w : World} {L : List Ent} {v : Value} {bs : List UInt8} (h : St w0.heap.size w0 w L) (hr : RdB w0 v bs) : RdB w v bs := Rd.keep hr h.below

/-- the source lies at the head of what is owned, at most K bytes were drawn -/
def Src (w0 w : World) (cv : Value) (g : Nat) (K : Nat) (L : List Ent) : Prop :=
  ∃ p seed : Int, 0 ≤ p ∧ p ≤ K ∧ St w0.heap.size w0 w (box 101 g [cv, .int .i64 p, .int .u64 seed] :: L)

def AnInt (lo hi : Int) (R : World → Prop) (e : Ending) (w' : World) : Prop := ∃ x : Int, lo ≤ x ∧ x ≤ hi ∧ e = .returned (.int .i64 x) ∧ R w'

theorem Src.mono {w0 w : World} {cv : Value} {g K K' : Nat} {L : List Ent} (h : Src w0 w cv g K L) (hk : K ≤ K') : Src w0 w cv g K' L := by
  obtain ⟨p, s, h0, h1, h2⟩ := h; exact ⟨p, s, h0, by omega, h2⟩
theorem Src.st {w0 w : World} {cv : Value} {g K : Nat} {L : List Ent} (h : Src w0 w cv g K L) : St w0.heap.size w0 w L := by
  obtain ⟨p, s, h0, h1, h2⟩ := h; exact h2.sub (List.sublist_cons_self _ _)

theorem and255 (x : Int) : 0 ≤ wrap64 (bits BinOp.and IntKind.u64 (IntKind.u64.wrap x / 1099511627776) 255) ∧ wrap64 (bits BinOp.and IntKind.u64 (IntKind.u64.wrap x / 1099511627776) 255) ≤ 255 := by
  have h1 : 0 ≤ IntKind.u64.wrap x / 1099511627776 ∧ IntKind.u64.wrap x / 1099511627776 < 18446744073709551616 := by
    simp [IntKind.wrap, IntKind.bits, IntKind.signed]; omega
  rw [u64_and _ _ h1.1 h1.2 (by omega) (by omega)]
  have e255 : (255 : Int).toNat = 255 := rfl
  have h2 := Nat.and_le_right (n := (IntKind.u64.wrap x / 1099511627776).toNat) (m := (255 : Int).toNat)
  rw [e255] at h2 ⊢
  unfold wrap64
  omega

set_option maxHeartbeats 1000000 in
theorem next_c (w0 w : World) (cv : Value) (bs : List UInt8) (g K : Nat) (L : List Ent) (hb : RdB w0 cv bs) (h : Src w0 w cv g K L) (hK : K < 1099511627776) :
    Calls Try.prog 66 #[.pointer (some ⟨g, 0, none⟩)] w (AnInt 0 255 fun w' => Src w0 w' cv g (K + 1) L) := by
  obtain ⟨p, seed, h0, h1, hS⟩ := h
  obtain ⟨q, rfl⟩ := Int.eq_ofNat_of_zero_le h0
  have hc0 := hS.bcell 0 rfl 0 rfl
  have hc1 := hS.bcell 0 rfl 1 rfl
  have hc2 := hS.bcell 0 rfl 2 rfl
  have hf := hS.bfree 0 rfl
  have hbw := hS.oldB hb
  have hln := hb.len
  have hix := hb.ix
  have hcell := hbw.cell
  have hle := hb.le
  have hbd := bnth_bd bs q
  obtain ⟨hb0, hb1⟩ := hbd
  by_cases hlt : q < bs.length
  · have hlt' : q + 1 ≤ bs.length := hlt
    go_enter Try.func66, Try.ntmps66
    go_wp2_with fail
    go_quiet (fail)
    go_wp2_with fail
    go_quiet (fail)
    go_wp2_with fail
    refine abs_wp (((hS.drewN _).bstore 0 rfl 1 _).bstore 0 rfl 2 _) ?_
    intro w2 hS2
    clear hc0 hc1 hc2 hf
    have hc0 := hS2.bcell 0 rfl 0 rfl
    have hc1 := hS2.bcell 0 rfl 1 rfl
    go_quiet (fail)
    go_wp2_with fail
    go_ret
    exact ⟨_, hb0, hb1, rfl, _, _, by omega, by omega, hS2.drewN _⟩
  · have hlt' : ¬ q + 1 ≤ bs.length := by omega
    go_enter Try.func66, Try.ntmps66
    go_wp2_with fail
    go_quiet (fail)
    go_wp2_with fail
    refine abs_wp (((hS.drewN _).bstore 0 rfl 1 _).bstore 0 rfl 2 _) ?_
    intro w2 hS2
    clear hc0 hc1 hc2 hf
    have hc0 := hS2.bcell 0 rfl 0 rfl
    have hc1 := hS2.bcell 0 rfl 1 rfl
    have hc2 := hS2.bcell 0 rfl 2 rfl
    go_quiet (fail)
    go_wp2_with fail
    go_ret
    exact ⟨_, (and255 _).1, (and255 _).2, rfl, _, _, by omega, by omega, hS2.drewN _⟩

set_option maxHeartbeats 1000000 in
theorem pick_c (w0 w : World) (cv : Value) (bs : List UInt8) (g K : Nat) (L : List Ent) (n : Int) (hb : RdB w0 cv bs) (h : Src w0 w cv g K L) (hK : K < 1000000000000) :
    Calls Try.prog 31 #[.pointer (some ⟨g, 0, none⟩), .int .i64 n] w (AnInt 0 (max (n - 1) 0) fun w' => Src w0 w' cv g (K + 2) L) := by
  by_cases h1 : n ≤ 1
  · go_enter Try.func31, Try.ntmps31
    go_wp2_with fail
    go_ret
    exact ⟨0, by omega, by omega, rfl, h.mono (by omega)⟩
  · by_cases h2 : n ≤ 200
    · go_enter Try.func31, Try.ntmps31
      go_wp2_with fail
      refine (next_c w0 w cv bs g K L hb h (by omega)).mono ?_
      rintro e w1 ⟨x, hx0, hx1, rfl, h3⟩
      go_wp2_with fail
      go_ret
      have := Int.emod_nonneg x (show n ≠ 0 by omega)
      have := Int.emod_lt_of_pos x (show 0 < n by omega)
      exact ⟨_, by omega, by omega, rfl, h3.mono (by omega)⟩
    · go_enter Try.func31, Try.ntmps31
      go_wp2_with fail
      refine (next_c w0 w cv bs g K L hb h (by omega)).mono ?_
      rintro e w1 ⟨x, hx0, hx1, rfl, h3⟩
      go_wp2_with fail
      refine (next_c w0 w1 cv bs g (K + 1) L hb h3 (by omega)).mono ?_
      rintro e w2 ⟨y, hy0, hy1, rfl, h4⟩
      go_wp2_with fail
      go_ret
      have := Int.emod_nonneg (x * 256 + y) (show n ≠ 0 by omega)
      have := Int.emod_lt_of_pos (x * 256 + y) (show 0 < n by omega)
      exact ⟨_, by omega, by omega, rfl, h4.mono (by omega)⟩

theorem l00From_c (w : World) (cv : Value) (bs : List UInt8) (hb : RdB w cv bs) :
    Calls Try.prog 30 #[cv] w fun e w' => e = .returned (.pointer (some ⟨w.heap.size, 0, none⟩)) ∧ Src w w' cv w.heap.size 0 [] := by
  obtain ⟨av, n, c, rfl⟩ := hb.sh
  go_enter Try.func30, Try.ntmps30
  go_wp2_with fail
  go_ret
  exact ⟨rfl, 0, 0, by omega, by omega, (St.refl w).newbox _ _⟩
end Go.Proofs.Ytgflhgkcmfjkgaa
end

section
/- The source of choices: what lies beside it. -/
namespace Go.Proofs.Ytgflhgkcmfjkgaa
set_option linter.unusedSimpArgs false
set_option linter.unusedVariables false
open Go.RowKit

theorem Src.call {w0 w w' : World} {cv : Value} {g K : Nat} {L L' : List Ent} (h : Src w0 w cv g K L) (h' : St w.heap.size w w' L') : Src w0 w' cv g K (L ++ L') := by
  obtain ⟨p, s, h0, h1, hS⟩ := h
  exact ⟨p, s, h0, h1, hS.call h'⟩
theorem Src.sub {w0 w : World} {cv : Value} {g K : Nat} {L L' : List Ent} (h : Src w0 w cv g K L) (h' : L'.Sublist L) : Src w0 w cv g K L' := by
  obtain ⟨p, s, h0, h1, hS⟩ := h
  exact ⟨p, s, h0, h1, hS.sub (h'.cons_cons _)⟩
theorem Src.rdI {w0 w : World} {cv : Value} {g K : Nat} {L : List Ent} (h : Src w0 w cv g K L) (i : Nat) {e : TypeId} {v : Value} {xs : List Int} (hi : L[i]? = some (row e v (iv xs))) : RdI w v xs := by
  obtain ⟨p, s, h0, h1, hS⟩ := h
  exact hS.rdI (i + 1) hi

theorem St.emp0 {w : World} : St w.heap.size w (w.alloc (.cells #[] 2)) [row 2 (.slice (some ⟨w.heap.size, 0, none⟩) 0 0) (iv [])] :=
  (St.refl w).new 2 #[] (by simp)

theorem Src.perm {w0 w : World} {cv : Value} {g K : Nat} {L L' : List Ent} (h : Src w0 w cv g K L) (h' : L.Perm L') : Src w0 w cv g K L' := by
  obtain ⟨p, s, h0, h1, hS⟩ := h
  exact ⟨p, s, h0, h1, hS.perm (h'.cons _)⟩
theorem Src.call0 {w0 w w' : World} {cv : Value} {g K : Nat} {L : List Ent} (h : Src w0 w cv g K L) (h' : St w.heap.size w w' []) : Src w0 w' cv g K L := by
  have := h.call h'; rwa [List.append_nil] at this
theorem Src.rd {w0 w : World} {cv : Value} {g K : Nat} {L : List Ent} (h : Src w0 w cv g K L) (i : Nat) {e : TypeId} {v : Value} {us : List Value} (hi : L[i]? = some (row e v us)) : Rd w v us := by
  obtain ⟨p, s, h0, h1, hS⟩ := h
  exact hS.rd (i + 1) hi
theorem Src.box {w0 w : World} {cv : Value} {g K : Nat} {L : List Ent} (h : Src w0 w cv g K L) (i : Nat) {e : TypeId} {gf : Nat} {us : List Value} (hi : L[i]? = some (Go.Proofs.Ytgflhgkcmfjkgaa.box e gf us)) (j : Nat) {u : Value} (hj : us[j]? = some u) : w.cell? ⟨gf, j, none⟩ = some u := by
  obtain ⟨p, s, h0, h1, hS⟩ := h
  exact hS.bcell (i + 1) hi j hj
theorem Src.bfree {w0 w : World} {cv : Value} {g K : Nat} {L : List Ent} (h : Src w0 w cv g K L) (i : Nat) {e : TypeId} {gf : Nat} {us : List Value} (hi : L[i]? = some (Go.Proofs.Ytgflhgkcmfjkgaa.box e gf us)) (j : Nat) : w.frozen? ⟨gf, j, none⟩ = false := by
  obtain ⟨p, s, h0, h1, hS⟩ := h
  exact hS.bfree (i + 1) hi j
theorem Src.bstore {w0 w : World} {cv : Value} {g K : Nat} {L : List Ent} (h : Src w0 w cv g K L) (i : Nat) {e : TypeId} {gf : Nat} {us : List Value} (hi : L[i]? = some (Go.Proofs.Ytgflhgkcmfjkgaa.box e gf us)) (j : Nat) (u : Value) :
    Src w0 (w.setCell ⟨gf, j, none⟩ u) cv g K (L.set i (Go.Proofs.Ytgflhgkcmfjkgaa.box e gf (us.set j u))) := by
  obtain ⟨p, s, h0, h1, hS⟩ := h
  exact ⟨p, s, h0, h1, hS.bstore (i + 1) hi j u⟩
/-- a new block behind a pointer, ahead of the others -/
theorem Src.newboxF {w0 w : World} {cv : Value} {g K : Nat} {L : List Ent} (h : Src w0 w cv g K L) (e : TypeId) (cs : Array Value) : Src w0 (w.alloc (.cells cs e)) cv g K (Go.Proofs.Ytgflhgkcmfjkgaa.box e w.heap.size cs.toList :: L) := by
  obtain ⟨p, s, h0, h1, hS⟩ := h
  exact ⟨p, s, h0, h1, (hS.newboxF e cs).perm (List.Perm.swap _ _ _)⟩
theorem Src.drew {w0 w : World} {cv : Value} {g K : Nat} {L : List Ent} (h : Src w0 w cv g K L) : Src w0 w.drew cv g K L := by
  obtain ⟨p, s, h0, h1, hS⟩ := h
  exact ⟨p, s, h0, h1, hS.drew⟩
theorem St.emp0II {w : World} : St w.heap.size w (w.alloc (.cells #[] 30)) [row 30 (.slice (some ⟨w.heap.size, 0, none⟩) 0 0) []] :=
  (St.refl w).new 30 #[] (by simp)
/-- a new empty row of rows, ahead of the others -/
theorem Src.empII {w0 w : World} {cv : Value} {g K : Nat} {L : List Ent} (h : Src w0 w cv g K L) :
    Src w0 (w.alloc (.cells #[] 30)) cv g K (row 30 (.slice (some ⟨w.heap.size, 0, none⟩) 0 0) [] :: L) :=
  (h.call St.emp0II).perm List.perm_append_comm

theorem at_app {M L : List Ent} {i : Nat} {x : Ent} (h : L[i]? = some x) : (M ++ L)[M.length + i]? = some x := by
  rw [List.getElem?_append_right (by omega), Nat.add_sub_cancel_left]; exact h
theorem Src.riiS {w0 w : World} {cv : Value} {g K : Nat} {L : List Ent} (h : Src w0 w cv g K L) {v : Value} {us : List Value} {A : List (List Int)} (hs : (own2 v us A).Sublist L) (hl : us.length = A.length) : RII w v us A := (h.st.sub hs).rii hl
end Go.Proofs.Ytgflhgkcmfjkgaa
end

section
/- Walks: what the laws on numbers draw. -/
namespace Go.Proofs.Ytgflhgkcmfjkgaa
set_option linter.unusedSimpArgs false
set_option linter.unusedVariables false
open Go.RowKit

theorem Src.lit {w0 w : World} {cv : Value} {g K : Nat} {L : List Ent} (h : Src w0 w cv g K L) (xs : List Int) (hm : xs.length ≤ 1000) :
    Src w0 (w.alloc (.cells (iv xs).toArray 2)) cv g K (row 2 (.slice (some ⟨w.heap.size, 0, none⟩) xs.length xs.length) (iv xs) :: L) := by
  obtain ⟨p, s, h0, h1, hS⟩ := h
  refine ⟨p, s, h0, h1, ?_⟩
  have h2 := hS.new 2 (iv xs).toArray (by simp [iv_len]; unfold maxLen; omega)
  simp only [List.size_toArray, iv_len] at h2
  refine h2.perm ?_
  refine List.Perm.trans (List.perm_append_comm) ?_
  simp only [List.cons_append, List.nil_append]
  exact List.Perm.swap _ _ _

end Go.Proofs.Ytgflhgkcmfjkgaa
end

section
/- Walks: operations on sets, and what the law on sets draws. -/
namespace Go.Proofs.Ytgflhgkcmfjkgaa
set_option linter.unusedSimpArgs false
set_option linter.unusedVariables false
open Go.RowKit
set_option maxHeartbeats 2000000 in
set_option maxRecDepth 100000 in
theorem l00Rises_c (v : Value) (xs : List Int) (lo hi : Int) (w : World) (hv : RdI w v xs) :
    Calls Try.prog 125 #[v, .int .i64 lo, .int .i64 hi] w (GivesB w (incB (lo - 1) (hi + 1) xs)) := by
  have hln := hv.len
  have hix := hv.ix
  have hm := hv.le
  go_enter Try.func125, Try.ntmps125
  go_wp2_with fail
  go_loopw [7] (fun i wr => ∃ (k : Nat) (last : Int), k ≤ xs.length ∧ i = .int .i64 k ∧ Hid (incB (lo - 1) (hi + 1) xs = incB last (hi + 1) (xs.drop k)) ∧ Hid (k = 0 → last = lo - 1) ∧ Hid (0 < k → last = nth xs (k - 1)) ∧ lo - 1 ≤ last ∧ St w.heap.size w wr []) (fun i _ => xs.length - (intOf i).toNat)
  case atStart => exact ⟨0, lo - 1, by omega, rfl, rfl, fun _ => rfl, fun h => by omega, by omega, St.refl w⟩
  case round =>
    obtain ⟨k, last, hk, rfl, hI, hl0, hl1, hll, hS⟩ := hrel
    by_cases hlt : k < xs.length
    · have hd := Lib.hid (incB_drop hlt last (hi + 1))
      have hq := fun s : SS w.heap.size w [] => (s.st.oldI hv).cell k hlt
      by_cases h1 : lo ≤ nth xs k ∧ nth xs k ≤ hi
      · have i1 := inB_true h1
        obtain ⟨h1a, h1b⟩ := h1
        by_cases h0 : 0 < k
        · have Hl := Lib.hid (hl1.out h0)
          have hix1 := hv.ixe ((k : Int) - 1) (k - 1) (by omega) (by omega)
          have hq1 := fun s : SS w.heap.size w [] => (s.st.oldI hv).cell (k - 1) (by omega)
          by_cases h2 : nth xs k ≤ nth xs (k - 1)
          · go_wp2_with fail
            have hne : Nonempty (SS _ _ _) := ⟨⟨_, hS⟩⟩
            refine wp_region_st (by kernel_rfl) (by kernel_rfl) hS ?_
            repeat (go_big_quiet_step ((go_at_call 87; exact st_quiet0 (l00In_c _ _ _ _))))
            refine wpQuiet_nil ?_
            rintro _ ⟨s2, rfl⟩
            have hS2 := s2.st
            generalize s2.w = w2 at hS2 ⊢
            go_wp2_with fail
            go_ret
            exact ⟨ret_bool (by rw [hI.out, hd.out, Hl.out]; simp [h2]), hS2⟩
          · go_wp2_with fail
            have hne : Nonempty (SS _ _ _) := ⟨⟨_, hS⟩⟩
            refine wp_region_st (by kernel_rfl) (by kernel_rfl) hS ?_
            repeat (go_big_quiet_step ((go_at_call 87; exact st_quiet0 (l00In_c _ _ _ _))))
            refine wpQuiet_nil ?_
            rintro _ ⟨s2, rfl⟩
            have hS2 := s2.st
            generalize s2.w = w2 at hS2 ⊢
            go_wp2_with fail
            go_roundw
            case rel => exact ⟨k + 1, nth xs k, by omega, by go_num, by rw [Hid, hI.out, hd.out, Hl.out, if_neg (by omega)], fun h => by omega, fun _ => rfl, by omega, hS2⟩
            case measure => simp [intOf]; omega
        · have Hl := Lib.hid (hl0.out (by omega))
          go_wp2_with fail
          have hne : Nonempty (SS _ _ _) := ⟨⟨_, hS⟩⟩
          refine wp_region_st (by kernel_rfl) (by kernel_rfl) hS ?_
          repeat (go_big_quiet_step ((go_at_call 87; exact st_quiet0 (l00In_c _ _ _ _))))
          refine wpQuiet_nil ?_
          rintro _ ⟨s2, rfl⟩
          have hS2 := s2.st
          generalize s2.w = w2 at hS2 ⊢
          go_wp2_with fail
          go_roundw
          case rel => exact ⟨k + 1, nth xs k, by omega, by go_num, by rw [Hid, hI.out, hd.out, Hl.out, if_neg (by omega)], fun h => by omega, fun _ => rfl, by omega, hS2⟩
          case measure => simp [intOf]; omega
      · have i1 := inB_false h1
        have H1 := Lib.hid h1; clear h1
        go_wp2_with fail
        have hne : Nonempty (SS _ _ _) := ⟨⟨_, hS⟩⟩
        refine wp_region_st (by kernel_rfl) (by kernel_rfl) hS ?_
        repeat (go_big_quiet_step ((go_at_call 87; exact st_quiet0 (l00In_c _ _ _ _))))
        refine wpQuiet_nil ?_
        rintro _ ⟨s2, rfl⟩
        have hS2 := s2.st
        generalize s2.w = w2 at hS2 ⊢
        go_wp2_with fail
        go_ret
        exact ⟨ret_bool (by rw [hI.out, hd.out, if_pos (by have := H1.out; omega)]), hS2⟩
    · go_wp2_with fail
      go_ret
      exact ⟨ret_bool (by rw [hI.out, List.drop_of_length_le (by omega)]; simp [incB]), hS⟩

end Go.Proofs.Ytgflhgkcmfjkgaa
end

section
/- Walks: arrays by value. Walks: valid arrays, equal arrays. -/
namespace Go.Proofs.Ytgflhgkcmfjkgaa
set_option linter.unusedSimpArgs false
set_option linter.unusedVariables false
open Go.RowKit


/-- an array as a value -/
def av (lv co : Int) (v : Value) : Value := .agg #[.int .i64 lv, .int .i64 co, v]

/-- a block that holds an array -/
def BoxA (w : World) (g : Nat) (lv co : Int) (v : Value) : Prop :=
  w.cell? ⟨g, 0, none⟩ = some (.int .i64 lv) ∧ w.cell? ⟨g, 1, none⟩ = some (.int .i64 co) ∧ w.cell? ⟨g, 2, none⟩ = some v
theorem cell_keep {w w' : World} (hb : Below w.heap.size w w') {p : Addr} {u : Value} (h : w.cell? p = some u) : w'.cell? p = some u := by
  rw [hb.cell (World.block_lt_of_cell? _ _ h)]; exact h
theorem BoxA.keep {w w' : World} {g : Nat} {lv co : Int} {v : Value} (h : BoxA w g lv co v) (hb : Below w.heap.size w w') : BoxA w' g lv co v :=
  ⟨cell_keep hb h.1, cell_keep hb h.2.1, cell_keep hb h.2.2⟩
end Go.Proofs.Ytgflhgkcmfjkgaa
end
