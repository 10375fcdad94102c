/- Row reduction over a finite field, in plain terms. -/
import Derived.Test.YtmkfafhgcnbcaaaPGen
import Derived.Test.YtmkfafhgcnbcaaaPQn
namespace Go.Proofs.Ytmkfafhgcnbcaaa
set_option linter.unusedSimpArgs false
set_option linter.unusedVariables false

def finv (p : Int) (D : Nat) (fs : List Int) (a : Int) : Int := invN p D fs a.toNat (qn p D)
theorem invN_or {p : Int} {D : Nat} {fs : List Int} {a : Nat} : ∀ k : Nat, (∃ b : Nat, b < k ∧ invN p D fs a k = b ∧ fmul p D fs a b = 1) ∨ (invN p D fs a k = 0 ∧ ∀ b : Nat, b < k → fmul p D fs a b ≠ 1)
  | 0 => .inr ⟨rfl, fun b h => by omega⟩
  | k + 1 => by
    rw [invN]
    by_cases h : fmul p D fs a k = 1
    · rw [if_pos h]; exact .inl ⟨k, by omega, rfl, h⟩
    · rw [if_neg h]
      rcases invN_or (p := p) (D := D) (fs := fs) (a := a) k with ⟨b, h1, h2, h3⟩ | ⟨h1, h2⟩
      · exact .inl ⟨b, by omega, h2, h3⟩
      · refine .inr ⟨h1, fun b hb => ?_⟩
        by_cases e : b = k
        · rw [e]; exact h
        · exact h2 b (by omega)
section
variable {p : Int} {D : Nat} {fs : List Int}
theorem qn_cast (hp : 0 ≤ p) : ((qn p D : Nat) : Int) = p ^ D := by
  unfold qn
  have : 0 ≤ p ^ D := Int.pow_nonneg hp
  omega
theorem finv_ok (h : FV p D fs) {a : Int} (ha : El p D a) (h0 : a ≠ 0) : El p D (finv p D fs a) ∧ fmul p D fs a (finv p D fs a) = 1 := by
  have hq := qn_cast (p := p) (D := D) (by have := h.p2; omega)
  obtain ⟨n, rfl⟩ := Int.eq_ofNat_of_zero_le ha.1
  obtain ⟨b, hb, hb1⟩ := h.inv (a := n) (by omega) ha.2
  obtain ⟨m, rfl⟩ := Int.eq_ofNat_of_zero_le hb.1
  unfold finv
  rw [Int.toNat_natCast]
  rcases invN_or (p := p) (D := D) (fs := fs) (a := n) (qn p D) with ⟨c, h1, h2, h3⟩ | ⟨_, h2⟩
  · rw [h2]; exact ⟨⟨by omega, by omega⟩, h3⟩
  · exact absurd hb1 (h2 m (by have := hb.2; omega))
theorem finv_eq (h : FV p D fs) {a b : Int} (ha : El p D a) (h0 : a ≠ 0) (hb : El p D b) (h1 : fmul p D fs a b = 1) : finv p D fs a = b :=
  inv_uniq h.fa (finv_ok h ha h0).1 hb (finv_ok h ha h0).2 h1
theorem finv_el (h : FV p D fs) (a : Int) : El p D (finv p D fs a) := by
  have hq := qn_cast (p := p) (D := D) (by have := h.p2; omega)
  unfold finv
  rcases invN_or (p := p) (D := D) (fs := fs) (a := a.toNat) (qn p D) with ⟨c, h1, h2, _⟩ | ⟨h1, _⟩
  · rw [h2]; exact ⟨by omega, by omega⟩
  · rw [h1]; exact el_zero h.fa
end

/-! ### rows -/
def ra (R : List (List Int)) (j : Nat) : List Int := R.getD j []
theorem ra_eq {R : List (List Int)} {j : Nat} (h : j < R.length) : ra R j = R[j] := by simp [ra, h]
theorem ra_mem {R : List (List Int)} {j : Nat} (h : j < R.length) : ra R j ∈ R := by rw [ra_eq h]; exact List.getElem_mem h
theorem ra_set {R : List (List Int)} {i j : Nat} {r : List Int} (h : i < R.length) : ra (R.set i r) j = if i = j then r else ra R j := by
  unfold ra
  rw [List.getD_eq_getElem?_getD, List.getElem?_set]
  split
  · rename_i e; subst e; simp [h]
  · simp [List.getD_eq_getElem?_getD]
theorem ra_ext {R S : List (List Int)} (hl : R.length = S.length) (h : ∀ j, j < R.length → ra R j = ra S j) : R = S := by
  apply List.ext_getElem hl
  intro j h1 h2
  have := h j h1
  rwa [ra_eq h1, ra_eq h2] at this
/-- each row, by its place -/
def mi (R : List (List Int)) (f : Nat → List Int → List Int) : List (List Int) := (List.range R.length).map fun j => f j (ra R j)
theorem mi_len (R : List (List Int)) (f : Nat → List Int → List Int) : (mi R f).length = R.length := by simp [mi]
theorem ra_mi {R : List (List Int)} {f : Nat → List Int → List Int} {j : Nat} (h : j < R.length) : ra (mi R f) j = f j (ra R j) := by simp [ra, mi, h]
/-- all rows have n elements -/
def Rect (p : Int) (D n : Nat) (R : List (List Int)) : Prop := ∀ r ∈ R, r.length = n ∧ In (p ^ D) r
theorem Rect.ra {p : Int} {D n : Nat} {R : List (List Int)} (h : Rect p D n R) {j : Nat} (hj : j < R.length) : (ra R j).length = n ∧ In (p ^ D) (ra R j) := h _ (ra_mem hj)
theorem Rect.set {p : Int} {D n : Nat} {R : List (List Int)} (h : Rect p D n R) {j : Nat} {r : List Int} (hr : r.length = n ∧ In (p ^ D) r) : Rect p D n (R.set j r) := by
  intro x hx
  rcases List.mem_or_eq_of_mem_set hx with hx | rfl
  · exact h x hx
  · exact hr
theorem Rect.mi {p : Int} {D n : Nat} {R : List (List Int)} {f : Nat → List Int → List Int} (h : ∀ j, j < R.length → (f j (Go.Proofs.Ytmkfafhgcnbcaaa.ra R j)).length = n ∧ In (p ^ D) (f j (Go.Proofs.Ytmkfafhgcnbcaaa.ra R j))) : Rect p D n (mi R f) := by
  intro x hx
  obtain ⟨j, hj, rfl⟩ := List.mem_map.1 hx
  exact h j (List.mem_range.1 hj)
theorem inEl {p : Int} {D : Nat} (hp : 0 < p) {r : List Int} (h : In (p ^ D) r) (j : Nat) : El p D (cf r j) := h.cf (Int.pow_pos hp) j
/-- the first k places by f -/
def up (r : List Int) (k : Nat) (f : Nat → Int) : List Int := tab r.length fun i => if i < k then f i else cf r i
theorem up_len (r : List Int) (k : Nat) (f : Nat → Int) : (up r k f).length = r.length := tab_len _ _
theorem up_0 (r : List Int) (f : Nat → Int) : up r 0 f = r := by
  conv => rhs; rw [← tab_cf r]
  exact tab_congr fun t _ => by rw [if_neg (by omega)]
theorem up_end (r : List Int) (f : Nat → Int) : up r r.length f = tab r.length f := tab_congr fun t ht => by rw [if_pos ht]
theorem cf_up {r : List Int} {k j : Nat} {f : Nat → Int} (hj : j < r.length) : cf (up r k f) j = if j < k then f j else cf r j := cf_tab hj
theorem up_set {r : List Int} {k : Nat} {f : Nat → Int} (hk : k < r.length) : (up r k f).set k (f k) = up r (k + 1) f := by
  refine cf_ext (by simp [up_len]) fun t ht => ?_
  rw [List.length_set, up_len] at ht
  rw [cf_set (by rw [up_len]; exact hk), cf_up ht, cf_up ht]
  by_cases e : k = t
  · subst e; rw [if_pos rfl, if_pos (by omega)]
  · rw [if_neg e]
    by_cases h : t < k
    · rw [if_pos h, if_pos (by omega)]
    · rw [if_neg h, if_neg (by omega)]

/-- a multiple of a row is added to another one -/
def addT (p : Int) (D : Nat) (fs : List Int) (to row : List Int) (f : Int) : List Int := tab to.length fun k => fsum p D (cf to k) (fmul p D fs f (cf row k)) 1
/-- a row times the inverse of its element at c -/
def scaleI (p : Int) (D : Nat) (fs r : List Int) (c : Nat) : List Int := tab r.length fun k => fmul p D fs (finv p D fs (cf r c)) (cf r k)
/-- column c of a row is made 0 -/
def subI (p : Int) (D : Nat) (fs r P : List Int) (c : Nat) : List Int := if cf r c = 0 then r else addT p D fs r P (fsum p D 0 (cf r c) (-1))
/-- the first row from t on that is not 0 at c -/
def fnz (R : List (List Int)) (t c : Nat) : Option Nat := ((R.drop t).findIdx? fun r => cf r c != 0).map (t + ·)
theorem fnz_some {R : List (List Int)} {t c i : Nat} (h : fnz R t c = some i) : t ≤ i ∧ i < R.length ∧ cf (ra R i) c ≠ 0 ∧ ∀ j, t ≤ j → j < i → cf (ra R j) c = 0 := by
  unfold fnz at h
  cases hx : (R.drop t).findIdx? (fun r => cf r c != 0) with
  | none => rw [hx] at h; cases h
  | some k =>
    rw [hx] at h
    simp only [Option.map_some, Option.some.injEq] at h
    subst h
    obtain ⟨hk, h1, h2⟩ := List.findIdx?_eq_some_iff_getElem.1 hx
    have hk' : k < R.length - t := by simpa using hk
    refine ⟨by omega, by omega, ?_, fun j hj hlt => ?_⟩
    · rw [ra_eq (by omega)]
      simpa using h1
    · have h3 := h2 (j - t) (by omega)
      have e : t + (j - t) = j := by omega
      rw [ra_eq (by omega)]
      simpa [e] using h3
theorem fnz_none {R : List (List Int)} {t c : Nat} (h : fnz R t c = none) {j : Nat} (hj : t ≤ j) (hl : j < R.length) : cf (ra R j) c = 0 := by
  unfold fnz at h
  rw [Option.map_eq_none_iff, List.findIdx?_eq_none_iff] at h
  have h1 := h (ra R j) (by
    rw [ra_eq hl]
    have : R[j] = (R.drop t)[j - t]'(by simp; omega) := by simp [show t + (j - t) = j by omega]
    rw [this]; exact List.getElem_mem _)
  simpa using h1
/-- the rows with the pivot's row at t, scaled -/
def swapR (p : Int) (D : Nat) (fs : List Int) (R : List (List Int)) (t c i : Nat) : List (List Int) := ((R.set t (ra R i)).set i (ra R t)).set t (scaleI p D fs (ra R i) c)
def elimP (p : Int) (D : Nat) (fs : List Int) (R : List (List Int)) (P : List Int) (t c k : Nat) : List (List Int) := mi R fun j r => if j < k ∧ j ≠ t then subI p D fs r P c else r
def stepR (p : Int) (D : Nat) (fs : List Int) (R : List (List Int)) (t c i : Nat) : List (List Int) := elimP p D fs (swapR p D fs R t c i) (scaleI p D fs (ra R i) c) t c R.length
/-- the rows, the pivots and the determinant behind the columns c, c + 1, .., of which n are left -/
def red (p : Int) (D : Nat) (fs : List Int) : Nat → Nat → List (List Int) → List Int → Int → List (List Int) × List Int × Int
  | 0, _, R, piv, det => (R, piv, det)
  | n + 1, c, R, piv, det =>
    if R.length ≤ piv.length then (R, piv, det) else
    match fnz R piv.length c with
    | none => red p D fs n (c + 1) R piv 0
    | some i => red p D fs n (c + 1) (stepR p D fs R piv.length c i) (piv ++ [(c : Int)]) (fmul p D fs (if i = piv.length then det else fsum p D 0 det (-1)) (cf (ra R i) c))
section
variable {p : Int} {D : Nat} {fs : List Int} {R : List (List Int)} {P : List Int} {t c k i n : Nat}
theorem swapR_len : (swapR p D fs R t c i).length = R.length := by simp [swapR]
theorem elimP_len : (elimP p D fs R P t c k).length = R.length := mi_len _ _
theorem stepR_len : (stepR p D fs R t c i).length = R.length := by rw [stepR, elimP_len, swapR_len]
theorem addT_len (to row : List Int) (f : Int) : (addT p D fs to row f).length = to.length := tab_len _ _
theorem scaleI_len (r : List Int) : (scaleI p D fs r c).length = r.length := tab_len _ _
theorem subI_len (r : List Int) : (subI p D fs r P c).length = r.length := by unfold subI; split; rfl; exact addT_len _ _ _
theorem El.in {f : Nat → Int} (h : ∀ j, j < n → El p D (f j)) : In (p ^ D) (tab n f) := In.tab fun j hj => h j hj
theorem addT_in (hp : 0 < p) (to row : List Int) (f : Int) : In (p ^ D) (addT p D fs to row f) := El.in fun _ _ => fsum_el hp _ _ _
theorem scaleI_in (h : FA p D fs) (r : List Int) : In (p ^ D) (scaleI p D fs r c) := El.in fun _ _ => fmul_el h _ _
theorem subI_in (hp : 0 < p) {r : List Int} (h : In (p ^ D) r) : In (p ^ D) (subI p D fs r P c) := by unfold subI; split; exact h; exact addT_in hp _ _ _
theorem Rect.swapR (h : Rect p D n R) (hf : FA p D fs) (ht : t < R.length) (hi : i < R.length) : Rect p D n (swapR p D fs R t c i) :=
  ((h.set (h.ra hi)).set (h.ra ht)).set ⟨by rw [scaleI_len]; exact (h.ra hi).1, scaleI_in hf _⟩
theorem Rect.elimP (h : Rect p D n R) (hp : 0 < p) : Rect p D n (elimP p D fs R P t c k) := Rect.mi fun j hj => by
  split
  · rw [subI_len]; exact ⟨(h.ra hj).1, subI_in hp (h.ra hj).2⟩
  · exact h.ra hj
theorem Rect.stepR (h : Rect p D n R) (hf : FA p D fs) (ht : t < R.length) (hi : i < R.length) : Rect p D n (stepR p D fs R t c i) := (h.swapR hf ht hi).elimP (by have := hf.p2; omega)
theorem elimP_0 : elimP p D fs R P t c 0 = R := ra_ext (mi_len _ _) fun j hj => by rw [elimP_len] at hj; unfold elimP; rw [ra_mi hj, if_neg (by omega)]
theorem elimP_skip : elimP p D fs R P t c (t + 1) = elimP p D fs R P t c t := ra_ext (by rw [elimP_len, elimP_len]) fun j hj => by
  rw [elimP_len] at hj
  unfold elimP
  rw [ra_mi hj, ra_mi hj]
  by_cases h : j < t
  · rw [if_pos ⟨by omega, by omega⟩, if_pos ⟨h, by omega⟩]
  · rw [if_neg (by omega), if_neg (by omega)]
theorem ra_elimP (h : k < R.length) : ra (elimP p D fs R P t c k) k = ra R k := by unfold elimP; rw [ra_mi h, if_neg (by omega)]
theorem ra_elimP_t (h : t < R.length) : ra (elimP p D fs R P t c k) t = ra R t := by unfold elimP; rw [ra_mi h, if_neg (by omega)]
theorem elimP_set (hk : k < R.length) (hne : k ≠ t) : (elimP p D fs R P t c k).set k (subI p D fs (ra R k) P c) = elimP p D fs R P t c (k + 1) := by
  refine ra_ext (by rw [List.length_set, elimP_len, elimP_len]) fun j hj => ?_
  rw [List.length_set, elimP_len] at hj
  rw [ra_set (by rw [elimP_len]; exact hk)]
  unfold elimP
  rw [ra_mi hj, ra_mi hj]
  by_cases e : k = j
  · subst e; rw [if_pos rfl, if_pos ⟨by omega, hne⟩]
  · rw [if_neg e]
    by_cases h : j < k ∧ j ≠ t
    · rw [if_pos h, if_pos ⟨by omega, h.2⟩]
    · rw [if_neg h, if_neg (by omega)]
theorem elimP_same (hk : k < R.length) (h0 : cf (ra R k) c = 0) : elimP p D fs R P t c (k + 1) = elimP p D fs R P t c k := by
  by_cases hne : k = t
  · subst hne; exact elimP_skip
  · rw [← elimP_set hk hne, show subI p D fs (ra R k) P c = ra R k from if_pos h0]
    refine ra_ext (by rw [List.length_set]) fun j hj => ?_
    rw [List.length_set, elimP_len] at hj
    rw [ra_set (by rw [elimP_len]; exact hk)]
    split
    · rename_i e; subst e; rw [ra_elimP hk]
    · rfl
theorem ra_swapR_t (ht : t < R.length) (hi : i < R.length) : ra (swapR p D fs R t c i) t = scaleI p D fs (ra R i) c := by
  unfold swapR; rw [ra_set (by simpa using ht), if_pos rfl]
/-! ### the reference's forms -/
theorem scaleS_eq (h : FA p D fs) (r : List Int) (e : Int) (he : finv p D fs (cf r c) = e) : (tab r.length fun k => fmul p D fs (cf r k) e) = scaleI p D fs r c := by
  unfold scaleI; exact tab_congr fun k _ => by rw [he, fmul_comm h]
theorem fsum_neg' (a b : Int) : fsum p D a b (p - 1) = fsum p D a b (-1) := by
  unfold fsum
  congr 1
  exact tab_congr fun t _ => by
    have e : cf (dgt p D a) t + (p - 1) * cf (dgt p D b) t = (cf (dgt p D a) t + -1 * cf (dgt p D b) t) + p * cf (dgt p D b) t := by grind
    rw [e, Int.add_mul_emod_self_left]
/-- a - b is a + (0 - b) -/
theorem fsum_sub (hp : 0 < p) (a b : Int) : fsum p D a (fsum p D 0 b (-1)) 1 = fsum p D a b (-1) := by
  refine (fsum_el hp _ _ _).ext hp (fsum_el hp _ _ _) fun j hj => ?_
  rw [dc_fsum hp hj, dc_fsum hp hj, dc_fsum hp hj, dc_zero, Int.zero_add, Int.one_mul, Int.add_emod_emod]
theorem fmul_neg (h : FA p D fs) (a b : Int) : fmul p D fs a (fsum p D 0 b (-1)) = fsum p D 0 (fmul p D fs a b) (-1) := by rw [fmul_fsum h, fmul_zero h]
theorem lessS_eq (h : FA p D fs) {r : List Int} (hr : In (p ^ D) r) : (tab r.length fun k => fsum p D (cf r k) (fmul p D fs (cf P k) (cf r c)) (p - 1)) = subI p D fs r P c := by
  have hp : 0 < p := by have := h.p2; omega
  unfold subI
  split
  · rename_i h0
    refine cf_ext (tab_len _ _) fun j hj => ?_
    rw [tab_len] at hj
    rw [cf_tab hj, h0, fmul_zero h, fsum_zero h.p2 (inEl hp hr j)]
  · unfold addT
    refine tab_congr fun k _ => ?_
    rw [fmul_comm h (fsum p D 0 (cf r c) (-1)), fmul_neg h, fsum_sub hp, fsum_neg']
end
end Go.Proofs.Ytmkfafhgcnbcaaa
