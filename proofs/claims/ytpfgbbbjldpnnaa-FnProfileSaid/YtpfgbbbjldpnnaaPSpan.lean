/- Row reduction over a finite field, in plain terms. Spans of rows over a finite field, echelon forms and ranks, in plain terms. -/
import Derived.Test.YtpfgbbbjldpnnaaPGen
namespace Go.Proofs.Ytpfgbbbjldpnnaa
set_option linter.unusedSimpArgs false
set_option linter.unusedVariables false

def finv (p : Int) (D : Nat) (fs : List Int) (a : Int) : Int := invN p D fs a.toNat (qn p D)
theorem invN_or {p : Int} {D : Nat} {fs : List Int} {a : Nat} : ∀ k : Nat, (∃ b : Nat, b < k ∧ invN p D fs a k = b ∧ fmul p D fs a b = 1) ∨ (invN p D fs a k = 0 ∧ ∀ b : Nat, b < k → fmul p D fs a b ≠ 1)
  | 0 => .inr ⟨rfl, fun b h => by omega⟩
  | k + 1 => by
    rw [invN]
    by_cases h : fmul p D fs a k = 1
    · rw [if_pos h]; exact .inl ⟨k, by omega, rfl, h⟩
    · rw [if_neg h]
      rcases invN_or (p := p) (D := D) (fs := fs) (a := a) k with ⟨b, h1, h2, h3⟩ | ⟨h1, h2⟩
      · exact .inl ⟨b, by omega, h2, h3⟩
      · refine .inr ⟨h1, fun b hb => ?_⟩
        by_cases e : b = k
        · rw [e]; exact h
        · exact h2 b (by omega)
section
variable {p : Int} {D : Nat} {fs : List Int}
theorem qn_cast (hp : 0 ≤ p) : ((qn p D : Nat) : Int) = p ^ D := by
  unfold qn
  have : 0 ≤ p ^ D := Int.pow_nonneg hp
  omega
theorem finv_ok (h : FV p D fs) {a : Int} (ha : El p D a) (h0 : a ≠ 0) : El p D (finv p D fs a) ∧ fmul p D fs a (finv p D fs a) = 1 := by
  have hq := qn_cast (p := p) (D := D) (by have := h.p2; omega)
  obtain ⟨n, rfl⟩ := Int.eq_ofNat_of_zero_le ha.1
  obtain ⟨b, hb, hb1⟩ := h.inv (a := n) (by omega) ha.2
  obtain ⟨m, rfl⟩ := Int.eq_ofNat_of_zero_le hb.1
  unfold finv
  rw [Int.toNat_natCast]
  rcases invN_or (p := p) (D := D) (fs := fs) (a := n) (qn p D) with ⟨c, h1, h2, h3⟩ | ⟨_, h2⟩
  · rw [h2]; exact ⟨⟨by omega, by omega⟩, h3⟩
  · exact absurd hb1 (h2 m (by have := hb.2; omega))
theorem finv_eq (h : FV p D fs) {a b : Int} (ha : El p D a) (h0 : a ≠ 0) (hb : El p D b) (h1 : fmul p D fs a b = 1) : finv p D fs a = b :=
  inv_uniq h.fa (finv_ok h ha h0).1 hb (finv_ok h ha h0).2 h1
theorem finv_el (h : FV p D fs) (a : Int) : El p D (finv p D fs a) := by
  have hq := qn_cast (p := p) (D := D) (by have := h.p2; omega)
  unfold finv
  rcases invN_or (p := p) (D := D) (fs := fs) (a := a.toNat) (qn p D) with ⟨c, h1, h2, _⟩ | ⟨h1, _⟩
  · rw [h2]; exact ⟨by omega, by omega⟩
  · rw [h1]; exact el_zero h.fa
end

/-! ### rows -/
def ra (R : List (List Int)) (j : Nat) : List Int := R.getD j []
theorem ra_eq {R : List (List Int)} {j : Nat} (h : j < R.length) : ra R j = R[j] := by simp [ra, h]
theorem ra_mem {R : List (List Int)} {j : Nat} (h : j < R.length) : ra R j ∈ R := by rw [ra_eq h]; exact List.getElem_mem h
theorem ra_set {R : List (List Int)} {i j : Nat} {r : List Int} (h : i < R.length) : ra (R.set i r) j = if i = j then r else ra R j := by
  unfold ra
  rw [List.getD_eq_getElem?_getD, List.getElem?_set]
  split
  · rename_i e; subst e; simp [h]
  · simp [List.getD_eq_getElem?_getD]
theorem ra_ext {R S : List (List Int)} (hl : R.length = S.length) (h : ∀ j, j < R.length → ra R j = ra S j) : R = S := by
  apply List.ext_getElem hl
  intro j h1 h2
  have := h j h1
  rwa [ra_eq h1, ra_eq h2] at this
/-- each row, by its place -/
def mi (R : List (List Int)) (f : Nat → List Int → List Int) : List (List Int) := (List.range R.length).map fun j => f j (ra R j)
theorem mi_len (R : List (List Int)) (f : Nat → List Int → List Int) : (mi R f).length = R.length := by simp [mi]
theorem ra_mi {R : List (List Int)} {f : Nat → List Int → List Int} {j : Nat} (h : j < R.length) : ra (mi R f) j = f j (ra R j) := by simp [ra, mi, h]
/-- all rows have n elements -/
def Rect (p : Int) (D n : Nat) (R : List (List Int)) : Prop := ∀ r ∈ R, r.length = n ∧ In (p ^ D) r
theorem Rect.ra {p : Int} {D n : Nat} {R : List (List Int)} (h : Rect p D n R) {j : Nat} (hj : j < R.length) : (ra R j).length = n ∧ In (p ^ D) (ra R j) := h _ (ra_mem hj)
theorem Rect.set {p : Int} {D n : Nat} {R : List (List Int)} (h : Rect p D n R) {j : Nat} {r : List Int} (hr : r.length = n ∧ In (p ^ D) r) : Rect p D n (R.set j r) := by
  intro x hx
  rcases List.mem_or_eq_of_mem_set hx with hx | rfl
  · exact h x hx
  · exact hr
theorem Rect.mi {p : Int} {D n : Nat} {R : List (List Int)} {f : Nat → List Int → List Int} (h : ∀ j, j < R.length → (f j (Go.Proofs.Ytpfgbbbjldpnnaa.ra R j)).length = n ∧ In (p ^ D) (f j (Go.Proofs.Ytpfgbbbjldpnnaa.ra R j))) : Rect p D n (mi R f) := by
  intro x hx
  obtain ⟨j, hj, rfl⟩ := List.mem_map.1 hx
  exact h j (List.mem_range.1 hj)
theorem inEl {p : Int} {D : Nat} (hp : 0 < p) {r : List Int} (h : In (p ^ D) r) (j : Nat) : El p D (cf r j) := h.cf (Int.pow_pos hp) j
/-- the first k places by f -/
def up (r : List Int) (k : Nat) (f : Nat → Int) : List Int := tab r.length fun i => if i < k then f i else cf r i
theorem up_len (r : List Int) (k : Nat) (f : Nat → Int) : (up r k f).length = r.length := tab_len _ _
theorem up_0 (r : List Int) (f : Nat → Int) : up r 0 f = r := by
  conv => rhs; rw [← tab_cf r]
  exact tab_congr fun t _ => by rw [if_neg (by omega)]
theorem up_end (r : List Int) (f : Nat → Int) : up r r.length f = tab r.length f := tab_congr fun t ht => by rw [if_pos ht]
theorem cf_up {r : List Int} {k j : Nat} {f : Nat → Int} (hj : j < r.length) : cf (up r k f) j = if j < k then f j else cf r j := cf_tab hj
theorem up_set {r : List Int} {k : Nat} {f : Nat → Int} (hk : k < r.length) : (up r k f).set k (f k) = up r (k + 1) f := by
  refine cf_ext (by simp [up_len]) fun t ht => ?_
  rw [List.length_set, up_len] at ht
  rw [cf_set (by rw [up_len]; exact hk), cf_up ht, cf_up ht]
  by_cases e : k = t
  · subst e; rw [if_pos rfl, if_pos (by omega)]
  · rw [if_neg e]
    by_cases h : t < k
    · rw [if_pos h, if_pos (by omega)]
    · rw [if_neg h, if_neg (by omega)]

/-- a multiple of a row is added to another one -/
def addT (p : Int) (D : Nat) (fs : List Int) (to row : List Int) (f : Int) : List Int := tab to.length fun k => fsum p D (cf to k) (fmul p D fs f (cf row k)) 1
/-- a row times the inverse of its element at c -/
def scaleI (p : Int) (D : Nat) (fs r : List Int) (c : Nat) : List Int := tab r.length fun k => fmul p D fs (finv p D fs (cf r c)) (cf r k)
/-- column c of a row is made 0 -/
def subI (p : Int) (D : Nat) (fs r P : List Int) (c : Nat) : List Int := if cf r c = 0 then r else addT p D fs r P (fsum p D 0 (cf r c) (-1))
/-- the first row from t on that is not 0 at c -/
def fnz (R : List (List Int)) (t c : Nat) : Option Nat := ((R.drop t).findIdx? fun r => cf r c != 0).map (t + ·)
theorem fnz_some {R : List (List Int)} {t c i : Nat} (h : fnz R t c = some i) : t ≤ i ∧ i < R.length ∧ cf (ra R i) c ≠ 0 ∧ ∀ j, t ≤ j → j < i → cf (ra R j) c = 0 := by
  unfold fnz at h
  cases hx : (R.drop t).findIdx? (fun r => cf r c != 0) with
  | none => rw [hx] at h; cases h
  | some k =>
    rw [hx] at h
    simp only [Option.map_some, Option.some.injEq] at h
    subst h
    obtain ⟨hk, h1, h2⟩ := List.findIdx?_eq_some_iff_getElem.1 hx
    have hk' : k < R.length - t := by simpa using hk
    refine ⟨by omega, by omega, ?_, fun j hj hlt => ?_⟩
    · rw [ra_eq (by omega)]
      simpa using h1
    · have h3 := h2 (j - t) (by omega)
      have e : t + (j - t) = j := by omega
      rw [ra_eq (by omega)]
      simpa [e] using h3
theorem fnz_none {R : List (List Int)} {t c : Nat} (h : fnz R t c = none) {j : Nat} (hj : t ≤ j) (hl : j < R.length) : cf (ra R j) c = 0 := by
  unfold fnz at h
  rw [Option.map_eq_none_iff, List.findIdx?_eq_none_iff] at h
  have h1 := h (ra R j) (by
    rw [ra_eq hl]
    have : R[j] = (R.drop t)[j - t]'(by simp; omega) := by simp [show t + (j - t) = j by omega]
    rw [this]; exact List.getElem_mem _)
  simpa using h1
/-- the rows with the pivot's row at t, scaled -/
def swapR (p : Int) (D : Nat) (fs : List Int) (R : List (List Int)) (t c i : Nat) : List (List Int) := ((R.set t (ra R i)).set i (ra R t)).set t (scaleI p D fs (ra R i) c)
def elimP (p : Int) (D : Nat) (fs : List Int) (R : List (List Int)) (P : List Int) (t c k : Nat) : List (List Int) := mi R fun j r => if j < k ∧ j ≠ t then subI p D fs r P c else r
def stepR (p : Int) (D : Nat) (fs : List Int) (R : List (List Int)) (t c i : Nat) : List (List Int) := elimP p D fs (swapR p D fs R t c i) (scaleI p D fs (ra R i) c) t c R.length
/-- the rows, the pivots and the determinant behind the columns c, c + 1, .., of which n are left -/
def red (p : Int) (D : Nat) (fs : List Int) : Nat → Nat → List (List Int) → List Int → Int → List (List Int) × List Int × Int
  | 0, _, R, piv, det => (R, piv, det)
  | n + 1, c, R, piv, det =>
    if R.length ≤ piv.length then (R, piv, det) else
    match fnz R piv.length c with
    | none => red p D fs n (c + 1) R piv 0
    | some i => red p D fs n (c + 1) (stepR p D fs R piv.length c i) (piv ++ [(c : Int)]) (fmul p D fs (if i = piv.length then det else fsum p D 0 det (-1)) (cf (ra R i) c))
section
variable {p : Int} {D : Nat} {fs : List Int} {R : List (List Int)} {P : List Int} {t c k i n : Nat}
theorem swapR_len : (swapR p D fs R t c i).length = R.length := by simp [swapR]
theorem elimP_len : (elimP p D fs R P t c k).length = R.length := mi_len _ _
theorem stepR_len : (stepR p D fs R t c i).length = R.length := by rw [stepR, elimP_len, swapR_len]
theorem addT_len (to row : List Int) (f : Int) : (addT p D fs to row f).length = to.length := tab_len _ _
theorem scaleI_len (r : List Int) : (scaleI p D fs r c).length = r.length := tab_len _ _
theorem subI_len (r : List Int) : (subI p D fs r P c).length = r.length := by unfold subI; split; rfl; exact addT_len _ _ _
theorem El.in {f : Nat → Int} (h : ∀ j, j < n → El p D (f j)) : In (p ^ D) (tab n f) := In.tab fun j hj => h j hj
theorem addT_in (hp : 0 < p) (to row : List Int) (f : Int) : In (p ^ D) (addT p D fs to row f) := El.in fun _ _ => fsum_el hp _ _ _
theorem scaleI_in (h : FA p D fs) (r : List Int) : In (p ^ D) (scaleI p D fs r c) := El.in fun _ _ => fmul_el h _ _
theorem subI_in (hp : 0 < p) {r : List Int} (h : In (p ^ D) r) : In (p ^ D) (subI p D fs r P c) := by unfold subI; split; exact h; exact addT_in hp _ _ _
theorem Rect.swapR (h : Rect p D n R) (hf : FA p D fs) (ht : t < R.length) (hi : i < R.length) : Rect p D n (swapR p D fs R t c i) :=
  ((h.set (h.ra hi)).set (h.ra ht)).set ⟨by rw [scaleI_len]; exact (h.ra hi).1, scaleI_in hf _⟩
theorem Rect.elimP (h : Rect p D n R) (hp : 0 < p) : Rect p D n (elimP p D fs R P t c k) := Rect.mi fun j hj => by
  split
  · rw [subI_len]; exact ⟨(h.ra hj).1, subI_in hp (h.ra hj).2⟩
  · exact h.ra hj
theorem Rect.stepR (h : Rect p D n R) (hf : FA p D fs) (ht : t < R.length) (hi : i < R.length) : Rect p D n (stepR p D fs R t c i) := (h.swapR hf ht hi).elimP (by have := hf.p2; omega)
theorem elimP_0 : elimP p D fs R P t c 0 = R := ra_ext (mi_len _ _) fun j hj => by rw [elimP_len] at hj; unfold elimP; rw [ra_mi hj, if_neg (by omega)]
theorem elimP_skip : elimP p D fs R P t c (t + 1) = elimP p D fs R P t c t := ra_ext (by rw [elimP_len, elimP_len]) fun j hj => by
  rw [elimP_len] at hj
  unfold elimP
  rw [ra_mi hj, ra_mi hj]
  by_cases h : j < t
  · rw [if_pos ⟨by omega, by omega⟩, if_pos ⟨h, by omega⟩]
  · rw [if_neg (by omega), if_neg (by omega)]
theorem ra_elimP (h : k < R.length) : ra (elimP p D fs R P t c k) k = ra R k := by unfold elimP; rw [ra_mi h, if_neg (by omega)]
theorem ra_elimP_t (h : t < R.length) : ra (elimP p D fs R P t c k) t = ra R t := by unfold elimP; rw [ra_mi h, if_neg (by omega)]
theorem elimP_set (hk : k < R.length) (hne : k ≠ t) : (elimP p D fs R P t c k).set k (subI p D fs (ra R k) P c) = elimP p D fs R P t c (k + 1) := by
  refine ra_ext (by rw [List.length_set, elimP_len, elimP_len]) fun j hj => ?_
  rw [List.length_set, elimP_len] at hj
  rw [ra_set (by rw [elimP_len]; exact hk)]
  unfold elimP
  rw [ra_mi hj, ra_mi hj]
  by_cases e : k = j
  · subst e; rw [if_pos rfl, if_pos ⟨by omega, hne⟩]
  · rw [if_neg e]
    by_cases h : j < k ∧ j ≠ t
    · rw [if_pos h, if_pos ⟨by omega, h.2⟩]
    · rw [if_neg h, if_neg (by omega)]
theorem elimP_same (hk : k < R.length) (h0 : cf (ra R k) c = 0) : elimP p D fs R P t c (k + 1) = elimP p D fs R P t c k := by
  by_cases hne : k = t
  · subst hne; exact elimP_skip
  · rw [← elimP_set hk hne, show subI p D fs (ra R k) P c = ra R k from if_pos h0]
    refine ra_ext (by rw [List.length_set]) fun j hj => ?_
    rw [List.length_set, elimP_len] at hj
    rw [ra_set (by rw [elimP_len]; exact hk)]
    split
    · rename_i e; subst e; rw [ra_elimP hk]
    · rfl
theorem ra_swapR_t (ht : t < R.length) (hi : i < R.length) : ra (swapR p D fs R t c i) t = scaleI p D fs (ra R i) c := by
  unfold swapR; rw [ra_set (by simpa using ht), if_pos rfl]
/-! ### the reference's forms -/
theorem scaleS_eq (h : FA p D fs) (r : List Int) (e : Int) (he : finv p D fs (cf r c) = e) : (tab r.length fun k => fmul p D fs (cf r k) e) = scaleI p D fs r c := by
  unfold scaleI; exact tab_congr fun k _ => by rw [he, fmul_comm h]
theorem fsum_neg' (a b : Int) : fsum p D a b (p - 1) = fsum p D a b (-1) := by
  unfold fsum
  congr 1
  exact tab_congr fun t _ => by
    have e : cf (dgt p D a) t + (p - 1) * cf (dgt p D b) t = (cf (dgt p D a) t + -1 * cf (dgt p D b) t) + p * cf (dgt p D b) t := by grind
    rw [e, Int.add_mul_emod_self_left]
/-- a - b is a + (0 - b) -/
theorem fsum_sub (hp : 0 < p) (a b : Int) : fsum p D a (fsum p D 0 b (-1)) 1 = fsum p D a b (-1) := by
  refine (fsum_el hp _ _ _).ext hp (fsum_el hp _ _ _) fun j hj => ?_
  rw [dc_fsum hp hj, dc_fsum hp hj, dc_fsum hp hj, dc_zero, Int.zero_add, Int.one_mul, Int.add_emod_emod]
theorem fmul_neg (h : FA p D fs) (a b : Int) : fmul p D fs a (fsum p D 0 b (-1)) = fsum p D 0 (fmul p D fs a b) (-1) := by rw [fmul_fsum h, fmul_zero h]
theorem lessS_eq (h : FA p D fs) {r : List Int} (hr : In (p ^ D) r) : (tab r.length fun k => fsum p D (cf r k) (fmul p D fs (cf P k) (cf r c)) (p - 1)) = subI p D fs r P c := by
  have hp : 0 < p := by have := h.p2; omega
  unfold subI
  split
  · rename_i h0
    refine cf_ext (tab_len _ _) fun j hj => ?_
    rw [tab_len] at hj
    rw [cf_tab hj, h0, fmul_zero h, fsum_zero h.p2 (inEl hp hr j)]
  · unfold addT
    refine tab_congr fun k _ => ?_
    rw [fmul_comm h (fsum p D 0 (cf r c) (-1)), fmul_neg h, fsum_sub hp, fsum_neg']
end

def zr (n : Nat) : List Int := List.replicate n 0
theorem zr_len (n : Nat) : (zr n).length = n := by simp [zr]
theorem cf_zr (n k : Nat) : cf (zr n) k = 0 := by
  unfold cf zr
  rw [List.getD_eq_getElem?_getD, List.getElem?_replicate]
  split <;> rfl
section
variable {p : Int} {D : Nat} {fs : List Int}
theorem FA.pos (h : FA p D fs) : 0 < p := by have := h.p2; omega
theorem zr_in (h : FA p D fs) (n : Nat) : In (p ^ D) (zr n) := fun x hx => by
  have := List.eq_of_mem_replicate hx
  subst this; exact el_zero h
theorem fadd0 (h : FA p D fs) {a : Int} (ha : El p D a) : fsum p D 0 a 1 = a := by rw [fsum_comm]; exact fsum_zero h.p2 ha 1
theorem fadd_assoc (h : FA p D fs) (a : Int) {b : Int} (hb : El p D b) (c : Int) : fsum p D (fsum p D a b 1) c 1 = fsum p D a (fsum p D b c 1) 1 := by
  rw [fsum_assoc h.pos, fadd0 h hb]
def fneg (p : Int) (D : Nat) (a : Int) : Int := fsum p D 0 a (-1)
theorem fneg_el (h : FA p D fs) (a : Int) : El p D (fneg p D a) := fsum_el h.pos _ _ _
theorem fadd_neg (h : FA p D fs) {a : Int} (ha : El p D a) (b : Int) : fsum p D (fsum p D a b 1) (fneg p D b) 1 = a := by
  unfold fneg; rw [fsum_sub h.pos, fsum_undo h.pos ha b 1 (-1) rfl]
theorem fneg_self (h : FA p D fs) {a : Int} (ha : El p D a) : fsum p D a (fneg p D a) 1 = 0 := by
  have := fadd_neg h (el_zero h) a
  rwa [fadd0 h ha] at this
theorem fneg_0 (h : FA p D fs) : fneg p D 0 = 0 := by unfold fneg; exact fsum_zero h.p2 (el_zero h) _
theorem zero_fmul (h : FA p D fs) (a : Int) : fmul p D fs 0 a = 0 := by rw [fmul_comm h, fmul_zero h]
theorem one_fmul (h : FA p D fs) {a : Int} (ha : El p D a) : fmul p D fs 1 a = a := by rw [fmul_comm h, fmul_one h ha]
theorem neg_fmul (h : FA p D fs) (a b : Int) : fmul p D fs (fneg p D a) b = fneg p D (fmul p D fs a b) := by
  rw [fmul_comm h, fneg, fmul_neg h, fmul_comm h b a]; rfl
theorem fneg_one_ne (h : FA p D fs) {a : Int} (ha : El p D a) (h0 : a ≠ 0) : fneg p D a ≠ 0 := fun e => by
  have := fneg_self h ha
  rw [e, fsum_zero h.p2 ha] at this
  exact h0 this

/-! ### rows -/
theorem cf_addT {to row : List Int} {f : Int} {k : Nat} (hk : k < to.length) : cf (addT p D fs to row f) k = fsum p D (cf to k) (fmul p D fs f (cf row k)) 1 := cf_tab hk
/-- a row of N elements -/
def Rw (p : Int) (D N : Nat) (x : List Int) : Prop := x.length = N ∧ In (p ^ D) x
theorem Rw.el {N : Nat} (h : FA p D fs) {x : List Int} (hx : Rw p D N x) (k : Nat) : El p D (cf x k) := inEl h.pos hx.2 k
theorem Rw.zr (h : FA p D fs) (N : Nat) : Rw p D N (zr N) := ⟨zr_len N, zr_in h N⟩
theorem Rw.add {N : Nat} (h : FA p D fs) {x : List Int} (hx : Rw p D N x) (r : List Int) (f : Int) : Rw p D N (addT p D fs x r f) := ⟨(addT_len _ _ _).trans hx.1, addT_in h.pos _ _ _⟩
theorem Rw.ext {N : Nat} {x y : List Int} (hx : x.length = N) (hy : y.length = N) (h : ∀ k, k < N → cf x k = cf y k) : x = y := cf_ext (by rw [hx, hy]) fun k hk => h k (by omega)
theorem addT_zr {N : Nat} (h : FA p D fs) {x : List Int} (hx : Rw p D N x) (n : Nat) (f : Int) : addT p D fs x (zr n) f = x :=
  Rw.ext (hx.add h _ _).1 hx.1 fun k hk => by rw [cf_addT (by rw [hx.1]; exact hk), cf_zr, fmul_zero h, fsum_zero h.p2 (hx.el h k)]
theorem addT_f0 {N : Nat} (h : FA p D fs) {x : List Int} (hx : Rw p D N x) (y : List Int) : addT p D fs x y 0 = x :=
  Rw.ext (hx.add h _ _).1 hx.1 fun k hk => by rw [cf_addT (by rw [hx.1]; exact hk), zero_fmul h, fsum_zero h.p2 (hx.el h k)]
theorem addT_one {N : Nat} (h : FA p D fs) {x : List Int} (hx : Rw p D N x) : addT p D fs (zr N) x 1 = x :=
  Rw.ext ((Rw.zr h N).add h _ _).1 hx.1 fun k hk => by rw [cf_addT (by rw [zr_len]; exact hk), cf_zr, one_fmul h (hx.el h k), fadd0 h (hx.el h k)]
theorem addT_addT {N : Nat} (h : FA p D fs) {x y : List Int} (hx : Rw p D N x) (hy : Rw p D N y) (r : List Int) (f g : Int) : addT p D fs x (addT p D fs y r g) f = addT p D fs (addT p D fs x y f) r (fmul p D fs f g) :=
  Rw.ext (hx.add h _ _).1 ((hx.add h _ _).add h _ _).1 fun k hk => by
    rw [cf_addT (by rw [hx.1]; exact hk), cf_addT (by rw [hy.1]; exact hk), cf_addT (by rw [(hx.add h _ _).1]; exact hk), cf_addT (by rw [hx.1]; exact hk), fmul_fsum h, fmul_assoc h, fadd_assoc h _ (fmul_el h _ _)]
theorem addT_back {N : Nat} (h : FA p D fs) {x : List Int} (hx : Rw p D N x) (r : List Int) (f : Int) : addT p D fs (addT p D fs x r f) r (fneg p D f) = x :=
  Rw.ext ((hx.add h _ _).add h _ _).1 hx.1 fun k hk => by
    rw [cf_addT (by rw [(hx.add h _ _).1]; exact hk), cf_addT (by rw [hx.1]; exact hk), neg_fmul h, fadd_neg h (hx.el h k)]
theorem addT_swap {N : Nat} (h : FA p D fs) {x : List Int} (hx : Rw p D N x) (r s : List Int) (f g : Int) : addT p D fs (addT p D fs x r f) s g = addT p D fs (addT p D fs x s g) r f :=
  Rw.ext ((hx.add h _ _).add h _ _).1 ((hx.add h _ _).add h _ _).1 fun k hk => by
    rw [cf_addT (by rw [(hx.add h _ _).1]; exact hk), cf_addT (by rw [hx.1]; exact hk), cf_addT (by rw [(hx.add h _ _).1]; exact hk), cf_addT (by rw [hx.1]; exact hk), fsum_add h.pos]
/-- factors add up -/
theorem addT_sum {N : Nat} (h : FA p D fs) {x : List Int} (hx : Rw p D N x) (r : List Int) (f g : Int) : addT p D fs (addT p D fs x r f) r g = addT p D fs x r (fsum p D f g 1) :=
  Rw.ext ((hx.add h _ _).add h _ _).1 (hx.add h _ _).1 fun k hk => by
    rw [cf_addT (by rw [(hx.add h _ _).1]; exact hk), cf_addT (by rw [hx.1]; exact hk), cf_addT (by rw [hx.1]; exact hk), fadd_assoc h _ (fmul_el h _ _), fmul_comm h (fsum p D f g 1), fmul_fsum h, fmul_comm h _ f, fmul_comm h _ g]
theorem subI_add {N : Nat} (h : FA p D fs) {x : List Int} (hx : Rw p D N x) (P : List Int) (c : Nat) : subI p D fs x P c = addT p D fs x P (fneg p D (cf x c)) := by
  unfold subI
  split
  · rename_i e; rw [e, fneg_0 h, addT_f0 h hx]
  · rfl

/-! ### spans -/
inductive Sp (p : Int) (D : Nat) (fs : List Int) (N : Nat) (R : List (List Int)) : List Int → Prop
  | zero : Sp p D fs N R (zr N)
  | add {x r : List Int} {f : Int} : Sp p D fs N R x → r ∈ R → El p D f → Sp p D fs N R (addT p D fs x r f)
variable {N : Nat} {R R' : List (List Int)}
theorem Sp.rw (h : FA p D fs) {x : List Int} (hx : Sp p D fs N R x) : Rw p D N x := by
  induction hx with
  | zero => exact Rw.zr h N
  | add _ _ _ ih => exact ih.add h _ _
theorem Sp.lin (h : FA p D fs) {x y : List Int} {f : Int} (hx : Sp p D fs N R x) (hy : Sp p D fs N R y) (hf : El p D f) : Sp p D fs N R (addT p D fs x y f) := by
  induction hy with
  | zero => rw [addT_zr h (hx.rw h)]; exact hx
  | add hy hr hg ih => rw [addT_addT h (hx.rw h) (hy.rw h)]; exact ih.add hr (fmul_el h _ _)
theorem Sp.mem (h : FA p D fs) (hR : Rect p D N R) {r : List Int} (hr : r ∈ R) : Sp p D fs N R r := by
  rw [← addT_one h (hR r hr)]; exact Sp.zero.add hr (el_one h)
theorem Sp.trans (h : FA p D fs) (hs : ∀ r ∈ R, Sp p D fs N R' r) {x : List Int} (hx : Sp p D fs N R x) : Sp p D fs N R' x := by
  induction hx with
  | zero => exact .zero
  | add _ hr hf ih => exact ih.lin h (hs _ hr) hf
theorem Sp.scaleI (h : FV p D fs) {r : List Int} {c : Nat} (hr : Sp p D fs N R r) : Sp p D fs N R (scaleI p D fs r c) := by
  have hw := hr.rw h.fa
  have : Go.Proofs.Ytpfgbbbjldpnnaa.scaleI p D fs r c = addT p D fs (zr N) r (finv p D fs (cf r c)) :=
    Rw.ext ((scaleI_len _).trans hw.1) ((Rw.zr h.fa N).add h.fa _ _).1 fun k hk => by
      rw [cf_addT (by rw [zr_len]; exact hk), cf_zr, fadd0 h.fa (fmul_el h.fa _ _)]
      unfold Go.Proofs.Ytpfgbbbjldpnnaa.scaleI; rw [cf_tab (by rw [hw.1]; exact hk)]
  rw [this]; exact Sp.zero.lin h.fa hr (finv_el h _)
variable {t c i : Nat}
theorem scaleI_rw (h : FA p D fs) {r : List Int} (hr : Rw p D N r) : Rw p D N (scaleI p D fs r c) := ⟨(scaleI_len _).trans hr.1, scaleI_in h _⟩
theorem unscale (h : FV p D fs) {r : List Int} (hr : Rw p D N r) (h0 : cf r c ≠ 0) : addT p D fs (zr N) (scaleI p D fs r c) (cf r c) = r :=
  Rw.ext ((Rw.zr h.fa N).add h.fa _ _).1 hr.1 fun k hk => by
    rw [cf_addT (by rw [zr_len]; exact hk), cf_zr, fadd0 h.fa (fmul_el h.fa _ _)]
    unfold scaleI
    rw [cf_tab (by rw [hr.1]; exact hk), ← fmul_assoc h.fa, (finv_ok h (hr.el h.fa c) h0).2, one_fmul h.fa (hr.el h.fa k)]
/-- the rows behind one step -/
theorem ra_stepR {j : Nat} (ht : t < R.length) (hi : i < R.length) (hj : j < R.length) : ra (stepR p D fs R t c i) j = if j = t then scaleI p D fs (ra R i) c else subI p D fs (if j = i then ra R t else ra R j) (scaleI p D fs (ra R i) c) c := by
  unfold stepR elimP
  rw [ra_mi (by rw [swapR_len]; exact hj)]
  have e : ra (swapR p D fs R t c i) j = if j = t then scaleI p D fs (ra R i) c else if j = i then ra R t else ra R j := by
    unfold swapR
    rw [ra_set (by simpa using ht), ra_set (by simpa using hi), ra_set ht]
    by_cases e1 : t = j
    · rw [if_pos e1, if_pos e1.symm]
    · have e1' : ¬ j = t := fun e => e1 e.symm
      by_cases e2 : i = j
      · rw [if_neg e1, if_pos e2, if_neg e1', if_pos e2.symm]
      · rw [if_neg e1, if_neg e2, if_neg e1, if_neg e1', if_neg (fun e => e2 e.symm)]
  rw [e]
  by_cases e1 : j = t
  · rw [if_neg (by omega), if_pos e1, if_pos e1]
  · rw [if_pos ⟨hj, e1⟩, if_neg e1, if_neg e1]
theorem mem_ra {x : List Int} (h : x ∈ R) : ∃ j, j < R.length ∧ ra R j = x := by
  obtain ⟨j, hj, rfl⟩ := List.getElem_of_mem h
  exact ⟨j, hj, ra_eq hj⟩
theorem sp_step (h : FV p D fs) (hR : Rect p D N R) (ht : t < R.length) (hi : i < R.length) {x : List Int} (hx : Sp p D fs N (stepR p D fs R t c i) x) : Sp p D fs N R x := by
  refine hx.trans h.fa fun r hr => ?_
  obtain ⟨j, hj, rfl⟩ := mem_ra hr
  rw [stepR_len] at hj
  rw [ra_stepR ht hi hj]
  have hP : Sp p D fs N R (scaleI p D fs (ra R i) c) := (Sp.mem h.fa hR (ra_mem hi)).scaleI h
  split
  · exact hP
  · have hr2 : (if j = i then ra R t else ra R j) ∈ R := by split; exact ra_mem ht; exact ra_mem hj
    rw [subI_add h.fa (hR _ hr2)]
    exact (Sp.mem h.fa hR hr2).lin h.fa hP (fneg_el h.fa _)
theorem sp_step' (h : FV p D fs) (hR : Rect p D N R) (ht : t < R.length) (hi : i < R.length) (h0 : cf (ra R i) c ≠ 0) {x : List Int} (hx : Sp p D fs N R x) : Sp p D fs N (stepR p D fs R t c i) x := by
  have hR' : Rect p D N (stepR p D fs R t c i) := hR.stepR h.fa ht hi
  have hmem : ∀ j, j < R.length → Sp p D fs N (stepR p D fs R t c i) (ra (stepR p D fs R t c i) j) := fun j hj => Sp.mem h.fa hR' (ra_mem (by rw [stepR_len]; exact hj))
  have hP := hmem t ht
  rw [ra_stepR ht hi ht, if_pos rfl] at hP
  have hI : Sp p D fs N (stepR p D fs R t c i) (ra R i) := by
    rw [← unscale h (hR.ra hi) h0]
    exact Sp.zero.lin h.fa hP ((hR.ra hi).2 |> fun hh => inEl h.fa.pos hh c)
  have hO : ∀ j, j < R.length → j ≠ t → Sp p D fs N (stepR p D fs R t c i) (if j = i then ra R t else ra R j) := fun j hj hne => by
    have h1 := hmem j hj
    rw [ra_stepR ht hi hj, if_neg hne] at h1
    have hr2 : Rw p D N (if j = i then ra R t else ra R j) := by split; exact hR.ra ht; exact hR.ra hj
    rw [subI_add h.fa hr2] at h1
    have h2 := h1.lin h.fa hP (fneg_el h.fa (fneg p D (cf (if j = i then ra R t else ra R j) c)))
    rwa [addT_back h.fa hr2] at h2
  refine hx.trans h.fa fun r hr => ?_
  obtain ⟨j, hj, rfl⟩ := mem_ra hr
  by_cases hji : j = i
  · rw [hji]; exact hI
  · by_cases hjt : j = t
    · have := hO i hi (fun e => hji (hjt.trans e.symm))
      rw [if_pos rfl] at this
      rw [hjt]; exact this
    · have := hO j hj hjt
      rwa [if_neg hji] at this
theorem red_sp (h : FV p D fs) : ∀ (n c : Nat) {R : List (List Int)} {piv : List Int} {det : Int}, Rect p D N R → ∀ x, Sp p D fs N (red p D fs n c R piv det).1 x ↔ Sp p D fs N R x
  | 0, _, _, _, _, _ => fun x => Iff.rfl
  | n + 1, c, R, piv, det, hR => fun x => by
    rw [red]
    by_cases h0 : R.length ≤ piv.length
    · rw [if_pos h0]
    · rw [if_neg h0]
      cases hz : fnz R piv.length c with
      | none => exact red_sp h n (c + 1) hR x
      | some i =>
        obtain ⟨_, hi, hne, _⟩ := fnz_some hz
        refine (red_sp h n (c + 1) (hR.stepR h.fa (by omega) hi) x).trans ⟨sp_step h hR (by omega) hi, sp_step' h hR (by omega) hi hne⟩

/-! ### echelon forms -/
structure Ech (p : Int) (D N c : Nat) (R : List (List Int)) (piv : List Int) : Prop where
  le : piv.length ≤ R.length
  rc : Rect p D N R
  pv : ∀ i, i < piv.length → 0 ≤ cf piv i ∧ cf piv i < c
  inc : ∀ i j, i < j → j < piv.length → cf piv i < cf piv j
  one : ∀ i, i < piv.length → cf (ra R i) (cf piv i).toNat = 1
  zero : ∀ i j, i < piv.length → j < R.length → j ≠ i → cf (ra R j) (cf piv i).toNat = 0
  lead : ∀ i k, i < piv.length → k < (cf piv i).toNat → cf (ra R i) k = 0
  low : ∀ j k, piv.length ≤ j → j < R.length → k < c → cf (ra R j) k = 0
theorem Ech.start (hR : Rect p D N R) : Ech p D N 0 R [] := ⟨by simp, hR, by simp, by simp, by simp, by simp, by simp, fun _ _ _ _ h => by omega⟩
theorem Ech.up {piv : List Int} (h : Ech p D N c R piv) (hl : R.length ≤ piv.length) {c' : Nat} (hc : c ≤ c') : Ech p D N c' R piv :=
  ⟨h.le, h.rc, fun i hi => by have := h.pv i hi; omega, h.inc, h.one, h.zero, h.lead, fun j k h1 h2 _ => by omega⟩
theorem Ech.none {piv : List Int} (h : Ech p D N c R piv) (hz : fnz R piv.length c = none) : Ech p D N (c + 1) R piv :=
  ⟨h.le, h.rc, fun i hi => by have := h.pv i hi; omega, h.inc, h.one, h.zero, h.lead, fun j k h1 h2 h3 => by
    by_cases e : k = c
    · subst e; exact fnz_none hz h1 h2
    · exact h.low j k h1 h2 (by omega)⟩
theorem Ech.some {piv : List Int} (hf : FV p D fs) (h : Ech p D N c R piv) (hc : c < N) (hz : fnz R piv.length c = some i) : Ech p D N (c + 1) (stepR p D fs R piv.length c i) (piv ++ [(c : Int)]) := by
  obtain ⟨h1, h2, h3, _⟩ := fnz_some hz
  have ht : piv.length < R.length := by omega
  have hri := h.rc.ra h2
  have hP1 : cf (scaleI p D fs (ra R i) c) c = 1 := by
    unfold scaleI; rw [cf_tab (by rw [hri.1]; exact hc), fmul_comm hf.fa]; exact (finv_ok hf (inEl hf.fa.pos hri.2 c) h3).2
  have hP0 : ∀ k, k < c → cf (scaleI p D fs (ra R i) c) k = 0 := fun k hk => by
    unfold scaleI; rw [cf_tab (by rw [hri.1]; omega), h.low i k h1 h2 hk, fmul_zero hf.fa]
  -- the other rows
  have hrw : ∀ j, j < R.length → Rw p D N (if j = i then ra R piv.length else ra R j) := fun j hj => by split; exact h.rc.ra ht; exact h.rc.ra hj
  have hk0 : ∀ j k, j < R.length → j ≠ piv.length → k < c → cf (ra (stepR p D fs R piv.length c i) j) k = cf (if j = i then ra R piv.length else ra R j) k := fun j k hj hne hk => by
    rw [ra_stepR ht h2 hj, if_neg hne, subI_add hf.fa (hrw j hj), cf_addT (by rw [(hrw j hj).1]; omega), hP0 k hk, fmul_zero hf.fa, fsum_zero hf.p2 ((hrw j hj).el hf.fa k)]
  have hkc : ∀ j, j < R.length → j ≠ piv.length → cf (ra (stepR p D fs R piv.length c i) j) c = 0 := fun j hj hne => by
    rw [ra_stepR ht h2 hj, if_neg hne, subI_add hf.fa (hrw j hj), cf_addT (by rw [(hrw j hj).1]; omega), hP1, fmul_one hf.fa (fneg_el hf.fa _), fneg_self hf.fa ((hrw j hj).el hf.fa c)]
  have hT : ra (stepR p D fs R piv.length c i) piv.length = scaleI p D fs (ra R i) c := by rw [ra_stepR ht h2 ht, if_pos rfl]
  have hpl : (piv ++ [(c : Int)]).length = piv.length + 1 := by simp
  refine ⟨by rw [stepR_len, hpl]; omega, h.rc.stepR hf.fa ht h2, ?_, ?_, ?_, ?_, ?_, ?_⟩
  · intro k hk
    rw [hpl] at hk
    by_cases e : k = piv.length
    · rw [cf_appR e]; omega
    · rw [cf_appL (by omega)]; have := h.pv k (by omega); omega
  · intro k l hkl hl
    rw [hpl] at hl
    by_cases e : l = piv.length
    · rw [cf_appR e, cf_appL (by omega)]; exact (h.pv k (by omega)).2
    · rw [cf_appL (by omega), cf_appL (by omega)]; exact h.inc k l hkl (by omega)
  · intro k hk
    rw [hpl] at hk
    by_cases e : k = piv.length
    · rw [cf_appR e, e, hT, Int.toNat_natCast]; exact hP1
    · have hp := h.pv k (by omega)
      rw [cf_appL (by omega), hk0 k _ (by omega) e (by omega), if_neg (by omega)]; exact h.one k (by omega)
  · intro k j hk hj hne
    rw [hpl] at hk; rw [stepR_len] at hj
    by_cases e : k = piv.length
    · rw [cf_appR e, Int.toNat_natCast]; exact hkc j hj (by omega)
    · have hp := h.pv k (by omega)
      rw [cf_appL (by omega)]
      by_cases ej : j = piv.length
      · rw [ej, hT]; exact hP0 _ (by omega)
      · rw [hk0 j _ hj ej (by omega)]
        split
        · exact h.zero k _ (by omega) ht (by omega)
        · exact h.zero k j (by omega) hj hne
  · intro k l hk hl
    rw [hpl] at hk
    by_cases e : k = piv.length
    · rw [cf_appR e, Int.toNat_natCast] at hl
      rw [e, hT]; exact hP0 l hl
    · have hp := h.pv k (by omega)
      rw [cf_appL (by omega)] at hl
      rw [hk0 k l (by omega) e (by omega), if_neg (by omega)]; exact h.lead k l (by omega) hl
  · intro j k hj1 hj2 hk
    rw [hpl] at hj1; rw [stepR_len] at hj2
    by_cases e : k = c
    · rw [e]; exact hkc j hj2 (by omega)
    · rw [hk0 j k hj2 (by omega) (by omega)]
      split
      · exact h.low _ k (by omega) ht (by omega)
      · exact h.low j k (by omega) hj2 (by omega)
theorem red_ech (hf : FV p D fs) : ∀ (n c : Nat) {R : List (List Int)} {piv : List Int} {det : Int}, c + n ≤ N → Ech p D N c R piv → Ech p D N (c + n) (red p D fs n c R piv det).1 (red p D fs n c R piv det).2.1
  | 0, _, _, _, _, _, h => h
  | n + 1, c, R, piv, det, hc, h => by
    rw [red]
    by_cases h0 : R.length ≤ piv.length
    · rw [if_pos h0]; exact h.up h0 (by omega)
    · rw [if_neg h0]
      cases hz : fnz R piv.length c with
      | none => have := red_ech hf n (c + 1) (det := 0) (by omega) (h.none hz); rwa [show c + 1 + n = c + (n + 1) by omega] at this
      | some i =>
        have := red_ech hf n (c + 1) (det := fmul p D fs (if i = piv.length then det else fsum p D 0 det (-1)) (cf (ra R i) c)) (by omega) (h.some hf (by omega) hz)
        rwa [show c + 1 + n = c + (n + 1) by omega] at this

/-! ### what is left of a row behind the rows of an echelon form -/
def rst (p : Int) (D : Nat) (fs : List Int) (R : List (List Int)) (piv : List Int) : Nat → List Int → List Int
  | 0, x => x
  | k + 1, x => addT p D fs (rst p D fs R piv k x) (ra R k) (fneg p D (cf (rst p D fs R piv k x) (cf piv k).toNat))
variable {piv : List Int} {x y : List Int}
theorem rst_rw (h : FA p D fs) (hx : Rw p D N x) : ∀ k, Rw p D N (rst p D fs R piv k x)
  | 0 => hx
  | k + 1 => (rst_rw h hx k).add h _ _
theorem fneg_add (h : FA p D fs) (a b : Int) : fneg p D (fsum p D a b 1) = fsum p D (fneg p D a) (fneg p D b) 1 := by
  unfold fneg
  refine (fsum_el h.pos _ _ _).ext h.pos (fsum_el h.pos _ _ _) fun j hj => ?_
  simp only [dc_fsum h.pos hj, dc_zero]
  have e : ∀ a b : Int, (0 + -1 * ((a + 1 * b) % p)) % p = ((0 + -1 * a) % p + 1 * ((0 + -1 * b) % p)) % p := by
    intro a b
    rw [Int.one_mul, Int.one_mul, Int.emod_add_emod, Int.add_emod_emod, Int.zero_add, Int.mul_emod, Int.emod_emod_of_dvd _ (Int.dvd_refl p), ← Int.mul_emod]
    congr 1; omega
  exact e _ _
theorem rst_lin (h : FA p D fs) (hx : Rw p D N x) (hy : Rw p D N y) (f : Int) (hpv : ∀ i, i < piv.length → (cf piv i).toNat < N) : ∀ k, k ≤ piv.length → rst p D fs R piv k (addT p D fs x y f) = addT p D fs (rst p D fs R piv k x) (rst p D fs R piv k y) f
  | 0, _ => rfl
  | k + 1, hk => by
    have hX := rst_rw (fs := fs) (R := R) (piv := piv) h hx k
    have hY := rst_rw (fs := fs) (R := R) (piv := piv) h hy k
    have hp := hpv k (by omega)
    rw [rst, rst_lin h hx hy f hpv k (by omega), rst, rst]
    generalize rst p D fs R piv k x = X at *
    generalize rst p D fs R piv k y = Y at *
    rw [addT_addT h (hX.add h _ _) hY, addT_swap h hX (ra R k) Y, addT_sum h (hX.add h _ _)]
    congr 1
    rw [cf_addT (by rw [hX.1]; exact hp), fneg_add h]
    congr 1
    unfold fneg
    rw [fmul_neg h]
theorem rst_skip (h : FA p D fs) (hx : Rw p D N x) : ∀ k, (∀ i, i < k → cf x (cf piv i).toNat = 0) → rst p D fs R piv k x = x
  | 0, _ => rfl
  | k + 1, hz => by
    rw [rst, rst_skip h hx k (fun i hi => hz i (by omega)), hz k (by omega), fneg_0 h, addT_f0 h hx]
theorem rst_zr (h : FA p D fs) (k : Nat) : rst p D fs R piv k (zr N) = zr N := rst_skip h (Rw.zr h N) k fun i _ => cf_zr _ _
theorem rst_from {j : Nat} (h : FA p D fs) (hz : rst p D fs R piv j x = zr N) : ∀ m, rst p D fs R piv (j + m) x = zr N
  | 0 => hz
  | m + 1 => by rw [← Nat.add_assoc, rst, rst_from h hz m, cf_zr, fneg_0 h, addT_f0 h (Rw.zr h N)]
theorem rst_row (h : FA p D fs) (hE : Ech p D N N R piv) (hx : x ∈ R) : rst p D fs R piv piv.length x = zr N := by
  obtain ⟨j, hj, rfl⟩ := mem_ra hx
  have hw : Rw p D N (ra R j) := hE.rc.ra hj
  by_cases hjt : j < piv.length
  · have h1 : rst p D fs R piv (j + 1) (ra R j) = zr N := by
      rw [rst, rst_skip h hw j (fun i hi => hE.zero i j (by omega) hj (by omega)), hE.one j hjt]
      exact Rw.ext (hw.add h _ _).1 (zr_len _) fun k hk => by
        rw [cf_addT (by rw [hw.1]; exact hk), cf_zr, neg_fmul h, one_fmul h (hw.el h k), fneg_self h (hw.el h k)]
    have := rst_from h h1 (piv.length - (j + 1))
    rwa [show j + 1 + (piv.length - (j + 1)) = piv.length by omega] at this
  · rw [rst_skip h hw _ (fun i hi => hE.zero i j hi hj (by omega))]
    exact Rw.ext hw.1 (zr_len _) fun k hk => by rw [cf_zr]; exact hE.low j k (by omega) hj hk
theorem Ech.pvN (hE : Ech p D N N R piv) : ∀ i, i < piv.length → (cf piv i).toNat < N := fun i hi => by have := hE.pv i hi; omega
theorem rst_sp (h : FA p D fs) (hE : Ech p D N N R piv) (hx : Sp p D fs N R x) : rst p D fs R piv piv.length x = zr N := by
  induction hx with
  | zero => exact rst_zr h _
  | add hy hr _ ih => rw [rst_lin h (hy.rw h) (hE.rc _ hr) _ hE.pvN _ (Nat.le_refl _), ih, rst_row h hE hr, addT_zr h (Rw.zr h N)]
theorem sp_rst (h : FA p D fs) (hE : Ech p D N N R piv) (hx : Rw p D N x) : ∀ k, k ≤ piv.length → (Sp p D fs N R (rst p D fs R piv k x) ↔ Sp p D fs N R x)
  | 0, _ => Iff.rfl
  | k + 1, hk => by
    refine Iff.trans ?_ (sp_rst h hE hx k (by omega))
    have hm : Sp p D fs N R (ra R k) := Sp.mem h hE.rc (ra_mem (by have := hE.le; omega))
    have hX := rst_rw (fs := fs) (R := R) (piv := piv) h hx k
    rw [rst]
    generalize rst p D fs R piv k x = X at *
    refine ⟨fun hs => ?_, fun hs => hs.lin h hm (fneg_el h _)⟩
    have := hs.lin h hm (fneg_el h (fneg p D (cf X (cf piv k).toNat)))
    rwa [addT_back h hX] at this
theorem span_iff (h : FA p D fs) (hE : Ech p D N N R piv) (hx : Rw p D N x) : Sp p D fs N R x ↔ rst p D fs R piv piv.length x = zr N :=
  ⟨rst_sp h hE, fun e => (sp_rst h hE hx _ (Nat.le_refl _)).1 (by rw [e]; exact .zero)⟩
theorem rst_at (h : FA p D fs) (hE : Ech p D N N R piv) (hx : Rw p D N x) : ∀ k, k ≤ piv.length → ∀ i, i < k → cf (rst p D fs R piv k x) (cf piv i).toNat = 0
  | 0, _ => fun i hi => by omega
  | k + 1, hk => fun i hi => by
    have hX := rst_rw (fs := fs) (R := R) (piv := piv) h hx k
    have ih := rst_at h hE hx k (by omega)
    have hp := hE.pvN i (by omega)
    rw [rst]
    generalize rst p D fs R piv k x = X at *
    rw [cf_addT (by rw [hX.1]; exact hp)]
    by_cases e : i = k
    · rw [e, hE.one k (by omega), fmul_one h (fneg_el h _), fneg_self h (hX.el h _)]
    · rw [hE.zero i k (by omega) (by have := hE.le; omega) (fun e' => e e'.symm), fmul_zero h, ih i (by omega), fsum_zero h.p2 (el_zero h)]

/-! ### the columns in which rows of a span begin -/
def Ld (p : Int) (D : Nat) (fs : List Int) (N : Nat) (R : List (List Int)) (k : Nat) : Prop := ∃ x, Sp p D fs N R x ∧ k < N ∧ cf x k ≠ 0 ∧ ∀ j, j < k → cf x j = 0
theorem ld_piv (h : FA p D fs) (hE : Ech p D N N R piv) {k : Nat} : Ld p D fs N R k ↔ (k : Int) ∈ piv := by
  constructor
  · rintro ⟨x, hx, hk, h0, hz⟩
    refine Classical.byContradiction fun hno => h0 ?_
    have hw := hx.rw h
    have key : ∀ j, j ≤ piv.length → cf (rst p D fs R piv j x) k = cf x k ∧ ∀ l, l < k → cf (rst p D fs R piv j x) l = 0 := by
      intro j
      induction j with
      | zero => intro _; exact ⟨rfl, hz⟩
      | succ j ih =>
        intro hj
        obtain ⟨i1, i2⟩ := ih (by omega)
        have hX := rst_rw (fs := fs) (R := R) (piv := piv) h hw j
        rw [rst]
        generalize rst p D fs R piv j x = X at *
        have hp := hE.pv j (by omega)
        have hne : cf piv j ≠ k := fun e => hno (by rw [← e]; exact cf_mem (by omega))
        by_cases hlt : (cf piv j).toNat < k
        · rw [i2 _ hlt, fneg_0 h, addT_f0 h hX]; exact ⟨i1, i2⟩
        · have hz : ∀ l, l ≤ k → cf (ra R j) l = 0 := fun l hl => hE.lead j l (by omega) (by omega)
          refine ⟨?_, fun l hl => ?_⟩
          · rw [cf_addT (by rw [hX.1]; exact hk), hz k (Nat.le_refl _), fmul_zero h, fsum_zero h.p2 (hX.el h k)]; exact i1
          · rw [cf_addT (by rw [hX.1]; omega), hz l (by omega), fmul_zero h, fsum_zero h.p2 (hX.el h l)]; exact i2 l hl
    have := (key _ (Nat.le_refl _)).1
    rw [rst_sp h hE hx, cf_zr] at this
    exact this.symm
  · intro hk
    obtain ⟨i, hi, he⟩ := List.getElem_of_mem hk
    have hc : cf piv i = k := by rw [cf_eq hi]; exact he
    have hp := hE.pv i hi
    have hil : i < R.length := by have := hE.le; omega
    refine ⟨ra R i, Sp.mem h hE.rc (ra_mem hil), by omega, ?_, ?_⟩
    · have := hE.one i hi; rw [hc, Int.toNat_natCast] at this; rw [this]; decide
    · intro j hj; exact hE.lead i j hi (by rw [hc]; exact hj)
theorem first_nz {x : List Int} (n : Nat) : (∀ j, j < n → cf x j = 0) ∨ ∃ k, k < n ∧ cf x k ≠ 0 ∧ ∀ j, j < k → cf x j = 0 := by
  induction n with
  | zero => exact .inl fun j h => by omega
  | succ n ih =>
    rcases ih with ih | ⟨k, h1, h2, h3⟩
    · by_cases e : cf x n = 0
      · exact .inl fun j hj => by
          by_cases ej : j = n
          · rw [ej]; exact e
          · exact ih j (by omega)
      · exact .inr ⟨n, by omega, e, ih⟩
    · exact .inr ⟨k, by omega, h2, h3⟩
theorem Ech.nodup {c : Nat} (hE : Ech p D N c R piv) : piv.Nodup := by
  rw [List.nodup_iff_pairwise_ne, List.pairwise_iff_getElem]
  intro i j hi hj hij
  have := hE.inc i j hij hj
  rw [cf_eq hi, cf_eq hj] at this
  omega
theorem Ech.nat {c : Nat} (hE : Ech p D N c R piv) {a : Int} (ha : a ∈ piv) : ((a.toNat : Nat) : Int) = a := by
  obtain ⟨i, hi, he⟩ := List.getElem_of_mem ha
  have := hE.pv i hi
  rw [cf_eq hi, he] at this
  omega
/-- the rank stays as it is if and only if the new row lies in the span -/
theorem rank_has (h : FV p D fs) {m : List (List Int)} {v : List Int} (hm : Rect p D N m) (hv : Rw p D N v) :
    ((red p D fs N 0 (m ++ [v]) [] 1).2.1.length = (red p D fs N 0 m [] 1).2.1.length) ↔ rst p D fs (red p D fs N 0 m [] 1).1 (red p D fs N 0 m [] 1).2.1 (red p D fs N 0 m [] 1).2.1.length v = zr N := by
  have hmv : Rect p D N (m ++ [v]) := fun r hr => by
    rcases List.mem_append.1 hr with hr | hr
    · exact hm r hr
    · simp at hr; subst hr; exact hv
  have eA := red_ech h N 0 (det := 1) (by omega) (Ech.start hm)
  have eB := red_ech h N 0 (det := 1) (by omega) (Ech.start hmv)
  have sA := red_sp h N 0 (piv := []) (det := 1) hm
  have sB := red_sp h N 0 (piv := []) (det := 1) hmv
  generalize red p D fs N 0 (m ++ [v]) [] 1 = B at *
  generalize red p D fs N 0 m [] 1 = A at *
  rw [Nat.zero_add] at eA eB
  have hsub : ∀ x, Sp p D fs N m x → Sp p D fs N (m ++ [v]) x := fun x hx => hx.trans h.fa fun r hr => Sp.mem h.fa hmv (List.mem_append_left _ hr)
  have hAB : A.2.1 ⊆ B.2.1 := fun a ha => by
    have en := eA.nat ha
    rw [← en] at ha ⊢
    obtain ⟨x, hx, hk, h0, hz⟩ := (ld_piv h.fa eA).2 ha
    exact (ld_piv h.fa eB).1 ⟨x, (sB x).2 (hsub x ((sA x).1 hx)), hk, h0, hz⟩
  have hle := List.Nodup.length_le_of_subset eA.nodup hAB
  rw [← span_iff h.fa eA hv]
  constructor
  · intro hl
    refine Classical.byContradiction fun hno => ?_
    have hne : rst p D fs A.1 A.2.1 A.2.1.length v ≠ zr N := fun e => hno ((span_iff h.fa eA hv).2 e)
    have hw := rst_rw (fs := fs) (R := A.1) (piv := A.2.1) h.fa hv A.2.1.length
    rcases first_nz (x := rst p D fs A.1 A.2.1 A.2.1.length v) N with hz | ⟨k, hk, h0, hz⟩
    · exact hne (Rw.ext hw.1 (zr_len _) fun k hk => by rw [cf_zr]; exact hz k hk)
    · have hvB : Sp p D fs N B.1 v := (sB v).2 (Sp.mem h.fa hmv (by simp))
      have hAB2 : ∀ r ∈ A.1, Sp p D fs N B.1 r := fun r hr => (sB r).2 (hsub r ((sA r).1 (Sp.mem h.fa eA.rc hr)))
      have hrs : ∀ j, j ≤ A.2.1.length → Sp p D fs N B.1 (rst p D fs A.1 A.2.1 j v) := by
        intro j
        induction j with
        | zero => intro _; exact hvB
        | succ j ih => intro hj; exact (ih (by omega)).lin h.fa (hAB2 _ (ra_mem (by have := eA.le; omega))) (fneg_el h.fa _)
      have hkB := (ld_piv h.fa eB).1 ⟨_, hrs _ (Nat.le_refl _), hk, h0, hz⟩
      have hkA : (k : Int) ∉ A.2.1 := fun hk => by
        obtain ⟨i, hi, he⟩ := List.getElem_of_mem hk
        have := rst_at h.fa eA hv _ (Nat.le_refl _) i hi
        rw [cf_eq hi, he, Int.toNat_natCast] at this
        exact h0 this
      have := List.Nodup.length_le_of_subset (l₁ := (k : Int) :: A.2.1) (l₂ := B.2.1) (List.nodup_cons.2 ⟨hkA, eA.nodup⟩) (by
        intro a ha
        rcases List.mem_cons.1 ha with rfl | ha
        · exact hkB
        · exact hAB ha)
      simp at this
      omega
  · intro hs
    have hBA : B.2.1 ⊆ A.2.1 := fun a ha => by
      have en := eB.nat ha
      rw [← en] at ha ⊢
      obtain ⟨x, hx, hk, h0, hz⟩ := (ld_piv h.fa eB).2 ha
      refine (ld_piv h.fa eA).1 ⟨x, ?_, hk, h0, hz⟩
      refine ((sB x).1 hx).trans h.fa fun r hr => ?_
      rcases List.mem_append.1 hr with hr | hr
      · exact (sA r).2 (Sp.mem h.fa hm hr)
      · simp at hr; subst hr; exact hs
    have := List.Nodup.length_le_of_subset eB.nodup hBA
    omega
end

end Go.Proofs.Ytpfgbbbjldpnnaa
