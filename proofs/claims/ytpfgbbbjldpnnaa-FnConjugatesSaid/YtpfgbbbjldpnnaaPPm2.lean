/- The list of the cycles of a permutation, as the program goes through it; orders; powers. In plain terms. -/
import Derived.Test.YtpfgbbbjldpnnaaPm4
namespace Go.Proofs.Ytpfgbbbjldpnnaa
set_option linter.unusedSimpArgs false
set_option linter.unusedVariables false
/-- what the list of cycles is -/
structure CyOk (xs : List Int) (C : List (List Int)) : Prop where
  shape : ∀ t, t < C.length → ∃ m, m < xs.length ∧ xat C t = cyP xs m (clen xs.length (pf xs) m)
  all : ∀ y, y < xs.length → ∃ t k, t < C.length ∧ k < (xat C t).length ∧ nth (xat C t) k = (y : Int)
  nodup : C.flatten.Nodup
  sum : C.flatten.length = xs.length
theorem flatten_ofN (l : List (List Nat)) : (l.map ofN).flatten = ofN l.flatten := by
  induction l with
  | nil => rfl
  | cons a r ih => rw [List.map_cons, List.flatten_cons, ih, List.flatten_cons]; simp [ofN]
theorem ofN_nodup {l : List Nat} (h : l.Nodup) : (ofN l).Nodup := by
  unfold ofN
  rw [List.nodup_iff_pairwise_ne, List.pairwise_map]
  exact (List.nodup_iff_pairwise_ne.1 h).imp fun hne e => hne (by omega)
theorem cycs_mem {n : Nat} {p : Nat → Nat} : ∀ {m : Nat} {c : List Nat}, c ∈ cycs n p m → ∃ x, x < m ∧ c = cycL n p x
  | 0, c, h => by simp [cycs] at h
  | m + 1, c, h => by
    rw [cycs, List.mem_append] at h
    rcases h with h | h
    · obtain ⟨x, hx, e⟩ := cycs_mem h
      exact ⟨x, by omega, e⟩
    · split at h
      · simp at h; exact ⟨m, by omega, h⟩
      · simp at h
theorem mem_nth {xs : List Int} {x : Int} (h : x ∈ xs) : ∃ k, k < xs.length ∧ nth xs k = x := by
  obtain ⟨k, hk, e⟩ := List.getElem_of_mem h
  exact ⟨k, hk, by rw [nth_eq hk]; exact e⟩
theorem cyOk {xs : List Int} (h : IsP xs) : CyOk xs (cyM xs xs.length) where
  shape t ht := by
    have hm := xat_mem ht
    unfold cyM at hm
    obtain ⟨c, hc, e⟩ := List.mem_map.1 hm
    obtain ⟨x, hx, rfl⟩ := cycs_mem hc
    refine ⟨x, hx, ?_⟩
    rw [cyP_all]; exact e.symm
  all y hy := by
    have hin : y ∈ (cycs xs.length (pf xs) xs.length).flatten := (mem_cycs h.bij (Nat.le_refl _)).2 ⟨y, hy, (mem_cycL h.bij hy).2 ⟨0, rfl⟩⟩
    obtain ⟨c, hc, hyc⟩ := List.mem_flatten.1 hin
    have hC : ofN c ∈ cyM xs xs.length := List.mem_map.2 ⟨c, hc, rfl⟩
    obtain ⟨t, ht, e⟩ := List.getElem_of_mem hC
    have hy2 : (y : Int) ∈ ofN c := List.mem_map.2 ⟨y, hyc, rfl⟩
    obtain ⟨k, hk, e2⟩ := mem_nth hy2
    exact ⟨t, k, ht, by rw [xat_eq ht, e]; exact hk, by rw [xat_eq ht, e]; exact e2⟩
  nodup := by unfold cyM; rw [flatten_ofN]; exact ofN_nodup (cycs_nodup h.bij (Nat.le_refl _))
  sum := by unfold cyM; rw [flatten_ofN, ofN_len]; exact cycs_sum h.bij
theorem nth_cyP {xs : List Int} {m j k : Nat} (h : k < j) : nth (cyP xs m j) k = ((it (pf xs) k m : Nat) : Int) := by simp [cyP, nth, h]
/-- a cycle, number by number -/
structure Cyc (xs : List Int) (c : List Int) : Prop where
  pos : 1 ≤ c.length
  le : c.length ≤ xs.length
  el : ∀ k, k < c.length → 0 ≤ nth c k ∧ nth c k < xs.length
  next : ∀ k, k < c.length → nth c ((k + 1) % c.length) = nth xs (nth c k).toNat
  pw : ∀ k (e : Int), k < c.length → nth c (((k : Int) + e) % (c.length : Int)).toNat = ((ipw xs.length (pf xs) e (nth c k).toNat : Nat) : Int)
  len : ∀ k, k < c.length → clen xs.length (pf xs) (nth c k).toNat = c.length
theorem CyOk.cyc {xs : List Int} {C : List (List Int)} (h : CyOk xs C) (hp : IsP xs) {t : Nat} (ht : t < C.length) : Cyc xs (xat C t) := by
  obtain ⟨m, hm, e⟩ := h.shape t ht
  have hc := clen_ok hp.bij hm
  have hl : (xat C t).length = clen xs.length (pf xs) m := by rw [e, cyP_len]
  have hpos := hc.pos
  refine ⟨by rw [hl]; exact hc.pos, by rw [hl]; exact hc.le, fun k hk => ?_, fun k hk => ?_, fun k E hk => ?_, fun k hk => ?_⟩
  · rw [hl] at hk
    rw [e, nth_cyP hk]
    have := it_lt hp.bij hm k; omega
  · rw [hl] at hk ⊢
    rw [e, nth_cyP hk, nth_cyP (Nat.mod_lt _ (by omega)), Int.toNat_natCast, hc.mod, nth_pf hp (it_lt hp.bij hm k)]
    rfl
  · rw [hl] at hk ⊢
    have h1 := Int.emod_nonneg ((k : Int) + E) (show (clen xs.length (pf xs) m : Int) ≠ 0 by omega)
    have h2 := Int.emod_lt_of_pos ((k : Int) + E) (show 0 < (clen xs.length (pf xs) m : Int) by omega)
    rw [e, nth_cyP hk, nth_cyP (by omega), Int.toNat_natCast, ipw_cyc hp.bij hm]
  · rw [hl] at hk ⊢
    rw [e, nth_cyP hk, Int.toNat_natCast]
    exact (clen_ok hp.bij (it_lt hp.bij hm k)).uniq (hc.it hp.bij hm k)
/-- a number of a later place is not among those of earlier ones -/
theorem CyOk.fresh {xs : List Int} {C : List (List Int)} (h : CyOk xs C) {t k : Nat} (ht : t < C.length) (hk : k < (xat C t).length) : nth (xat C t) k ∉ (C.take t).flatten ++ (xat C t).take k := by
  have hs : C.flatten = (C.take t).flatten ++ ((xat C t).take k ++ (nth (xat C t) k :: ((xat C t).drop (k + 1) ++ (C.drop (t + 1)).flatten))) := by
    conv => lhs; rw [← List.take_append_drop t C, drop_xat ht]
    rw [List.flatten_append, List.flatten_cons]
    congr 1
    rw [← List.cons_append, ← drop_nth hk, ← List.append_assoc, List.take_append_drop]
  have hn := h.nodup
  rw [hs, ← List.append_assoc, List.nodup_append] at hn
  exact fun hm => hn.2.2 _ hm _ (by simp) rfl
/-- the power of a permutation -/
def powL (xs : List Int) (e : Int) : List Int := (List.range xs.length).map fun y => ((ipw xs.length (pf xs) e y : Nat) : Int)
theorem powL_len (xs : List Int) (e : Int) : (powL xs e).length = xs.length := by simp [powL]
theorem nth_powL {xs : List Int} {e : Int} {y : Nat} (h : y < xs.length) : nth (powL xs e) y = ((ipw xs.length (pf xs) e y : Nat) : Int) := by simp [powL, nth, h]
/-- an exponent that all cycles divide -/
def AllDv (C : List (List Int)) (e : Nat) : Prop := ∀ t, t < C.length → e % (xat C t).length = 0
theorem powL_one {xs : List Int} {C : List (List Int)} (h : CyOk xs C) (hp : IsP xs) {e : Nat} (he : AllDv C e) : powL xs e = iot xs.length ∧ ∀ k : Int, powL xs (k + e) = powL xs k := by
  have key : ∀ y, y < xs.length → (e : Int) % (clen xs.length (pf xs) y : Int) = 0 := fun y hy => by
    obtain ⟨t, k, ht, hk, e2⟩ := h.all y hy
    have hl := (h.cyc hp ht).len k hk
    rw [e2, Int.toNat_natCast] at hl
    rw [hl]
    have := he t ht
    omega
  constructor
  · refine nth_ext (by rw [powL_len, iot_len]) fun y hy => ?_
    rw [powL_len] at hy
    rw [nth_powL hy, nth_iot hy, ipw_id (key y hy)]
  · intro k
    refine nth_ext (by rw [powL_len, powL_len]) fun y hy => ?_
    rw [powL_len] at hy
    rw [nth_powL hy, nth_powL hy, ipw_add (key y hy)]
/-! ### the least common multiple, bounded -/
theorem cube_le : ∀ l : Nat, 1 ≤ l → l * l * l ≤ 3 ^ l
  | 0, h => by omega
  | 1, _ => by decide
  | 2, _ => by decide
  | l + 3, _ => by
    have key : ∀ m : Nat, (m + 3) * (m + 3) * (m + 3) ≤ 3 ^ (m + 3) := by
      intro m
      induction m with
      | zero => decide
      | succ m ih =>
        rw [show m + 1 + 3 = (m + 3) + 1 by omega, Nat.pow_succ]
        have h2 : (m + 3 + 1) * (m + 3 + 1) * (m + 3 + 1) ≤ (m + 3) * (m + 3) * (m + 3) * 3 := by
          have e1 : (m + 3 + 1) * (m + 3 + 1) * (m + 3 + 1) = m * m * m + 12 * (m * m) + 48 * m + 64 := by grind
          have e2 : (m + 3) * (m + 3) * (m + 3) * 3 = 3 * (m * m * m) + 27 * (m * m) + 81 * m + 81 := by grind
          rw [e1, e2]; omega
        exact Nat.le_trans h2 (Nat.mul_le_mul_right 3 ih)
    exact key l
/-- one step: e is at most the product -/
theorem lcm_step {e l s : Nat} (he : 1 ≤ e) (hl : 1 ≤ l) (hb : e * e * e ≤ 3 ^ s) : 1 ≤ e / Nat.gcd e l * l ∧ (e / Nat.gcd e l * l) % e = 0 ∧ (e / Nat.gcd e l * l) % l = 0 ∧ (e / Nat.gcd e l * l) * (e / Nat.gcd e l * l) * (e / Nat.gcd e l * l) ≤ 3 ^ (s + l) := by
  have hg : 0 < Nat.gcd e l := Nat.gcd_pos_of_pos_left _ he
  have h1 : e / Nat.gcd e l * Nat.gcd e l = e := Nat.div_mul_cancel (Nat.gcd_dvd_left e l)
  have h2 : l / Nat.gcd e l * Nat.gcd e l = l := Nat.div_mul_cancel (Nat.gcd_dvd_right e l)
  have hq : 1 ≤ e / Nat.gcd e l := by
    refine Nat.le_of_not_lt fun h => ?_
    rw [Nat.lt_one_iff.1 h] at h1; omega
  have hle : e / Nat.gcd e l ≤ e := Nat.div_le_self _ _
  refine ⟨Nat.le_trans hl (by have := Nat.mul_le_mul hq (Nat.le_refl l); omega), ?_, Nat.mul_mod_left _ _, ?_⟩
  · have key : ∀ a c g e l : Nat, a * g = e → c * g = l → a * l = e * c := by
      intro a c g e l h1 h2
      subst h1 h2
      grind
    have : e / Nat.gcd e l * l = e * (l / Nat.gcd e l) := key _ _ _ _ _ h1 h2
    rw [this]; exact Nat.mul_mod_right _ _
  · generalize e / Nat.gcd e l = q at *
    have a1 : q * l ≤ e * l := Nat.mul_le_mul_right l hle
    have a2 := Nat.mul_le_mul (Nat.mul_le_mul a1 a1) a1
    have a3 : e * l * (e * l) * (e * l) = e * e * e * (l * l * l) := by grind
    rw [a3] at a2
    rw [Nat.pow_add]
    exact Nat.le_trans a2 (Nat.mul_le_mul hb (cube_le l hl))
theorem cube_small {e : Nat} (h : e * e * e ≤ 3 ^ 32) : e ≤ 200000 := by
  refine Nat.le_of_not_lt fun hlt => ?_
  have h1 : 200001 ≤ e := hlt
  have := Nat.mul_le_mul (Nat.mul_le_mul h1 h1) h1
  have h3 : (3 : Nat) ^ 32 < 200001 * 200001 * 200001 := by decide
  omega
end Go.Proofs.Ytpfgbbbjldpnnaa
