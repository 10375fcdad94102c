/- Walks: the cycles of a permutation. Walks: SignOf; the law FnPermutations. Walks: CyclesOf, SignOf and OrderOfPermutation of any list, powers, permutations made of cycles, types. -/
import Derived.Test.YtpfgbbbjldpnnaaPm3
import Derived.Test.YtpfgbbbjldpnnaaBo
import Derived.Test.YtpfgbbbjldpnnaaPCyc2
import Derived.Test.YtpfgbbbjldpnnaaSet
import Derived.Test.YtpfgbbbjldpnnaaNum2
namespace Go.Proofs.Ytpfgbbbjldpnnaa
set_option linter.unusedSimpArgs false
set_option linter.unusedVariables false
open Go.RowKit
attribute [local go_sem ↓] Go.wp_at_zero Go.wp_at_succ


def ofN (l : List Nat) : List Int := l.map fun k : Nat => (k : Int)
theorem ofN_len (l : List Nat) : (ofN l).length = l.length := by simp [ofN]
/-- the cycles that numbers below m lead -/
noncomputable def cyM (xs : List Int) (m : Nat) : List (List Int) := (cycs xs.length (pf xs) m).map ofN
/-- the first j numbers of the cycle of x -/
def cyP (xs : List Int) (x j : Nat) : List Int := (List.range j).map fun i => ((it (pf xs) i x : Nat) : Int)
theorem cyP_succ (xs : List Int) (x j : Nat) : cyP xs x (j + 1) = cyP xs x j ++ [((it (pf xs) j x : Nat) : Int)] := by simp [cyP, List.range_succ]
theorem cyP_len (xs : List Int) (x j : Nat) : (cyP xs x j).length = j := by simp [cyP]
theorem cyP_all (xs : List Int) (x : Nat) : cyP xs x (clen xs.length (pf xs) x) = ofN (cycL xs.length (pf xs) x) := by simp [cyP, ofN, cycL]
theorem cyM_yes {xs : List Int} {m : Nat} (h : Lead (pf xs) m) : cyM xs (m + 1) = cyM xs m ++ [cyP xs m (clen xs.length (pf xs) m)] := by
  unfold cyM; rw [cycs, if_pos h, cyP_all]; simp
theorem cyM_no {xs : List Int} {m : Nat} (h : ¬ Lead (pf xs) m) : cyM xs (m + 1) = cyM xs m := by
  unfold cyM; rw [cycs, if_neg h]; simp
theorem cyM_len (xs : List Int) (m : Nat) : (cyM xs m).length ≤ m := by
  unfold cyM; rw [List.length_map, cycs_len]
  induction m with
  | zero => simp [cyc]
  | succ m ih => rw [cyc]; split <;> omega
/-- what is seen: all cycles that numbers below m lead, and the first j numbers of that of m -/
def Seen (xs : List Int) (m j : Nat) (s : List Bool) : Prop := s.length = xs.length ∧ ∀ y, y < xs.length → (bat s y = true ↔ y ∈ (cycs xs.length (pf xs) m).flatten ∨ ∃ i, i < j ∧ y = it (pf xs) i m)
theorem Seen.start (xs : List Int) : Seen xs 0 0 (List.replicate xs.length false) := ⟨by simp, fun y hy => by rw [bat_rep]; simp [cycs]⟩
theorem Seen.step {xs : List Int} {m j : Nat} {s : List Bool} (h : Seen xs m j s) (hp : IsP xs) (hm : m < xs.length) : Seen xs m (j + 1) (s.set (it (pf xs) j m) true) := by
  have hlt := it_lt hp.bij hm j
  refine ⟨by rw [List.length_set]; exact h.1, fun y hy => ?_⟩
  rw [bat_set (by rw [h.1]; exact hlt)]
  by_cases e : it (pf xs) j m = y
  · rw [if_pos e]; exact ⟨fun _ => .inr ⟨j, by omega, e.symm⟩, fun _ => rfl⟩
  · rw [if_neg e, h.2 y hy]
    constructor
    · rintro (h1 | ⟨i, hi, e2⟩)
      · exact .inl h1
      · exact .inr ⟨i, by omega, e2⟩
    · rintro (h1 | ⟨i, hi, e2⟩)
      · exact .inl h1
      · refine .inr ⟨i, ?_, e2⟩
        refine Nat.lt_of_le_of_ne (by omega) fun e3 => e ?_
        rw [e2, e3]
theorem Seen.no {xs : List Int} {m : Nat} {s : List Bool} (h : Seen xs m 0 s) (hp : IsP xs) (hm : m < xs.length) (hL : ¬ Lead (pf xs) m) : bat s m = true ∧ Seen xs (m + 1) 0 s := by
  have hs := fun hh => hL ((lead_seen hp.bij hm).2 hh)
  refine ⟨(h.2 m hm).2 (.inl (Classical.byContradiction hs)), h.1, fun y hy => ?_⟩
  rw [h.2 y hy, cycs, if_neg hL]; simp
theorem Seen.fresh {xs : List Int} {m j : Nat} {s : List Bool} (h : Seen xs m j s) (hp : IsP xs) (hm : m < xs.length) (hL : Lead (pf xs) m) (hj : j < clen xs.length (pf xs) m) : bat s (it (pf xs) j m) = false := by
  have hlt := it_lt hp.bij hm j
  have hc := clen_ok hp.bij hm
  cases e : bat s (it (pf xs) j m) with
  | false => rfl
  | true =>
    rcases (h.2 _ hlt).1 e with h1 | ⟨i, hi, e2⟩
    · exact absurd h1 (lead_fresh hp.bij hm hL ((mem_cycL hp.bij hm).2 ⟨j, rfl⟩))
    · have := hc.inj hp.bij hm hj (by omega) e2; omega
theorem Seen.back {xs : List Int} {m : Nat} {s : List Bool} (h : Seen xs m (clen xs.length (pf xs) m) s) (hp : IsP xs) (hm : m < xs.length) (hL : Lead (pf xs) m) : bat s (it (pf xs) (clen xs.length (pf xs) m) m) = true ∧ Seen xs (m + 1) 0 s := by
  have hc := clen_ok hp.bij hm
  have hb := hc.back
  refine ⟨?_, h.1, fun y hy => ?_⟩
  · rw [hb]; exact (h.2 m hm).2 (.inr ⟨0, hc.pos, rfl⟩)
  · rw [h.2 y hy, cycs, if_pos hL]
    simp only [List.flatten_append, List.flatten_cons, List.flatten_nil, List.append_nil, List.mem_append]
    constructor
    · rintro (h1 | ⟨i, hi, rfl⟩)
      · exact .inl (.inl h1)
      · exact .inl (.inr ((mem_cycL hp.bij hm).2 ⟨i, rfl⟩))
    · rintro ((h1 | h1) | ⟨i, hi, _⟩)
      · exact .inl h1
      · unfold cycL at h1
        obtain ⟨i, hi, rfl⟩ := List.mem_map.1 h1
        exact .inr ⟨i, List.mem_range.1 hi, rfl⟩
      · omega
theorem rowsI_snoc {us : List Value} {R : List (List Int)} (hl : us.length = R.length) (u : Value) (xs : List Int) : rowsI (us ++ [u]) (R ++ [xs]) = rowsI us R ++ [row 2 u (iv xs)] := rowsI_app hl u xs


theorem cyM_cyc (xs : List Int) (m : Nat) : (cyM xs m).length = cyc m (pf xs) := by unfold cyM; rw [List.length_map, cycs_len]
theorem sgL_eq (xs : List Int) : sgL xs = if (xs.length - (cyM xs xs.length).length) % 2 = 0 then 1 else -1 := by unfold sgL sgn; rw [cyM_cyc]

theorem sgL_pm (xs : List Int) : sgL xs = 1 ∨ sgL xs = -1 := sgn_pm _ _
/-- what the list of cycles is -/
structure CyOk (xs : List Int) (C : List (List Int)) : Prop where
  shape : ∀ t, t < C.length → ∃ m, m < xs.length ∧ xat C t = cyP xs m (clen xs.length (pf xs) m)
  all : ∀ y, y < xs.length → ∃ t k, t < C.length ∧ k < (xat C t).length ∧ nth (xat C t) k = (y : Int)
  nodup : C.flatten.Nodup
  sum : C.flatten.length = xs.length
theorem flatten_ofN (l : List (List Nat)) : (l.map ofN).flatten = ofN l.flatten := by
  induction l with
  | nil => rfl
  | cons a r ih => rw [List.map_cons, List.flatten_cons, ih, List.flatten_cons]; simp [ofN]
theorem ofN_nodup {l : List Nat} (h : l.Nodup) : (ofN l).Nodup := by
  unfold ofN
  rw [List.nodup_iff_pairwise_ne, List.pairwise_map]
  exact (List.nodup_iff_pairwise_ne.1 h).imp fun hne e => hne (by omega)
theorem cycs_mem {n : Nat} {p : Nat → Nat} : ∀ {m : Nat} {c : List Nat}, c ∈ cycs n p m → ∃ x, x < m ∧ c = cycL n p x
  | 0, c, h => by simp [cycs] at h
  | m + 1, c, h => by
    rw [cycs, List.mem_append] at h
    rcases h with h | h
    · obtain ⟨x, hx, e⟩ := cycs_mem h
      exact ⟨x, by omega, e⟩
    · split at h
      · simp at h; exact ⟨m, by omega, h⟩
      · simp at h
theorem mem_nth {xs : List Int} {x : Int} (h : x ∈ xs) : ∃ k, k < xs.length ∧ nth xs k = x := by
  obtain ⟨k, hk, e⟩ := List.getElem_of_mem h
  exact ⟨k, hk, by rw [nth_eq hk]; exact e⟩
theorem cyOk {xs : List Int} (h : IsP xs) : CyOk xs (cyM xs xs.length) where
  shape t ht := by
    have hm := xat_mem ht
    unfold cyM at hm
    obtain ⟨c, hc, e⟩ := List.mem_map.1 hm
    obtain ⟨x, hx, rfl⟩ := cycs_mem hc
    refine ⟨x, hx, ?_⟩
    rw [cyP_all]; exact e.symm
  all y hy := by
    have hin : y ∈ (cycs xs.length (pf xs) xs.length).flatten := (mem_cycs h.bij (Nat.le_refl _)).2 ⟨y, hy, (mem_cycL h.bij hy).2 ⟨0, rfl⟩⟩
    obtain ⟨c, hc, hyc⟩ := List.mem_flatten.1 hin
    have hC : ofN c ∈ cyM xs xs.length := List.mem_map.2 ⟨c, hc, rfl⟩
    obtain ⟨t, ht, e⟩ := List.getElem_of_mem hC
    have hy2 : (y : Int) ∈ ofN c := List.mem_map.2 ⟨y, hyc, rfl⟩
    obtain ⟨k, hk, e2⟩ := mem_nth hy2
    exact ⟨t, k, ht, by rw [xat_eq ht, e]; exact hk, by rw [xat_eq ht, e]; exact e2⟩
  nodup := by unfold cyM; rw [flatten_ofN]; exact ofN_nodup (cycs_nodup h.bij (Nat.le_refl _))
  sum := by unfold cyM; rw [flatten_ofN, ofN_len]; exact cycs_sum h.bij
theorem nth_cyP {xs : List Int} {m j k : Nat} (h : k < j) : nth (cyP xs m j) k = ((it (pf xs) k m : Nat) : Int) := by simp [cyP, nth, h]
/-- a cycle, number by number -/
structure Cyc (xs : List Int) (c : List Int) : Prop where
  pos : 1 ≤ c.length
  le : c.length ≤ xs.length
  el : ∀ k, k < c.length → 0 ≤ nth c k ∧ nth c k < xs.length
  next : ∀ k, k < c.length → nth c ((k + 1) % c.length) = nth xs (nth c k).toNat
  pw : ∀ k (e : Int), k < c.length → nth c (((k : Int) + e) % (c.length : Int)).toNat = ((ipw xs.length (pf xs) e (nth c k).toNat : Nat) : Int)
  len : ∀ k, k < c.length → clen xs.length (pf xs) (nth c k).toNat = c.length
theorem CyOk.cyc {xs : List Int} {C : List (List Int)} (h : CyOk xs C) (hp : IsP xs) {t : Nat} (ht : t < C.length) : Cyc xs (xat C t) := by
  obtain ⟨m, hm, e⟩ := h.shape t ht
  have hc := clen_ok hp.bij hm
  have hl : (xat C t).length = clen xs.length (pf xs) m := by rw [e, cyP_len]
  have hpos := hc.pos
  refine ⟨by rw [hl]; exact hc.pos, by rw [hl]; exact hc.le, fun k hk => ?_, fun k hk => ?_, fun k E hk => ?_, fun k hk => ?_⟩
  · rw [hl] at hk
    rw [e, nth_cyP hk]
    have := it_lt hp.bij hm k; omega
  · rw [hl] at hk ⊢
    rw [e, nth_cyP hk, nth_cyP (Nat.mod_lt _ (by omega)), Int.toNat_natCast, hc.mod, nth_pf hp (it_lt hp.bij hm k)]
    rfl
  · rw [hl] at hk ⊢
    have h1 := Int.emod_nonneg ((k : Int) + E) (show (clen xs.length (pf xs) m : Int) ≠ 0 by omega)
    have h2 := Int.emod_lt_of_pos ((k : Int) + E) (show 0 < (clen xs.length (pf xs) m : Int) by omega)
    rw [e, nth_cyP hk, nth_cyP (by omega), Int.toNat_natCast, ipw_cyc hp.bij hm]
  · rw [hl] at hk ⊢
    rw [e, nth_cyP hk, Int.toNat_natCast]
    exact (clen_ok hp.bij (it_lt hp.bij hm k)).uniq (hc.it hp.bij hm k)
/-- a number of a later place is not among those of earlier ones -/
theorem CyOk.fresh {xs : List Int} {C : List (List Int)} (h : CyOk xs C) {t k : Nat} (ht : t < C.length) (hk : k < (xat C t).length) : nth (xat C t) k ∉ (C.take t).flatten ++ (xat C t).take k := by
  have hs : C.flatten = (C.take t).flatten ++ ((xat C t).take k ++ (nth (xat C t) k :: ((xat C t).drop (k + 1) ++ (C.drop (t + 1)).flatten))) := by
    conv => lhs; rw [← List.take_append_drop t C, drop_xat ht]
    rw [List.flatten_append, List.flatten_cons]
    congr 1
    rw [← List.cons_append, ← drop_nth hk, ← List.append_assoc, List.take_append_drop]
  have hn := h.nodup
  rw [hs, ← List.append_assoc, List.nodup_append] at hn
  exact fun hm => hn.2.2 _ hm _ (by simp) rfl
/-- the power of a permutation -/
def powL (xs : List Int) (e : Int) : List Int := (List.range xs.length).map fun y => ((ipw xs.length (pf xs) e y : Nat) : Int)
theorem powL_len (xs : List Int) (e : Int) : (powL xs e).length = xs.length := by simp [powL]
theorem nth_powL {xs : List Int} {e : Int} {y : Nat} (h : y < xs.length) : nth (powL xs e) y = ((ipw xs.length (pf xs) e y : Nat) : Int) := by simp [powL, nth, h]
/-- an exponent that all cycles divide -/
def AllDv (C : List (List Int)) (e : Nat) : Prop := ∀ t, t < C.length → e % (xat C t).length = 0
theorem powL_one {xs : List Int} {C : List (List Int)} (h : CyOk xs C) (hp : IsP xs) {e : Nat} (he : AllDv C e) : powL xs e = iot xs.length ∧ ∀ k : Int, powL xs (k + e) = powL xs k := by
  have key : ∀ y, y < xs.length → (e : Int) % (clen xs.length (pf xs) y : Int) = 0 := fun y hy => by
    obtain ⟨t, k, ht, hk, e2⟩ := h.all y hy
    have hl := (h.cyc hp ht).len k hk
    rw [e2, Int.toNat_natCast] at hl
    rw [hl]
    have := he t ht
    omega
  constructor
  · refine nth_ext (by rw [powL_len, iot_len]) fun y hy => ?_
    rw [powL_len] at hy
    rw [nth_powL hy, nth_iot hy, ipw_id (key y hy)]
  · intro k
    refine nth_ext (by rw [powL_len, powL_len]) fun y hy => ?_
    rw [powL_len] at hy
    rw [nth_powL hy, nth_powL hy, ipw_add (key y hy)]
/-! ### the least common multiple, bounded -/
theorem cube_le : ∀ l : Nat, 1 ≤ l → l * l * l ≤ 3 ^ l
  | 0, h => by omega
  | 1, _ => by decide
  | 2, _ => by decide
  | l + 3, _ => by
    have key : ∀ m : Nat, (m + 3) * (m + 3) * (m + 3) ≤ 3 ^ (m + 3) := by
      intro m
      induction m with
      | zero => decide
      | succ m ih =>
        rw [show m + 1 + 3 = (m + 3) + 1 by omega, Nat.pow_succ]
        have h2 : (m + 3 + 1) * (m + 3 + 1) * (m + 3 + 1) ≤ (m + 3) * (m + 3) * (m + 3) * 3 := by
          have e1 : (m + 3 + 1) * (m + 3 + 1) * (m + 3 + 1) = m * m * m + 12 * (m * m) + 48 * m + 64 := by grind
          have e2 : (m + 3) * (m + 3) * (m + 3) * 3 = 3 * (m * m * m) + 27 * (m * m) + 81 * m + 81 := by grind
          rw [e1, e2]; omega
        exact Nat.le_trans h2 (Nat.mul_le_mul_right 3 ih)
    exact key l
/-- one step: e is at most the product -/
theorem lcm_step {e l s : Nat} (he : 1 ≤ e) (hl : 1 ≤ l) (hb : e * e * e ≤ 3 ^ s) : 1 ≤ e / Nat.gcd e l * l ∧ (e / Nat.gcd e l * l) % e = 0 ∧ (e / Nat.gcd e l * l) % l = 0 ∧ (e / Nat.gcd e l * l) * (e / Nat.gcd e l * l) * (e / Nat.gcd e l * l) ≤ 3 ^ (s + l) := by
  have hg : 0 < Nat.gcd e l := Nat.gcd_pos_of_pos_left _ he
  have h1 : e / Nat.gcd e l * Nat.gcd e l = e := Nat.div_mul_cancel (Nat.gcd_dvd_left e l)
  have h2 : l / Nat.gcd e l * Nat.gcd e l = l := Nat.div_mul_cancel (Nat.gcd_dvd_right e l)
  have hq : 1 ≤ e / Nat.gcd e l := by
    refine Nat.le_of_not_lt fun h => ?_
    rw [Nat.lt_one_iff.1 h] at h1; omega
  have hle : e / Nat.gcd e l ≤ e := Nat.div_le_self _ _
  refine ⟨Nat.le_trans hl (by have := Nat.mul_le_mul hq (Nat.le_refl l); omega), ?_, Nat.mul_mod_left _ _, ?_⟩
  · have key : ∀ a c g e l : Nat, a * g = e → c * g = l → a * l = e * c := by
      intro a c g e l h1 h2
      subst h1 h2
      grind
    have : e / Nat.gcd e l * l = e * (l / Nat.gcd e l) := key _ _ _ _ _ h1 h2
    rw [this]; exact Nat.mul_mod_right _ _
  · generalize e / Nat.gcd e l = q at *
    have a1 : q * l ≤ e * l := Nat.mul_le_mul_right l hle
    have a2 := Nat.mul_le_mul (Nat.mul_le_mul a1 a1) a1
    have a3 : e * l * (e * l) * (e * l) = e * e * e * (l * l * l) := by grind
    rw [a3] at a2
    rw [Nat.pow_add]
    exact Nat.le_trans a2 (Nat.mul_le_mul hb (cube_le l hl))
theorem cube_small {e : Nat} (h : e * e * e ≤ 3 ^ 32) : e ≤ 200000 := by
  refine Nat.le_of_not_lt fun hlt => ?_
  have h1 : 200001 ≤ e := hlt
  have := Nat.mul_le_mul (Nat.mul_le_mul h1 h1) h1
  have h3 : (3 : Nat) ^ 32 < 200001 * 200001 * 200001 := by decide
  omega


theorem sz_c (v : Value) (xs : List Int) (w : World) (hv : RdI w v xs) : Calls Try.prog 60 #[v] w fun e w' => e = .returned (.int .i64 xs.length) ∧ w = w' := by
  have hln := hv.len
  go_enter Try.func60, Try.ntmps60
  go_wp2_with fail
  go_ret
  exact ⟨rfl, rfl⟩
/-- the cycles, none of a list that is no permutation -/
noncomputable def cyV (xs : List Int) : List (List Int) := if pvB xs then cyM xs xs.length else []
theorem take_fl {C : List (List Int)} {t : Nat} (ht : t < C.length) : (C.take (t + 1)).flatten = (C.take t).flatten ++ xat C t := by
  rw [take_xat ht, List.flatten_append]; simp
theorem take_fl_le (C : List (List Int)) (t : Nat) : (C.take t).flatten.length ≤ C.flatten.length := by
  conv => rhs; rw [← List.take_append_drop t C, List.flatten_append, List.length_append]
  omega
/-- what an order is -/
def OrdV (w : World) (xs : List Int) (e : Ending) (w' : World) : Prop := ∃ E : Nat, e = .returned (.int .i64 E) ∧ 1 ≤ E ∧ E ≤ 200000 ∧ AllDv (cyM xs xs.length) E ∧ St w.heap.size w w' []

end Go.Proofs.Ytpfgbbbjldpnnaa
