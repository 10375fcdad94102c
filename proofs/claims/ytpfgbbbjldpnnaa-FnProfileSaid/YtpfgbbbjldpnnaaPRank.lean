/- Ranks of subsets and next subsets, in plain terms. -/
import Derived.Test.YtpfgbbbjldpnnaaPStr
namespace Go.Proofs.Ytpfgbbbjldpnnaa
set_option linter.unusedSimpArgs false
set_option linter.unusedVariables false

def pasOk (n k : Nat) : Bool := decide (choose n k = choose (n - 1) (k - 1) + choose (n - 1) k)
theorem pas_check : ((List.range 33).all fun n => n == 0 || (List.range 34).all fun k => pasOk n k) = true := by decide +kernel
/-- Pascal's rule -/
theorem pascal {n k : Int} (h0 : 1 ≤ n) (h1 : n ≤ 32) (h2 : 0 ≤ k) : choose n k = choose (n - 1) (k - 1) + choose (n - 1) k := by
  by_cases hk : k ≤ 33
  · obtain ⟨n, rfl⟩ := Int.eq_ofNat_of_zero_le (show 0 ≤ n by omega)
    obtain ⟨k, rfl⟩ := Int.eq_ofNat_of_zero_le h2
    have h := pas_check
    rw [List.all_eq_true] at h
    have h := h n (List.mem_range.2 (by omega))
    have hn : (n == 0) = false := by simp; omega
    rw [hn, Bool.false_or, List.all_eq_true] at h
    have h := h k (List.mem_range.2 (by omega))
    simpa [pasOk] using h
  · unfold choose
    rw [if_neg (by omega), if_neg (by omega), if_neg (by omega)]; rfl
theorem choose_0 {n : Int} (h0 : 0 ≤ n) (h1 : n ≤ 32) : choose n 0 = 1 := by
  unfold choose; rw [if_pos (by omega)]; rfl
theorem choose_gt {n k : Int} (h : n < k) : choose n k = 0 := by unfold choose; rw [if_neg (by omega)]
theorem choose_neg {n k : Int} (h : k < 0) : choose n k = 0 := by unfold choose; rw [if_neg (by omega)]
theorem choose_self : ∀ n : Nat, n ≤ 32 → choose n n = 1
  | 0, _ => choose_0 (by omega) (by omega)
  | n + 1, h => by
    have h1 := pascal (n := ((n + 1 : Nat) : Int)) (k := ((n + 1 : Nat) : Int)) (by omega) (by omega) (by omega)
    have h2 := choose_self n (by omega)
    rw [choose_gt (n := ((n + 1 : Nat) : Int) - 1) (k := ((n + 1 : Nat) : Int)) (by omega)] at h1
    rw [h1, show ((n + 1 : Nat) : Int) - 1 = n by push_cast; omega, h2]; rfl

/-- the rank of what is left of a set, from x on -/
def rkF (n : Int) : Int → List Int → Int
  | _, [] => 0
  | x, a :: r => choose (n - x) (r.length + 1) - choose (n - a) (r.length + 1) + rkF n (a + 1) r

theorem unrF_ok {n k : Int} (n1 : n ≤ 32) : ∀ (f : Nat) (x l r : Int), 0 ≤ x → x + f = n → 0 ≤ l → l ≤ k → 0 ≤ r → r < choose (n - x) (k - l) →
    incB (x - 1) n (unrF n k f x l r) = true ∧ ((unrF n k f x l r).length : Int) = k - l ∧ rkF n x (unrF n k f x l r) = r
  | 0, x, l, r, h0, hf, hl, hlk, hr, h => by
    have hx : n - x = 0 := by omega
    rw [hx] at h
    by_cases he : k - l = 0
    · rw [he, choose_0 (by omega) (by omega)] at h
      simp [unrF, incB, rkF]; omega
    · rw [choose_gt (by omega)] at h; omega
  | f + 1, x, l, r, h0, hf, hl, hlk, hr, h => by
    rw [unrF]
    by_cases hlt : l < k
    · rw [if_pos ⟨hlt, by omega⟩]
      have hp := pascal (n := n - x) (k := k - l) (by omega) (by omega) (by omega)
      have e1 : n - x - 1 = n - 1 - x := by omega
      have e2 : k - l - 1 = k - 1 - l := by omega
      rw [e1, e2] at hp
      by_cases hc : r < choose (n - 1 - x) (k - 1 - l)
      · rw [if_pos hc]
        have ih := unrF_ok (k := k) n1 f (x + 1) (l + 1) r (by omega) (by omega) (by omega) (by omega) hr (by rw [show n - (x + 1) = n - 1 - x by omega, show k - (l + 1) = k - 1 - l by omega]; exact hc)
        obtain ⟨i1, i2, i3⟩ := ih
        refine ⟨?_, ?_, ?_⟩
        · rw [incB, if_neg (show ¬ (x ≤ x - 1 ∨ n ≤ x) by omega)]; rw [show x + 1 - 1 = x by omega] at i1; exact i1
        · rw [List.length_cons]; push_cast; omega
        · rw [rkF, i3]; omega
      · rw [if_neg hc]
        have ih := unrF_ok (k := k) n1 f (x + 1) l (r - choose (n - 1 - x) (k - 1 - l)) (by omega) (by omega) hl hlk (by omega) (by rw [show n - (x + 1) = n - 1 - x by omega]; omega)
        obtain ⟨i1, i2, i3⟩ := ih
        generalize unrF n k f (x + 1) l (r - choose (n - 1 - x) (k - 1 - l)) = xs at i1 i2 i3 ⊢
        cases xs with
        | nil => simp at i2; omega
        | cons a t =>
          refine ⟨?_, i2, ?_⟩
          · rw [incB] at i1 ⊢
            split at i1
            · cases i1
            · rename_i hn; rw [if_neg (by omega)]; exact i1
          · rw [rkF] at i3 ⊢
            have e3 : (t.length : Int) + 1 = k - l := by simp only [List.length_cons] at i2; push_cast at i2; exact i2
            rw [e3] at i3 ⊢
            rw [show n - (x + 1) = n - 1 - x by omega] at i3
            omega
    · have he : k - l = 0 := by omega
      rw [if_neg (by omega)]
      rw [he, choose_0 (by omega) (by omega)] at h
      simp [incB, rkF]; omega

/-- the next set, from the front -/
def nxR (n : Int) : List Int → Option (List Int)
  | [] => none
  | a :: r => match nxR n r with
    | some r' => some (a :: r')
    | none => if a = n - (r.length + 1) then none else some ((List.range (r.length + 1)).map fun (d : Nat) => a + 1 + (d : Int))

theorem pn_cons (a : Int) (r : List Int) (i : Nat) : pn (a :: r) (i + 1) = pn r i := by simp [pn]
theorem nxtI_cons (n a : Int) (r : List Int) : ∀ i : Nat, i ≤ r.length → nxtI n (a :: r) (i + 1) = match nxtI n r i with | some r' => some (a :: r') | none => nxtI n (a :: r) 1
  | 0, _ => by rw [show nxtI n r 0 = none from rfl]
  | i + 1, h => by
    have ih := nxtI_cons n a r i (by omega)
    have e1 : ((a :: r).length : Int) = r.length + 1 := by simp
    by_cases hc : pn r i = n - r.length + i
    · have h1 : nxtI n r (i + 1) = nxtI n r i := by rw [nxtI, if_pos hc]
      have h2 : nxtI n (a :: r) (i + 1 + 1) = nxtI n (a :: r) (i + 1) := by rw [nxtI, if_pos (by rw [pn_cons, e1]; push_cast; omega)]
      rw [h1, h2, ih]
    · have h1 : nxtI n r (i + 1) = some (r.take i ++ (List.range (r.length - i)).map fun (d : Nat) => pn r i + 1 + (d : Int)) := by rw [nxtI, if_neg hc]
      have h2 : nxtI n (a :: r) (i + 1 + 1) = some ((a :: r).take (i + 1) ++ (List.range ((a :: r).length - (i + 1))).map fun (d : Nat) => pn (a :: r) (i + 1) + 1 + (d : Int)) := by rw [nxtI, if_neg (by rw [pn_cons, e1]; push_cast; omega)]
      rw [h1, h2, pn_cons]
      simp only [List.take_succ_cons, List.length_cons, Nat.add_sub_add_right, List.cons_append]
theorem nxt_nxR (n : Int) : ∀ xs : List Int, nxt n xs = nxR n xs
  | [] => rfl
  | a :: r => by
    have ih := nxt_nxR n r
    unfold nxt at ih ⊢
    rw [List.length_cons, nxtI_cons n a r r.length (Nat.le_refl _), ih, nxR]
    cases nxR n r with
    | some r' => rfl
    | none =>
      show nxtI n (a :: r) 1 = _
      rw [nxtI]
      have e1 : ((a :: r).length : Int) = r.length + 1 := by simp
      have e2 : pn (a :: r) 0 = a := by simp [pn]
      rw [e1, e2]
      by_cases h : a = n - (r.length + 1)
      · rw [if_pos (by push_cast; omega), if_pos h]; rfl
      · rw [if_neg (by push_cast; omega), if_neg h]; rfl

/-- the run a, a + 1, .. -/
def runL (a : Int) : Nat → List Int
  | 0 => []
  | m + 1 => a :: runL (a + 1) m
theorem runL_len (a : Int) (m : Nat) : (runL a m).length = m := by
  induction m generalizing a with
  | zero => rfl
  | succ m ih => simp [runL, ih]
theorem range_runL (a : Int) (m : Nat) : ((List.range m).map fun (d : Nat) => a + (d : Int)) = runL a m := by
  induction m generalizing a with
  | zero => rfl
  | succ m ih =>
    rw [List.range_succ_eq_map, List.map_cons, List.map_map, runL, ← ih (a + 1)]
    congr 1
    · simp
    · apply List.map_congr_left
      intro d _
      simp only [Function.comp_apply]; push_cast; omega
theorem incB_runL {n : Int} : ∀ (m : Nat) (a last : Int), last < a → a + m ≤ n → incB last n (runL a m) = true
  | 0, _, _, _, _ => rfl
  | m + 1, a, last, h1, h2 => by
    rw [runL, incB, if_neg (by push_cast at h2; omega)]
    exact incB_runL m (a + 1) a (by omega) (by push_cast at h2; omega)
theorem rkF_runL {n : Int} : ∀ (m : Nat) (a : Int), rkF n a (runL a m) = 0
  | 0, _ => rfl
  | m + 1, a => by rw [runL, rkF, rkF_runL m (a + 1)]; omega
/-- a set at the end -/
theorem inc_len {n : Int} : ∀ {xs : List Int} {last : Int}, incB last n xs = true → last < n → (xs.length : Int) ≤ n - 1 - last
  | [], last, h, h1 => by simp; omega
  | x :: r, last, h, h1 => by
    rw [incB] at h
    split at h
    · cases h
    · have := inc_len h (by omega)
      simp only [List.length_cons]; push_cast; omega

/-- one comes behind the other in the order of lists -/
def lexLt : List Int → List Int → Prop
  | a :: r, b :: s => a < b ∨ a = b ∧ lexLt r s
  | _, _ => False

theorem nxR_ok {n : Int} (n1 : n ≤ 32) : ∀ (xs : List Int) (x : Int), 0 ≤ x → x ≤ n → incB (x - 1) n xs = true →
    match nxR n xs with
    | none => rkF n x xs = choose (n - x) xs.length - 1
    | some ys => incB (x - 1) n ys = true ∧ ys.length = xs.length ∧ rkF n x ys = rkF n x xs + 1 ∧ lexLt xs ys
  | [], x, h0, h1, _ => by
    show rkF n x [] = _
    rw [rkF, show (([] : List Int).length : Int) = 0 from rfl, choose_0 (by omega) (by omega)]; omega
  | a :: r, x, h0, h1, hi => by
    rw [incB] at hi
    split at hi
    · cases hi
    · rename_i ha
      have ih := nxR_ok n1 r (a + 1) (by omega) (by omega) (by rw [show a + 1 - 1 = a by omega]; exact hi)
      rw [nxR]
      cases hr : nxR n r with
      | some r' =>
        rw [hr] at ih
        obtain ⟨i1, i2, i3, i4⟩ := ih
        refine ⟨?_, by simp [i2], ?_, .inr ⟨rfl, i4⟩⟩
        · rw [incB, if_neg ha]; rw [show a + 1 - 1 = a by omega] at i1; exact i1
        · rw [rkF, rkF, i3, i2]; omega
      | none =>
        rw [hr] at ih
        simp only at ih
        have hlen := inc_len hi (by omega)
        by_cases he : a = n - (r.length + 1)
        · rw [if_pos he]
          show rkF n x (a :: r) = _
          have e1 : n - (a + 1) = r.length := by omega
          have e2 : n - a = ((r.length + 1 : Nat) : Int) := by push_cast; omega
          rw [rkF, ih, e1, choose_self _ (by omega), e2, List.length_cons]
          push_cast
          have h5 : choose ((r.length : Int) + 1) (r.length + 1) = 1 := by have := choose_self (r.length + 1) (by omega); push_cast at this; exact this
          rw [h5]; omega
        · rw [if_neg he]
          have e0 : ((List.range (r.length + 1)).map fun (d : Nat) => a + 1 + (d : Int)) = runL (a + 1) (r.length + 1) := range_runL _ _
          rw [e0]
          have hp := pascal (n := n - a) (k := r.length + 1) (by omega) (by omega) (by omega)
          rw [show (r.length : Int) + 1 - 1 = r.length by omega, show n - a - 1 = n - (a + 1) by omega] at hp
          refine ⟨incB_runL _ _ _ (by omega) (by push_cast; omega), by rw [runL_len]; rfl, ?_, .inl (by omega)⟩
          rw [runL, rkF, rkF, rkF_runL, runL_len, ih]
          omega

theorem hockey {n m : Int} (n1 : n ≤ 32) (hm : 1 ≤ m) : ∀ (d : Nat) (x : Int), 0 ≤ x → x + d ≤ n → choose (n - (x + d)) m ≤ choose (n - x) m
  | 0, x, _, _ => by simp
  | d + 1, x, h0, h1 => by
    have ih := hockey n1 hm d (x + 1) (by omega) (by push_cast at h1; omega)
    have hp := pascal (n := n - x) (k := m) (by push_cast at h1; omega) (by omega) (by omega)
    have hb := (choose_bd (n - x - 1) (m - 1)).1
    rw [show n - (x + ((d + 1 : Nat) : Int)) = n - (x + 1 + d) by push_cast; omega]
    rw [show n - (x + 1) = n - x - 1 by omega] at ih
    omega
theorem rkF_bd {n : Int} (n1 : n ≤ 32) : ∀ (xs : List Int) (x : Int), 0 ≤ x → x ≤ n → incB (x - 1) n xs = true → rkF n x xs < choose (n - x) xs.length
  | [], x, h0, h1, _ => by
    rw [rkF, show (([] : List Int).length : Int) = 0 from rfl, choose_0 (by omega) (by omega)]; omega
  | a :: r, x, h0, h1, hi => by
    rw [incB] at hi
    split at hi
    · cases hi
    · rename_i ha
      have ih := rkF_bd n1 r (a + 1) (by omega) (by omega) (by rw [show a + 1 - 1 = a by omega]; exact hi)
      have hp := pascal (n := n - a) (k := r.length + 1) (by omega) (by omega) (by omega)
      rw [show (r.length : Int) + 1 - 1 = r.length by omega, show n - a - 1 = n - (a + 1) by omega] at hp
      have hb := (choose_bd (n - (a + 1)) (r.length + 1)).1
      rw [rkF, List.length_cons]; push_cast
      omega

/-- all that the law on ranks says of a set -/
theorem rank_ok {n k r : Int} (n0 : 0 ≤ n) (n1 : n ≤ 32) (k0 : 0 ≤ k) (k1 : k ≤ n) (r0 : 0 ≤ r) (r1 : r < choose n k) :
    incB (-1) n (subsAt n k r) = true ∧ ((subsAt n k r).length : Int) = k ∧ rkF n 0 (subsAt n k r) = r ∧
    match nxt n (subsAt n k r) with
    | none => r + 1 = choose n k
    | some ys => r + 1 < choose n k ∧ incB (-1) n ys = true ∧ rkF n 0 ys = r + 1 ∧ lexLt (subsAt n k r) ys := by
  have h := unrF_ok n1 (k := k) n.toNat 0 0 r (by omega) (by omega) (by omega) k0 r0 (by rw [show n - 0 = n by omega, show k - 0 = k by omega]; exact r1)
  rw [show (0 : Int) - 1 = -1 by omega] at h
  have e : unrF n k n.toNat 0 0 r = subsAt n k r := rfl
  rw [e] at h
  obtain ⟨h1, h2, h3⟩ := h
  have h2' : ((subsAt n k r).length : Int) = k := by omega
  refine ⟨h1, h2', h3, ?_⟩
  have hn := nxR_ok n1 (subsAt n k r) 0 (by omega) n0 h1
  rw [nxt_nxR]
  cases hx : nxR n (subsAt n k r) with
  | none =>
    rw [hx] at hn
    simp only at hn ⊢
    rw [h3, h2', show n - 0 = n by omega] at hn; omega
  | some ys =>
    rw [hx] at hn
    obtain ⟨i1, i2, i3, i4⟩ := hn
    refine ⟨?_, i1, by rw [i3, h3], i4⟩
    have hb := rkF_bd n1 ys 0 (by omega) n0 i1
    rw [i3, h3, i2, h2', show n - 0 = n by omega] at hb
    exact hb
end Go.Proofs.Ytpfgbbbjldpnnaa
