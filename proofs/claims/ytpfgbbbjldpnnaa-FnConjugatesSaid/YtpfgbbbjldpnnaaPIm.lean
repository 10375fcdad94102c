/- Images of sets under permutations; ranks of permutations. In plain terms. -/
import Derived.Test.YtpfgbbbjldpnnaaPPm
import Derived.Test.YtpfgbbbjldpnnaaPSet
import Derived.Test.YtpfgbbbjldpnnaaSrt
namespace Go.Proofs.Ytpfgbbbjldpnnaa
set_option linter.unusedSimpArgs false
set_option linter.unusedVariables false
theorem incB_pw : ∀ {xs : List Int} {l n : Int}, incB l n xs = true → xs.Pairwise (· < ·)
  | [], _, _, _ => List.Pairwise.nil
  | x :: t, l, n, h => by
    unfold incB at h; split at h
    · simp at h
    · exact List.Pairwise.cons (fun y hy => (incB_gt h y hy).1) (incB_pw h)
theorem incB_of : ∀ {xs : List Int} {l n : Int}, (∀ x ∈ xs, l < x ∧ x < n) → xs.Pairwise (· < ·) → incB l n xs = true
  | [], _, _, _, _ => rfl
  | x :: t, l, n, h, hp => by
    have h1 := h x (by simp)
    have h2 := List.pairwise_cons.1 hp
    unfold incB
    rw [if_neg (by omega)]
    exact incB_of (fun y hy => ⟨h2.1 y hy, (h y (by simp [hy])).2⟩) h2.2
theorem pw_nodup {xs : List Int} (h : xs.Pairwise (· < ·)) : xs.Nodup := List.nodup_iff_pairwise_ne.2 (h.imp fun h => by omega)
theorem pw_le {xs : List Int} (h : xs.Pairwise (· < ·)) : xs.Pairwise (· ≤ ·) := h.imp fun h => by omega
theorem pw_lt {xs : List Int} (h : xs.Pairwise (· ≤ ·)) (hn : xs.Nodup) : xs.Pairwise (· < ·) :=
  (List.Pairwise.and h (List.nodup_iff_pairwise_ne.1 hn)).imp fun ⟨a, b⟩ => by omega
theorem srt_up (xs : List Int) : (srt xs).Pairwise (· ≤ ·) := msort_sorted xs
/-- the image of a set -/
def imL (xs ss : List Int) : List Int := srt (ss.map fun x => nth xs x.toNat)
theorem imL_len (xs ss : List Int) : (imL xs ss).length = ss.length := by unfold imL; rw [srt_len, List.length_map]
theorem imL_set {xs ss : List Int} (h : IsP xs) (hs : incB (-1) xs.length ss = true) : incB (-1) xs.length (imL xs ss) = true := by
  have hm := fun x hx => incB_gt hs x hx
  refine incB_of (fun x hx => ?_) (pw_lt (srt_up _) ?_)
  · obtain ⟨y, hy, rfl⟩ := List.mem_map.1 ((srt_perm _).mem_iff.1 hx)
    have := hm y hy
    have := h.lt y.toNat (by omega)
    omega
  · refine (srt_perm _).nodup_iff.2 ?_
    rw [List.nodup_iff_pairwise_ne, List.pairwise_map]
    refine (incB_pw hs).imp_of_mem fun {a b} ha hb hab e => ?_
    have h1 := hm a ha
    have h2 := hm b hb
    have := h.inj a.toNat b.toNat (by omega) (by omega) e
    omega
theorem imL_cmp {xs ys ss : List Int} (h : IsP xs) (hs : incB (-1) xs.length ss = true) : imL ys (imL xs ss) = imL (cmpL xs ys) ss := by
  have hm := fun x hx => incB_gt hs x hx
  refine sorted_eq ?_ (srt_up _) (srt_up _)
  refine (srt_perm _).trans (((srt_perm _).map _).trans ?_)
  rw [List.map_map]
  refine (List.Perm.of_eq ?_).trans (srt_perm _).symm
  refine List.map_congr_left fun x hx => ?_
  have := hm x hx
  rw [nth_cmpL (by omega)]
  rfl
/-! ### ranks -/
def fctl : Nat → Nat
  | 0 => 1
  | n + 1 => (n + 1) * fctl n
theorem fctl_pos : ∀ n, 1 ≤ fctl n
  | 0 => Nat.le_refl 1
  | n + 1 => Nat.mul_pos (by omega) (fctl_pos n)
theorem fctl_mono : ∀ {a b : Nat}, a ≤ b → fctl a ≤ fctl b
  | a, 0, h => by rw [Nat.le_zero.1 h]; exact Nat.le_refl _
  | a, b + 1, h => by
    by_cases e : a = b + 1
    · rw [e]; exact Nat.le_refl _
    · exact Nat.le_trans (fctl_mono (show a ≤ b by omega)) (Nat.le_mul_of_pos_left _ (by omega))
theorem fctl_12 {n : Nat} (h : n ≤ 12) : fctl n ≤ 479001600 := fctl_mono h
/-- how many of r are below x -/
def lowN (x : Int) (r : List Int) : Nat := r.countP fun y => decide (y < x)
theorem lowN_le (x : Int) (r : List Int) : lowN x r ≤ r.length := List.countP_le_length
theorem lowN_take {x : Int} {r : List Int} {k : Nat} (h : k < r.length) : lowN x (r.take (k + 1)) = lowN x (r.take k) + if nth r k < x then 1 else 0 := by
  unfold lowN
  rw [List.take_succ_eq_append_getElem h, List.countP_append, List.countP_singleton, nth_eq h]
  simp
def rkL : List Int → Nat
  | [] => 0
  | x :: r => lowN x r * fctl r.length + rkL r
theorem rkL_lt : ∀ xs : List Int, rkL xs < fctl xs.length
  | [] => by decide
  | x :: r => by
    have h1 := rkL_lt r
    have h2 := Nat.mul_le_mul_right (fctl r.length) (lowN_le x r)
    rw [rkL, List.length_cons, fctl, Nat.add_mul]; omega
theorem rkL_div (x : Int) (r : List Int) : rkL (x :: r) / fctl r.length = lowN x r ∧ rkL (x :: r) % fctl r.length = rkL r := by
  have h1 := rkL_lt r
  have h2 := fctl_pos r.length
  rw [rkL, Nat.mul_comm]
  exact ⟨by rw [Nat.mul_add_div (by omega), Nat.div_eq_of_lt h1, Nat.add_zero], by rw [Nat.mul_add_mod, Nat.mod_eq_of_lt h1]⟩
theorem rkL_drop {xs : List Int} {i : Nat} (h : i < xs.length) : rkL (xs.drop i) = lowN (nth xs i) (xs.drop (i + 1)) * fctl (xs.length - 1 - i) + rkL (xs.drop (i + 1)) := by
  rw [drop_nth h, rkL, List.length_drop, show xs.length - (i + 1) = xs.length - 1 - i by omega]
theorem low_at : ∀ {L : List Int} {x : Int}, L.Pairwise (· < ·) → x ∈ L → lowN x L < L.length ∧ nth L (lowN x L) = x
  | a :: t, x, hs, hx => by
    have h2 := List.pairwise_cons.1 hs
    by_cases e : x = a
    · subst e
      have : lowN x (x :: t) = 0 := by
        unfold lowN
        rw [List.countP_eq_zero]
        intro y hy
        rcases List.mem_cons.1 hy with rfl | hy
        · simp
        · have := h2.1 y hy; simp; omega
      rw [this]; exact ⟨by simp, rfl⟩
    · have hx2 : x ∈ t := by simpa [e] using hx
      have h3 := low_at h2.2 hx2
      have h4 := h2.1 x hx2
      have : lowN x (a :: t) = lowN x t + 1 := by unfold lowN; rw [List.countP_cons]; simp [h4]
      rw [this]
      exact ⟨by simp; exact h3.1, h3.2⟩
  | [], x, _, hx => by simp at hx
/-- one step of the way back -/
theorem un_step {L : List Int} {x : Int} {r : List Int} (hs : L.Pairwise (· < ·)) (hp : L.Perm (x :: r)) :
    lowN x r < L.length ∧ nth L (lowN x r) = x ∧ (L.take (lowN x r) ++ L.drop (lowN x r + 1)).Pairwise (· < ·) ∧ (L.take (lowN x r) ++ L.drop (lowN x r + 1)).Perm r := by
  have hc : lowN x L = lowN x r := by
    have : lowN x L = lowN x (x :: r) := hp.countP_eq _
    rw [this]; unfold lowN; rw [List.countP_cons]; simp
  have h1 := low_at hs (hp.mem_iff.2 (List.mem_cons_self))
  rw [hc] at h1
  refine ⟨h1.1, h1.2, hs.sublist ?_, ?_⟩
  · conv => rhs; rw [← List.take_append_drop (lowN x r) L]
    exact (List.drop_sublist_drop_left L (by omega)).append_left _
  · have e : L = L.take (lowN x r) ++ x :: L.drop (lowN x r + 1) := by
      conv => lhs; rw [← List.take_append_drop (lowN x r) L, drop_nth h1.1, h1.2]
    rw [e] at hp
    have := (List.perm_middle.symm.trans hp)
    exact (List.perm_cons x).1 this
theorem iot_pw (n : Nat) : (iot n).Pairwise (· < ·) := pw_lt (iot_sorted n) ((iot_isP n).nodup)
end Go.Proofs.Ytpfgbbbjldpnnaa
