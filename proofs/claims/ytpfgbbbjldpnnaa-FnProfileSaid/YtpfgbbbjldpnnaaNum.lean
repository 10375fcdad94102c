/- Walks: numbers. -/
import Derived.Test.YtpfgbbbjldpnnaaInt
import Derived.Test.YtpfgbbbjldpnnaaPFok
namespace Go.Proofs.Ytpfgbbbjldpnnaa
set_option linter.unusedSimpArgs false
set_option linter.unusedVariables false
open Go.RowKit

def inB (n a b : Int) : Bool := decide (a ≤ n) && decide (n ≤ b)
theorem inB_true {n a b : Int} (h : a ≤ n ∧ n ≤ b) : inB n a b = true := by simp [inB, h.1, h.2]
theorem inB_false {n a b : Int} (h : ¬ (a ≤ n ∧ n ≤ b)) : inB n a b = false := by simp only [inB, Bool.and_eq_false_iff, decide_eq_false_iff_not]; omega

theorem within_c (n a b : Int) (w : World) :
    Calls Try.prog 67 #[.int .i64 n, .int .i64 a, .int .i64 b] w fun e w' => e = .returned (.bool (inB n a b)) ∧ w = w' := by
  go_enter Try.func67, Try.ntmps67
  by_cases h : a ≤ n
  · go_wp2
    go_ret
    exact ⟨ret_bool (by simp [inB, h]), rfl⟩
  · go_wp2
    go_ret
    exact ⟨ret_bool (by simp [inB, show ¬ a ≤ n by omega]), rfl⟩
theorem within_yes {n a b : Int} (h : a ≤ n ∧ n ≤ b) (w : World) : Calls Try.prog 67 #[.int .i64 n, .int .i64 a, .int .i64 b] w fun e w' => e = .returned (.bool true) ∧ w = w' :=
  (within_c n a b w).mono fun _ _ ⟨h1, h2⟩ => ⟨by rw [h1, inB_true h], h2⟩
theorem within_no {n a b : Int} (h : ¬ (a ≤ n ∧ n ≤ b)) (w : World) : Calls Try.prog 67 #[.int .i64 n, .int .i64 a, .int .i64 b] w fun e w' => e = .returned (.bool false) ∧ w = w' :=
  (within_c n a b w).mono fun _ _ ⟨h1, h2⟩ => ⟨by rw [h1, inB_false h], h2⟩

theorem sq_bd {p : Int} (h : 0 ≤ p) (h' : p ≤ 1000002) : 0 ≤ p * p ∧ p * p ≤ 1000004000004 :=
  ⟨Int.mul_nonneg h h, by have := Int.mul_le_mul h' h' h (by omega); omega⟩

set_option maxHeartbeats 1000000 in
set_option maxRecDepth 100000 in
theorem FactorsOf_c (n : Int) (w : World) : Calls Try.prog 83 #[.int .i64 n] w (MakesI w (factors n)) := by
  by_cases hn : 1 ≤ n ∧ n ≤ 1000000
  · have H0 := Lib.hid (show factors n = [] ++ fac 2000005 2 n by simp [factors, hn])
    go_enter Try.func83, Try.ntmps83
    go_wp2_with fail
    refine (within_yes hn w).mono ?_
    rintro e w' ⟨rfl, rfl⟩
    go_wp2_with fail
    go_loopw [0, 3, 4] (fun a v b wr => ∃ (m p : Int) (xs : List Int) (f : Nat), a = .int .i64 m ∧ b = .int .i64 p ∧ 1 ≤ m ∧ m ≤ 1000000 ∧ 2 ≤ p ∧ p ≤ 1000002 ∧ 2 * m + 2 - p < f ∧ 1 ≤ f ∧ (xs.length : Int) + m ≤ 1000000 ∧
        Low p m ∧ Hid (factors n = xs ++ fac f p m) ∧ St w.heap.size w wr [row 2 v (iv xs)]) (fun _ _ b _ => (1000003 - intOf b).toNat)
    case atStart => exact ⟨n, 2, [], 2000005, rfl, rfl, by omega, by omega, by omega, by omega, by omega, by omega, by simp; omega, low2 n, H0, (St.refl w).emp⟩
    case round =>
      obtain ⟨m, p, xs, f, rfl, rfl, hm0, hm1, hp0, hp1, hf, hf1, hx, hL, hF, hS⟩ := hrel
      have hsq := sq_bd (p := p) (by omega) (by omega)
      obtain ⟨hsq0, hsq1⟩ := hsq
      by_cases hle : p * p ≤ m
      · have hpm := sq_ge (by omega) hle
        have hp2 : p ≤ 1000000 := by omega
        go_wp2_with fail
        obtain ⟨wo, rfl⟩ : ∃ wo : World, wo = wr := ⟨_, rfl⟩
        go_loopw [0, 3] (fun a v wr => ∃ (m : Int) (xs : List Int) (f : Nat), a = .int .i64 m ∧ 1 ≤ m ∧ m ≤ 1000000 ∧ 2 * m + 2 - p < f ∧ 1 ≤ f ∧ (xs.length : Int) + m ≤ 1000000 ∧
            Low p m ∧ Hid (factors n = xs ++ fac f p m) ∧ St w.heap.size w wr [row 2 v (iv xs)]) (fun a _ _ => (intOf a).toNat)
        case atStart => exact ⟨m, xs, f, rfl, by omega, by omega, by omega, by omega, by omega, hL, hF, hS⟩
        case round =>
          clear hL hF hS hf hf1 hx hm0 hm1 hle hpm
          obtain ⟨m, xs, f, rfl, hm0, hm1, hf, hf1, hx, hL, hF, hS⟩ := hrel
          by_cases h0 : m % p = 0
          · obtain ⟨d1, d2, d3⟩ := div_step (by omega) (by omega) h0
            clear d3
            go_wp2_with (at_builtin; refine appI hS 0 rfl (by omega) rfl _ _ rfl rfl _ rfl ?_; intro v' w1 hS1)
            obtain ⟨f', e1, e2, e3⟩ := fac_take (by omega) (by omega) hL h0 hf hf1
            go_roundw
            case rel => exact ⟨m / p, xs ++ [p], f', rfl, by omega, by omega, by omega, e1, by simp; omega, hL.div (by omega) (by omega) h0, by rw [Hid, hF.out, e3]; simp, hS1⟩
            case measure => simp [intOf]; omega
          · have h0n := h0
            have h0' : (m % p == 0) = false := by simpa using h0
            have H0' := Lib.hid h0; clear h0 h0n
            go_wp2_with fail
            obtain ⟨f', e1, e2, e3⟩ := fac_skip (by omega) (by omega) H0'.out hf hf1
            go_roundw
            case rel => exact ⟨m, p + 1, xs, f', rfl, rfl, by omega, by omega, by omega, by omega, by omega, e1, by omega, hL.next H0'.out, by rw [Hid, hF.out, e3], hS⟩
            case measure => simp [intOf]; omega
      · by_cases h1 : 1 < m
        · go_wp2_with (at_builtin; refine appI hS 0 rfl (by omega) rfl _ _ rfl rfl _ rfl ?_; intro v' w1 hS1)
          go_ret
          refine ⟨_, rfl, ?_⟩
          rw [hF.out, fac_out (by omega) hf1, if_pos h1]; exact hS1
        · go_wp2_with fail
          go_ret
          refine ⟨_, rfl, ?_⟩
          rw [hF.out, fac_out (by omega) hf1, if_neg (by omega), List.append_nil]; exact hS
  · have H0 := Lib.hid (show factors n = [] by simp [factors, hn])
    go_enter Try.func83, Try.ntmps83
    go_wp2_with fail
    refine (within_no hn w).mono ?_
    rintro e w' ⟨rfl, rfl⟩
    go_wp2_with fail
    go_ret
    exact ⟨_, rfl, by rw [H0.out]; exact (St.refl w).emp⟩

theorem size_c (v : Value) (xs : List Int) (w : World) (hv : RdI w v xs) : Calls Try.prog 60 #[v] w fun e w' => e = .returned (.int .i64 xs.length) ∧ w = w' := by
  have hln := hv.len
  go_enter Try.func60, Try.ntmps60
  go_wp2_with fail
  go_ret
  exact ⟨rfl, rfl⟩

theorem isPr_int (n : Int) : (((factors n).length : Int) == 1) = isPr n := by
  unfold isPr; rw [Bool.eq_iff_iff]; simp; omega

theorem all_step {xs : List Int} {k : Nat} (hk : k < xs.length) (b : Bool) (y : Int) (h : ((xs.take k).all (· == y)) = true) : (xs.take (k + 1)).all (· == y) = (nth xs k == y) := by
  rw [take_nth hk, List.all_append, h]; simp

def pp (xs : List Int) : Int × Int := match xs with
  | [] => (0, 0)
  | x :: xs => if xs.all (· == x) then (x, xs.length + 1) else (0, 0)
theorem pp_nil : pp [] = (0, 0) := rfl
theorem pp_no {xs : List Int} {k : Nat} (hk : k < xs.length) (h : nth xs k ≠ nth xs 0) : pp xs = (0, 0) := by
  cases xs with
  | nil => rfl
  | cons x xs =>
    unfold pp; simp only
    rw [if_neg]
    intro hall
    rw [List.all_eq_true] at hall
    cases k with
    | zero => exact h rfl
    | succ k =>
      have hk' : k < xs.length := by simpa using hk
      have := hall (nth xs k) (nth_mem hk')
      apply h
      have e : nth (x :: xs) (k + 1) = nth xs k := by simp [nth]
      rw [e]; simpa [nth] using this
theorem pp_yes {xs : List Int} (hne : 0 < xs.length) (h : ∀ j, j < xs.length → nth xs j = nth xs 0) : pp xs = (nth xs 0, (xs.length : Int)) := by
  cases xs with
  | nil => simp at hne
  | cons x xs =>
    unfold pp; simp only
    rw [if_pos]
    · simp [nth]
    · rw [List.all_eq_true]
      intro y hy
      obtain ⟨j, hj, rfl⟩ := List.getElem_of_mem hy
      have := h (j + 1) (by simpa using hj)
      simp [nth, hj] at this
      simp [this]

set_option maxHeartbeats 1000000 in
set_option maxRecDepth 100000 in
theorem PrimePower_c (n : Int) (w : World) : Calls Try.prog 31 #[.int .i64 n] w (Gives2I w (pp (factors n)).1 (pp (factors n)).2) := by
  go_enter Try.func31, Try.ntmps31
  go_wp2_with fail
  refine (FactorsOf_c n w).mono ?_
  rintro e w1 ⟨v, rfl, hS⟩
  generalize factors n = xs at *
  have hr := hS.rdI 0 rfl
  have hln := hr.len
  have hix := hr.ix
  have hc := hr.cell
  have hle := hr.le
  go_wp2_with fail
  go_loop [6, 11] (fun _ i => ∃ k : Nat, k ≤ xs.length ∧ i = .int .i64 k ∧ Hid (∀ j, j < k → nth xs j = nth xs 0)) (fun _ i => xs.length - (intOf i).toNat)
  case atStart => exact ⟨0, by omega, rfl, fun j hj => by omega⟩
  case round =>
    obtain ⟨k, hk, rfl, hI⟩ := hrel
    by_cases hlt : k < xs.length
    · have hix0 := hix .i64 0 (by omega) (by omega)
      have hc0 := hc 0 (by omega)
      by_cases h1 : nth xs k = nth xs 0
      · have h1' : (nth xs k != nth xs 0) = false := by simp [h1]
        have H1 := Lib.hid h1; clear h1
        go_wp2_with fail
        go_round
        case rel => exact ⟨k + 1, by omega, by go_num, fun j hj => by
          by_cases e : j = k
          · subst e; exact H1.out
          · exact hI.out j (by omega)⟩
        case measure => simp [intOf]; omega
      · have h1' : (nth xs k != nth xs 0) = true := by simp [h1]
        have H1 := Lib.hid h1; clear h1
        go_wp2_with fail
        go_ret2
        exact ⟨ret_2i (by rw [pp_no hlt H1.out]) (by rw [pp_no hlt H1.out]), hS.out⟩
    · by_cases h0 : 0 < xs.length
      · have h0' : ((xs.length : Int) == 0) = false := eq_f (by omega)
        have hix0 := hix .i64 0 (by omega) (by omega)
        go_wp2_with fail
        have hq := fun s : SS w.heap.size w _ => (s.st.rdI (xs := xs) (v := v) (L := [row 2 v (iv xs)]) 0 rfl).cell 0 h0
        have hne : Nonempty (SS _ _ _) := ⟨⟨_, hS⟩⟩
        refine wp_region_st (by kernel_rfl) (by kernel_rfl) hS ?_
        repeat (go_big_quiet_step ((go_at_call 60; refine st_quiet0 (size_c v xs _ ?_); exact (SS.st _).rdI 0 rfl)))
        refine wpQuiet_nil ?_
        rintro _ ⟨s2, rfl⟩
        have hS2 := s2.st
        generalize s2.w = w2 at hS2 ⊢
        go_wp2_with fail
        go_ret2
        exact ⟨ret_2i (by rw [pp_yes h0 (fun j hj => hI.out j (by omega))]) (by rw [pp_yes h0 (fun j hj => hI.out j (by omega))]), hS2.out⟩
      · have h0' : ((xs.length : Int) == 0) = true := eq_t (by omega)
        have hxs : xs = [] := List.eq_nil_of_length_eq_zero (by omega)
        have Hx := Lib.hid hxs; clear hxs
        go_wp2_with fail
        go_ret2
        exact ⟨ret_2i (by rw [Hx.out]; rfl) (by rw [Hx.out]; rfl), hS.out⟩

end Go.Proofs.Ytpfgbbbjldpnnaa
