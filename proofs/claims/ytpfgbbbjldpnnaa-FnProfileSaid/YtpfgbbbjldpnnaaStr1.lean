/- Walks: binomial coefficients, subsets by rank, next subsets. -/
import Derived.Test.YtpfgbbbjldpnnaaPStr
import Derived.Test.YtpfgbbbjldpnnaaVs
import Derived.Test.YtpfgbbbjldpnnaaCopy
import Derived.Test.YtpfgbbbjldpnnaaIn
namespace Go.Proofs.Ytpfgbbbjldpnnaa
set_option linter.unusedSimpArgs false
set_option linter.unusedVariables false
open Go.RowKit

theorem choose_no1 {n k : Int} (h : inB n 0 32 = false) : choose n k = 0 := by
  unfold choose; rw [if_neg]; intro hh; simp [inB] at h; omega
theorem choose_no2 {n k : Int} (h : inB k 0 n = false) : choose n k = 0 := by
  unfold choose; rw [if_neg]; intro hh; simp [inB] at h; omega

set_option maxHeartbeats 1000000 in
set_option maxRecDepth 100000 in
theorem sChoose_c (n k : Int) (w : World) : Calls Try.prog 52 #[.int .i64 n, .int .i64 k] w fun e w' => e = .returned (.int .i64 (choose n k)) ∧ w = w' := by
  cases hn : inB n 0 32
  · have Hn := Lib.hid (choose_no1 (k := k) hn)
    go_enter Try.func52, Try.ntmps52
    go_wp2_with (go_at_call 63; refine (l00In_c _ _ _ _).mono ?_; rintro e w' ⟨rfl, rfl⟩)
    go_ret
    exact ⟨ret_i64 Hn.out.symm, rfl⟩
  · obtain ⟨n0, n1⟩ : 0 ≤ n ∧ n ≤ 32 := by simpa [inB] using hn
    cases hk : inB k 0 n
    · have Hk := Lib.hid (choose_no2 (n := n) hk)
      go_enter Try.func52, Try.ntmps52
      go_wp2_with (go_at_call 63; refine (l00In_c _ _ _ _).mono ?_; rintro e w' ⟨rfl, rfl⟩)
      go_ret
      exact ⟨ret_i64 Hk.out.symm, rfl⟩
    · obtain ⟨k0, k1⟩ : 0 ≤ k ∧ k ≤ n := by simpa [inB] using hk
      have HC := Lib.hid (show choose n k = chs n k k.toNat by rw [choose, if_pos ⟨n0, n1, k0, k1⟩])
      go_enter Try.func52, Try.ntmps52
      go_wp2_with (go_at_call 63; refine (l00In_c _ _ _ _).mono ?_; rintro e w' ⟨rfl, rfl⟩)
      clear hn hk
      go_loop [5, 6] (fun o i => ∃ (j : Nat) (c : Int), (j : Int) ≤ k ∧ i = .int .i64 ((j : Int) + 1) ∧ o = .int .i64 c ∧ 1 ≤ c ∧ c ≤ 1000000000 ∧ Hid (c = chs n k j)) (fun _ i => (k + 1 - intOf i).toNat)
      case atStart => exact ⟨0, 1, by omega, rfl, rfl, by omega, by omega, rfl⟩
      case round =>
        obtain ⟨j, c, hj, rfl, rfl, c0, c1, hI⟩ := hrel
        by_cases hlt : (j : Int) + 1 ≤ k
        · have hb := chs_bd (n := n) (k := k) (i := j + 1) n0 n1 k0 k1 (by omega)
          have hs : chs n k (j + 1) = c * (n - k + ((j : Int) + 1)) / ((j : Int) + 1) := by rw [hI.out]; rfl
          rw [hs] at hb
          obtain ⟨b0, b1⟩ := hb
          have Hs := Lib.hid hs; clear hs
          have m0 : 0 ≤ c * (n - k + ((j : Int) + 1)) := Int.mul_nonneg (by omega) (by omega)
          have m1 : c * (n - k + ((j : Int) + 1)) ≤ 1000000000 * 33 := Int.mul_le_mul c1 (by omega) (by omega) (by omega)
          go_wp2_with fail
          go_round
          case rel => exact ⟨j + 1, _, by omega, by congr 1, rfl, by omega, by omega, Hs.out.symm⟩
          case measure => simp [intOf]; omega
        · go_wp2_with fail
          go_ret
          exact ⟨ret_i64 (by rw [hI.out, HC.out]; congr 1; omega), rfl⟩

/-- the numbers 0, 1, .. -/
def idn (n : Nat) : List Int := (List.range n).map fun (j : Nat) => (j : Int)
theorem idn_len (n : Nat) : (idn n).length = n := by simp [idn]
set_option maxHeartbeats 1000000 in
set_option maxRecDepth 100000 in
theorem identity_c (n : Nat) (w : World) (hn : n ≤ 1048576) : Calls Try.prog 68 #[.int .i64 n] w (MakesI w (idn n)) := by
  go_enter Try.func68, Try.ntmps68
  go_wp2_with (at_make; refine mkI (St.refl w) rfl _ _ rfl _ _ n rfl rfl (by omega) ?_; intro v1 w1 hS1; have hr := hS1.rdI 0 rfl; have hln := hr.len; have hix := hr.ix; simp only [List.length_replicate] at hln hix; clear hr)
  go_loopw [4, 9] (fun _ i wr => ∃ k : Nat, k ≤ n ∧ i = .int .i64 k ∧ St w.heap.size w wr [row 2 v1 (iv (idn k ++ List.replicate (n - k) 0))]) (fun _ i _ => n - (intOf i).toNat)
  case atStart => exact ⟨0, by omega, rfl, hS1⟩
  case round =>
    obtain ⟨k, hk, rfl, hS⟩ := hrel
    by_cases hlt : k < n
    · go_wp2_with (refine stoI hS 0 rfl k (by simp [idn]; omega) rfl (.tmp 15) (.tmp 14) rfl rfl _ rfl ?_; intro w2 hS2)
      go_roundw
      case rel =>
        refine ⟨k + 1, by omega, by go_num, ?_⟩
        have e : (idn k ++ List.replicate (n - k) 0).set k (k : Int) = idn (k + 1) ++ List.replicate (n - (k + 1)) 0 := by
          rw [List.set_append_right _ _ (by rw [idn_len]; omega), idn_len, show n - k = (n - (k + 1)) + 1 by omega, List.replicate_succ]
          simp [idn, List.range_succ]
        rw [← e]; exact hS2
      case measure => simp [intOf]; omega
    · obtain rfl : k = n := by omega
      go_wp2_with fail
      go_ret
      refine ⟨_, rfl, ?_⟩
      simpa using hS


/-- the next set or nothing, and whether there is one -/
def MakesN (w : World) (o : Option (List Int)) (e : Ending) (w' : World) : Prop := ∃ v, e = .returned (.tuple #[v, .bool o.isSome]) ∧ St w.heap.size w w' [row 2 v (iv (o.getD []))]
def nxtV (n : Int) (xs : List Int) : Option (List Int) := if validSetB xs n = true then nxt n xs else none
def nxA (xs : List Int) (i d : Nat) : List Int := xs.take i ++ ((List.range d).map fun (e : Nat) => nth xs i + 1 + (e : Int)) ++ xs.drop (i + d)
theorem nxA_len {xs : List Int} {i d : Nat} (h : i + d ≤ xs.length) : (nxA xs i d).length = xs.length := by simp [nxA]; omega
theorem nxA_0 (xs : List Int) (i : Nat) : nxA xs i 0 = xs := by simp [nxA]
theorem nxA_set {xs : List Int} {i d : Nat} (h : i + d < xs.length) : (nxA xs i d).set (i + d) (nth xs i + 1 + (d : Int)) = nxA xs i (d + 1) := by
  unfold nxA
  rw [List.set_append_right _ _ (by simp; omega), drop_nth h, show i + (d + 1) = i + d + 1 by omega]
  have e : i + d - (xs.take i ++ (List.range d).map fun (e : Nat) => nth xs i + 1 + (e : Int)).length = 0 := by simp; omega
  rw [e, List.set_cons_zero, List.range_succ, List.map_append]
  simp
theorem nxt_yes {n : Int} {xs : List Int} {i : Nat} (h : nth xs i ≠ n - xs.length + i) (hi : i < xs.length) : nxtI n xs (i + 1) = some (nxA xs i (xs.length - i)) := by
  have h' : ¬ pn xs i = n - xs.length + i := h
  rw [nxtI, if_neg h']
  unfold nxA
  rw [show i + (xs.length - i) = xs.length by omega, List.drop_length, List.append_nil]
  rfl
theorem nxt_no {n : Int} {xs : List Int} {i : Nat} (h : nth xs i = n - xs.length + i) : nxtI n xs (i + 1) = nxtI n xs i := by
  have h' : pn xs i = n - xs.length + i := h
  rw [nxtI, if_pos h']
theorem incB_len : ∀ {xs : List Int} {last n : Int}, incB last n xs = true → last < n → (xs.length : Int) ≤ n - 1 - last
  | [], last, n, _, h => by simp; omega
  | x :: r, last, n, h, h1 => by
    unfold incB at h
    split at h
    · cases h
    · have := incB_len h (by omega)
      simp only [List.length_cons]; push_cast; omega
theorem validSetB_t {xs : List Int} {n : Int} (h : validSetB xs n = true) : 0 ≤ n ∧ n ≤ 32 ∧ (xs.length : Int) ≤ n ∧ ∀ x ∈ xs, 0 ≤ x ∧ x < n := by
  simp only [validSetB, Bool.and_eq_true, inB, decide_eq_true_eq] at h
  obtain ⟨h1, h2, h3⟩ := h
  refine ⟨h2, h3, ?_, fun x hx => ?_⟩
  · by_cases hn : n = 0
    · subst hn
      cases xs with
      | nil => simp
      | cons x r => unfold incB at h1; split at h1; cases h1; omega
    · have := incB_len h1 (by omega); omega
  · have := incB_gt h1 x hx; omega

set_option maxHeartbeats 2000000 in
set_option maxRecDepth 100000 in
theorem NextSubset_c (v : Value) (xs : List Int) (n : Int) (w : World) (hv : RdI w v xs) : Calls Try.prog 97 #[.int .i64 n, v] w (MakesN w (nxtV n xs)) := by
  have HV := fun w hv => Lib.hid (ValidSet_c v xs n w hv)
  cases hb : validSetB xs n
  · have HN := Lib.hid (show nxtV n xs = none by rw [nxtV, if_neg (by rw [hb]; simp)])
    go_enter Try.func97, Try.ntmps97
    go_wp2_with fail
    refine (HV _ hv).out.mono ?_
    rintro e w1 ⟨rfl, rfl⟩
    go_wp2_with fail
    go_ret2
    rw [HN.out]
    exact ⟨_, rfl, (St.refl _).newnil _⟩
  · obtain ⟨n0, n1, hl, hx⟩ := validSetB_t hb
    have HN := Lib.hid (show nxtV n xs = nxtI n xs xs.length by rw [nxtV, if_pos hb]; rfl)
    have Hx := Lib.hid hx
    have Hb := Lib.hid hb
    clear hx hb
    have hix := hv.ix
    go_enter Try.func97, Try.ntmps97
    go_wp2_with fail
    refine (HV _ hv).out.mono ?_
    rw [Hb.out]
    rintro e w1 ⟨rfl, rfl⟩
    go_wp2_with (go_at_call 60; refine (size_c _ _ _ hv).mono ?_; rintro e w2 ⟨rfl, rfl⟩)
    go_loopw [7, 8, 9] (fun i _ _ wr => ∃ m : Nat, m ≤ xs.length ∧ i = .int .i64 ((m : Int) - 1) ∧ Hid (nxtV n xs = nxtI n xs m) ∧ wr = w) (fun i _ _ _ => (intOf i + 1).toNat)
    case atStart => exact ⟨xs.length, by omega, rfl, HN, rfl⟩
    case round =>
      obtain ⟨m, hm, rfl, hI, rfl⟩ := hrel
      cases m with
      | zero =>
        go_wp2_with fail
        go_ret2
        rw [hI.out]
        exact ⟨_, rfl, (St.refl _).newnil _⟩
      | succ i =>
        have hxi := Hx.out _ (nth_mem (show i < xs.length by omega))
        obtain ⟨x0, x1⟩ := hxi
        have e1 : Hid (((i + 1 : Nat) : Int) - 1 = i) := by unfold Hid; omega
        rw [e1.out]
        have hc := hv.cell i (by omega)
        have hx1 := hv.ixe i i rfl (by omega)
        by_cases he : nth xs i = n - xs.length + i
        · have f1 := eq_t he
          have HE := Lib.hid (nxt_no he); clear he
          go_wp2_with fail
          go_roundw
          case rel => exact ⟨i, by omega, rfl, by rw [Hid, hI.out, HE.out], by first | rfl | trivial⟩
          case measure => simp [intOf]
        · have f1 := eq_f he
          have HE := Lib.hid (nxt_yes he (by omega)); clear he
          have hcl := fun w hv => Lib.hid (Clone_c v xs w hv (by omega))
          go_wp2_with fail
          refine (hcl _ hv).out.mono ?_
          rintro e w2 ⟨v2, rfl, hS2⟩
          go_wp2_with fail
          go_loopw [9] (fun q wx => ∃ j : Nat, i ≤ j ∧ j ≤ xs.length ∧ q = .int .i64 (j : Int) ∧ St wr.heap.size wr wx [row 2 v2 (iv (nxA xs i (j - i)))]) (fun q _ => (xs.length - intOf q).toNat)
          case atStart => exact ⟨i, by omega, by omega, rfl, by rw [Nat.sub_self, nxA_0]; exact hS2⟩
          case round =>
            obtain ⟨j, hj1, hj2, rfl, hS⟩ := hrel
            by_cases hlt : j < xs.length
            · have hx3 := (hS.rdI 0 rfl).ixe (j : Int) j rfl (by rw [nxA_len (by omega)]; omega)
              have hc3 := (hS.oldI hv).cell i (by omega)
              have HT := Lib.hid (nxA_set (xs := xs) (i := i) (d := j - i) (by omega))
              have HL := Lib.hid (show j < (nxA xs i (j - i)).length by rw [nxA_len (by omega)]; omega)
              go_wp2_with (refine stoI hS 0 rfl j HL.out rfl (.tmp 51) (.tmp 50) rfl rfl _ rfl ?_; intro w3 hS3)
              go_roundw
              case rel =>
                refine ⟨j + 1, by omega, by omega, by go_num, ?_⟩
                have h := HT.out
                rw [show i + (j - i) = j by omega, show j - i + 1 = j + 1 - i by omega] at h
                rw [← h]
                have e : nth xs i + 1 + ((j - i : Nat) : Int) = nth xs i + 1 + (j : Int) - i := by omega
                rw [e]
                exact hS3
              case measure => simp [intOf]; omega
            · go_wp2_with fail
              go_ret2
              rw [hI.out, HE.out]
              refine ⟨_, rfl, ?_⟩
              rw [show xs.length - i = j - i by omega]
              exact hS
end Go.Proofs.Ytpfgbbbjldpnnaa
