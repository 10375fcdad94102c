/- Walks: ranks of subsets. -/
import Derived.Test.YtonmggppfopidaaPRank
import Derived.Test.YtonmggppfopidaaStr1
namespace Go.Proofs.Ytonmggppfopidaa
set_option linter.unusedSimpArgs false
set_option linter.unusedVariables false
open Go.RowKit

def MakesIC (w : World) (xs : List Int) (c : Int) (e : Ending) (w' : World) : Prop := ∃ v, e = .returned (.tuple #[v, .int .i64 c]) ∧ St w.heap.size w w' [row 2 v (iv xs)]

def unrGood (n k r : Int) : Bool := inB n 0 32 && inB k 0 n && inB r 0 (choose n k - 1)
def unrL (n k r : Int) : List Int := if unrGood n k r = true then subsAt n k r else []
def unrC (n k r : Int) : Int := if unrGood n k r = true then 0 else 2

theorem choose_pos' {n k : Int} (h : 1 ≤ choose n k) (hk : 1 ≤ k) : 1 ≤ n := by
  apply Int.le_of_not_gt; intro hn
  rw [choose_gt (by omega)] at h; omega

set_option maxHeartbeats 4000000 in
set_option maxRecDepth 100000 in
theorem UnrankSubset_c (n k r : Int) (w : World) : Calls Try.prog 53 #[.int .i64 n, .int .i64 k, .int .i64 r] w (MakesIC w (unrL n k r) (unrC n k r)) := by
  have hno : unrGood n k r = false → MakesIC w (unrL n k r) (unrC n k r) (.returned (.tuple #[.slice none 0 0, .int .i64 2])) w := fun h =>
    ⟨_, by rw [unrC, if_neg (by rw [h]; simp)], by rw [unrL, if_neg (by rw [h]; simp)]; exact (St.refl w).newnil _⟩
  have Hno := Lib.hid hno
  clear hno
  cases hn : inB n 0 32
  · go_enter Try.func53, Try.ntmps53
    go_wp2_with (go_at_call 67; refine (within_c _ _ _ _).mono ?_; rintro e w3 ⟨rfl, rfl⟩)
    go_ret2
    exact Hno.out (by simp [unrGood, hn])
  · obtain ⟨n0, n1⟩ : 0 ≤ n ∧ n ≤ 32 := by simpa [inB] using hn
    have Hn := Lib.hid hn
    cases hk : inB k 0 n
    · go_enter Try.func53, Try.ntmps53
      go_wp2_with (go_at_call 67; refine (within_c _ _ _ _).mono ?_; rintro e w3 ⟨rfl, rfl⟩)
      go_ret2
      exact Hno.out (by simp [unrGood, hk])
    · obtain ⟨k0, k1⟩ : 0 ≤ k ∧ k ≤ n := by simpa [inB] using hk
      have Hk := Lib.hid hk
      have hcb := choose_bd n k
      obtain ⟨cb0, cb1⟩ := hcb
      cases hr : inB r 0 (choose n k - 1)
      · go_enter Try.func53, Try.ntmps53
        go_wp2_with (first | (go_at_call 67; refine (within_c _ _ _ _).mono ?_; rintro e w3 ⟨rfl, rfl⟩) | (go_at_call 52; refine (iChoose_c _ _ _).mono ?_; rintro e w3 ⟨rfl, rfl⟩))
        go_ret2
        exact Hno.out (by simp [unrGood, hr])
      · obtain ⟨r0, r1⟩ : 0 ≤ r ∧ r ≤ choose n k - 1 := by simpa [inB] using hr
        have HG := Lib.hid (show unrGood n k r = true by simp [unrGood, hn, hk, hr])
        have hS1 := (St.refl w).newnil 2
        simp only [List.nil_append] at hS1
        have hr1 : r < choose n k := by omega
        have Hr1 := Lib.hid hr1
        go_enter Try.func53, Try.ntmps53
        go_wp2_with (first | (go_at_call 67; refine (within_c _ _ _ _).mono ?_; rintro e w3 ⟨rfl, rfl⟩) | (go_at_call 52; refine (iChoose_c _ _ _).mono ?_; rintro e w3 ⟨rfl, rfl⟩))
        have rb : r ≤ 1000000000 := by omega
        clear hn hk hr r1 hr1
        go_loopw [2, 8, 9, 10] (fun rr o x _ wr => ∃ (p : Nat) (q : Int) (xs : List Int), (p : Int) ≤ n ∧ x = .int .i64 p ∧ rr = .int .i64 q ∧ 0 ≤ q ∧ q ≤ r ∧ xs.length ≤ p ∧ (xs.length : Int) ≤ k ∧ Hid (q < choose (n - p) (k - xs.length)) ∧ Hid (subsAt n k r = xs ++ unrF n k (n - p).toNat p xs.length q) ∧ St w.heap.size w wr [row 2 o (iv xs)]) (fun _ _ x _ _ => (n - intOf x).toNat)
        case atStart => exact ⟨0, r, [], by omega, rfl, rfl, r0, by omega, by simp, by simpa using k0, by simpa [Hid] using Hr1.out, by simp [Hid, subsAt], hS1⟩
        case round =>
          obtain ⟨p, q, xs, hp, rfl, rfl, q0, q1, hl, hlk, hQ, hI, hS⟩ := hrel
          have hrr := hS.rdI 0 rfl
          by_cases h1 : (xs.length : Int) < k
          · have h2 : (p : Int) < n := by have := choose_pos' (n := n - p) (k := k - xs.length) (by have := hQ.out; omega) (by omega); omega
            have hcb := choose_bd (n - 1 - p) (k - 1 - xs.length)
            obtain ⟨cb0, cb1⟩ := hcb
            have hf : Hid ((n - (p : Int)).toNat = (n - ((p + 1 : Nat) : Int)).toNat + 1) := by unfold Hid; omega
            by_cases h3 : q < choose (n - 1 - p) (k - 1 - xs.length)
            · have HY := Lib.hid (unrF_yes (f := (n - ((p + 1 : Nat) : Int)).toNat) h1 h2 h3)
              have H3 := Lib.hid h3
              go_wp2_with (first | (go_at_call 68; refine (size_c _ _ _ hrr).mono ?_; rintro e w3 ⟨rfl, rfl⟩) | (go_at_call 52; refine (iChoose_c _ _ _).mono ?_; rintro e w3 ⟨rfl, rfl⟩) | (at_builtin; refine appI hS 0 rfl (by omega) rfl _ _ rfl rfl _ rfl ?_; intro v3 w3 hS3))
              go_roundw
              case rel =>
                refine ⟨p + 1, q, xs ++ [(p : Int)], by omega, by go_num, rfl, q0, q1, by simp; omega, by simp; omega, ?_, ?_, hS3⟩
                · unfold Hid; rw [List.length_append]; push_cast
                  rw [show n - ((p : Int) + 1) = n - 1 - p by omega, show k - ((xs.length : Int) + ([(p : Int)] : List Int).length) = k - 1 - xs.length by simp; omega]
                  exact H3.out
                · unfold Hid; rw [hI.out, hf.out, HY.out]; simp
              case measure => simp [intOf]; omega
            · have HN := Lib.hid (unrF_no (f := (n - ((p + 1 : Nat) : Int)).toNat) h1 h2 h3)
              have HP := Lib.hid (pascal (n := n - p) (k := k - xs.length) (by omega) (by omega) (by omega))
              go_wp2_with (first | (go_at_call 68; refine (size_c _ _ _ hrr).mono ?_; rintro e w3 ⟨rfl, rfl⟩) | (go_at_call 52; refine (iChoose_c _ _ _).mono ?_; rintro e w3 ⟨rfl, rfl⟩))
              go_roundw
              case rel =>
                refine ⟨p + 1, _, xs, by omega, by go_num, rfl, by omega, by omega, by omega, hlk, ?_, ?_, hS⟩
                · unfold Hid
                  have a := hQ.out
                  have b := HP.out
                  rw [show n - (p : Int) - 1 = n - 1 - p by omega, show k - (xs.length : Int) - 1 = k - 1 - xs.length by omega] at b
                  push_cast
                  rw [show n - ((p : Int) + 1) = n - 1 - p by omega]
                  omega
                · unfold Hid; rw [hI.out, hf.out, HN.out]; simp
              case measure => simp [intOf]; omega
          · have HE := Lib.hid (unrF_end (f := (n - (p : Int)).toNat) (r := q) (show ¬ ((xs.length : Int) < k ∧ (p : Int) < n) from fun h => h1 h.1))
            go_wp2_with (first | (go_at_call 68; refine (size_c _ _ _ hrr).mono ?_; rintro e w3 ⟨rfl, rfl⟩))
            go_ret2
            refine ⟨_, by rw [unrC, if_pos HG.out]; rfl, ?_⟩
            rw [unrL, if_pos HG.out, hI.out, HE.out, List.append_nil]; exact hS

set_option maxHeartbeats 4000000 in
set_option maxRecDepth 100000 in
theorem RankSubset_no (v : Value) (xs : List Int) (n : Int) (w : World) (hv : RdI w v xs) (hb : validSetB xs n = false) :
    Calls Try.prog 54 #[.int .i64 n, v] w fun e w' => e = .returned (.tuple #[.int .i64 0, .int .i64 1]) ∧ w = w' := by
  go_enter Try.func54, Try.ntmps54
  go_wp2_with fail
  refine (ValidSet_c _ _ _ _ hv).mono ?_
  rw [hb]
  rintro e w1 ⟨rfl, rfl⟩
  go_wp2_with fail
  go_ret2
  exact ⟨rfl, rfl⟩

set_option maxHeartbeats 4000000 in
set_option maxRecDepth 100000 in
theorem RankSubset_c (v : Value) (xs : List Int) (n : Int) (w : World) (hv : RdI w v xs) (hb : validSetB xs n = true) :
    Calls Try.prog 54 #[.int .i64 n, v] w fun e w' => e = .returned (.tuple #[.int .i64 (rkF n 0 xs), .int .i64 0]) ∧ w = w' := by
  obtain ⟨n0, n1, hlen, _⟩ := validSetB_t hb
  have hinc : incB (0 - 1) n xs = true := by simp only [validSetB, Bool.and_eq_true] at hb; exact hb.1
  have HB := Lib.hid hb
  have Hinc := Lib.hid hinc
  clear hb hinc
  have hln := hv.len
  have hix := hv.ix
  have hcell := hv.cell
  go_enter Try.func54, Try.ntmps54
  go_wp2_with fail
  refine (ValidSet_c _ _ _ _ hv).mono ?_
  rw [HB.out]
  rintro e w1 ⟨rfl, rfl⟩
  go_wp2_with fail
  go_loop [6, 7, 8, 9, 10, 17] (fun rk fr _ _ _ i => ∃ (k : Nat) (R F : Int), k ≤ xs.length ∧ i = .int .i64 k ∧ rk = .int .i64 R ∧ fr = .int .i64 F ∧ -(1000000000 * (k : Int)) ≤ R ∧ R ≤ 1000000000 * k ∧ 0 ≤ F ∧ F ≤ n ∧ Hid (incB (F - 1) n (xs.drop k) = true) ∧ Hid (rkF n 0 xs = R + rkF n F (xs.drop k))) (fun _ _ _ _ _ i => xs.length - (intOf i).toNat)
  case atStart => exact ⟨0, 0, 0, by omega, rfl, rfl, rfl, by omega, by omega, by omega, n0, Hinc, by simp [Hid]⟩
  case round =>
    obtain ⟨k, R, F, hk, rfl, rfl, rfl, R0, R1, F0, F1, hJ, hI⟩ := hrel
    by_cases hlt : k < xs.length
    · have hd := Lib.hid (drop_nth hlt)
      have hj := hJ.out
      rw [hd.out, incB] at hj
      have hcond : ¬ (nth xs k ≤ F - 1 ∨ n ≤ nth xs k) := by intro h; rw [if_pos h] at hj; cases hj
      rw [if_neg hcond] at hj
      have HJ2 := Lib.hid hj
      have a0 : F ≤ nth xs k := by omega
      have a1 : nth xs k < n := by omega
      have hm : Hid (((xs.drop (k + 1)).length : Int) + 1 = xs.length - k) := by unfold Hid; rw [List.length_drop]; omega
      have hrk := hI.out
      rw [hd.out, rkF, hm.out] at hrk
      have HR := Lib.hid hrk
      have c1 := choose_bd (n - F) (xs.length - k)
      obtain ⟨c10, c11⟩ := c1
      clear hj hcond hrk
      go_wp2_with fail
      go_loop [6, 10] (fun rk y => ∃ (z : Int), F ≤ z ∧ z ≤ nth xs k ∧ y = .int .i64 z ∧ rk = .int .i64 (R + choose (n - F) (xs.length - k) - choose (n - z) (xs.length - k))) (fun _ y => (nth xs k - intOf y).toNat)
      case atStart => exact ⟨F, by omega, by omega, rfl, by congr 1; omega⟩
      case round =>
        obtain ⟨z, z0, z1, rfl, rfl⟩ := hrel
        have c2 := choose_bd (n - z) (xs.length - k)
        obtain ⟨c20, c21⟩ := c2
        by_cases hz : z < nth xs k
        · have c3 := choose_bd (n - 1 - z) ((xs.length : Int) - 1 - k)
          obtain ⟨c30, c31⟩ := c3
          have hp := Lib.hid (pascal (n := n - z) (k := xs.length - k) (by omega) (by omega) (by omega))
          go_wp2_with (first | (go_at_call 68; refine (size_c _ _ _ hv).mono ?_; rintro e w3 ⟨rfl, rfl⟩) | (go_at_call 52; refine (iChoose_c _ _ _).mono ?_; rintro e w3 ⟨rfl, rfl⟩))
          go_round
          case rel =>
            refine ⟨z + 1, by omega, by omega, rfl, ?_⟩
            have h := hp.out
            rw [show n - z - 1 = n - 1 - z by omega, show (xs.length : Int) - k - 1 = xs.length - 1 - k by omega] at h
            rw [show n - (z + 1) = n - 1 - z by omega]
            congr 1; omega
          case measure => simp [intOf]; omega
        · have he : z = nth xs k := by omega
          have He := Lib.hid he
          clear he
          go_wp2_with fail
          go_round
          case rel =>
            refine ⟨k + 1, _, nth xs k + 1, by omega, by go_num, rfl, rfl, by push_cast; omega, by push_cast; omega, by omega, by omega, ?_, ?_⟩
            · unfold Hid; rw [show nth xs k + 1 - 1 = nth xs k by omega]; exact HJ2.out
            · unfold Hid; rw [HR.out, He.out]; omega
          case measure => simp [intOf]; omega
    · obtain rfl : k = xs.length := by omega
      go_wp2_with fail
      go_ret2
      exact ⟨ret_2i (by rw [hI.out, List.drop_length]; simp [rkF]) rfl, rfl⟩

theorem isNaN_c (x : Int) (w : World) : Calls Try.prog 136 #[.int .i64 x] w fun e w' => e = .returned (.bool false) ∧ w = w' := by
  have h := ne_f (rfl : x = x)
  go_enter Try.func136, Try.ntmps136
  go_wp2_with fail
  go_ret
  exact ⟨rfl, rfl⟩
theorem cmp_lt (x y : Int) (h : x < y) (w : World) : Calls Try.prog 127 #[.int .i64 x, .int .i64 y] w fun e w' => e = .returned (.int .i64 (-1)) ∧ w = w' := by
  go_enter Try.func127, Try.ntmps127
  go_wp2_with (go_at_call 136; refine (isNaN_c _ _).mono ?_; rintro e w3 ⟨rfl, rfl⟩)
  go_ret
  exact ⟨rfl, rfl⟩
theorem cmp_eq (x : Int) (w : World) : Calls Try.prog 127 #[.int .i64 x, .int .i64 x] w fun e w' => e = .returned (.int .i64 0) ∧ w = w' := by
  go_enter Try.func127, Try.ntmps127
  go_wp2_with (go_at_call 136; refine (isNaN_c _ _).mono ?_; rintro e w3 ⟨rfl, rfl⟩)
  go_ret
  exact ⟨rfl, rfl⟩

theorem lexLt_drop {xs ys : List Int} {k : Nat} (h : lexLt (xs.drop k) (ys.drop k)) : k < xs.length ∧ k < ys.length ∧ (nth xs k < nth ys k ∨ nth xs k = nth ys k ∧ lexLt (xs.drop (k + 1)) (ys.drop (k + 1))) := by
  have h1 : k < xs.length := by
    apply Nat.lt_of_not_le; intro hl
    rw [List.drop_of_length_le hl] at h; exact h
  have h2 : k < ys.length := by
    apply Nat.lt_of_not_le; intro hl
    rw [List.drop_of_length_le hl, drop_nth h1] at h; exact h
  rw [drop_nth h1, drop_nth h2] at h
  exact ⟨h1, h2, h⟩

set_option maxHeartbeats 1000000 in
set_option maxRecDepth 100000 in
theorem CompareLists_lt (va vb : Value) (xs ys : List Int) (w : World) (ha : RdI w va xs) (hb : RdI w vb ys) (hl : lexLt xs ys) :
    Calls Try.prog 105 #[va, vb] w fun e w' => e = .returned (.int .i64 (-1)) ∧ w = w' := by
  have hla := ha.len
  have hlb := hb.len
  have hia := ha.ix
  have hib := hb.ix
  have hca := ha.cell
  have hcb := hb.cell
  have hma := ha.le
  have hmb := hb.le
  have Hl := Lib.hid hl
  clear hl
  go_enter Try.func105, Try.ntmps105
  go_wp2_with fail
  go_loop [5, 6, 7, 8, 11] (fun _ _ _ _ i => ∃ k : Nat, k ≤ xs.length ∧ i = .int .i64 k ∧ Hid (lexLt (xs.drop k) (ys.drop k))) (fun _ _ _ _ i => xs.length - (intOf i).toNat)
  case atStart => exact ⟨0, by omega, rfl, by simpa [Hid] using Hl.out⟩
  case round =>
    obtain ⟨k, hk, rfl, hI⟩ := hrel
    obtain ⟨k1, k2, h⟩ := lexLt_drop hI.out
    rcases h with h | ⟨h, h'⟩
    · go_wp2_with (go_at_call 127; refine (cmp_lt _ _ h _).mono ?_; rintro e w3 ⟨rfl, rfl⟩)
      go_ret
      exact ⟨rfl, rfl⟩
    · have H' := Lib.hid h'
      have H := Lib.hid h
      clear h h'
      go_wp2_with (go_at_call 127; rw [← H.out]; refine (cmp_eq _ _).mono ?_; rintro e w3 ⟨rfl, rfl⟩)
      go_round
      case rel => exact ⟨k + 1, by omega, by go_num, H'⟩
      case measure => simp [intOf]; omega

theorem CompareLists_c (va vb : Value) (xs ys : List Int) (w : World) (ha : RdI w va xs) (hb : RdI w vb ys) (hl : lexLt xs ys) :
    Calls Try.prog 56 #[va, vb] w fun e w' => e = .returned (.int .i64 (-1)) ∧ w = w' := by
  go_enter Try.func56, Try.ntmps56
  go_wp2_with fail
  refine (CompareLists_lt _ _ _ _ _ ha hb hl).mono ?_
  rintro e w1 ⟨rfl, rfl⟩
  go_wp2_with fail
  go_ret
  exact ⟨rfl, rfl⟩
end Go.Proofs.Ytonmggppfopidaa
