/- The texts of this claim, run 11: Ds7 Ds8 Ds9 DsA Pn1 Pn3 Times. -/
import Derived.Test.YtljemlfocajhnaaGreatK3
import Derived.Test.YtljemlfocajhnaaGreatK4
import Derived.Test.YtljemlfocajhnaaGreatK5
import Derived.Test.YtljemlfocajhnaaGreatK6
import Derived.Test.YtljemlfocajhnaaGreatK7

section
/- Walks: how often points and pairs of points occur in a design. -/
namespace Go.Proofs.YtljemlfocajhnaaGreat
set_option linter.unusedSimpArgs false
set_option linter.unusedVariables false
open Go.RowKit
attribute [local go_sem ↓] Go.wp_at_zero Go.wp_at_succ

/-- a block of points 0 .. P - 1 that increases -/
structure Inc (P : Nat) (b : List Int) : Prop where
  bd : ∀ i, i < b.length → 0 ≤ nth b i ∧ nth b i < P
  lt : ∀ i j, i < j → j < b.length → nth b i < nth b j
  len : b.length ≤ P
theorem inc_of {P : Nat} {b : List Int} (h : incB (-1) P b = true) : Inc P b where
  len := by have := inc_len h (by omega); omega
  bd i hi := by have := incB_gt h _ (nth_mem hi); omega
  lt i j hij hj := by
    have := List.pairwise_iff_getElem.1 (incB_pw h) i j (by omega) hj hij
    rwa [← nth_eq (show i < b.length by omega), ← nth_eq hj] at this
theorem DOk.inc' {P : Nat} {A : List (List Int)} (h : DOk P A) {k : Nat} (hk : k < A.length) : Inc P (xat A k) := inc_of (h.inc _ (xat_mem hk))
theorem Inc.nat {P : Nat} {b : List Int} (h : Inc P b) {i : Nat} (hi : i < b.length) : ∃ x : Nat, nth b i = x ∧ x < P :=
  ⟨(nth b i).toNat, by have := h.bd i hi; omega, by have := h.bd i hi; omega⟩
theorem Inc.fresh {P : Nat} {b : List Int} (h : Inc P b) {j : Nat} (hj : j < b.length) : nth b j ∉ b.take j := by
  intro hm
  obtain ⟨i, hi, he⟩ := List.getElem_of_mem hm
  have hi' : i < j := by simp at hi; omega
  rw [List.getElem_take, ← nth_eq (show i < b.length by omega)] at he
  have := h.lt i j hi' hj
  omega
theorem mem_take1 {b : List Int} {j : Nat} (hj : j < b.length) (x : Int) : x ∈ b.take (j + 1) ↔ x ∈ b.take j ∨ x = nth b j := by
  rw [List.take_add_one, List.getElem?_eq_getElem hj, nth_eq hj, List.mem_append]
  simp only [Option.toList, List.mem_singleton]
/-- how often the points have come up, behind k blocks and j points -/
def repS (P : Nat) (A : List (List Int)) (k j : Nat) : List Int := (List.range P).map fun x => repF (A.take k) x + if (x : Int) ∈ (xat A k).take j then 1 else 0
theorem repS_len (P : Nat) (A : List (List Int)) (k j : Nat) : (repS P A k j).length = P := by simp [repS]
theorem repS_at {P : Nat} {A : List (List Int)} {k j x : Nat} (hx : x < P) : nth (repS P A k j) x = repF (A.take k) x + if (x : Int) ∈ (xat A k).take j then 1 else 0 := by
  rw [nth_eq (by rw [repS_len]; exact hx)]; simp [repS]
theorem repS_0 (P : Nat) (A : List (List Int)) : repS P A 0 0 = List.replicate P 0 := by
  apply List.ext_getElem
  · simp [repS]
  · intro i h1 h2
    simp [repS, repF, cntD]
theorem repS_bd {P : Nat} {A : List (List Int)} {k j x : Nat} (hk : k < A.length) (hA : A.length ≤ 128) (hx : x < P) : 0 ≤ nth (repS P A k j) x ∧ nth (repS P A k j) x ≤ 129 := by
  rw [repS_at hx]
  have := cntD_bd (fun b => decide ((x : Int) ∈ b)) (A.take k)
  have hl : (A.take k).length ≤ 128 := by simp; omega
  unfold repF
  split <;> omega
theorem repS_step {P : Nat} {A : List (List Int)} {k j x : Nat} (hi : Inc P (xat A k)) (hj : j < (xat A k).length) (hx : nth (xat A k) j = x) (hxP : x < P) :
    (repS P A k j).set x (nth (repS P A k j) x + 1) = repS P A k (j + 1) := by
  apply List.ext_getElem
  · simp [repS]
  · intro i h1 h2
    have hiP : i < P := by simpa [repS] using h2
    rw [← nth_eq h2, repS_at hiP, List.getElem_set]
    have hf := hi.fresh hj
    rw [hx] at hf
    have hm := mem_take1 hj (i : Int)
    rw [hx] at hm
    by_cases e : x = i
    · subst e
      rw [if_pos rfl, repS_at hxP, if_neg hf, if_pos (hm.2 (.inr rfl))]; omega
    · rw [if_neg e, ← nth_eq (by rw [repS_len]; exact hiP), repS_at hiP]
      congr 1
      have : ((i : Int) ∈ (xat A k).take (j + 1)) ↔ (i : Int) ∈ (xat A k).take j := by rw [hm]; constructor
                                                                                       · rintro (h | h)
                                                                                         · exact h
                                                                                         · omega
                                                                                       · exact .inl
      simp only [this]
theorem repS_next {P : Nat} {A : List (List Int)} {k : Nat} (hk : k < A.length) : repS P A k (xat A k).length = repS P A (k + 1) 0 := by
  refine List.map_congr_left fun x _ => ?_
  rw [List.take_length, take_xat hk]
  unfold repF
  rw [cntD_snoc]
  simp
theorem repS_end {P : Nat} {A : List (List Int)} : repS P A A.length 0 = repL P A := by
  refine List.map_congr_left fun x _ => ?_
  rw [List.take_length]; simp

set_option maxHeartbeats 2000000 in
set_option maxRecDepth 100000 in
theorem replicationsOf_c (P : Nat) (v : Value) (us : List Value) (A : List (List Int)) (w : World) (hv : RII w v us A) (hD : DOk P A) :
    Calls Tryz.prog 77 #[dv P v] w (MakesI w (repL P A)) := by
  obtain ⟨a, c, hsh⟩ := hv.1.sl.sh
  rw [hv.2.1] at hsh
  subst hsh
  have hP := hD.le
  have hDl := hD.len
  have HD := Lib.hid hD
  clear hD
  have hS1 := (St.refl w).newboxF 26 #[.int .i64 P, .slice a A.length c]
  have b0 := hS1.bcell 0 rfl 0 rfl
  have b1 := hS1.bcell 0 rfl 1 rfl
  have hix := hv.ix
  unfold dv
  go_enter Tryz.func77, Tryz.ntmps77
  go_wp2_with (at_make; refine mkI hS1 rfl _ _ rfl _ _ P (by go_num) (by go_num) (by omega) ?_; intro vc w3 hS3; have b1 := hS3.bcell 0 rfl 1 rfl)
  have hxc := (hS3.rdI 1 rfl).ixe
  rw [← repS_0 P A] at hS3 hxc
  rw [repS_len] at hxc
  go_loopw [5, 7, 14] (fun _ _ i wr => ∃ k : Nat, k ≤ A.length ∧ i = .int .i64 k ∧ St w.heap.size w wr [box 26 w.heap.size [.int .i64 P, .slice a A.length c], row 2 vc (iv (repS P A k 0))]) (fun _ _ i _ => A.length - (intOf i).toNat)
  case atStart => exact ⟨0, by omega, rfl, hS3⟩
  case round =>
    clear hS3 b0 b1
    obtain ⟨k, hk, rfl, hS⟩ := hrel
    by_cases hlt : k < A.length
    · have hc := (hS.oldII hv).cell k hlt
      have hrk := (hS.oldII hv).row k hlt
      have hlk := hrk.len
      have hik := hrk.ix
      have HI := Lib.hid (HD.out.inc' hlt)
      have hl32 := HI.out.len
      have Hnx := Lib.hid (repS_next (P := P) hlt)
      go_wp2_with fail
      obtain ⟨wo, rfl⟩ : ∃ wo : World, wo = wr := ⟨_, rfl⟩
      go_loopw [7, 20] (fun _ i wr => ∃ j : Nat, j ≤ (xat A k).length ∧ i = .int .i64 j ∧ St w.heap.size w wr [box 26 w.heap.size [.int .i64 P, .slice a A.length c], row 2 vc (iv (repS P A k j))]) (fun _ i _ => (xat A k).length - (intOf i).toNat)
      case atStart => exact ⟨0, by omega, rfl, hS⟩
      case round =>
        clear hS hc hrk
        obtain ⟨j, hj, rfl, hS⟩ := hrel
        by_cases hjt : j < (xat A k).length
        · have cb := ((hS.oldII hv).row k hlt).cell j hjt
          obtain ⟨x, hx, hxP⟩ := HI.out.nat hjt
          rw [hx] at cb
          have Hst := Lib.hid (repS_step HI.out hjt hx hxP)
          have cx := (hS.rdI 1 rfl).cell x (by rw [repS_len]; exact hxP)
          have ux := hS.unfrozen 1 rfl (j := x) (by rw [iv_len, repS_len]; exact hxP)
          have xx := hxc (x : Int) x rfl hxP
          have hbd := repS_bd (P := P) (j := j) hlt hDl hxP
          have HS9 := Lib.hid (hS.store 1 rfl (j := x) (by rw [iv_len, repS_len]; exact hxP) (.int .i64 (nth (repS P A k j) x + 1)))
          generalize hq : nth (repS P A k j) x = q at *
          clear hq hx
          go_wp2_with fail
          have hS9 := HS9.out
          simp only [List.set_cons_zero, List.set_cons_succ] at hS9
          rw [iv_set, Hst.out] at hS9
          go_roundw
          case rel => exact ⟨j + 1, by omega, by go_num, hS9⟩
          case measure => simp [intOf]; omega
        · obtain rfl : j = (xat A k).length := by omega
          rw [Hnx.out] at hS
          go_wp2_with fail
          go_roundw
          case rel => exact ⟨k + 1, by omega, by go_num, hS⟩
          case measure => simp [intOf]; omega
    · obtain rfl : k = A.length := by omega
      rw [repS_end] at hS
      go_wp2_with fail
      go_ret
      exact ⟨vc, rfl, hS.sub (List.sublist_cons_self _ _)⟩
end Go.Proofs.YtljemlfocajhnaaGreat
end

section
/- Walks: how often pairs of points occur in a design. -/
namespace Go.Proofs.YtljemlfocajhnaaGreat
set_option linter.unusedSimpArgs false
set_option linter.unusedVariables false
open Go.RowKit
attribute [local go_sem ↓] Go.wp_at_zero Go.wp_at_succ

def parC (b : List Int) (i j x y : Nat) : Prop := ((x : Int) ∈ b.take i ∧ (y : Int) ∈ b) ∨ ((x : Int) = nth b i ∧ (y : Int) ∈ (b.drop (i + 1)).take j)
open Classical in
noncomputable def parT (A : List (List Int)) (k i j x y : Nat) : Int := parF (A.take k) x y + if parC (xat A k) i j x y then 1 else 0
/-- the table behind k blocks, i points and j further points -/
structure PrM (P : Nat) (A : List (List Int)) (k i j : Nat) (M : List (List Int)) : Prop where
  sq : Sqr P M
  at' : ∀ x y, x < y → y < P → at2 M x y = parT A k i j x y
theorem parT_bd {A : List (List Int)} {k i j x y : Nat} (hA : A.length ≤ 128) : 0 ≤ parT A k i j x y ∧ parT A k i j x y ≤ 129 := by
  unfold parT parF
  have := cntD_bd (fun b => decide ((x : Int) ∈ b) && decide ((y : Int) ∈ b)) (A.take k)
  have hl : (A.take k).length ≤ 128 := by simp; omega
  split <;> omega
theorem nth_drop (b : List Int) (i j : Nat) : nth (b.drop i) j = nth b (i + j) := by simp [nth]
theorem Inc.fresh2 {P : Nat} {b : List Int} (h : Inc P b) {i j : Nat} (hj : i + j < b.length) : nth b (i + j) ∉ (b.drop i).take j := by
  intro hm
  obtain ⟨m, hm', he⟩ := List.getElem_of_mem hm
  have hmj : m < j := by simp at hm'; omega
  rw [List.getElem_take, List.getElem_drop, ← nth_eq (show i + m < b.length by omega)] at he
  have := h.lt (i + m) (i + j) (by omega) hj
  omega
theorem PrM.step {P : Nat} {A : List (List Int)} {k i j x y : Nat} {M : List (List Int)} (h : PrM P A k i j M) (hi : Inc P (xat A k)) (hj : i + 1 + j < (xat A k).length) (hx : nth (xat A k) i = x) (hy : nth (xat A k) (i + 1 + j) = y) :
    PrM P A k i (j + 1) (putS M x y (at2 M x y + 1)) := by
  have hxP : x < P := by have := (hi.bd i (by omega)).2; omega
  have hyP : y < P := by have := (hi.bd (i + 1 + j) hj).2; omega
  have hxy : x < y := by have := hi.lt i (i + 1 + j) (by omega) hj; omega
  have hd : nth ((xat A k).drop (i + 1)) j = y := by rw [nth_drop, hy]
  have hdl : j < ((xat A k).drop (i + 1)).length := by simp; omega
  refine ⟨putS_sqr h.sq hxP _ _, fun t u htu huP => ?_⟩
  rw [at2_putS h.sq hxP hyP]
  have hm := mem_take1 hdl (u : Int)
  rw [hd] at hm
  by_cases e : x = t ∧ y = u
  · obtain ⟨rfl, rfl⟩ := e
    rw [if_pos ⟨rfl, rfl⟩, h.at' x y hxy hyP]
    have c0 : ¬ parC (xat A k) i j x y := by
      rintro (⟨h1, _⟩ | ⟨_, h2⟩)
      · have := hi.fresh (show i < (xat A k).length by omega); rw [hx] at this; exact this h1
      · have := hi.fresh2 (i := i + 1) (j := j) hj; rw [hy] at this; exact this h2
    have c1 : parC (xat A k) i (j + 1) x y := .inr ⟨hx.symm, hm.2 (.inr rfl)⟩
    unfold parT
    rw [if_neg c0, if_pos c1]; omega
  · rw [if_neg e, h.at' t u htu huP]
    unfold parT
    have : parC (xat A k) i j t u ↔ parC (xat A k) i (j + 1) t u := by
      unfold parC
      rw [hm, hx]
      constructor
      · rintro (h1 | ⟨h1, h2⟩)
        · exact .inl h1
        · exact .inr ⟨h1, .inl h2⟩
      · rintro (h1 | ⟨h1, h2 | h2⟩)
        · exact .inl h1
        · exact .inr ⟨h1, h2⟩
        · exact absurd ⟨by omega, by omega⟩ e
    by_cases hc : parC (xat A k) i j t u
    · rw [if_pos hc, if_pos (this.1 hc)]
    · rw [if_neg hc, if_neg (fun h => hc (this.2 h))]
theorem PrM.next {P : Nat} {A : List (List Int)} {k i : Nat} {M : List (List Int)} (h : PrM P A k i ((xat A k).length - (i + 1)) M) (hi : Inc P (xat A k)) (hl : i < (xat A k).length) : PrM P A k (i + 1) 0 M := by
  refine ⟨h.sq, fun x y hxy hy => ?_⟩
  rw [h.at' x y hxy hy]
  unfold parT
  have : parC (xat A k) i ((xat A k).length - (i + 1)) x y ↔ parC (xat A k) (i + 1) 0 x y := by
    unfold parC
    rw [mem_take1 hl, List.take_zero, show ((xat A k).drop (i + 1)).take ((xat A k).length - (i + 1)) = (xat A k).drop (i + 1) from List.take_of_length_le (by simp)]
    constructor
    · rintro (⟨h1, h2⟩ | ⟨h1, h2⟩)
      · exact .inl ⟨.inl h1, h2⟩
      · exact .inl ⟨.inr h1, List.mem_of_mem_drop h2⟩
    · rintro (⟨h1 | h1, h2⟩ | ⟨_, h2⟩)
      · exact .inl ⟨h1, h2⟩
      · refine .inr ⟨h1, ?_⟩
        obtain ⟨m, hm, he⟩ := List.getElem_of_mem h2
        rw [← nth_eq hm] at he
        have him : i < m := by
          rcases Nat.lt_trichotomy i m with h3 | h3 | h3
          · exact h3
          · subst h3; omega
          · have := hi.lt m i h3 hl; omega
        rw [List.mem_iff_getElem]
        exact ⟨m - (i + 1), by simp; omega, by rw [List.getElem_drop, ← he, nth_eq hm]; congr 1; omega⟩
      · cases h2
  by_cases hc : parC (xat A k) i ((xat A k).length - (i + 1)) x y
  · rw [if_pos hc, if_pos (this.1 hc)]
  · rw [if_neg hc, if_neg (fun h => hc (this.2 h))]
theorem PrM.block {P : Nat} {A : List (List Int)} {k : Nat} {M : List (List Int)} (h : PrM P A k (xat A k).length 0 M) (hk : k < A.length) : PrM P A (k + 1) 0 0 M := by
  refine ⟨h.sq, fun x y hxy hy => ?_⟩
  rw [h.at' x y hxy hy]
  unfold parT
  have c1 : ¬ parC (xat A (k + 1)) 0 0 x y := by rintro (⟨h1, _⟩ | ⟨_, h1⟩) <;> cases h1
  have c0 : parC (xat A k) (xat A k).length 0 x y ↔ ((x : Int) ∈ xat A k ∧ (y : Int) ∈ xat A k) := by
    unfold parC
    rw [List.take_length, List.take_zero]
    constructor
    · rintro (h1 | ⟨_, h1⟩)
      · exact h1
      · cases h1
    · exact .inl
  rw [if_neg c1, take_xat hk]
  unfold parF
  rw [cntD_snoc]
  by_cases hc : (x : Int) ∈ xat A k ∧ (y : Int) ∈ xat A k
  · rw [if_pos (c0.2 hc), if_pos (by rw [decide_eq_true hc.1, decide_eq_true hc.2]; rfl)]; omega
  · rw [if_neg (fun h => hc (c0.1 h)), if_neg (by rw [Bool.and_eq_true, decide_eq_true_eq, decide_eq_true_eq]; exact hc)]; omega
theorem PrM.start (P : Nat) (A : List (List Int)) : PrM P A 0 0 0 (sqF P fun _ _ => 0) := by
  refine ⟨sqF_sqr _ _, fun x y hxy hy => ?_⟩
  rw [at2_sqF (by omega) hy]
  unfold parT
  have c1 : ¬ parC (xat A 0) 0 0 x y := by rintro (⟨h1, _⟩ | ⟨_, h1⟩) <;> cases h1
  rw [if_neg c1]; simp [parF, cntD]
theorem PrM.row {P : Nat} {A : List (List Int)} {M : List (List Int)} (h : PrM P A A.length 0 0 M) {x : Nat} (hx : x < P) : ((xat M x).take P).drop (x + 1) = parR P A x := by
  have hl := h.sq.row x hx
  apply List.ext_getElem
  · simp [parR, hl]
  · intro t h1 h2
    have ht : t < P - (x + 1) := by simpa [parR] using h2
    rw [List.getElem_drop, List.getElem_take, ← nth_eq (by rw [hl]; omega)]
    have := h.at' x (x + 1 + t) (by omega) (by omega)
    have c1 : ¬ parC (xat A A.length) 0 0 x (x + 1 + t) := by rintro (⟨h1, _⟩ | ⟨_, h1⟩) <;> cases h1
    unfold parT at this
    rw [if_neg c1, List.take_length] at this
    rw [show nth (xat M x) (x + 1 + t) = at2 M x (x + 1 + t) from rfl, this]
    simp [parR]
theorem St.nilrow4 {B : Nat} {w0 w : World} {L : List Ent} (h : St B w0 w L) (e : TypeId) : St B w0 w (L ++ [row e (.slice none 0 0) []]) :=
  h.add ⟨rfl, rfl, rfl, Nat.le_refl _, fun _ _ _ => rfl⟩ _ (.inr (.inl ⟨rfl, rfl, rfl⟩)) (fun k hk => by simp [bk, row] at hk)
/-- the numbers of the pairs of the first k points -/
def parK (P : Nat) (A : List (List Int)) (k : Nat) : List Int := ((List.range k).map (parR P A)).flatten
theorem parK_succ (P : Nat) (A : List (List Int)) (k : Nat) : parK P A (k + 1) = parK P A k ++ parR P A k := by
  rw [parK, List.range_succ, List.map_append, List.flatten_append]; simp [parK]
theorem parK_len (P : Nat) (A : List (List Int)) : ∀ k, (parK P A k).length ≤ k * P
  | 0 => Nat.zero_le _
  | k + 1 => by
    rw [parK_succ, List.length_append, Nat.succ_mul]
    have := parK_len P A k
    have : (parR P A k).length ≤ P := by simp [parR]
    omega
theorem parK_end (P : Nat) (A : List (List Int)) : parK P A P = parL P A := rfl

set_option maxHeartbeats 4000000 in
set_option maxRecDepth 100000 in
theorem pairCounts_c (P : Nat) (v : Value) (us : List Value) (A : List (List Int)) (w : World) (hv : RII w v us A) (hD : DOk P A) :
    Calls Tryz.prog 76 #[dv P v] w (MakesI w (parL P A)) := by
  obtain ⟨a, c, hsh⟩ := hv.1.sl.sh
  rw [hv.2.1] at hsh
  subst hsh
  have hP := hD.le
  have hDl := hD.len
  have HD := Lib.hid hD
  clear hD
  have hS1 := (St.refl w).newboxF 26 #[.int .i64 P, .slice a A.length c]
  have b0 := hS1.bcell 0 rfl 0 rfl
  have b1 := hS1.bcell 0 rfl 1 rfl
  have hix := hv.ix
  unfold dv
  go_enter Tryz.func76, Tryz.ntmps76
  go_wp2_with fail
  refine (emptySquare_c P _ (by omega)).mono ?_
  rintro e w2 ⟨vo, uo, rfl, hlo, h2⟩
  have hS2 := hS1.call h2
  have b1 := hS2.bcell 0 rfl 1 rfl
  have hS3 := hS2.perm (L' := own2 vo uo (sqF P fun _ _ => 0) ++ [box 26 w.heap.size [.int .i64 P, .slice a A.length c]]) List.perm_append_comm
  have hM := PrM.start P A
  have hlo' : uo.length = P := by rw [hlo, hM.sq.len]
  have Hlo := Lib.hid hlo'
  have hro := h2.rii hlo
  have hxo := hro.ixe
  have hlno := hro.len
  rw [hM.sq.len] at hxo hlno
  generalize (sqF P fun _ _ => (0 : Int)) = M0 at *
  have HM := Lib.hid hM
  clear hS1 hS2 h2 hlo hlo' hM b0 hro
  go_wp2_with fail
  go_loopw [5, 6, 7, 9, 19] (fun _ _ _ _ i wr => ∃ (k : Nat) (M : List (List Int)), k ≤ A.length ∧ i = .int .i64 k ∧ Hid (PrM P A k 0 0 M) ∧ St w.heap.size w wr (own2 vo uo M ++ [box 26 w.heap.size [.int .i64 P, .slice a A.length c]])) (fun _ _ _ _ i _ => A.length - (intOf i).toNat)
  case atStart => exact ⟨0, M0, by omega, rfl, HM, hS3⟩
  case round =>
    clear hS3 b1 HM
    obtain ⟨k, M, hk, rfl, hM, hS⟩ := hrel
    by_cases hlt : k < A.length
    · have hc := (hS.oldII hv).cell k hlt
      have hrk := (hS.oldII hv).row k hlt
      have hlk := hrk.len
      have hik := hrk.ix
      have HI := Lib.hid (HD.out.inc' hlt)
      have hl32 := HI.out.len
      go_wp2_with fail
      obtain ⟨wo, rfl⟩ : ∃ wo : World, wo = wr := ⟨_, rfl⟩
      go_loopw [6, 7, 9, 25] (fun _ _ _ m wr => ∃ (i : Nat) (M : List (List Int)), i ≤ (xat A k).length ∧ m = .int .i64 i ∧ Hid (PrM P A k i 0 M) ∧ St w.heap.size w wr (own2 vo uo M ++ [box 26 w.heap.size [.int .i64 P, .slice a A.length c]])) (fun _ _ _ m _ => (xat A k).length - (intOf m).toNat)
      case atStart => exact ⟨0, M, by omega, rfl, hM, hS⟩
      case round =>
        clear hS hc hrk hM
        obtain ⟨i, M, hi, rfl, hM, hS⟩ := hrel
        by_cases hil : i < (xat A k).length
        · have hrk := (hS.oldII hv).row k hlt
          have ci := hrk.cell i hil
          obtain ⟨x, hx, hxP⟩ := HI.out.nat hil
          rw [hx] at ci
          have hsl : ∀ W, (Instr.slice 46 (vat us k) (some (.int .i64 ((i : Int) + 1))) none none).run Tryz.prog W = .ok (rsl (vat us k) (i + 1) (xat A k).length) W := fun W => by
            have := rsl_lo hrk (i + 1) (by omega) W; rwa [show ((i + 1 : Nat) : Int) = (i : Int) + 1 by omega] at this
          have hsr := rsl_rd hrk (lo := i + 1) (hi := (xat A k).length) (by omega) (Nat.le_refl _)
          rw [List.take_length] at hsr
          have hsn := hsr.len
          have hsx := hsr.ix
          have hdl : ((xat A k).drop (i + 1)).length = (xat A k).length - (i + 1) := by simp
          rw [hdl] at hsn hsx
          have Hx := Lib.hid hx
          have Hsr := Lib.hid (fun W (hW : St w.heap.size w W (own2 vo uo M ++ [box 26 w.heap.size [.int .i64 P, .slice a A.length c]])) => hW)
          clear Hsr hsr hdl hx
          go_wp2_with fail
          obtain ⟨wq, rfl⟩ : ∃ wq : World, wq = wr := ⟨_, rfl⟩
          go_loopw [9, 35] (fun _ m wr => ∃ (j : Nat) (M : List (List Int)), j ≤ (xat A k).length - (i + 1) ∧ m = .int .i64 j ∧ Hid (PrM P A k i j M) ∧ St w.heap.size w wr (own2 vo uo M ++ [box 26 w.heap.size [.int .i64 P, .slice a A.length c]])) (fun _ m _ => (xat A k).length - (intOf m).toNat)
          case atStart => exact ⟨0, M, by omega, rfl, hM, hS⟩
          case round =>
            clear hS hM hrk ci
            obtain ⟨j, M, hj, rfl, hM, hS⟩ := hrel
            by_cases hjl : j < (xat A k).length - (i + 1)
            · have hrk := (hS.oldII hv).row k hlt
              have hsr := rsl_rd hrk (lo := i + 1) (hi := (xat A k).length) (by omega) (Nat.le_refl _)
              rw [List.take_length] at hsr
              have cj := hsr.cell j (by simp; omega)
              rw [nth_drop] at cj
              obtain ⟨y, hy, hyP⟩ := HI.out.nat (show i + 1 + j < (xat A k).length by omega)
              rw [hy] at cj
              have hst := Lib.hid (hM.out.step HI.out (by omega) Hx.out hy)
              have hMl := hM.out.sq.len
              have hMr := hM.out.sq.row x hxP
              have hlS : uo.length = M.length := by rw [Hlo.out, hMl]
              have hat := hS.at_row hlS (j := x) (by rw [hMl]; exact hxP)
              have hrx := hS.rdI (x + 1) hat
              have cx := (rii2 hS hlS).cell x (by rw [hMl]; exact hxP)
              have cxy : wr.cell? (el (vat uo x) y) = some (.int .i64 (at2 M x y)) := hrx.cell y (by rw [hMr]; exact hyP)
              have uxy := hS.unfrozen (x + 1) hat (j := y) (by rw [iv_len, hMr]; exact hyP)
              have xx := hxo (x : Int) x rfl hxP
              have xy := hrx.ixe (y : Int) y rfl (by rw [hMr]; exact hyP)
              have hbd : 0 ≤ at2 M x y ∧ at2 M x y ≤ 129 := by
                rw [hM.out.at' x y (by have := HI.out.lt i (i + 1 + j) (by omega) (by omega); have := Hx.out; omega) hyP]; exact parT_bd hDl
              have HS9 := Lib.hid (hS.store (x + 1) hat (j := y) (by rw [iv_len, hMr]; exact hyP) (.int .i64 (at2 M x y + 1)))
              have Hset := Lib.hid (own2_set (v := vo) (L2 := [box 26 w.heap.size [.int .i64 P, .slice a A.length c]]) hlS (j := x) (by rw [hMl]; exact hxP) ((xat M x).set y (at2 M x y + 1)))
              unfold putS at hst
              generalize at2 M x y = q at *
              clear hat hrx hlS hMl hMr hy hrk hsr hM hS
              go_wp2_with fail
              have hS9 := HS9.out
              rw [iv_set, Hset.out] at hS9
              go_roundw
              case rel => exact ⟨j + 1, _, by omega, by go_num, hst, hS9⟩
              case measure => simp [intOf]; omega
            · obtain rfl : j = (xat A k).length - (i + 1) := by omega
              have HN := Lib.hid (hM.out.next HI.out hil)
              go_wp2_with fail
              go_roundw
              case rel => exact ⟨i + 1, M, by omega, by go_num, HN, hS⟩
              case measure => simp [intOf]; omega
        · obtain rfl : i = (xat A k).length := by omega
          have HN := Lib.hid (hM.out.block hlt)
          go_wp2_with fail
          go_roundw
          case rel => exact ⟨k + 1, M, by omega, by go_num, HN, hS⟩
          case measure => simp [intOf]; omega
    · obtain rfl : k = A.length := by omega
      have hN0 := (hS.nilrow4 2).perm (L' := row 2 (.slice none 0 0) [] :: (own2 vo uo M ++ [box 26 w.heap.size [.int .i64 P, .slice a A.length c]])) (by (try simp only [own2, List.cons_append, List.nil_append, List.append_nil]); classical exact List.perm_iff_count.2 (fun a => by simp only [List.cons_append, List.nil_append, List.append_nil, List.count_append, List.count_cons, List.count_nil] <;> omega))
      have hMl := hM.out.sq.len
      have hMr := Lib.hid hM.out.sq.row
      have hlS := Lib.hid (show uo.length = M.length by rw [Hlo.out, hMl])
      clear hS
      go_wp2_with fail
      go_loopw [10, 11, 12, 53] (fun ct _ _ i wr => ∃ x : Nat, x ≤ P ∧ i = .int .i64 x ∧ St w.heap.size w wr (row 2 ct (iv (parK P A x)) :: (own2 vo uo M ++ [box 26 w.heap.size [.int .i64 P, .slice a A.length c]]))) (fun _ _ _ i _ => P - (intOf i).toNat)
      case atStart => exact ⟨0, by omega, rfl, hN0⟩
      case round =>
        clear hN0
        obtain ⟨x, hx, rfl, hS⟩ := hrel
        by_cases hxP : x < P
        · have hR := rii2 (hS.sub (List.sublist_cons_self _ _)) hlS.out
          have cx := hR.cell x (by rw [hMl]; exact hxP)
          have hrx := hR.row x (by rw [hMl]; exact hxP)
          have hxl := hMr.out x hxP
          have hsl : ∀ W, (Instr.slice 46 (vat uo x) (some (.int .i64 ((x : Int) + 1))) none none).run Tryz.prog W = .ok (rsl (vat uo x) (x + 1) (xat M x).length) W := fun W => by
            have := rsl_lo hrx (x + 1) (by rw [hxl]; omega) W; rwa [show ((x + 1 : Nat) : Int) = (x : Int) + 1 by omega] at this
          have hsr := rsl_rd hrx (lo := x + 1) (hi := (xat M x).length) (by rw [hxl]; omega) (Nat.le_refl _)
          rw [hxl] at hsl hsr
          rw [hM.out.row hxP] at hsr
          have Hsr := Lib.hid hsr
          have hpl := Lib.hid (show (parK P A x).length + (parR P A x).length < 100000 by
            have := parK_len P A x
            have h2 : x * P ≤ 32 * 32 := Nat.mul_le_mul (by omega) (by omega)
            have : (parR P A x).length ≤ P := by simp [parR]
            omega)
          clear hrx hR hsr hxl
          have xx := hxo (x : Int) x rfl hxP
          go_wp2_with (at_builtin; refine appsI hS 0 rfl _ _ Hsr.out (by have := hpl.out; omega) rfl _ _ rfl rfl rfl ?_; intro v2 w2 hS2)
          simp only [List.set_cons_zero] at hS2
          rw [← parK_succ] at hS2
          go_roundw
          case rel => exact ⟨x + 1, by omega, by go_num, hS2⟩
          case measure => simp [intOf]; omega
        · obtain rfl : x = P := by omega
          rw [parK_end] at hS
          go_wp2_with fail
          go_ret
          exact ⟨_, rfl, hS.sub (by simp)⟩
end Go.Proofs.YtljemlfocajhnaaGreat
end

section
/- Walks: the parameters of a balanced design. -/
namespace Go.Proofs.YtljemlfocajhnaaGreat
set_option linter.unusedSimpArgs false
set_option linter.unusedVariables false
open Go.RowKit
attribute [local go_sem ↓] Go.wp_at_zero Go.wp_at_succ

/-- parameters as a value -/
def pmV (xs : List Int) : Value := .agg #[.int .i64 (nth xs 0), .int .i64 (nth xs 1), .int .i64 (nth xs 2), .int .i64 (nth xs 3), .int .i64 (nth xs 4)]
def MakesPr (w : World) (xs : List Int) (b : Bool) (e : Ending) (w' : World) : Prop := e = .returned (.tuple #[pmV xs, .bool b]) ∧ St w.heap.size w w' []
theorem prmV_no {P : Nat} {A : List (List Int)} (h : prmB P A = false) : prmV P A = [0, 0, 0, 0, 0] := by unfold prmV; rw [if_neg (by rw [h]; decide)]
theorem MakesPr.no {w w' : World} {L : List Ent} {P : Nat} {A : List (List Int)} (h : prmB P A = false) (hS : St w.heap.size w w' L) :
    MakesPr w (prmV P A) (prmB P A) (.returned (.tuple #[.agg #[.int .i64 0, .int .i64 0, .int .i64 0, .int .i64 0, .int .i64 0], .bool false])) w' := by
  rw [prmV_no h, h]; exact ⟨rfl, hS.out⟩
theorem prm_no1 {P : Nat} {A : List (List Int)} (h : ¬ (2 ≤ P ∧ 0 < A.length ∧ 2 ≤ (xat A 0).length)) : prmB P A = false := by
  unfold prmB
  by_cases h1 : 2 ≤ P
  · by_cases h2 : 0 < A.length
    · have h3 : ¬ 2 ≤ (xat A 0).length := fun h3 => h ⟨h1, h2, h3⟩
      simp [h3]
    · simp [h2]
  · simp [h1]
theorem prm_no2 {P : Nat} {A : List (List Int)} {k : Nat} (hk : k < A.length) (h : (xat A k).length ≠ (xat A 0).length) : prmB P A = false := by
  unfold prmB
  have : (A.all fun b => b.length == (xat A 0).length) = false := by
    rw [Bool.eq_false_iff]; intro hh
    have := List.all_eq_true.1 hh _ (xat_mem hk)
    simp at this; exact h this
  rw [this]; simp
theorem prm_no3 {P : Nat} {A : List (List Int)} {k : Nat} (hk : k < (parL P A).length) (h : nth (parL P A) k ≠ nth (parL P A) 0) : prmB P A = false := by
  unfold prmB
  have : ((parL P A).all fun c => c == nth (parL P A) 0) = false := by
    rw [Bool.eq_false_iff]; intro hh
    have := List.all_eq_true.1 hh _ (nth_mem hk)
    simp at this; exact h this
  rw [this]; simp
theorem prm_yes {P : Nat} {A : List (List Int)} (h1 : 2 ≤ P ∧ 0 < A.length ∧ 2 ≤ (xat A 0).length) (h2 : ∀ k, k < A.length → (xat A k).length = (xat A 0).length) (h3 : ∀ k, k < (parL P A).length → nth (parL P A) k = nth (parL P A) 0) : prmB P A = true := by
  unfold prmB
  have e1 : (A.all fun b => b.length == (xat A 0).length) = true := List.all_eq_true.2 fun b hb => by
    obtain ⟨k, hk, rfl⟩ := List.getElem_of_mem hb
    have := h2 k hk
    rw [xat_eq hk] at this; simp [this]
  have e2 : ((parL P A).all fun c => c == nth (parL P A) 0) = true := List.all_eq_true.2 fun b hb => by
    obtain ⟨k, hk, rfl⟩ := List.getElem_of_mem hb
    have := h3 k hk
    rw [nth_eq hk] at this; simp [this]
  rw [e1, e2]; simp [h1]
theorem prm_val {P : Nat} {A : List (List Int)} (h : prmB P A = true) : prmV P A = [(P : Int), (A.length : Int), nth (repL P A) 0, ((xat A 0).length : Int), nth (parL P A) 0] := by unfold prmV; rw [if_pos h]
theorem parL_pos {P : Nat} {A : List (List Int)} (h : 2 ≤ P) : 0 < (parL P A).length := by
  rw [← parK_end, show P = (P - 1) + 1 by omega]
  have : ∀ k, 0 < k → 0 < (parK (P - 1 + 1) A k).length := by
    intro k hk
    induction k with
    | zero => omega
    | succ k ih =>
      rw [parK_succ, List.length_append]
      rcases Nat.eq_zero_or_pos k with rfl | h0
      · simp [parR]; omega
      · have := ih h0; omega
  exact this _ (by omega)
theorem repL_len (P : Nat) (A : List (List Int)) : (repL P A).length = P := by simp [repL]

set_option maxHeartbeats 8000000 in
set_option maxRecDepth 100000 in
theorem parametersOf_c (P : Nat) (v : Value) (us : List Value) (A : List (List Int)) (w : World) (hv : RII w v us A) (hD : DOk P A) :
    Calls Tryz.prog 45 #[dv P v] w (MakesPr w (prmV P A) (prmB P A)) := by
  obtain ⟨a, c, hsh⟩ := hv.1.sl.sh
  rw [hv.2.1] at hsh
  subst hsh
  have hP := hD.le
  have hDl := hD.len
  have HD := Lib.hid hD
  clear hD
  have hS1 := ((St.refl w).newboxF 26 #[.int .i64 P, .slice a A.length c]).newboxF 78 #[.int .i64 0, .int .i64 0, .int .i64 0, .int .i64 0, .int .i64 0]
  simp only [World.size_alloc] at hS1
  have b0 := hS1.bcell 1 rfl 0 rfl
  have b1 := hS1.bcell 1 rfl 1 rfl
  have hix := hv.ix
  have f0 := hS1.bfree 0 rfl
  have r0 := hS1.bcell 0 rfl 0 rfl
  have r1 := hS1.bcell 0 rfl 1 rfl
  have r2 := hS1.bcell 0 rfl 2 rfl
  have r3 := hS1.bcell 0 rfl 3 rfl
  have r4 := hS1.bcell 0 rfl 4 rfl
  unfold dv
  by_cases h1 : 2 ≤ P
  · by_cases h2 : 0 < A.length
    · have fz := eq_f (show ¬ (A.length : Int) = 0 by omega)
      have cz := (hS1.oldII hv).cell 0 h2
      have hl0 := (hv.row 0 h2).len
      by_cases h3 : 2 ≤ (xat A 0).length
      · have HPC := Lib.hid (pairCounts_c P (.slice a A.length c) us A _ (hS1.oldII hv) HD.out)
        have hC0 := parL_pos (A := A) h1
        have H1 := Lib.hid (And.intro h1 (And.intro h2 h3))
        have h3' : ¬ ((xat A 0).length : Int) < 2 := by omega
        have h1' : ¬ (P : Int) < 2 := by omega
        have x0 := hv.ixe 0 0 rfl h2
        have HR := fun W h => Lib.hid (replicationsOf_c P (.slice a A.length c) us A W h HD.out)
        have hprm := Lib.hid (fun h h' => prm_val (prm_yes (A := A) H1.out h h'))
        have hprb := Lib.hid (fun h h' => prm_yes (A := A) H1.out h h')
        unfold dv at HPC HR
        go_enter Tryz.func45, Tryz.ntmps45
        go_wp2_with fail
        refine HPC.out.mono ?_
        clear HPC r0 r1 r2 r3 r4 f0 b0 b1 cz
        rintro e w2 ⟨vc, rfl, h4⟩
        have hS2 := hS1.call h4
        have b1 := hS2.bcell 1 rfl 1 rfl
        have hlc := (h4.rdI 0 rfl).len
        have hic := (h4.rdI 0 rfl).ix
        have xc0 := (h4.rdI 0 rfl).ixe 0 0 rfl hC0
        have hCle : (parL P A).length ≤ 1024 := by
          have := parK_len P A P
          have h2 : P * P ≤ 32 * 32 := Nat.mul_le_mul (by omega) (by omega)
          rw [parK_end] at this; omega
        have HN2 := Lib.hid (fun k (hk : k < A.length) (h : (xat A k).length ≠ (xat A 0).length) => prm_no2 (P := P) hk h)
        have HN3 := Lib.hid (fun k (hk : k < (parL P A).length) (h : nth (parL P A) k ≠ nth (parL P A) 0) => prm_no3 hk h)
        generalize parL P A = C at *
        clear hS1 h4
        simp only [List.cons_append, List.nil_append] at hS2
        go_wp2_with fail
        go_loopw [6, 32] (fun _ i wr => ∃ k : Nat, k ≤ A.length ∧ i = .int .i64 k ∧ Hid (∀ j, j < k → (xat A j).length = (xat A 0).length) ∧ St w.heap.size w wr [box 78 (w.heap.size + 1) [.int .i64 0, .int .i64 0, .int .i64 0, .int .i64 0, .int .i64 0], box 26 w.heap.size [.int .i64 P, .slice a A.length c], row 2 vc (iv C)]) (fun _ i _ => A.length - (intOf i).toNat)
        case atStart => exact ⟨0, by omega, rfl, fun j hj => by omega, hS2⟩
        case round =>
          clear hS2 b1
          obtain ⟨k, hk, rfl, hI, hS⟩ := hrel
          have b1 := hS.bcell 1 rfl 1 rfl
          by_cases hlt : k < A.length
          · have ck := (hS.oldII hv).cell k hlt
            have cz := (hS.oldII hv).cell 0 h2
            have hlk := (hv.row k hlt).len
            by_cases he : (xat A k).length = (xat A 0).length
            · have f := ne_f (show ((xat A k).length : Int) = (xat A 0).length by omega)
              have He := Lib.hid he
              clear he
              go_wp2_with fail
              go_roundw
              case rel => exact ⟨k + 1, by omega, by go_num, fun j hj => by
                by_cases e : j = k
                · rw [e]; exact He.out
                · exact hI.out j (by omega), hS⟩
              case measure => simp [intOf]; omega
            · have f := ne_t (fun e : ((xat A k).length : Int) = (xat A 0).length => he (by omega))
              have HN := Lib.hid (HN2.out k hlt he)
              clear he
              have r0 := hS.bcell 0 rfl 0 rfl
              have r1 := hS.bcell 0 rfl 1 rfl
              have r2 := hS.bcell 0 rfl 2 rfl
              have r3 := hS.bcell 0 rfl 3 rfl
              have r4 := hS.bcell 0 rfl 4 rfl
              have f0 := hS.bfree 0 rfl
              have hZ := ((((hS.bstore 0 rfl 0 (.int .i64 0)).bstore 0 rfl 1 (.int .i64 0)).bstore 0 rfl 2 (.int .i64 0)).bstore 0 rfl 3 (.int .i64 0)).bstore 0 rfl 4 (.int .i64 0)
              have z0 := hZ.bcell 0 rfl 0 rfl
              have z1 := hZ.bcell 0 rfl 1 rfl
              have z2 := hZ.bcell 0 rfl 2 rfl
              have z3 := hZ.bcell 0 rfl 3 rfl
              have z4 := hZ.bcell 0 rfl 4 rfl
              go_wp2_with fail
              refine bodyPost_ret (v := .tuple #[.agg #[.int .i64 0, .int .i64 0, .int .i64 0, .int .i64 0, .int .i64 0], .bool false]) (by simp [results, Tryz.results45, go_sem, z0, z1, z2, z3, z4]) rfl ?_
              exact MakesPr.no HN.out hZ
          · obtain rfl : k = A.length := by omega
            have hall := hI
            clear hI
            go_wp2_with fail
            go_loopw [8, 48] (fun _ i wr => ∃ k : Nat, k ≤ C.length ∧ i = .int .i64 k ∧ Hid (∀ j, j < k → nth C j = nth C 0) ∧ St w.heap.size w wr [box 78 (w.heap.size + 1) [.int .i64 0, .int .i64 0, .int .i64 0, .int .i64 0, .int .i64 0], box 26 w.heap.size [.int .i64 P, .slice a A.length c], row 2 vc (iv C)]) (fun _ i _ => C.length - (intOf i).toNat)
            case atStart => exact ⟨0, by omega, rfl, fun j hj => by omega, hS⟩
            case round =>
              clear hS b1
              obtain ⟨k, hk, rfl, hI, hS⟩ := hrel
              by_cases hlt : k < C.length
              · have ck := (hS.rdI 2 rfl).cell k hlt
                have cz := (hS.rdI 2 rfl).cell 0 hC0
                by_cases he : nth C k = nth C 0
                · have f := ne_f he
                  have He := Lib.hid he
                  clear he
                  go_wp2_with fail
                  go_roundw
                  case rel => exact ⟨k + 1, by omega, by go_num, fun j hj => by
                    by_cases e : j = k
                    · rw [e]; exact He.out
                    · exact hI.out j (by omega), hS⟩
                  case measure => simp [intOf]; omega
                · have f := ne_t he
                  have HN := Lib.hid (HN3.out k hlt he)
                  clear he
                  have r0 := hS.bcell 0 rfl 0 rfl
                  have r1 := hS.bcell 0 rfl 1 rfl
                  have r2 := hS.bcell 0 rfl 2 rfl
                  have r3 := hS.bcell 0 rfl 3 rfl
                  have r4 := hS.bcell 0 rfl 4 rfl
                  have f0 := hS.bfree 0 rfl
                  have hZ := ((((hS.bstore 0 rfl 0 (.int .i64 0)).bstore 0 rfl 1 (.int .i64 0)).bstore 0 rfl 2 (.int .i64 0)).bstore 0 rfl 3 (.int .i64 0)).bstore 0 rfl 4 (.int .i64 0)
                  have z0 := hZ.bcell 0 rfl 0 rfl
                  have z1 := hZ.bcell 0 rfl 1 rfl
                  have z2 := hZ.bcell 0 rfl 2 rfl
                  have z3 := hZ.bcell 0 rfl 3 rfl
                  have z4 := hZ.bcell 0 rfl 4 rfl
                  go_wp2_with fail
                  refine bodyPost_ret (v := .tuple #[.agg #[.int .i64 0, .int .i64 0, .int .i64 0, .int .i64 0, .int .i64 0], .bool false]) (by simp [results, Tryz.results45, go_sem, z0, z1, z2, z3, z4]) rfl ?_
                  exact MakesPr.no HN.out hZ
              · obtain rfl : k = C.length := by omega
                have HV := Lib.hid (hprm.out hall.out hI.out)
                have HB := Lib.hid (hprb.out hall.out hI.out)
                have b0 := hS.bcell 1 rfl 0 rfl
                have b1 := hS.bcell 1 rfl 1 rfl
                have cz := (hS.oldII hv).cell 0 h2
                have c0 := (hS.rdI 2 rfl).cell 0 hC0
                have hS3 := hS.drew
                clear hI hprm hprb HN2 HN3
                go_wp2_with fail
                refine regionG (fun w' => w'.cell? ⟨w.heap.size, 0, none⟩ = some (.int .i64 P) ∧ w'.cell? ⟨w.heap.size, 1, none⟩ = some (.slice a A.length c) ∧ w'.cell? (el (.slice a A.length c) 0) = some (vat us 0) ∧ w'.cell? (el vc 0) = some (.int .i64 (nth C 0))) 18 (by kernel_rfl) ⟨cell_dr b0, cell_dr b1, cell_dr cz, cell_dr c0⟩ (fun hHeld => ?_)
                refine takeP (i := 0) (v := ?_) rfl (by kernel_rfl) (fun _ _ _ h => h) (by rfl) ?_ (by assumption) ?_
                case refine_2 => (intro w'; go_simp; first | done | with_reducible rfl)
                try simp only [Act.put, List.setIfInBounds_toArray, List.set_cons_zero, List.set_cons_succ]
                refine takeH (i := 1) [17] (v := ?_) rfl (by kernel_rfl) (fun _ _ _ h => h) (by rfl) ?_ (by assumption) ?_
                case refine_2 => (intro w' hSw; (try dsimp only at hSw); go_simp; first | done | with_reducible rfl)
                try simp only [Act.put, List.setIfInBounds_toArray, List.set_cons_zero, List.set_cons_succ]
                refine takeP (i := 2) (v := ?_) rfl (by kernel_rfl) (fun _ _ _ h => h) (by rfl) ?_ (by assumption) ?_
                case refine_2 => (intro w'; go_simp; first | done | with_reducible rfl)
                try simp only [Act.put, List.setIfInBounds_toArray, List.set_cons_zero, List.set_cons_succ]
                refine takeH (i := 3) [4, 17] (v := ?_) rfl (by kernel_rfl) (fun _ _ _ h => h) (by rfl) ?_ (by assumption) ?_
                case refine_2 => (intro w' hSw; (try dsimp only at hSw); go_simp; first | done | with_reducible rfl)
                try simp only [Act.put, List.setIfInBounds_toArray, List.set_cons_zero, List.set_cons_succ]
                refine takeH (i := 5) [6, 7, 8, 17] (v := ?_) rfl (by kernel_rfl) (fun _ _ _ h => h) (by rfl) ?_ (by assumption) ?_
                case refine_2 => (intro w' hSw; (try dsimp only at hSw); go_simp; first | done | with_reducible rfl)
                try simp only [Act.put, List.setIfInBounds_toArray, List.set_cons_zero, List.set_cons_succ]
                refine takeP (i := 9) (v := ?_) rfl (by kernel_rfl) (fun _ _ _ h => h) (by rfl) ?_ (by assumption) ?_
                case refine_2 => (intro w'; go_simp; first | done | with_reducible rfl)
                try simp only [Act.put, List.setIfInBounds_toArray, List.set_cons_zero, List.set_cons_succ]
                refine takeH (i := 10) [11, 12, 13, 17] (v := ?_) rfl (by kernel_rfl) (fun _ _ _ h => h) (by rfl) ?_ (by assumption) ?_
                case refine_2 => (intro w' hSw; (try dsimp only at hSw); go_simp; first | done | with_reducible rfl)
                try simp only [Act.put, List.setIfInBounds_toArray, List.set_cons_zero, List.set_cons_succ]
                refine takeP (i := 11) (v := ?_) rfl (by kernel_rfl) (fun _ _ _ h => h) (by rfl) ?_ (by assumption) ?_
                case refine_2 => (intro w'; go_simp; first | done | with_reducible rfl)
                try simp only [Act.put, List.setIfInBounds_toArray, List.set_cons_zero, List.set_cons_succ]
                refine takeH (i := 12) [13, 17] (v := ?_) rfl (by kernel_rfl) (fun _ _ _ h => h) (by rfl) ?_ (by assumption) ?_
                case refine_2 => (intro w' hSw; (try dsimp only at hSw); go_simp; first | done | with_reducible rfl)
                try simp only [Act.put, List.setIfInBounds_toArray, List.set_cons_zero, List.set_cons_succ]
                refine takeP (i := 14) (v := ?_) rfl (by kernel_rfl) (fun _ _ _ h => h) (by rfl) ?_ (by assumption) ?_
                case refine_2 => (intro w'; go_simp; first | done | with_reducible rfl)
                try simp only [Act.put, List.setIfInBounds_toArray, List.set_cons_zero, List.set_cons_succ]
                refine takeP (i := 15) (v := ?_) rfl (by kernel_rfl) (fun _ _ _ h => h) (by rfl) ?_ (by assumption) ?_
                case refine_2 => (intro w'; go_simp; first | done | with_reducible rfl)
                try simp only [Act.put, List.setIfInBounds_toArray, List.set_cons_zero, List.set_cons_succ]
                refine takeH (i := 16) [17] (v := ?_) rfl (by kernel_rfl) (fun _ _ _ h => h) (by rfl) ?_ (by assumption) ?_
                case refine_2 => (intro w' hSw; (try dsimp only at hSw); go_simp; first | done | with_reducible rfl)
                try simp only [Act.put, List.setIfInBounds_toArray, List.set_cons_zero, List.set_cons_succ]
                refine readyG (rs := [4]) (by kernel_rfl) (by simp) ?_
                refine AllG.cons rfl (fun K hK => ?_) AllG.nil
                go_simp
                refine (szII_c _ us A _ (hS3.oldII hv)).mono ?_
                rintro e w4 ⟨rfl, rfl⟩
                refine hK.out _ _ ⟨cell_dr b0, cell_dr b1, cell_dr cz, cell_dr c0⟩ (fun hHeld => ?_)
                clear hK K
                try simp only [Act.put, List.setIfInBounds_toArray, List.set_cons_zero, List.set_cons_succ]
                refine readyG (rs := [6]) (by kernel_rfl) (by simp) ?_
                refine AllG.cons rfl (fun K hK => ?_) AllG.nil
                go_simp
                refine (HR _ (hS3.oldII hv)).out.mono ?_
                rintro e w5 ⟨vr, rfl, h5⟩
                have hS5 := hS3.call h5
                have e0 := hS5.bcell 1 rfl 0 rfl
                have e1 := hS5.bcell 1 rfl 1 rfl
                have ez := (hS5.oldII hv).cell 0 h2
                have ec := (hS5.rdI 2 rfl).cell 0 hC0
                have xr0 := (h5.rdI 0 rfl).ixe 0 0 rfl (by rw [repL_len]; omega)
                have cr0 := (h5.rdI 0 rfl).cell 0 (by rw [repL_len]; omega)
                have rz := Lib.hid ((hS5.oldII hv).row 0 h2)
                have hS6 := Lib.hid hS5
                refine hK.out _ _ ⟨e0, e1, ez, ec⟩ (fun hHeld => ?_)
                clear hK K h5 hS3 hS b0 b1 cz c0
                try simp only [Act.put, List.setIfInBounds_toArray, List.set_cons_zero, List.set_cons_succ]
                refine takeP (i := 7) (v := ?_) rfl (by kernel_rfl) (fun _ _ _ h => h) (by rfl) ?_ (by assumption) ?_
                case refine_2 => (intro w'; go_simp; first | done | with_reducible rfl)
                try simp only [Act.put, List.setIfInBounds_toArray, List.set_cons_zero, List.set_cons_succ]
                refine readyG (rs := [8, 13]) (by kernel_rfl) (by simp) ?_
                refine AllG.cons rfl (fun K hK => ?_) (AllG.cons rfl (fun K hK => ?_) AllG.nil)
                · go_simp
                  refine hK.out _ _ ⟨e0, e1, ez, ec⟩ (fun hHeld => ?_)
                  clear hK K
                  try simp only [Act.put, List.setIfInBounds_toArray, List.set_cons_zero, List.set_cons_succ]
                  refine readyG (rs := [13]) (by kernel_rfl) (by simp) ?_
                  refine AllG.cons rfl (fun K hK => ?_) AllG.nil
                  go_simp
                  refine (size_c _ _ _ rz.out).mono ?_
                  rintro e w6 ⟨rfl, rfl⟩
                  refine hK.out _ _ ⟨e0, e1, ez, ec⟩ (fun hHeld => ?_)
                  clear hK K
                  try simp only [Act.put, List.setIfInBounds_toArray, List.set_cons_zero, List.set_cons_succ]
                  have t0 := hS5.bcell 0 rfl 0 rfl
                  have t1 := hS5.bcell 0 rfl 1 rfl
                  have t2 := hS5.bcell 0 rfl 2 rfl
                  have t3 := hS5.bcell 0 rfl 3 rfl
                  have t4 := hS5.bcell 0 rfl 4 rfl
                  have f0 := hS5.bfree 0 rfl
                  refine takeP (i := 17) (v := ?_) rfl (by kernel_rfl) (fun _ _ _ h => h) (by rfl) ?_ (by assumption) ?_
                  case refine_2 => (intro w'; go_simp; first | done | with_reducible rfl)
                  try simp only [Act.put, List.setIfInBounds_toArray, List.set_cons_zero, List.set_cons_succ]
                  refine readyG (rs := [18]) (by kernel_rfl) (by simp) ?_
                  refine AllG.last rfl (by kernel_rfl) (fun K hK => ?_) AllG.nil
                  go_simp
                  refine hK.out _ _ ?_
                  clear hK K
                  try simp only [Act.put, List.setIfInBounds_toArray, List.set_cons_zero, List.set_cons_succ]
                  refine readyG (rs := [19]) (by kernel_rfl) (by simp) ?_
                  refine AllG.last rfl (by kernel_rfl) (fun K hK => ?_) AllG.nil
                  go_simp
                  refine hK.out _ _ ?_
                  clear hK K
                  try simp only [Act.put, List.setIfInBounds_toArray, List.set_cons_zero, List.set_cons_succ]
                  refine doneG (by kernel_rfl) ?_ _
                  refine NoPanic.normal ?_
                  have hZ := ((((hS6.out.bstore 0 rfl 0 (.int .i64 P)).bstore 0 rfl 1 (.int .i64 A.length)).bstore 0 rfl 2 (.int .i64 (nth (repL P A) 0))).bstore 0 rfl 3 (.int .i64 (xat A 0).length)).bstore 0 rfl 4 (.int .i64 (nth C 0))
                  have z0 := hZ.bcell 0 rfl 0 rfl
                  have z1 := hZ.bcell 0 rfl 1 rfl
                  have z2 := hZ.bcell 0 rfl 2 rfl
                  have z3 := hZ.bcell 0 rfl 3 rfl
                  have z4 := hZ.bcell 0 rfl 4 rfl
                  clear hS5 t0 t1 t2 t3 t4
                  go_wp2_with fail
                  refine bodyPost_ret (v := .tuple #[.agg #[.int .i64 P, .int .i64 A.length, .int .i64 (nth (repL P A) 0), .int .i64 (xat A 0).length, .int .i64 (nth C 0)], .bool true]) (by simp [results, Tryz.results45, go_sem, z0, z1, z2, z3, z4]) rfl ?_
                  rw [HB.out, HV.out]
                  exact ⟨rfl, hZ.out⟩
                · go_simp
                  refine (size_c _ _ _ rz.out).mono ?_
                  rintro e w6 ⟨rfl, rfl⟩
                  refine hK.out _ _ ⟨e0, e1, ez, ec⟩ (fun hHeld => ?_)
                  clear hK K
                  try simp only [Act.put, List.setIfInBounds_toArray, List.set_cons_zero, List.set_cons_succ]
                  refine readyG (rs := [8]) (by kernel_rfl) (by simp) ?_
                  refine AllG.cons rfl (fun K hK => ?_) AllG.nil
                  go_simp
                  refine hK.out _ _ ⟨e0, e1, ez, ec⟩ (fun hHeld => ?_)
                  clear hK K
                  try simp only [Act.put, List.setIfInBounds_toArray, List.set_cons_zero, List.set_cons_succ]
                  have t0 := hS5.bcell 0 rfl 0 rfl
                  have t1 := hS5.bcell 0 rfl 1 rfl
                  have t2 := hS5.bcell 0 rfl 2 rfl
                  have t3 := hS5.bcell 0 rfl 3 rfl
                  have t4 := hS5.bcell 0 rfl 4 rfl
                  have f0 := hS5.bfree 0 rfl
                  refine takeP (i := 17) (v := ?_) rfl (by kernel_rfl) (fun _ _ _ h => h) (by rfl) ?_ (by assumption) ?_
                  case refine_2 => (intro w'; go_simp; first | done | with_reducible rfl)
                  try simp only [Act.put, List.setIfInBounds_toArray, List.set_cons_zero, List.set_cons_succ]
                  refine readyG (rs := [18]) (by kernel_rfl) (by simp) ?_
                  refine AllG.last rfl (by kernel_rfl) (fun K hK => ?_) AllG.nil
                  go_simp
                  refine hK.out _ _ ?_
                  clear hK K
                  try simp only [Act.put, List.setIfInBounds_toArray, List.set_cons_zero, List.set_cons_succ]
                  refine readyG (rs := [19]) (by kernel_rfl) (by simp) ?_
                  refine AllG.last rfl (by kernel_rfl) (fun K hK => ?_) AllG.nil
                  go_simp
                  refine hK.out _ _ ?_
                  clear hK K
                  try simp only [Act.put, List.setIfInBounds_toArray, List.set_cons_zero, List.set_cons_succ]
                  refine doneG (by kernel_rfl) ?_ _
                  refine NoPanic.normal ?_
                  have hZ := ((((hS6.out.bstore 0 rfl 0 (.int .i64 P)).bstore 0 rfl 1 (.int .i64 A.length)).bstore 0 rfl 2 (.int .i64 (nth (repL P A) 0))).bstore 0 rfl 3 (.int .i64 (xat A 0).length)).bstore 0 rfl 4 (.int .i64 (nth C 0))
                  have z0 := hZ.bcell 0 rfl 0 rfl
                  have z1 := hZ.bcell 0 rfl 1 rfl
                  have z2 := hZ.bcell 0 rfl 2 rfl
                  have z3 := hZ.bcell 0 rfl 3 rfl
                  have z4 := hZ.bcell 0 rfl 4 rfl
                  clear hS5 t0 t1 t2 t3 t4
                  go_wp2_with fail
                  refine bodyPost_ret (v := .tuple #[.agg #[.int .i64 P, .int .i64 A.length, .int .i64 (nth (repL P A) 0), .int .i64 (xat A 0).length, .int .i64 (nth C 0)], .bool true]) (by simp [results, Tryz.results45, go_sem, z0, z1, z2, z3, z4]) rfl ?_
                  rw [HB.out, HV.out]
                  exact ⟨rfl, hZ.out⟩
      · have H := Lib.hid (prm_no1 (P := P) (A := A) (fun h => h3 h.2.2))
        go_enter Tryz.func45, Tryz.ntmps45
        go_wp2_with fail
        refine bodyPost_ret (v := .tuple #[.agg #[.int .i64 0, .int .i64 0, .int .i64 0, .int .i64 0, .int .i64 0], .bool false]) (by simp [results, Tryz.results45, go_sem, r0, r1, r2, r3, r4]) rfl ?_
        exact MakesPr.no H.out hS1
    · have H := Lib.hid (prm_no1 (P := P) (A := A) (fun h => h2 h.2.1))
      have f := eq_t (show (A.length : Int) = 0 by omega)
      have h1' : ¬ (P : Int) < 2 := by omega
      have H0 := Lib.hid (show A.length = 0 by omega)
      clear h2
      go_enter Tryz.func45, Tryz.ntmps45
      go_wp2_with fail
      refine bodyPost_ret (v := .tuple #[.agg #[.int .i64 0, .int .i64 0, .int .i64 0, .int .i64 0, .int .i64 0], .bool false]) (by simp [results, Tryz.results45, go_sem, r0, r1, r2, r3, r4]) rfl ?_
      first
      | exact MakesPr.no H.out hS1
      | (rw [H0.out] at hS1; exact MakesPr.no H.out hS1)
  · have H := Lib.hid (prm_no1 (P := P) (A := A) (fun h => h1 h.1))
    have h1' : (P : Int) < 2 := by omega
    go_enter Tryz.func45, Tryz.ntmps45
    go_wp2_with fail
    refine bodyPost_ret (v := .tuple #[.agg #[.int .i64 0, .int .i64 0, .int .i64 0, .int .i64 0, .int .i64 0], .bool false]) (by simp [results, Tryz.results45, go_sem, r0, r1, r2, r3, r4]) rfl ?_
    exact MakesPr.no H.out hS1
end Go.Proofs.YtljemlfocajhnaaGreat
end

section
/- Walks: ParametersOf of the program; replications, pairs and parameters of the reference. -/
namespace Go.Proofs.YtljemlfocajhnaaGreat
set_option linter.unusedSimpArgs false
set_option linter.unusedVariables false
open Go.RowKit
attribute [local go_sem ↓] Go.wp_at_zero Go.wp_at_succ
def z5 (g : Nat) : Ent := box 78 g [.int .i64 0, .int .i64 0, .int .i64 0, .int .i64 0, .int .i64 0]
end Go.Proofs.YtljemlfocajhnaaGreat
end

section
/- Walks: the orders of planes, of the program. -/
namespace Go.Proofs.YtljemlfocajhnaaGreat
set_option linter.unusedSimpArgs false
set_option linter.unusedVariables false
open Go.RowKit
attribute [local go_sem ↓] Go.wp_at_zero Go.wp_at_succ

theorem plO_no {v k : Int → Int} {V K : Int} {f : Nat} {n : Int} (h : ¬ v n ≤ V) : plO v k V K f n = 0 := by
  cases f with
  | zero => rfl
  | succ f => rw [plO, if_neg h]
theorem plO_hit {v k : Int → Int} {V K : Int} {f : Nat} {n : Int} (h : v n ≤ V) (h2 : v n = V ∧ k n = K) : plO v k V K (f + 1) n = n := by rw [plO, if_pos h, if_pos h2]
theorem plO_next {v k : Int → Int} {V K : Int} {f : Nat} {n : Int} (h : v n ≤ V) (h2 : ¬ (v n = V ∧ k n = K)) : plO v k V K (f + 1) n = plO v k V K f (n + 1) := by rw [plO, if_pos h, if_neg h2]
set_option maxHeartbeats 8000000 in
set_option maxRecDepth 100000 in
theorem planeOrder_c (K1 K2 : FuncId) (fv fk : Int → Int) (P : Nat) (v : Value) (us : List Value) (A : List (List Int)) (w : World) (hv : RII w v us A) (hok : dOk P A = true) (h6 : 32 < fv 6)
    (hcf1 : ∀ (args : Array Value) (W : World), (callFunc K1 args).run Tryz.prog W = .ok (.enter K1 args) W)
    (hcf2 : ∀ (args : Array Value) (W : World), (callFunc K2 args).run Tryz.prog W = .ok (.enter K2 args) W)
    (hK1 : ∀ (n : Int) (W : World), 2 ≤ n → n ≤ 6 → Calls Tryz.prog K1 #[.int .i64 n] W fun e w' => e = .returned (.int .i64 (fv n)) ∧ W = w')
    (hK2 : ∀ (n : Int) (W : World), 2 ≤ n → n ≤ 6 → Calls Tryz.prog K2 #[.int .i64 n] W fun e w' => e = .returned (.int .i64 (fk n)) ∧ W = w') :
    Calls Tryz.prog 20 #[dv P v, .func (.func K1) #[] #[], .func (.func K2) #[] #[]] w (GivesI w (ordP fv fk P A)) := by
  obtain ⟨a, c, hsh⟩ := hv.1.sl.sh
  rw [hv.2.1] at hsh
  subst hsh
  have hD := dOk_t hok
  have hP := hD.le
  have hS0 := (St.refl w).newboxF 26 #[.int .i64 P, .slice a A.length c]
  have b0 := hS0.bcell 0 rfl 0 rfl
  have b1 := hS0.bcell 0 rfl 1 rfl
  have KV := fun W h => Lib.hid (ValidDesign_c P (.slice a A.length c) us A W h)
  rw [hok] at KV
  have KP := fun W h => Lib.hid (parametersOf_c P (.slice a A.length c) us A W h hD)
  have KV := KV _ (hS0.oldII hv)
  have HO : Hid (ordP fv fk P A = if (prmB P A && decide (nth (prmV P A) 4 = 1)) = true then plO fv fk (nth (prmV P A) 0) (nth (prmV P A) 3) 5 2 else 0) := Lib.hid (by rw [ordP, hok, Bool.true_and])
  have HV : Hid (prmB P A = true → nth (prmV P A) 0 ≤ 32) := Lib.hid (fun h => by rw [prm_val h]; simp only [nth, List.getD_cons_zero]; omega)
  have HK1 := Lib.hid hK1
  have HK2 := Lib.hid hK2
  have H6 := Lib.hid h6
  clear hK1 hK2 hD hok h6
  generalize ordP fv fk P A = R at *
  generalize prmV P A = xs at *
  generalize prmB P A = bb at *
  unfold dv at KV KP ⊢
  go_enter Tryz.func20, Tryz.ntmps20
  go_wp2_with (go_at_call 9; refine KV.out.mono ?_; rintro e2 w2 ⟨rfl, h2⟩; have hS2 := hS0.call0 h2; have b0 := hS2.bcell 0 rfl 0 rfl; have b1 := hS2.bcell 0 rfl 1 rfl)
  refine (KP _ (hS2.oldII hv)).out.mono ?_
  clear KP KV hS0 b0 b1
  unfold MakesPr pmV
  generalize nth xs 0 = V at *
  generalize nth xs 1 = x1 at *
  generalize nth xs 2 = x2 at *
  generalize nth xs 3 = K at *
  generalize nth xs 4 = L at *
  rintro e3 w3 ⟨rfl, h3⟩
  have hS3 := (hS2.call0 h3).newboxF 78 #[.int .i64 V, .int .i64 x1, .int .i64 x2, .int .i64 K, .int .i64 L]
  have p0 := hS3.bcell 0 rfl 0 rfl
  have p3 := hS3.bcell 0 rfl 3 rfl
  have p4 := hS3.bcell 0 rfl 4 rfl
  clear hS2 h2 h3
  go_wp2_with fail
  go_loopw [9] (fun n wr => ∃ i : Nat, i ≤ 4 ∧ n = .int .i64 ((2 : Int) + i) ∧ Hid (bb = true → L = 1 → R = plO fv fk V K (5 - i) (2 + i)) ∧ St w.heap.size w wr [box 78 w3.heap.size [.int .i64 V, .int .i64 x1, .int .i64 x2, .int .i64 K, .int .i64 L], box 26 w.heap.size [.int .i64 P, .slice a A.length c]]) (fun n _ => 7 - (intOf n).toNat)
  case atStart => exact ⟨0, by omega, rfl, fun h1 h2 => by rw [HO.out, if_pos (by rw [h1, h2]; rfl)]; rfl, hS3⟩
  case round =>
    clear hS3 p0 p3 p4
    obtain ⟨i, hi, rfl, hR, hS⟩ := hrel
    have p0 := fun s : SS w.heap.size w [box 78 w3.heap.size [.int .i64 V, .int .i64 x1, .int .i64 x2, .int .i64 K, .int .i64 L], box 26 w.heap.size [.int .i64 P, .slice a A.length c]] => s.st.bcell 0 rfl 0 rfl
    have p3 := fun s : SS w.heap.size w [box 78 w3.heap.size [.int .i64 V, .int .i64 x1, .int .i64 x2, .int .i64 K, .int .i64 L], box 26 w.heap.size [.int .i64 P, .slice a A.length c]] => s.st.bcell 0 rfl 3 rfl
    have p4 := fun s : SS w.heap.size w [box 78 w3.heap.size [.int .i64 V, .int .i64 x1, .int .i64 x2, .int .i64 K, .int .i64 L], box 26 w.heap.size [.int .i64 P, .slice a A.length c]] => s.st.bcell 0 rfl 4 rfl
    cases bb
    case false =>
      have HZ : Hid (R = 0) := Lib.hid (by rw [HO.out]; rfl)
      go_wp2_with fail
      have hne : Nonempty (SS _ _ _) := ⟨⟨_, hS⟩⟩
      refine wp_region_st (by kernel_rfl) (by kernel_rfl) hS ?_
      repeat (go_big_quiet_step (fail))
      refine wpQuiet_nil ?_
      rintro _ ⟨s2, rfl⟩
      have hS9 := s2.st
      generalize s2.w = w9 at hS9 ⊢
      have hS := hS9
      go_wp2_with fail
      go_ret
      exact ⟨ret_i64 HZ.out.symm, hS.out⟩
    case true =>
      by_cases hL : L = 1
      case neg =>
        have HZ : Hid (R = 0) := Lib.hid (by rw [HO.out, if_neg (by simpa using hL)])
        have f1 : (L == 1) = false := eq_f hL
        go_wp2_with fail
        have hne : Nonempty (SS _ _ _) := ⟨⟨_, hS⟩⟩
        refine wp_region_st (by kernel_rfl) (by kernel_rfl) hS ?_
        repeat (go_big_quiet_step (fail))
        refine wpQuiet_nil ?_
        rintro _ ⟨s2, rfl⟩
        have hS9 := s2.st
        generalize s2.w = w9 at hS9 ⊢
        have hS := hS9
        go_wp2_with fail
        go_ret
        exact ⟨ret_i64 HZ.out.symm, hS.out⟩
      case pos =>
        subst hL
        have hR1 := Lib.hid (hR.out rfl rfl)
        have hV32 := HV.out rfl
        by_cases hvn : fv (2 + (i : Int)) ≤ V
        case neg =>
          have HZ : Hid (R = 0) := Lib.hid (by rw [hR1.out, plO_no hvn])
          generalize hfn : fv (2 + (i : Int)) = fn at *
          have KF := Lib.hid (fun W => HK1.out (2 + (i : Int)) W (by omega) (by omega))
          rw [hfn] at KF
          clear hfn hR hV32
          go_wp2_with fail
          have hne : Nonempty (SS _ _ _) := ⟨⟨_, hS⟩⟩
          refine wp_region_st (by kernel_rfl) (by kernel_rfl) hS ?_
          repeat (go_big_quiet_step ((exact st_quiet0 (KF.out _))))
          refine wpQuiet_nil ?_
          rintro _ ⟨s2, rfl⟩
          have hS9 := s2.st
          generalize s2.w = w9 at hS9 ⊢
          have hS := hS9
          go_wp2_with fail
          go_ret
          exact ⟨ret_i64 HZ.out.symm, hS.out⟩
        case pos =>
          have hi4 : i < 4 := by
            by_cases e : i = 4
            · subst e; have := H6.out; rw [show (2 : Int) + ((4 : Nat) : Int) = 6 by omega] at hvn; omega
            · omega
          obtain ⟨f, hfe⟩ : ∃ f, 5 - i = f + 1 := ⟨4 - i, by omega⟩
          by_cases hit : fv (2 + (i : Int)) = V ∧ fk (2 + (i : Int)) = K
          · have HZ : Hid (R = 2 + (i : Int)) := Lib.hid (by rw [hR1.out, hfe, plO_hit hvn hit])
            generalize hfn : fv (2 + (i : Int)) = fn at *
            generalize hkn : fk (2 + (i : Int)) = kn at *
            have KF := Lib.hid (fun W => HK1.out (2 + (i : Int)) W (by omega) (by omega))
            have KG := Lib.hid (fun W => HK2.out (2 + (i : Int)) W (by omega) (by omega))
            rw [hfn] at KF
            rw [hkn] at KG
            obtain ⟨g1, g2⟩ := hit
            have f1 : (fn == V) = true := eq_t g1
            have f2 : (kn == K) = true := eq_t g2
            clear hfn hkn hR hV32 hfe g1 g2
            go_wp2_with fail
            have hne : Nonempty (SS _ _ _) := ⟨⟨_, hS⟩⟩
            refine wp_region_st (by kernel_rfl) (by kernel_rfl) hS ?_
            repeat (go_big_quiet_step ((exact st_quiet0 (KF.out _))))
            refine wpQuiet_nil ?_
            rintro _ ⟨s2, rfl⟩
            have hS9 := s2.st
            generalize s2.w = w9 at hS9 ⊢
            have hS := hS9
            go_wp2_with fail
            have hne : Nonempty (SS _ _ _) := ⟨⟨_, hS⟩⟩
            refine wp_region_st (by kernel_rfl) (by kernel_rfl) hS ?_
            repeat (go_big_quiet_step ((first | exact st_quiet0 (KF.out _) | exact st_quiet0 (KG.out _))))
            refine wpQuiet_nil ?_
            rintro _ ⟨s2, rfl⟩
            have hS10 := s2.st
            generalize s2.w = w10 at hS10 ⊢
            have hS := hS10
            go_wp2_with fail
            go_ret
            exact ⟨ret_i64 HZ.out.symm, hS.out⟩
          · have HZ : Hid (R = plO fv fk V K (5 - (i + 1)) (2 + ((i + 1 : Nat) : Int))) := Lib.hid (by rw [hR1.out, hfe, plO_next hvn hit, show 5 - (i + 1) = f by omega]; first | (congr 1; done) | (congr 1; omega))
            generalize hfn : fv (2 + (i : Int)) = fn at *
            generalize hkn : fk (2 + (i : Int)) = kn at *
            have KF := Lib.hid (fun W => HK1.out (2 + (i : Int)) W (by omega) (by omega))
            have KG := Lib.hid (fun W => HK2.out (2 + (i : Int)) W (by omega) (by omega))
            rw [hfn] at KF
            rw [hkn] at KG
            have hit2 : (fn == V) = false ∨ ((fn == V) = true ∧ (kn == K) = false) := by
              by_cases e : fn = V
              · exact .inr ⟨eq_t e, eq_f fun e2 => hit ⟨e, e2⟩⟩
              · exact .inl (eq_f e)
            clear hfn hkn hR hV32 hfe hit
            go_wp2_with fail
            have hne : Nonempty (SS _ _ _) := ⟨⟨_, hS⟩⟩
            refine wp_region_st (by kernel_rfl) (by kernel_rfl) hS ?_
            repeat (go_big_quiet_step ((exact st_quiet0 (KF.out _))))
            refine wpQuiet_nil ?_
            rintro _ ⟨s2, rfl⟩
            have hS9 := s2.st
            generalize s2.w = w9 at hS9 ⊢
            have hS := hS9
            rcases hit2 with f1 | ⟨f1, f2⟩
            all_goals
              go_wp2_with fail
              have hne : Nonempty (SS _ _ _) := ⟨⟨_, hS⟩⟩
              refine wp_region_st (by kernel_rfl) (by kernel_rfl) hS ?_
              repeat (go_big_quiet_step ((first | exact st_quiet0 (KF.out _) | exact st_quiet0 (KG.out _))))
              refine wpQuiet_nil ?_
              rintro _ ⟨s2, rfl⟩
              have hS10 := s2.st
              generalize s2.w = w10 at hS10 ⊢
              have hS := hS10
              go_wp2_with fail
              go_roundw
              case rel => exact ⟨i + 1, by omega, by go_num, fun _ _ => HZ.out, hS⟩
              case measure => simp [intOf]; omega
end Go.Proofs.YtljemlfocajhnaaGreat
end

section
/- Walks: the classes of parallel lines, of the program. -/
namespace Go.Proofs.YtljemlfocajhnaaGreat
set_option linter.unusedSimpArgs false
set_option linter.unusedVariables false
open Go.RowKit
attribute [local go_sem ↓] Go.wp_at_zero Go.wp_at_succ
theorem rowsI_putP {us : List Value} {R : List (List Int)} (hl : us.length = R.length) {j : Nat} (hj : j < R.length) (u : Value) (r : List Int) : (rowsI us R).set j (row 2 u (iv r)) = rowsI (us.set j u) (R.set j r) := by
  refine List.ext_getElem (by simp [rowsI, hl]) fun i h1 h2 => ?_
  simp only [rowsI, List.getElem_set, List.getElem_zipWith]
  split <;> rfl
theorem own2_putP {v : Value} {us : List Value} {A : List (List Int)} {L2 : List Ent} (hl : us.length = A.length) {j : Nat} (hj : j < A.length) (u : Value) (r : List Int) :
    ((own2 v us A ++ L2).set (j + 1) (row 2 u (iv r))).set 0 (row 46 v (us.set j u)) = own2 v (us.set j u) (A.set j r) ++ L2 := by
  rw [own2, own2, List.cons_append, List.set_cons_succ, List.set_cons_zero, List.set_append_left _ _ (by rw [rowsI_len hl]; exact hj), rowsI_putP hl hj]; rfl
theorem own2_atP {v : Value} {us : List Value} {A : List (List Int)} {L2 : List Ent} (hl : us.length = A.length) {j : Nat} (hj : j < A.length) : (own2 v us A ++ L2)[j + 1]? = some (row 2 (vat us j) (iv (xat A j))) := by
  rw [own2, List.cons_append, List.getElem?_cons_succ, List.getElem?_append_left (by rw [rowsI_len hl]; exact hj), rowsI_get hl hj]
end Go.Proofs.YtljemlfocajhnaaGreat
end

section
/- Walks: products of matrices. Walks: MatrixMul of both sides. -/
namespace Go.Proofs.YtljemlfocajhnaaGreat
set_option linter.unusedSimpArgs false
set_option linter.unusedVariables false
open Go.RowKit
attribute [local go_sem ↓] Go.wp_at_zero Go.wp_at_succ
section
variable {ops : Array Oper} {o : Oper} {a : Act} {K : Act → World → Prop} {Q : Exit → Act → World → Prop} {E : Prop} {B : Nat} {w0 w : World} {L : List Ent}
/-- append of one integer to an owned row of integers, as a step -/
theorem stepI1 (hS : St B w0 w L) (i : Nat) {v : Value} {xs : List Int} (hi : L[i]? = some (row 2 v (iv xs))) (hN : xs.length < 4294967296) (hg : o.guard = none) (s x : Operand)
    (hop : o.op = .call { callee := .builtin .append, args := #[s, x], argTypes := #[46, 46] }) (hs : a.eval s = v) (n : Int) (hx : a.eval x = .slice (some ⟨w.heap.size, 0, none⟩) 1 1)
    (hK : ∀ v' w', St B w0 w' (L.set i (row 2 v' (iv (xs ++ [n])))) → K (a.put o.dst v') w') :
    if Region.wanted o (yielded ops a.tmps) = true then Oper.wp Tryz.prog o a (w.alloc (.cells #[.int .i64 n] 2)) K Q else E :=
  step_st_app1 hg s x 46 hop 2 (.int .i64 0) 8 Tryz.und_is Tryz.info_i rfl hS i hi hs (.int .i64 n) hx rfl (by omega) (by rw [iv_len]; exact hN)
    (fun v' w' h => hK v' w' (by rw [iv_app, iv_one]; exact h))
end
end Go.Proofs.YtljemlfocajhnaaGreat
end
