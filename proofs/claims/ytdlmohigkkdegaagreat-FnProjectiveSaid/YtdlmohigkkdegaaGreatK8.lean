/- The texts of this claim, run 8: Ds8 DsF DsH DsI DsK Cpt DsM PPj2 PPj2q4 PPj2q5a PPj2q5b PPj3 PCon PMol At Pm6 SqB Fm3. -/
import Derived.Test.YtdlmohigkkdegaaGreatK1
import Derived.Test.YtdlmohigkkdegaaGreatK2
import Derived.Test.YtdlmohigkkdegaaGreatK3
import Derived.Test.YtdlmohigkkdegaaGreatK4
import Derived.Test.YtdlmohigkkdegaaGreatK5
import Derived.Test.YtdlmohigkkdegaaGreatK6
import Derived.Test.YtdlmohigkkdegaaGreatK7
import Derived.Deep.RegionHeld3
import Derived.Deep.DrawnRows
import Derived.Shelf.SlicesG.CompactI
import Derived.Sort.OwnSortedInts
section
/- Walks: how often pairs of points occur in a design. -/
namespace Go.Proofs.YtdlmohigkkdegaaGreat
set_option linter.unusedSimpArgs false
set_option linter.unusedVariables false
open Go.RowKit
attribute [local go_sem ↓] Go.wp_at_zero Go.wp_at_succ

def parC (b : List Int) (i j x y : Nat) : Prop := ((x : Int) ∈ b.take i ∧ (y : Int) ∈ b) ∨ ((x : Int) = nth b i ∧ (y : Int) ∈ (b.drop (i + 1)).take j)
open Classical in
noncomputable def parT (A : List (List Int)) (k i j x y : Nat) : Int := parF (A.take k) x y + if parC (xat A k) i j x y then 1 else 0
/-- the table behind k blocks, i points and j further points -/
structure PrM (P : Nat) (A : List (List Int)) (k i j : Nat) (M : List (List Int)) : Prop where
  sq : Sqr P M
  at' : ∀ x y, x < y → y < P → at2 M x y = parT A k i j x y
theorem parT_bd {A : List (List Int)} {k i j x y : Nat} (hA : A.length ≤ 128) : 0 ≤ parT A k i j x y ∧ parT A k i j x y ≤ 129 := by
  unfold parT parF
  have := cntD_bd (fun b => decide ((x : Int) ∈ b) && decide ((y : Int) ∈ b)) (A.take k)
  have hl : (A.take k).length ≤ 128 := by simp; omega
  split <;> omega
theorem nth_drop (b : List Int) (i j : Nat) : nth (b.drop i) j = nth b (i + j) := by simp [nth]
theorem Inc.fresh2 {P : Nat} {b : List Int} (h : Inc P b) {i j : Nat} (hj : i + j < b.length) : nth b (i + j) ∉ (b.drop i).take j := by
  intro hm
  obtain ⟨m, hm', he⟩ := List.getElem_of_mem hm
  have hmj : m < j := by simp at hm'; omega
  rw [List.getElem_take, List.getElem_drop, ← nth_eq (show i + m < b.length by omega)] at he
  have := h.lt (i + m) (i + j) (by omega) hj
  omega
theorem PrM.step {P : Nat} {A : List (List Int)} {k i j x y : Nat} {M : List (List Int)} (h : PrM P A k i j M) (hi : Inc P (xat A k)) (hj : i + 1 + j < (xat A k).length) (hx : nth (xat A k) i = x) (hy : nth (xat A k) (i + 1 + j) = y) :
    PrM P A k i (j + 1) (putS M x y (at2 M x y + 1)) := by
  have hxP : x < P := by have := (hi.bd i (by omega)).2; omega
  have hyP : y < P := by have := (hi.bd (i + 1 + j) hj).2; omega
  have hxy : x < y := by have := hi.lt i (i + 1 + j) (by omega) hj; omega
  have hd : nth ((xat A k).drop (i + 1)) j = y := by rw [nth_drop, hy]
  have hdl : j < ((xat A k).drop (i + 1)).length := by simp; omega
  refine ⟨putS_sqr h.sq hxP _ _, fun t u htu huP => ?_⟩
  rw [at2_putS h.sq hxP hyP]
  have hm := mem_take1 hdl (u : Int)
  rw [hd] at hm
  by_cases e : x = t ∧ y = u
  · obtain ⟨rfl, rfl⟩ := e
    rw [if_pos ⟨rfl, rfl⟩, h.at' x y hxy hyP]
    have c0 : ¬ parC (xat A k) i j x y := by
      rintro (⟨h1, _⟩ | ⟨_, h2⟩)
      · have := hi.fresh (show i < (xat A k).length by omega); rw [hx] at this; exact this h1
      · have := hi.fresh2 (i := i + 1) (j := j) hj; rw [hy] at this; exact this h2
    have c1 : parC (xat A k) i (j + 1) x y := .inr ⟨hx.symm, hm.2 (.inr rfl)⟩
    unfold parT
    rw [if_neg c0, if_pos c1]; omega
  · rw [if_neg e, h.at' t u htu huP]
    unfold parT
    have : parC (xat A k) i j t u ↔ parC (xat A k) i (j + 1) t u := by
      unfold parC
      rw [hm, hx]
      constructor
      · rintro (h1 | ⟨h1, h2⟩)
        · exact .inl h1
        · exact .inr ⟨h1, .inl h2⟩
      · rintro (h1 | ⟨h1, h2 | h2⟩)
        · exact .inl h1
        · exact .inr ⟨h1, h2⟩
        · exact absurd ⟨by omega, by omega⟩ e
    by_cases hc : parC (xat A k) i j t u
    · rw [if_pos hc, if_pos (this.1 hc)]
    · rw [if_neg hc, if_neg (fun h => hc (this.2 h))]
theorem PrM.next {P : Nat} {A : List (List Int)} {k i : Nat} {M : List (List Int)} (h : PrM P A k i ((xat A k).length - (i + 1)) M) (hi : Inc P (xat A k)) (hl : i < (xat A k).length) : PrM P A k (i + 1) 0 M := by
  refine ⟨h.sq, fun x y hxy hy => ?_⟩
  rw [h.at' x y hxy hy]
  unfold parT
  have : parC (xat A k) i ((xat A k).length - (i + 1)) x y ↔ parC (xat A k) (i + 1) 0 x y := by
    unfold parC
    rw [mem_take1 hl, List.take_zero, show ((xat A k).drop (i + 1)).take ((xat A k).length - (i + 1)) = (xat A k).drop (i + 1) from List.take_of_length_le (by simp)]
    constructor
    · rintro (⟨h1, h2⟩ | ⟨h1, h2⟩)
      · exact .inl ⟨.inl h1, h2⟩
      · exact .inl ⟨.inr h1, List.mem_of_mem_drop h2⟩
    · rintro (⟨h1 | h1, h2⟩ | ⟨_, h2⟩)
      · exact .inl ⟨h1, h2⟩
      · refine .inr ⟨h1, ?_⟩
        obtain ⟨m, hm, he⟩ := List.getElem_of_mem h2
        rw [← nth_eq hm] at he
        have him : i < m := by
          rcases Nat.lt_trichotomy i m with h3 | h3 | h3
          · exact h3
          · subst h3; omega
          · have := hi.lt m i h3 hl; omega
        rw [List.mem_iff_getElem]
        exact ⟨m - (i + 1), by simp; omega, by rw [List.getElem_drop, ← he, nth_eq hm]; congr 1; omega⟩
      · cases h2
  by_cases hc : parC (xat A k) i ((xat A k).length - (i + 1)) x y
  · rw [if_pos hc, if_pos (this.1 hc)]
  · rw [if_neg hc, if_neg (fun h => hc (this.2 h))]
theorem PrM.block {P : Nat} {A : List (List Int)} {k : Nat} {M : List (List Int)} (h : PrM P A k (xat A k).length 0 M) (hk : k < A.length) : PrM P A (k + 1) 0 0 M := by
  refine ⟨h.sq, fun x y hxy hy => ?_⟩
  rw [h.at' x y hxy hy]
  unfold parT
  have c1 : ¬ parC (xat A (k + 1)) 0 0 x y := by rintro (⟨h1, _⟩ | ⟨_, h1⟩) <;> cases h1
  have c0 : parC (xat A k) (xat A k).length 0 x y ↔ ((x : Int) ∈ xat A k ∧ (y : Int) ∈ xat A k) := by
    unfold parC
    rw [List.take_length, List.take_zero]
    constructor
    · rintro (h1 | ⟨_, h1⟩)
      · exact h1
      · cases h1
    · exact .inl
  rw [if_neg c1, take_xat hk]
  unfold parF
  rw [cntD_snoc]
  by_cases hc : (x : Int) ∈ xat A k ∧ (y : Int) ∈ xat A k
  · rw [if_pos (c0.2 hc), if_pos (by rw [decide_eq_true hc.1, decide_eq_true hc.2]; rfl)]; omega
  · rw [if_neg (fun h => hc (c0.1 h)), if_neg (by rw [Bool.and_eq_true, decide_eq_true_eq, decide_eq_true_eq]; exact hc)]; omega
theorem PrM.start (P : Nat) (A : List (List Int)) : PrM P A 0 0 0 (sqF P fun _ _ => 0) := by
  refine ⟨sqF_sqr _ _, fun x y hxy hy => ?_⟩
  rw [at2_sqF (by omega) hy]
  unfold parT
  have c1 : ¬ parC (xat A 0) 0 0 x y := by rintro (⟨h1, _⟩ | ⟨_, h1⟩) <;> cases h1
  rw [if_neg c1]; simp [parF, cntD]
theorem PrM.row {P : Nat} {A : List (List Int)} {M : List (List Int)} (h : PrM P A A.length 0 0 M) {x : Nat} (hx : x < P) : ((xat M x).take P).drop (x + 1) = parR P A x := by
  have hl := h.sq.row x hx
  apply List.ext_getElem
  · simp [parR, hl]
  · intro t h1 h2
    have ht : t < P - (x + 1) := by simpa [parR] using h2
    rw [List.getElem_drop, List.getElem_take, ← nth_eq (by rw [hl]; omega)]
    have := h.at' x (x + 1 + t) (by omega) (by omega)
    have c1 : ¬ parC (xat A A.length) 0 0 x (x + 1 + t) := by rintro (⟨h1, _⟩ | ⟨_, h1⟩) <;> cases h1
    unfold parT at this
    rw [if_neg c1, List.take_length] at this
    rw [show nth (xat M x) (x + 1 + t) = at2 M x (x + 1 + t) from rfl, this]
    simp [parR]
theorem St.nilrow4 {B : Nat} {w0 w : World} {L : List Ent} (h : St B w0 w L) (e : TypeId) : St B w0 w (L ++ [row e (.slice none 0 0) []]) :=
  h.add ⟨rfl, rfl, rfl, Nat.le_refl _, fun _ _ _ => rfl⟩ _ (.inr (.inl ⟨rfl, rfl, rfl⟩)) (fun k hk => by simp [bk, row] at hk)
/-- the numbers of the pairs of the first k points -/
def parK (P : Nat) (A : List (List Int)) (k : Nat) : List Int := ((List.range k).map (parR P A)).flatten
theorem parK_succ (P : Nat) (A : List (List Int)) (k : Nat) : parK P A (k + 1) = parK P A k ++ parR P A k := by
  rw [parK, List.range_succ, List.map_append, List.flatten_append]; simp [parK]
theorem parK_len (P : Nat) (A : List (List Int)) : ∀ k, (parK P A k).length ≤ k * P
  | 0 => Nat.zero_le _
  | k + 1 => by
    rw [parK_succ, List.length_append, Nat.succ_mul]
    have := parK_len P A k
    have : (parR P A k).length ≤ P := by simp [parR]
    omega
theorem parK_end (P : Nat) (A : List (List Int)) : parK P A P = parL P A := rfl

set_option maxHeartbeats 4000000 in
set_option maxRecDepth 100000 in
theorem pairCounts_c (P : Nat) (v : Value) (us : List Value) (A : List (List Int)) (w : World) (hv : RII w v us A) (hD : DOk P A) :
    Calls Tryz.prog 188 #[dv P v] w (MakesI w (parL P A)) := by
  obtain ⟨a, c, hsh⟩ := hv.1.sl.sh
  rw [hv.2.1] at hsh
  subst hsh
  have hP := hD.le
  have hDl := hD.len
  have HD := Lib.hid hD
  clear hD
  have hS1 := (St.refl w).newboxF 27 #[.int .i64 P, .slice a A.length c]
  have b0 := hS1.bcell 0 rfl 0 rfl
  have b1 := hS1.bcell 0 rfl 1 rfl
  have hix := hv.ix
  unfold dv
  go_enter Tryz.func188, Tryz.ntmps188
  go_wp2_with fail
  refine (emptySquare_c P _ (by omega)).mono ?_
  rintro e w2 ⟨vo, uo, rfl, hlo, h2⟩
  have hS2 := hS1.call h2
  have b1 := hS2.bcell 0 rfl 1 rfl
  have hS3 := hS2.perm (L' := own2 vo uo (sqF P fun _ _ => 0) ++ [box 27 w.heap.size [.int .i64 P, .slice a A.length c]]) List.perm_append_comm
  have hM := PrM.start P A
  have hlo' : uo.length = P := by rw [hlo, hM.sq.len]
  have Hlo := Lib.hid hlo'
  have hro := h2.rii hlo
  have hxo := hro.ixe
  have hlno := hro.len
  rw [hM.sq.len] at hxo hlno
  generalize (sqF P fun _ _ => (0 : Int)) = M0 at *
  have HM := Lib.hid hM
  clear hS1 hS2 h2 hlo hlo' hM b0 hro
  go_wp2_with fail
  go_loopw [5, 6, 7, 9, 19] (fun _ _ _ _ i wr => ∃ (k : Nat) (M : List (List Int)), k ≤ A.length ∧ i = .int .i64 k ∧ Hid (PrM P A k 0 0 M) ∧ St w.heap.size w wr (own2 vo uo M ++ [box 27 w.heap.size [.int .i64 P, .slice a A.length c]])) (fun _ _ _ _ i _ => A.length - (intOf i).toNat)
  case atStart => exact ⟨0, M0, by omega, rfl, HM, hS3⟩
  case round =>
    clear hS3 b1 HM
    obtain ⟨k, M, hk, rfl, hM, hS⟩ := hrel
    by_cases hlt : k < A.length
    · have hc := (hS.oldII hv).cell k hlt
      have hrk := (hS.oldII hv).row k hlt
      have hlk := hrk.len
      have hik := hrk.ix
      have HI := Lib.hid (HD.out.inc' hlt)
      have hl32 := HI.out.len
      go_wp2_with fail
      obtain ⟨wo, rfl⟩ : ∃ wo : World, wo = wr := ⟨_, rfl⟩
      go_loopw [6, 7, 9, 25] (fun _ _ _ m wr => ∃ (i : Nat) (M : List (List Int)), i ≤ (xat A k).length ∧ m = .int .i64 i ∧ Hid (PrM P A k i 0 M) ∧ St w.heap.size w wr (own2 vo uo M ++ [box 27 w.heap.size [.int .i64 P, .slice a A.length c]])) (fun _ _ _ m _ => (xat A k).length - (intOf m).toNat)
      case atStart => exact ⟨0, M, by omega, rfl, hM, hS⟩
      case round =>
        clear hS hc hrk hM
        obtain ⟨i, M, hi, rfl, hM, hS⟩ := hrel
        by_cases hil : i < (xat A k).length
        · have hrk := (hS.oldII hv).row k hlt
          have ci := hrk.cell i hil
          obtain ⟨x, hx, hxP⟩ := HI.out.nat hil
          rw [hx] at ci
          have hsl : ∀ W, (Instr.slice 32 (vat us k) (some (.int .i64 ((i : Int) + 1))) none none).run Tryz.prog W = .ok (rsl (vat us k) (i + 1) (xat A k).length) W := fun W => by
            have := rsl_lo hrk (i + 1) (by omega) W; rwa [show ((i + 1 : Nat) : Int) = (i : Int) + 1 by omega] at this
          have hsr := rsl_rd hrk (lo := i + 1) (hi := (xat A k).length) (by omega) (Nat.le_refl _)
          rw [List.take_length] at hsr
          have hsn := hsr.len
          have hsx := hsr.ix
          have hdl : ((xat A k).drop (i + 1)).length = (xat A k).length - (i + 1) := by simp
          rw [hdl] at hsn hsx
          have Hx := Lib.hid hx
          have Hsr := Lib.hid (fun W (hW : St w.heap.size w W (own2 vo uo M ++ [box 27 w.heap.size [.int .i64 P, .slice a A.length c]])) => hW)
          clear Hsr hsr hdl hx
          go_wp2_with fail
          obtain ⟨wq, rfl⟩ : ∃ wq : World, wq = wr := ⟨_, rfl⟩
          go_loopw [9, 35] (fun _ m wr => ∃ (j : Nat) (M : List (List Int)), j ≤ (xat A k).length - (i + 1) ∧ m = .int .i64 j ∧ Hid (PrM P A k i j M) ∧ St w.heap.size w wr (own2 vo uo M ++ [box 27 w.heap.size [.int .i64 P, .slice a A.length c]])) (fun _ m _ => (xat A k).length - (intOf m).toNat)
          case atStart => exact ⟨0, M, by omega, rfl, hM, hS⟩
          case round =>
            clear hS hM hrk ci
            obtain ⟨j, M, hj, rfl, hM, hS⟩ := hrel
            by_cases hjl : j < (xat A k).length - (i + 1)
            · have hrk := (hS.oldII hv).row k hlt
              have hsr := rsl_rd hrk (lo := i + 1) (hi := (xat A k).length) (by omega) (Nat.le_refl _)
              rw [List.take_length] at hsr
              have cj := hsr.cell j (by simp; omega)
              rw [nth_drop] at cj
              obtain ⟨y, hy, hyP⟩ := HI.out.nat (show i + 1 + j < (xat A k).length by omega)
              rw [hy] at cj
              have hst := Lib.hid (hM.out.step HI.out (by omega) Hx.out hy)
              have hMl := hM.out.sq.len
              have hMr := hM.out.sq.row x hxP
              have hlS : uo.length = M.length := by rw [Hlo.out, hMl]
              have hat := hS.at_row hlS (j := x) (by rw [hMl]; exact hxP)
              have hrx := hS.rdI (x + 1) hat
              have cx := (rii2 hS hlS).cell x (by rw [hMl]; exact hxP)
              have cxy : wr.cell? (el (vat uo x) y) = some (.int .i64 (at2 M x y)) := hrx.cell y (by rw [hMr]; exact hyP)
              have uxy := hS.unfrozen (x + 1) hat (j := y) (by rw [iv_len, hMr]; exact hyP)
              have xx := hxo (x : Int) x rfl hxP
              have xy := hrx.ixe (y : Int) y rfl (by rw [hMr]; exact hyP)
              have hbd : 0 ≤ at2 M x y ∧ at2 M x y ≤ 129 := by
                rw [hM.out.at' x y (by have := HI.out.lt i (i + 1 + j) (by omega) (by omega); have := Hx.out; omega) hyP]; exact parT_bd hDl
              have HS9 := Lib.hid (hS.store (x + 1) hat (j := y) (by rw [iv_len, hMr]; exact hyP) (.int .i64 (at2 M x y + 1)))
              have Hset := Lib.hid (own2_set (v := vo) (L2 := [box 27 w.heap.size [.int .i64 P, .slice a A.length c]]) hlS (j := x) (by rw [hMl]; exact hxP) ((xat M x).set y (at2 M x y + 1)))
              unfold putS at hst
              generalize at2 M x y = q at *
              clear hat hrx hlS hMl hMr hy hrk hsr hM hS
              go_wp2_with fail
              have hS9 := HS9.out
              rw [iv_set, Hset.out] at hS9
              go_roundw
              case rel => exact ⟨j + 1, _, by omega, by go_num, hst, hS9⟩
              case measure => simp [intOf]; omega
            · obtain rfl : j = (xat A k).length - (i + 1) := by omega
              have HN := Lib.hid (hM.out.next HI.out hil)
              go_wp2_with fail
              go_roundw
              case rel => exact ⟨i + 1, M, by omega, by go_num, HN, hS⟩
              case measure => simp [intOf]; omega
        · obtain rfl : i = (xat A k).length := by omega
          have HN := Lib.hid (hM.out.block hlt)
          go_wp2_with fail
          go_roundw
          case rel => exact ⟨k + 1, M, by omega, by go_num, HN, hS⟩
          case measure => simp [intOf]; omega
    · obtain rfl : k = A.length := by omega
      have hN0 := (hS.nilrow4 2).perm (L' := row 2 (.slice none 0 0) [] :: (own2 vo uo M ++ [box 27 w.heap.size [.int .i64 P, .slice a A.length c]])) (by (try simp only [own2, List.cons_append, List.nil_append, List.append_nil]); classical exact List.perm_iff_count.2 (fun a => by simp only [List.cons_append, List.nil_append, List.append_nil, List.count_append, List.count_cons, List.count_nil] <;> omega))
      have hMl := hM.out.sq.len
      have hMr := Lib.hid hM.out.sq.row
      have hlS := Lib.hid (show uo.length = M.length by rw [Hlo.out, hMl])
      clear hS
      go_wp2_with fail
      go_loopw [10, 11, 12, 53] (fun ct _ _ i wr => ∃ x : Nat, x ≤ P ∧ i = .int .i64 x ∧ St w.heap.size w wr (row 2 ct (iv (parK P A x)) :: (own2 vo uo M ++ [box 27 w.heap.size [.int .i64 P, .slice a A.length c]]))) (fun _ _ _ i _ => P - (intOf i).toNat)
      case atStart => exact ⟨0, by omega, rfl, hN0⟩
      case round =>
        clear hN0
        obtain ⟨x, hx, rfl, hS⟩ := hrel
        by_cases hxP : x < P
        · have hR := rii2 (hS.sub (List.sublist_cons_self _ _)) hlS.out
          have cx := hR.cell x (by rw [hMl]; exact hxP)
          have hrx := hR.row x (by rw [hMl]; exact hxP)
          have hxl := hMr.out x hxP
          have hsl : ∀ W, (Instr.slice 32 (vat uo x) (some (.int .i64 ((x : Int) + 1))) none none).run Tryz.prog W = .ok (rsl (vat uo x) (x + 1) (xat M x).length) W := fun W => by
            have := rsl_lo hrx (x + 1) (by rw [hxl]; omega) W; rwa [show ((x + 1 : Nat) : Int) = (x : Int) + 1 by omega] at this
          have hsr := rsl_rd hrx (lo := x + 1) (hi := (xat M x).length) (by rw [hxl]; omega) (Nat.le_refl _)
          rw [hxl] at hsl hsr
          rw [hM.out.row hxP] at hsr
          have Hsr := Lib.hid hsr
          have hpl := Lib.hid (show (parK P A x).length + (parR P A x).length < 100000 by
            have := parK_len P A x
            have h2 : x * P ≤ 32 * 32 := Nat.mul_le_mul (by omega) (by omega)
            have : (parR P A x).length ≤ P := by simp [parR]
            omega)
          clear hrx hR hsr hxl
          have xx := hxo (x : Int) x rfl hxP
          go_wp2_with (at_builtin; refine appsI hS 0 rfl _ _ Hsr.out (by have := hpl.out; omega) rfl _ _ rfl rfl rfl ?_; intro v2 w2 hS2)
          simp only [List.set_cons_zero] at hS2
          rw [← parK_succ] at hS2
          go_roundw
          case rel => exact ⟨x + 1, by omega, by go_num, hS2⟩
          case measure => simp [intOf]; omega
        · obtain rfl : x = P := by omega
          rw [parK_end] at hS
          go_wp2_with fail
          go_ret
          exact ⟨_, rfl, hS.sub (by simp)⟩
end Go.Proofs.YtdlmohigkkdegaaGreat
end

section
/- Walks: incidence matrices; sorted designs; numbers of pairs and replications, with codes. -/
namespace Go.Proofs.YtdlmohigkkdegaaGreat
set_option linter.unusedSimpArgs false
set_option linter.unusedVariables false
open Go.RowKit
attribute [local go_sem ↓] Go.wp_at_zero Go.wp_at_succ

theorem xat_setA {M : List (List Int)} {j t : Nat} {r : List Int} (h : j < M.length) : xat (M.set j r) t = if j = t then r else xat M t := by
  unfold xat
  rw [List.getD_eq_getElem?_getD, List.getElem?_set]
  split
  · rename_i e; subst e; simp [h]
  · simp
theorem nth_setA {r : List Int} {j t : Nat} {x : Int} (h : j < r.length) : nth (r.set j x) t = if j = t then x else nth r t := by
  unfold nth
  rw [List.getD_eq_getElem?_getD, List.getElem?_set]
  split
  · rename_i e; subst e; simp [h]
  · simp
def incC (A : List (List Int)) (k j x c : Nat) : Prop := (c < k ∧ (x : Int) ∈ xat A c) ∨ (c = k ∧ (x : Int) ∈ (xat A k).take j)
open Classical in
structure IncS (P : Nat) (A : List (List Int)) (k j : Nat) (M : List (List Int)) : Prop where
  len : M.length = P
  row : ∀ x, x < P → (xat M x).length = A.length
  at' : ∀ x c, x < P → c < A.length → nth (xat M x) c = if incC A k j x c then 1 else 0
theorem IncS.start (P : Nat) (A : List (List Int)) : IncS P A 0 0 (List.replicate P (List.replicate A.length 0)) := by
  have hx : ∀ x, x < P → xat (List.replicate P (List.replicate A.length (0 : Int))) x = List.replicate A.length 0 := fun x hx => by rw [xat_eq (by simpa using hx)]; simp
  refine ⟨by simp, fun x h => by rw [hx x h]; simp, fun x c h hc => ?_⟩
  rw [hx x h, if_neg, nth_eq (by simpa using hc)]
  · simp
  · rintro (⟨h1, _⟩ | ⟨_, h1⟩)
    · omega
    · simp at h1
theorem IncS.step {P : Nat} {A : List (List Int)} {k j x : Nat} {M : List (List Int)} (h : IncS P A k j M) (hk : k < A.length) (hj : j < (xat A k).length) (hx : nth (xat A k) j = x) (hxP : x < P) : IncS P A k (j + 1) (M.set x ((xat M x).set k 1)) := by
  have hm := fun y : Nat => mem_take1 hj (y : Int)
  refine ⟨by rw [List.length_set]; exact h.len, fun y hy => ?_, fun y c hy hc => ?_⟩
  · rw [xat_setA (by rw [h.len]; exact hxP)]
    split
    · rw [List.length_set]; exact h.row x hxP
    · exact h.row y hy
  · have hiff : incC A k (j + 1) y c ↔ incC A k j y c ∨ (c = k ∧ y = x) := by
      unfold incC
      rw [hm y, hx]
      constructor
      · rintro (h1 | ⟨h1, h2 | h2⟩)
        · exact .inl (.inl h1)
        · exact .inl (.inr ⟨h1, h2⟩)
        · exact .inr ⟨h1, by omega⟩
      · rintro ((h1 | ⟨h1, h2⟩) | ⟨h1, h2⟩)
        · exact .inl h1
        · exact .inr ⟨h1, .inl h2⟩
        · exact .inr ⟨h1, .inr (by rw [h2])⟩
    rw [xat_setA (by rw [h.len]; exact hxP)]
    by_cases e : x = y
    · subst e
      rw [if_pos rfl, nth_setA (by rw [h.row x hxP]; exact hk)]
      by_cases e2 : k = c
      · subst e2; rw [if_pos rfl, if_pos (hiff.2 (.inr ⟨rfl, rfl⟩))]
      · rw [if_neg e2, h.at' x c hxP hc]
        by_cases hcc : incC A k j x c
        · rw [if_pos hcc, if_pos (hiff.2 (.inl hcc))]
        · rw [if_neg hcc, if_neg (fun h' => (hiff.1 h').elim hcc (fun h2 => e2 h2.1.symm))]
    · rw [if_neg e, h.at' y c hy hc]
      by_cases hcc : incC A k j y c
      · rw [if_pos hcc, if_pos (hiff.2 (.inl hcc))]
      · rw [if_neg hcc, if_neg (fun h' => (hiff.1 h').elim hcc (fun h2 => e h2.2.symm))]
theorem IncS.next {P : Nat} {A : List (List Int)} {k : Nat} {M : List (List Int)} (h : IncS P A k (xat A k).length M) : IncS P A (k + 1) 0 M := by
  refine ⟨h.len, h.row, fun x c hx hc => ?_⟩
  have hiff : incC A k (xat A k).length x c ↔ incC A (k + 1) 0 x c := by
    unfold incC
    rw [List.take_length]
    constructor
    · rintro (⟨h1, h2⟩ | ⟨h1, h2⟩)
      · exact .inl ⟨by omega, h2⟩
      · exact .inl ⟨by omega, by rw [h1]; exact h2⟩
    · rintro (⟨h1, h2⟩ | ⟨_, h2⟩)
      · by_cases e : c = k
        · exact .inr ⟨e, by rw [← e]; exact h2⟩
        · exact .inl ⟨by omega, h2⟩
      · simp at h2
  rw [h.at' x c hx hc]
  by_cases hcc : incC A k (xat A k).length x c
  · rw [if_pos hcc, if_pos (hiff.1 hcc)]
  · rw [if_neg hcc, if_neg (fun h' => hcc (hiff.2 h'))]
end Go.Proofs.YtdlmohigkkdegaaGreat
end

section
/- Walks: the design of an incidence matrix. -/
namespace Go.Proofs.YtdlmohigkkdegaaGreat
set_option linter.unusedSimpArgs false
set_option linter.unusedVariables false
open Go.RowKit
attribute [local go_sem ↓] Go.wp_at_zero Go.wp_at_succ

/-- the points below y -/
def blw (b : List Int) (y : Nat) : List Int := b.filter fun z => decide (z < (y : Int))
theorem blw_step {b : List Int} (hp : b.Pairwise (· < ·)) (x : Nat) : blw b (x + 1) = blw b x ++ if (x : Int) ∈ b then [(x : Int)] else [] := by
  induction b with
  | nil => rfl
  | cons a r ih =>
    obtain ⟨h1, h2⟩ := List.pairwise_cons.1 hp
    have ih := ih h2
    unfold blw at ih ⊢
    rcases Int.lt_trichotomy a (x : Int) with h | h | h
    · rw [List.filter_cons_of_pos (by simp; omega), List.filter_cons_of_pos (by simp; omega), ih]
      have : ((x : Int) ∈ a :: r) ↔ (x : Int) ∈ r := by
        rw [List.mem_cons]; constructor
        · rintro (e | e)
          · omega
          · exact e
        · exact .inr
      simp only [this, List.cons_append]
    · have hnr : (x : Int) ∉ r := fun hm => by have := h1 _ hm; omega
      have e0 : r.filter (fun z => decide (z < (x : Int))) = [] := by
        rw [List.filter_eq_nil_iff]; intro z hz; have := h1 z hz; simp; omega
      rw [if_neg hnr, e0] at ih
      rw [List.filter_cons_of_pos (by simp; omega), List.filter_cons_of_neg (by simp; omega), e0, ih, if_pos (by rw [h]; exact List.mem_cons_self), h]; rfl
    · have hnr : (x : Int) ∉ a :: r := fun hm => by
        rcases List.mem_cons.1 hm with e | hm
        · omega
        · have := h1 _ hm; omega
      have e0 : ∀ y : Int, y ≤ a → r.filter (fun z => decide (z < y)) = [] := fun y hy => by
        rw [List.filter_eq_nil_iff]; intro z hz; have := h1 z hz; simp; omega
      rw [List.filter_cons_of_neg (by simp; omega), List.filter_cons_of_neg (by simp; omega), e0 _ (by omega), e0 _ (by omega), if_neg hnr]; rfl
theorem blw_0 {P : Nat} {b : List Int} (h : Inc P b) : blw b 0 = [] := by
  unfold blw
  rw [List.filter_eq_nil_iff]
  intro z hz
  obtain ⟨j, hj, rfl⟩ := List.getElem_of_mem hz
  have := (h.bd j hj).1
  rw [nth_eq hj] at this
  simp; omega
/-- the blocks behind x rows and k places -/
structure BlS (A : List (List Int)) (x k : Nat) (M : List (List Int)) : Prop where
  len : M.length = A.length
  at' : ∀ c, c < A.length → xat M c = blw (xat A c) (x + if c < k then 1 else 0)
theorem incB_pw2 {P : Nat} {b : List Int} (h : Inc P b) : b.Pairwise (· < ·) := by
  rw [List.pairwise_iff_getElem]
  intro i j hi hj hij
  have := h.lt i j hij hj
  rwa [nth_eq hi, nth_eq hj] at this
theorem BlS.start {P : Nat} {A : List (List Int)} (hD : DOk P A) : BlS A 0 0 (List.replicate A.length []) :=
  ⟨by simp, fun c hc => by rw [xat_eq (by simpa using hc)]; simp [blw_0 (hD.inc' hc)]⟩
theorem BlS.no {P : Nat} {A : List (List Int)} {x k : Nat} {M : List (List Int)} (h : BlS A x k M) (hD : DOk P A) (hk : k < A.length) (hx : (x : Int) ∉ xat A k) : BlS A x (k + 1) M :=
  ⟨h.len, fun c hc => by
    rw [h.at' c hc]
    by_cases e : k = c
    · subst e
      rw [if_neg (by omega), if_pos (by omega), Nat.add_zero, blw_step (incB_pw2 (hD.inc' hk)), if_neg hx, List.append_nil]
    · congr 1
      by_cases h2 : c < k
      · rw [if_pos h2, if_pos (by omega)]
      · rw [if_neg h2, if_neg (by omega)]⟩
theorem BlS.next {A : List (List Int)} {x : Nat} {M : List (List Int)} (h : BlS A x A.length M) : BlS A (x + 1) 0 M :=
  ⟨h.len, fun c hc => by rw [h.at' c hc, if_pos hc, if_neg (by omega)]⟩
end Go.Proofs.YtdlmohigkkdegaaGreat
end

section
/- Walks: numbers of points and pairs, incidence matrices, sorted designs and sums of designs, with codes. -/
namespace Go.Proofs.YtdlmohigkkdegaaGreat
set_option linter.unusedSimpArgs false
set_option linter.unusedVariables false
open Go.RowKit
attribute [local go_sem ↓] Go.wp_at_zero Go.wp_at_succ
def MakesIC' (w : World) (xs : List Int) (c : Int) (e : Ending) (w' : World) : Prop := ∃ v, e = .returned (.tuple #[v, .int .i64 c]) ∧ St w.heap.size w w' [row 2 v (iv xs)]
end Go.Proofs.YtdlmohigkkdegaaGreat
end

section
/- Walks: dual designs of the program. -/
namespace Go.Proofs.YtdlmohigkkdegaaGreat
set_option linter.unusedSimpArgs false
set_option linter.unusedVariables false
open Go.RowKit
attribute [local go_sem ↓] Go.wp_at_zero Go.wp_at_succ

/-- the numbers of the first k blocks that hold the point x -/
def dua (A : List (List Int)) (x : Nat) : Nat → List Int
  | 0 => []
  | k + 1 => dua A x k ++ if (x : Int) ∈ xat A k then [(k : Int)] else []
def duP (A : List (List Int)) (k j x : Nat) : List Int := dua A x k ++ if (x : Int) ∈ (xat A k).take j then [(k : Int)] else []
structure DuS (P : Nat) (A : List (List Int)) (k j : Nat) (M : List (List Int)) : Prop where
  len : M.length = P
  at' : ∀ x, x < P → xat M x = duP A k j x
theorem DuS.start (P : Nat) (A : List (List Int)) : DuS P A 0 0 (List.replicate P []) :=
  ⟨by simp, fun x hx => by rw [xat_eq (by simpa using hx)]; simp [duP, dua]⟩
theorem DuS.step {P : Nat} {A : List (List Int)} {k j x : Nat} {M : List (List Int)} (h : DuS P A k j M) (hi : Inc P (xat A k)) (hj : j < (xat A k).length) (hx : nth (xat A k) j = x) (hxP : x < P) : DuS P A k (j + 1) (M.set x (xat M x ++ [(k : Int)])) := by
  refine ⟨by rw [List.length_set]; exact h.len, fun y hy => ?_⟩
  have hm := mem_take1 hj (y : Int)
  rw [hx] at hm
  rw [xat_setA (by rw [h.len]; exact hxP)]
  by_cases e : x = y
  · subst e
    have hf := hi.fresh hj
    rw [hx] at hf
    rw [if_pos rfl, h.at' x hxP]
    unfold duP
    rw [if_neg hf, if_pos (hm.2 (.inr rfl)), List.append_nil]
  · rw [if_neg e, h.at' y hy]
    unfold duP
    by_cases h1 : (y : Int) ∈ (xat A k).take j
    · rw [if_pos h1, if_pos (hm.2 (.inl h1))]
    · rw [if_neg h1, if_neg (fun h2 => (hm.1 h2).elim h1 (fun h3 => e (by omega)))]
theorem DuS.next {P : Nat} {A : List (List Int)} {k : Nat} {M : List (List Int)} (h : DuS P A k (xat A k).length M) : DuS P A (k + 1) 0 M :=
  ⟨h.len, fun x hx => by rw [h.at' x hx]; unfold duP; rw [List.take_length, dua]; simp⟩
end Go.Proofs.YtdlmohigkkdegaaGreat
end

section
/- slices.Compact at []int64: a row that a call owns, without repetitions. -/
namespace Go.Proofs.YtdlmohigkkdegaaGreat
set_option linter.unusedSimpArgs false
set_option linter.unusedVariables false
open Go.RowKit

def Tryz.mCompact_ren : Go.Shelf.Ren := ⟨fun | 43 => 55 | n => n, fun | 22 => 32 | 23 => 2 | 3 => 3 | 4 => 4 | 0 => 0 | n => n, fun | n => n⟩
theorem Tryz.mCompact : Go.Proofs.SlLaysN.n43 Tryz.prog Tryz.mCompact_ren := {
  mixed := by kernel_rfl
  f43 := ⟨Tryz.f55.name, by decide, Tryz.func55.trans (congrArg some (by kernel_rfl))⟩
  t0 := Tryz.underlying0
  a0 := Tryz.isAgg0
  z0 := Tryz.sizeOf0
  v0 := Tryz.zeroValue0
  t3 := Tryz.underlying3
  a3 := Tryz.isAgg3
  z3 := Tryz.sizeOf3
  v3 := Tryz.zeroValue3
  t4 := Tryz.underlying4
  a4 := Tryz.isAgg4
  z4 := Tryz.sizeOf4
  v4 := Tryz.zeroValue4
  t22 := Tryz.underlying32
  a22 := Tryz.isAgg32
  z22 := Tryz.sizeOf32
  v22 := Tryz.zeroValue32
  t23 := Tryz.underlying2
  a23 := Tryz.isAgg2
  z23 := Tryz.sizeOf2
  v23 := Tryz.zeroValue2
  i23 := by kernel_rfl
  }

theorem grow_none (w : World) : Go.Sort.grow w #[] = w := by simp [Go.Sort.grow]
theorem Compact_c {B : Nat} {w0 w : World} {L : List Ent} (hS : St B w0 w L) (i : Nat) {v : Value} {xs : List Int} (hi : L[i]? = some (row 2 v (iv xs))) (hl : xs.length < 4611686018427387904) :
    Calls Tryz.prog 55 #[v] w fun e w' => ∃ v', e = .returned v' ∧ St B w0 w' (L.set i (row 2 v' (iv (Go.Lib.compact xs)))) := by
  have hx := hS.ok _ (List.mem_of_getElem? hi)
  rcases hx with ⟨hp, _⟩ | ⟨_, hv, hu⟩ | ⟨_, g, cap, cur, hv, hB, hh, h1, h2, h3, h4⟩
  · simp [row] at hp
  · simp only [row] at hv hu
    have hx : xs = [] := by cases xs with
      | nil => rfl
      | cons a r => simp [iv] at hu
    subst hx
    subst hv
    have hc := AnyG.slices_Compact_int_empty Tryz.mCompact none 0 w
    refine Calls.mono hc ?_
    rintro e w' ⟨rfl, rfl⟩
    refine ⟨_, rfl, ?_⟩
    have : L.set i (row 2 (.slice none 0 0) (iv (Go.Lib.compact []))) = L := by
      obtain ⟨hlt, heq⟩ := List.getElem?_eq_some_iff.1 hi
      have e : Go.Lib.compact ([] : List Int) = [] := by simp [Go.Lib.compact, Go.Lib.compactUpTo]
      rw [e, ← heq, List.set_getElem_self]
    rw [this]; exact hS
  · simp only [row] at hv h1 h4 hh
    rw [iv_len] at hv h1 h4
    have hblk : g < w.heap.size := (Array.getElem?_eq_some_iff.1 hh).1
    have hH : Go.Sort.Holds (Value.int .i64) w g 0 xs.toArray := holds_of_blockI hh h4
    have hc := AnyG.slices_Compact_int Tryz.mCompact g 0 cap xs w hH (by omega) h1
    have hle : (Go.Lib.compact xs).length ≤ xs.length := by
      unfold Go.Lib.compact Go.Lib.compactUpTo
      rw [List.length_map]
      have := List.length_filter_le (Go.Lib.keeps xs.toArray) (List.range xs.length)
      simpa using this
    subst hv
    refine Calls.mono hc ?_
    rintro e w' ⟨rfl, q, rfl⟩
    refine ⟨_, rfl, ?_⟩
    have key : ∀ (W : World) (L' : List Ent), St B w0 (Go.Sort.grow W #[]) L' → St B w0 W L' := fun W L' h => by rwa [grow_none] at h
    refine key _ _ ?_
    clear key
    generalize Go.Lib.compact xs = ys at *
    have hlen : (ys ++ List.replicate (xs.length - ys.length) (0 : Int)).length = xs.length := by simp; omega
    refine hS.put i hi ?_ (row 2 (.slice (some ⟨g, 0, none⟩) ys.length cap) (iv ys)) (.inr (.inr ⟨rfl, g, cap, _, ?_, hB, heap_sortedI _ hh, ?_, h2, ?_, ?_⟩)) (.inl rfl)
    · exact grownBy_sortedI _
    · simp [row, iv_len]
    · simp [row, iv_len]; omega
    · simp [Go.Sort.putCells, h3]
    · have := take_putCellsI cur (ys ++ List.replicate (xs.length - ys.length) (0 : Int)) (by omega)
      rw [hlen] at this
      have h5 := congrArg (List.take ys.length) this
      have e5 : List.take ys.length (List.map (Value.int .i64) (ys ++ List.replicate (xs.length - ys.length) (0 : Int))) = List.map (Value.int .i64) ys := by rw [List.map_append, List.take_left' (by simp)]
      rw [List.take_take, Nat.min_eq_left hle, e5] at h5
      simpa [row, iv] using h5
/-! ### what it leaves, of a list in rising order -/
theorem gb_nth (xs : List Int) {j : Nat} (hj : j < xs.length) : xs.toArray[j]! = nth xs j := by
  simp [nth, hj]
theorem mem_compact {xs : List Int} {x : Int} : x ∈ Go.Lib.compact xs ↔ x ∈ xs := by
  unfold Go.Lib.compact Go.Lib.compactUpTo
  rw [List.mem_map]
  constructor
  · rintro ⟨j, hj, rfl⟩
    have := List.mem_range.1 (List.mem_filter.1 hj).1
    rw [gb_nth xs this]; exact nth_mem this
  · intro hx
    obtain ⟨j, hj, rfl⟩ := List.getElem_of_mem hx
    have key : ∀ j (hj : j < xs.length), ∃ i, i ∈ (List.range xs.length).filter (Go.Lib.keeps xs.toArray) ∧ xs.toArray[i]! = nth xs j := by
      intro j
      induction j with
      | zero => exact fun hj => ⟨0, List.mem_filter.2 ⟨List.mem_range.2 hj, by simp [Go.Lib.keeps]⟩, gb_nth xs hj⟩
      | succ j ih =>
        intro hj
        by_cases e : xs.toArray[j + 1]! = xs.toArray[j]!
        · obtain ⟨i, hi, e2⟩ := ih (by omega)
          exact ⟨i, hi, by rw [e2, ← gb_nth xs (by omega : j < xs.length), ← e, gb_nth xs hj]⟩
        · exact ⟨j + 1, List.mem_filter.2 ⟨List.mem_range.2 hj, by simp only [Go.Lib.keeps, decide_eq_true_eq]; exact .inr e⟩, gb_nth xs hj⟩
    obtain ⟨i, hi, e⟩ := key j hj
    exact ⟨i, hi, by rw [e, nth_eq hj]⟩
theorem compact_nodup {xs : List Int} (h : xs.Pairwise (· ≤ ·)) : (Go.Lib.compact xs).Nodup := by
  unfold Go.Lib.compact Go.Lib.compactUpTo
  have hs : ∀ i j, i ≤ j → j < xs.length → nth xs i ≤ nth xs j := fun i j hij hj => by
    rcases Nat.lt_or_eq_of_le hij with hlt | rfl
    · have := List.pairwise_iff_getElem.1 h i j (by omega) hj hlt
      rw [nth_eq (by omega), nth_eq hj]; exact this
    · exact Int.le_refl _
  rw [List.nodup_iff_pairwise_ne, List.pairwise_map]
  have hp : ((List.range xs.length).filter (Go.Lib.keeps xs.toArray)).Pairwise (· < ·) := List.Pairwise.filter _ (List.pairwise_lt_range)
  refine hp.imp_of_mem fun {a b} ha hb hab e => ?_
  have hb1 := List.mem_range.1 (List.mem_filter.1 hb).1
  have hk := (List.mem_filter.1 hb).2
  simp only [Go.Lib.keeps, decide_eq_true_eq] at hk
  rcases hk with h0 | hne
  · omega
  · rw [gb_nth xs hb1, gb_nth xs (by omega)] at hne
    rw [gb_nth xs (by omega), gb_nth xs hb1] at e
    have := hs a (b - 1) (by omega) (by omega)
    have := hs (b - 1) b (by omega) hb1
    omega
end Go.Proofs.YtdlmohigkkdegaaGreat
end

section
/- Walks: the numbers of points that two blocks share. -/
namespace Go.Proofs.YtdlmohigkkdegaaGreat
set_option linter.unusedSimpArgs false
set_option linter.unusedVariables false
open Go.RowKit
attribute [local go_sem ↓] Go.wp_at_zero Go.wp_at_succ

def mtg (a b : List Int) : List Int := ifSets a b (mee a b)
theorem upF_len2 (f : Int → Bool) : ∀ k lo, (upF f lo k).length ≤ k
  | 0, _ => Nat.le_refl _
  | k + 1, lo => by
    rw [upF]
    split
    · simpa using upF_len2 f k (lo + 1)
    · exact Nat.le_succ_of_le (upF_len2 f k (lo + 1))
theorem mtg_len (a b : List Int) : (mtg a b).length ≤ 32 := by
  unfold mtg ifSets; split
  · exact upF_len2 _ _ _
  · simp
def mtR (A : List (List Int)) (i : Nat) : List Int := (List.range i).map fun j => ((mtg (xat A i) (xat A j)).length : Int)
def mtA (A : List (List Int)) : Nat → List Int
  | 0 => []
  | i + 1 => mtA A i ++ mtR A i
theorem mtR_take {A : List (List Int)} {i j : Nat} (h : j < i) : (mtR A i).take (j + 1) = (mtR A i).take j ++ [((mtg (xat A i) (xat A j)).length : Int)] := by
  rw [List.take_add_one, List.getElem?_eq_getElem (by simp [mtR]; exact h)]
  simp [mtR]
theorem mtR_len (A : List (List Int)) (i : Nat) : (mtR A i).length = i := by simp [mtR]
theorem mtA_len (A : List (List Int)) {n : Nat} : ∀ i, i ≤ n → (mtA A i).length ≤ i * n
  | 0, _ => Nat.zero_le _
  | i + 1, h => by rw [mtA, List.length_append, mtR_len, Nat.succ_mul]; have := mtA_len A i (n := n) (by omega); omega
theorem take_vat {us : List Value} {i j : Nat} (h : j < i) : vat ((us.take i).drop 0) j = vat us j := by
  unfold vat
  rw [List.drop_zero, List.getD_eq_getElem?_getD, List.getElem?_take_of_lt h, ← List.getD_eq_getElem?_getD]
set_option maxHeartbeats 8000000 in
set_option maxRecDepth 100000 in
theorem MeetingsOf_c (P : Nat) (v : Value) (us : List Value) (A : List (List Int)) (w : World) (hv : RII w v us A) (hok : dOk P A = true) :
    Calls Tryz.prog 10 #[dv P v] w (MakesIC' w (Go.Lib.compact (srt (mtA A A.length))) 0) := by
  obtain ⟨a, c, hsh⟩ := hv.1.sl.sh
  rw [hv.2.1] at hsh
  subst hsh
  have hDl := (dOk_t hok).len
  have hS0 := (St.refl w).newboxF 27 #[.int .i64 P, .slice a A.length c]
  have b0 := hS0.bcell 0 rfl 0 rfl
  have b1 := hS0.bcell 0 rfl 1 rfl
  have K1 := Lib.hid (ValidDesign_c P (.slice a A.length c) us A _ (hS0.oldII hv))
  rw [hok] at K1
  have hix := hv.ix
  have hul := Lib.hid hv.2.1
  unfold dv at K1 ⊢
  clear hok
  go_enter Tryz.func10, Tryz.ntmps10
  go_wp2_with fail
  refine K1.out.mono ?_
  clear K1 b0 b1
  rintro e w2 ⟨rfl, h2⟩
  have hS2 := hS0.call0 h2
  have b1 := hS2.bcell 0 rfl 1 rfl
  have hS3 := (hS2.nilrow4 2).perm (L' := [row 2 (.slice none 0 0) [], box 27 w.heap.size [.int .i64 P, .slice a A.length c]]) (by (try simp only [own2, List.cons_append, List.nil_append, List.append_nil]); classical exact List.perm_iff_count.2 (fun a => by simp only [List.cons_append, List.nil_append, List.append_nil, List.count_append, List.count_cons, List.count_nil] <;> omega))
  clear hS0 h2 hS2
  go_wp2_with fail
  go_loopw [4, 5, 6, 8, 15] (fun o _ _ _ i wr => ∃ k : Nat, k ≤ A.length ∧ i = .int .i64 k ∧ St w.heap.size w wr [row 2 o (iv (mtA A k)), box 27 w.heap.size [.int .i64 P, .slice a A.length c]]) (fun _ _ _ _ i _ => A.length - (intOf i).toNat)
  case atStart => exact ⟨0, by omega, rfl, hS3⟩
  case round =>
    clear hS3 b1
    obtain ⟨k, hk, rfl, hS⟩ := hrel
    have b1 := hS.bcell 1 rfl 1 rfl
    by_cases hkt : k < A.length
    · have hRw := hS.oldII hv
      have ck := hRw.cell k hkt
      have hku : k ≤ us.length := by rw [hul.out]; omega
      have hsl := rslII_hi hRw.1 k hku
      have hr2 := rsl_Rd hRw.1 (Nat.zero_le k) hku
      have hl2' : ((us.take k).drop 0).length = k := by simp; omega
      have hl2 := fun (ty : TypeId) (W : World) => run_len_sl (P := Tryz.prog) hr2.sl 25 ty Tryz.und_iss W
      have hi2 := run_ix_sl (P := Tryz.prog) hr2.sl 25 Tryz.und_iss Tryz.size_is
      rw [hl2'] at hl2 hi2
      have hS' : St w.heap.size w wr [row 2 u4 (iv (mtA A k ++ (mtR A k).take 0)), box 27 w.heap.size [.int .i64 P, .slice a A.length c]] := by rw [List.take_zero, List.append_nil]; exact hS
      have hml := mtA_len A k (n := 128) (by omega)
      have Hku := Lib.hid hku
      clear hr2 hl2' hRw hS hku
      go_wp2_with fail
      go_loopw [4, 8, 25] (fun o _ i wr => ∃ j : Nat, j ≤ k ∧ i = .int .i64 j ∧ St w.heap.size w wr [row 2 o (iv (mtA A k ++ (mtR A k).take j)), box 27 w.heap.size [.int .i64 P, .slice a A.length c]]) (fun _ _ i _ => k - (intOf i).toNat)
      case atStart => exact ⟨0, by omega, rfl, hS'⟩
      case round =>
        clear hS' ck b1
        obtain ⟨j, hj, rfl, hS⟩ := hrel
        by_cases hjt : j < k
        · have hRw := hS.oldII hv
          have cj : wr.cell? (el (rsl (.slice a A.length c) 0 k) j) = some (vat us j) := by
            have := Rd.cell (rsl_Rd hRw.1 (Nat.zero_le k) Hku.out) (i := j) (by simp; have := Hku.out; omega)
            rw [show ((us.take k).drop 0).getD j undef = vat us j from take_vat hjt] at this; exact this
          have KM := Lib.hid (MeetSets_c _ _ _ _ _ (hRw.row k hkt) (hRw.row j (by omega)))
          rw [show ifSets (xat A k) (xat A j) (mee (xat A k) (xat A j)) = mtg (xat A k) (xat A j) from rfl] at KM
          have Ht := Lib.hid (mtR_take (A := A) hjt)
          have h32 := mtg_len (xat A k) (xat A j)
          have hll := Lib.hid (show (mtA A k ++ (mtR A k).take j).length < 4294967296 by simp only [List.length_append, List.length_take, mtR_len]; omega)
          generalize mtg (xat A k) (xat A j) = M at *
          clear hRw
          go_wp2_with fail
          refine KM.out.mono ?_
          clear KM
          rintro e w5 ⟨vM, rfl, h5⟩
          have rM := h5.rdI 0 rfl
          have hS5 := hS.call h5
          clear hS h5
          go_wp2_with (first | (go_at_call 51; refine (size_c _ _ _ rM).mono ?_; rintro e w6 ⟨rfl, rfl⟩) | (at_builtin; refine appI hS5 0 rfl hll.out rfl _ _ rfl rfl _ rfl ?_; intro v8 w8 hS8))
          simp only [List.cons_append, List.nil_append, List.set_cons_zero] at hS8
          rw [List.append_assoc, ← Ht.out] at hS8
          go_roundw
          case rel => exact ⟨j + 1, by omega, by go_num, hS8.sub (((List.nil_sublist _).cons_cons _).cons_cons _)⟩
          case measure => simp [intOf]; omega
        · obtain rfl : j = k := by omega
          rw [List.take_of_length_le (by rw [mtR_len]; omega), show mtA A j ++ mtR A j = mtA A (j + 1) from rfl] at hS
          go_wp2_with fail
          go_roundw
          case rel => exact ⟨j + 1, by omega, by go_num, hS⟩
          case measure => simp [intOf]; omega
    · obtain rfl : k = A.length := by omega
      have hml := mtA_len A A.length (n := 128) (by omega)
      have hsl : (srt (mtA A A.length)).length = (mtA A A.length).length := srt_len _
      go_wp2_with fail
      refine (Sort_c hS 0 rfl (by omega)).mono ?_
      rintro e w5 ⟨rfl, h5⟩
      simp only [List.set_cons_zero] at h5
      go_wp2_with fail
      refine (Compact_c h5 0 rfl (by omega)).mono ?_
      rintro e w6 ⟨v6, rfl, h6⟩
      simp only [List.set_cons_zero] at h6
      go_wp2_with fail
      refine bodyPost_ret (v := .tuple #[v6, .int .i64 0]) (by simp [results, Tryz.results10, go_sem]) rfl ?_
      exact ⟨v6, rfl, h6.sub ((List.nil_sublist _).cons_cons _)⟩
end Go.Proofs.YtdlmohigkkdegaaGreat
end

section
/- Plain: what the law asks of the projective planes of order 2 to 5 (by kernel check). -/
namespace Go.Proofs.YtdlmohigkkdegaaGreat
set_option linter.unusedSimpArgs false
set_option linter.unusedVariables false

/-- both points lie on the line -/
def ltB (a b : Int) (x : List Int) : Bool := decide (a ∈ x) && decide (b ∈ x)
/-- three points of the set lie on the line -/
def arB (c : List Int) (x : List Int) : Bool := decide (3 ≤ (meB x c).length)
def cnL (p : Int) (D : Nat) (fs : List Int) (q : Nat) : Nat → List Int
  | 0 => [0]
  | y + 1 => cnL p D fs q y ++ [1 + (q : Int) + (q : Int) * y + fmul p D fs y y]
def cnC (q : Nat) : List Int := cnL (mkfP q) (mkfD q).toNat (mkfL q) q q
def pjC1 (q : Nat) (D : List (List Int)) (c : List Int) : Bool :=
  dOk (q * q + q + 1 : Nat) D && (mtA D D.length).all (fun x => decide (x = 1)) && decide (ordP pjV pjK (q * q + q + 1) D = q) && decide (D.length = q * q + q + 1) && validSetB c (q * q + q + 1 : Nat) && !(anyR (arB c) D)
def pjC2 (q : Nat) (D : List (List Int)) : Bool :=
  (List.range (q * q + q + 1)).all fun a => (List.range (q * q + q + 1)).all fun b => decide (a = b) ||
    (decide (0 ≤ idxR (ltB a b) D 0) && decide (idxR (ltB a b) D 0 < D.length) && ltB a b (xat D (idxR (ltB a b) D 0).toNat))
def pjC3k (q : Nat) (D : List (List Int)) (k : Nat) : Bool :=
    ((List.range D.length).all fun j => decide (j = k) || decide (rsB (xat D j) (cplB (q * q + q + 1) (xat D k)) ≠ [])) && decide (cplB (q * q + q + 1) (xat D k) ≠ []) && decide ((cplB (q * q + q + 1) (xat D k)).length = q * q) &&
      dOk (q * q : Nat) (srtL (resR D k (cplB (q * q + q + 1) (xat D k)) D.length)) && decide (ordP afV afK (q * q) (srtL (resR D k (cplB (q * q + q + 1) (xat D k)) D.length)) = q)
def pjC3 (q : Nat) (D : List (List Int)) : Bool := (List.range D.length).all (pjC3k q D)
set_option maxRecDepth 1000000
theorem pj_c1 : ∀ q ∈ ([2, 3, 4, 5] : List Nat), pjC1 q (pjD q) (cnC q) = true := by decide +kernel
theorem pj_c2 : ∀ q ∈ ([2, 3, 4, 5] : List Nat), pjC2 q (pjD q) = true := by decide +kernel
set_option maxHeartbeats 0 in
theorem pj_c32 : pjC3 2 pjD2 = true := by decide +kernel
set_option maxHeartbeats 0 in
theorem pj_c33 : pjC3 3 pjD3 = true := by decide +kernel
end Go.Proofs.YtdlmohigkkdegaaGreat
end

section
/- Plain: every line of the projective plane of order 4 can be taken away (by kernel check). -/
namespace Go.Proofs.YtdlmohigkkdegaaGreat
set_option linter.unusedSimpArgs false
set_option linter.unusedVariables false
set_option maxRecDepth 1000000
set_option maxHeartbeats 0 in
theorem pj_c34 : pjC3 4 pjD4 = true := by decide +kernel
end Go.Proofs.YtdlmohigkkdegaaGreat
end

section
/- Plain: lines of the projective plane of order 5 can be taken away (by kernel check). -/
namespace Go.Proofs.YtdlmohigkkdegaaGreat
set_option linter.unusedSimpArgs false
set_option linter.unusedVariables false
set_option maxRecDepth 1000000
set_option maxHeartbeats 0 in
theorem pj_c35_0 : ([0, 1, 2, 3] : List Nat).all (pjC3k 5 pjD5) = true := by decide +kernel
set_option maxHeartbeats 0 in
theorem pj_c35_4 : ([4, 5, 6, 7] : List Nat).all (pjC3k 5 pjD5) = true := by decide +kernel
set_option maxHeartbeats 0 in
theorem pj_c35_8 : ([8, 9, 10, 11] : List Nat).all (pjC3k 5 pjD5) = true := by decide +kernel
set_option maxHeartbeats 0 in
theorem pj_c35_12 : ([12, 13, 14, 15] : List Nat).all (pjC3k 5 pjD5) = true := by decide +kernel
end Go.Proofs.YtdlmohigkkdegaaGreat
end

section
/- Plain: lines of the projective plane of order 5 can be taken away (by kernel check). -/
namespace Go.Proofs.YtdlmohigkkdegaaGreat
set_option linter.unusedSimpArgs false
set_option linter.unusedVariables false
set_option maxRecDepth 1000000
set_option maxHeartbeats 0 in
theorem pj_c35_16 : ([16, 17, 18, 19] : List Nat).all (pjC3k 5 pjD5) = true := by decide +kernel
set_option maxHeartbeats 0 in
theorem pj_c35_20 : ([20, 21, 22, 23] : List Nat).all (pjC3k 5 pjD5) = true := by decide +kernel
set_option maxHeartbeats 0 in
theorem pj_c35_24 : ([24, 25, 26, 27] : List Nat).all (pjC3k 5 pjD5) = true := by decide +kernel
set_option maxHeartbeats 0 in
theorem pj_c35_28 : ([28, 29, 30] : List Nat).all (pjC3k 5 pjD5) = true := by decide +kernel
end Go.Proofs.YtdlmohigkkdegaaGreat
end

section
/- Plain: the projective planes of order 2 to 5, all that the law asks. -/
namespace Go.Proofs.YtdlmohigkkdegaaGreat
set_option linter.unusedSimpArgs false
set_option linter.unusedVariables false
structure PjF (q N : Nat) (D : List (List Int)) (c : List Int) : Prop where
  ap : pjB q = D
  ok : dOk (N : Nat) D = true
  cmp : Go.Lib.compact (srt (mtA D D.length)) = [1]
  ord : ordP pjV pjK N D = q
  len : D.length = N
  vs : validSetB c N = true
  arc : anyR (arB c) D = false
  lt : ∀ a b : Nat, a < N → b < N → a ≠ b → ∃ k : Nat, k < N ∧ idxR (ltB a b) D 0 = k ∧ (a : Int) ∈ xat D k ∧ (b : Int) ∈ xat D k
  hne : ∀ k, k < N → ∀ j, j < D.length → (j : Int) ≠ k → rsB (xat D j) (cplB N (xat D k)) ≠ []
  hn0 : ∀ k, k < N → cplB N (xat D k) ≠ []
  hnl : ∀ k, k < N → (cplB N (xat D k)).length = q * q
  rok : ∀ k, k < N → dOk (q * q : Nat) (srtL (resR D k (cplB N (xat D k)) D.length)) = true
  rord : ∀ k, k < N → ordP afV afK (q * q) (srtL (resR D k (cplB N (xat D k)) D.length)) = q
theorem ones {l : List Int} (h : l.all (fun x => decide (x = 1)) = true) (h0 : l ≠ []) : Go.Lib.compact (srt l) = [1] := by
  have hm : ∀ x, x ∈ Go.Lib.compact (srt l) ↔ x ∈ l := fun x => by rw [mem_compact]; exact (srt_perm l).mem_iff
  have hn := compact_nodup (srt_up l)
  have h1 : ∀ x ∈ l, x = 1 := fun x hx => by have := List.all_eq_true.1 h x hx; simpa using this
  generalize Go.Lib.compact (srt l) = m at *
  match m with
  | [] =>
    obtain ⟨x, hx⟩ := List.exists_mem_of_ne_nil l h0
    exact absurd ((hm x).2 hx) (by simp)
  | [x] => rw [h1 x ((hm x).1 (by simp))]
  | x :: y :: r =>
    have e1 := h1 x ((hm x).1 (by simp))
    have e2 := h1 y ((hm y).1 (by simp))
    rw [e1, e2] at hn
    simp at hn
theorem pj_c35 : pjC3 5 pjD5 = true := by
  have h : ∀ k, k < 31 → pjC3k 5 pjD5 k = true := fun k hk => by
    have a0 := List.all_eq_true.1 pj_c35_0
    have a1 := List.all_eq_true.1 pj_c35_4
    have a2 := List.all_eq_true.1 pj_c35_8
    have a3 := List.all_eq_true.1 pj_c35_12
    have a4 := List.all_eq_true.1 pj_c35_16
    have a5 := List.all_eq_true.1 pj_c35_20
    have a6 := List.all_eq_true.1 pj_c35_24
    have a7 := List.all_eq_true.1 pj_c35_28
    have hc : k < 4 ∨ 4 ≤ k ∧ k < 8 ∨ 8 ≤ k ∧ k < 12 ∨ 12 ≤ k ∧ k < 16 ∨ 16 ≤ k ∧ k < 20 ∨ 20 ≤ k ∧ k < 24 ∨ 24 ≤ k ∧ k < 28 ∨ 28 ≤ k ∧ k < 31 := by omega
    rcases hc with h | h | h | h | h | h | h | h
    · exact a0 k (by simp only [List.mem_cons, List.not_mem_nil, or_false]; omega)
    · exact a1 k (by simp only [List.mem_cons, List.not_mem_nil, or_false]; omega)
    · exact a2 k (by simp only [List.mem_cons, List.not_mem_nil, or_false]; omega)
    · exact a3 k (by simp only [List.mem_cons, List.not_mem_nil, or_false]; omega)
    · exact a4 k (by simp only [List.mem_cons, List.not_mem_nil, or_false]; omega)
    · exact a5 k (by simp only [List.mem_cons, List.not_mem_nil, or_false]; omega)
    · exact a6 k (by simp only [List.mem_cons, List.not_mem_nil, or_false]; omega)
    · exact a7 k (by simp only [List.mem_cons, List.not_mem_nil, or_false]; omega)
  exact List.all_eq_true.2 fun k hk => h k (by have := List.mem_range.1 hk; exact this)
theorem pj_c3 {q : Nat} (h : q ∈ [2, 3, 4, 5]) : pjC3 q (pjD q) = true := by
  simp only [List.mem_cons, List.not_mem_nil, or_false] at h
  rcases h with rfl | rfl | rfl | rfl
  · exact pj_c32
  · exact pj_c33
  · exact pj_c34
  · exact pj_c35
theorem pjF {q : Nat} (h : q ∈ [2, 3, 4, 5]) : PjF q (q * q + q + 1) (pjD q) (cnC q) := by
  have hne : mtA (pjD q) (pjD q).length ≠ [] := by
    simp only [List.mem_cons, List.not_mem_nil, or_false] at h
    rcases h with rfl | rfl | rfl | rfl <;> decide +kernel
  have h0 := (pj_lit q h).2
  have h1 := pj_c1 q h
  have h2 := pj_c2 q h
  have h3 := pj_c3 h
  generalize pjD q = D at *
  simp only [pjC1, pjC2, Bool.and_eq_true, decide_eq_true_eq, List.mem_range, Bool.or_eq_true, Bool.not_eq_true'] at h1
  obtain ⟨⟨⟨⟨⟨a1, a2⟩, a3⟩, a4⟩, a5⟩, a6⟩ := h1
  have h3 := fun k (hk : k < D.length) => List.all_eq_true.1 h3 k (List.mem_range.2 hk)
  simp only [pjC3k, Bool.and_eq_true, decide_eq_true_eq] at h3
  refine ⟨h0, a1, ones a2 hne, a3, a4, a5, a6, fun a b ha hb hab => ?_, fun k hk j hj hjk => ?_, fun k hk => ?_, fun k hk => ?_, fun k hk => ?_, fun k hk => ?_⟩
  · have := List.all_eq_true.1 (List.all_eq_true.1 h2 a (List.mem_range.2 ha)) b (List.mem_range.2 hb)
    rw [Bool.or_eq_true, decide_eq_true_eq] at this
    have := this.resolve_left hab
    simp only [Bool.and_eq_true, decide_eq_true_eq, ltB] at this
    obtain ⟨⟨c1, c2⟩, c3, c4⟩ := this
    obtain ⟨k, hk⟩ := Int.eq_ofNat_of_zero_le c1
    unfold ltB
    refine ⟨k, by rw [← a4]; omega, hk, ?_, ?_⟩
    · rw [hk, Int.toNat_natCast] at c3; exact c3
    · rw [hk, Int.toNat_natCast] at c4; exact c4
  · have := List.all_eq_true.1 (h3 k (by omega)).1.1.1.1 j (List.mem_range.2 hj)
    rw [Bool.or_eq_true, decide_eq_true_eq, decide_eq_true_eq] at this
    exact this.resolve_left (fun e => hjk (by rw [e]))
  · exact (h3 k (by omega)).1.1.1.2
  · exact (h3 k (by omega)).1.1.2
  · exact (h3 k (by omega)).1.2
  · exact (h3 k (by omega)).2
end Go.Proofs.YtdlmohigkkdegaaGreat
end

section
/- Isotopes and conjugates of Latin squares, in plain terms. Conjugates of Latin squares as lists of lists. In plain terms. -/
namespace Go.Proofs.YtdlmohigkkdegaaGreat
set_option linter.unusedSimpArgs false
set_option linter.unusedVariables false

structure Latin (n : Nat) (a : Nat → Nat → Nat) : Prop where
  row : ∀ x, x < n → Bij n (a x)
  col : ∀ y, y < n → Bij n fun x => a x y
def IsoOf (n : Nat) (a : Nat → Nat → Nat) (r c s : Nat → Nat) (b : Nat → Nat → Nat) : Prop := ∀ x y, x < n → y < n → b (r x) (c y) = s (a x y)
section
variable {n : Nat} {a b d : Nat → Nat → Nat} {r c s q : Nat → Nat}
theorem IsoOf.comp {r' c' s' : Nat → Nat} (hr : Bij n r) (hc : Bij n c) (h1 : IsoOf n a r c s b) (h2 : IsoOf n b r' c' s' d) : IsoOf n a (fun x => r' (r x)) (fun x => c' (c x)) (fun x => s' (s x)) d := fun x y hx hy => by
  show d (r' (r x)) (c' (c y)) = s' (s (a x y))
  rw [h2 _ _ (hr.lt x hx) (hc.lt y hy), h1 x y hx hy]
theorem IsoOf.back {ri ci si : Nat → Nat} (hl : Latin n a) (hr : Bij n r) (hc : Bij n c) (h1 : IsoOf n a r c s b) (h2 : IsoOf n b ri ci si d) (er : ∀ x, x < n → ri (r x) = x) (ec : ∀ x, x < n → ci (c x) = x) (es : ∀ x, x < n → si (s x) = x)
    {x y : Nat} (hx : x < n) (hy : y < n) : d x y = a x y := by
  have := h2 _ _ (hr.lt x hx) (hc.lt y hy)
  rw [er x hx, ec y hy, h1 x y hx hy, es _ ((hl.row x hx).lt y hy)] at this
  exact this
theorem IsoOf.latin (hl : Latin n a) (hr : Bij n r) (hc : Bij n c) (hs : Bij n s) (h : IsoOf n a r c s b) : Latin n b where
  row x hx := by
    obtain ⟨x', hx', rfl⟩ := hr.onto hx
    refine ⟨fun y hy => ?_, fun y z hy hz e => ?_⟩
    · obtain ⟨y', hy', rfl⟩ := hc.onto hy
      rw [h x' y' hx' hy']; exact hs.lt _ ((hl.row x' hx').lt y' hy')
    · obtain ⟨y', hy', rfl⟩ := hc.onto hy
      obtain ⟨z', hz', rfl⟩ := hc.onto hz
      rw [h x' y' hx' hy', h x' z' hx' hz'] at e
      rw [(hl.row x' hx').inj y' z' hy' hz' (hs.inj _ _ ((hl.row x' hx').lt y' hy') ((hl.row x' hx').lt z' hz') e)]
  col y hy := by
    obtain ⟨y', hy', rfl⟩ := hc.onto hy
    refine ⟨fun x hx => ?_, fun x z hx hz e => ?_⟩
    · obtain ⟨x', hx', rfl⟩ := hr.onto hx
      rw [h x' y' hx' hy']; exact hs.lt _ ((hl.row x' hx').lt y' hy')
    · obtain ⟨x', hx', rfl⟩ := hr.onto hx
      obtain ⟨z', hz', rfl⟩ := hr.onto hz
      rw [h x' y' hx' hy', h z' y' hz' hy'] at e
      rw [(hl.col y' hy').inj x' z' hx' hz' (hs.inj _ _ ((hl.row x' hx').lt y' hy') ((hl.row z' hz').lt y' hy') e)]
/-- the triple of a place -/
def tri (x y s : Nat) : Nat → Nat := fun i => if i = 0 then x else if i = 1 then y else s
def ConjOf (n : Nat) (a : Nat → Nat → Nat) (p : Nat → Nat) (b : Nat → Nat → Nat) : Prop := ∀ x y, x < n → y < n → b (tri x y (a x y) (p 0)) (tri x y (a x y) (p 1)) = tri x y (a x y) (p 2)
theorem tri_lt {x y s : Nat} (hx : x < n) (hy : y < n) (hs : s < n) (i : Nat) : tri x y s i < n := by
  unfold tri; split
  · exact hx
  · split
    · exact hy
    · exact hs
theorem ConjOf.comp {p q : Nat → Nat} (hl : Latin n a) (hq : Bij 3 q) (h1 : ConjOf n a p b) (h2 : ConjOf n b q d) : ConjOf n a (fun i => p (q i)) d := fun x y hx hy => by
  have hs := (hl.row x hx).lt y hy
  have h := h2 _ _ (tri_lt hx hy hs (p 0)) (tri_lt hx hy hs (p 1))
  rw [h1 x y hx hy] at h
  have e : ∀ i, i < 3 → tri (tri x y (a x y) (p 0)) (tri x y (a x y) (p 1)) (tri x y (a x y) (p 2)) i = tri x y (a x y) (p i) := fun i hi => by
    rcases i with _ | _ | _ | i
    · rfl
    · rfl
    · rfl
    · omega
  rw [e _ (hq.lt 0 (by omega)), e _ (hq.lt 1 (by omega)), e _ (hq.lt 2 (by omega))] at h
  exact h
end

section
variable {n : Nat} {a : Nat → Nat → Nat}
/-- two of the three numbers of a place tell it -/
theorem tri_inj (hl : Latin n a) {i j : Nat} (hi : i < 3) (hj : j < 3) (hij : i ≠ j) {x y x' y' : Nat} (hx : x < n) (hy : y < n) (hx' : x' < n) (hy' : y' < n)
    (e1 : tri x y (a x y) i = tri x' y' (a x' y') i) (e2 : tri x y (a x y) j = tri x' y' (a x' y') j) : x = x' ∧ y = y' := by
  have r : ∀ y y', y < n → y' < n → x = x' → a x y = a x' y' → y = y' := fun y y' hy hy' e h => by subst e; exact (hl.row x hx).inj y y' hy hy' h
  have c : y = y' → a x y = a x' y' → x = x' := fun e h => by subst e; exact (hl.col y hy).inj x x' hx hx' h
  rcases i with _ | _ | _ | i <;> rcases j with _ | _ | _ | j <;> simp [tri] at e1 e2 hij <;> first | omega | skip
  all_goals first
    | exact ⟨e1, r y y' hy hy' e1 e2⟩
    | exact ⟨c e1 e2, e1⟩
    | exact ⟨e2, r y y' hy hy' e2 e1⟩
    | exact ⟨c e2 e1, e2⟩
theorem tri_onto (hl : Latin n a) {i j : Nat} (hi : i < 3) (hj : j < 3) (hij : i ≠ j) {u v : Nat} (hu : u < n) (hv : v < n) :
    ∃ x y, x < n ∧ y < n ∧ tri x y (a x y) i = u ∧ tri x y (a x y) j = v := by
  rcases i with _ | _ | _ | i <;> rcases j with _ | _ | _ | j <;> first | omega | skip
  · exact ⟨u, v, hu, hv, rfl, rfl⟩
  · obtain ⟨y, hy, e⟩ := (hl.row u hu).onto hv
    exact ⟨u, y, hu, hy, rfl, e⟩
  · exact ⟨v, u, hv, hu, rfl, rfl⟩
  · obtain ⟨x, hx, e⟩ := (hl.col u hu).onto hv
    exact ⟨x, u, hx, hu, rfl, e⟩
  · obtain ⟨y, hy, e⟩ := (hl.row v hv).onto hu
    exact ⟨v, y, hv, hy, e, rfl⟩
  · obtain ⟨x, hx, e⟩ := (hl.col v hv).onto hu
    exact ⟨x, v, hx, hv, e, rfl⟩
end
def af (A : List (List Int)) (x y : Nat) : Nat := (at2 A x y).toNat
theorem Lat.latin {A : List (List Int)} (h : Lat A) : Latin A.length (af A) where
  row x hx := by
    have := (h.row x hx).bij
    rw [h.len x hx] at this
    exact this
  col y hy := by
    have := (h.col y hy).bij
    rw [colL_len] at this
    refine ⟨fun x hx => ?_, fun x z hx hz e => this.inj x z hx hz ?_⟩
    · have h2 := this.lt x hx
      unfold pf at h2; rw [nth_colL hx] at h2; exact h2
    · unfold pf; rw [nth_colL hx, nth_colL hz]; exact e
/-- number i of the place of a square -/
def trA (A : List (List Int)) (x y i : Nat) : Nat := tri x y (af A x y) i
structure ConR (A : List (List Int)) (p : List Int) (B : List (List Int)) : Prop where
  sqr : Sqr A.length B
  at' : ∀ x y, x < A.length → y < A.length → at2 B (trA A x y (pf p 0)) (trA A x y (pf p 1)) = trA A x y (pf p 2)
structure ConP (A : List (List Int)) (p : List Int) (x y : Nat) (B : List (List Int)) : Prop where
  sqr : Sqr A.length B
  at' : ∀ x' y', x' < A.length → y' < A.length → (x' < x ∨ x' = x ∧ y' < y) → at2 B (trA A x' y' (pf p 0)) (trA A x' y' (pf p 1)) = trA A x' y' (pf p 2)
section
variable {A B C D : List (List Int)} {p q : List Int}
theorem trA_lt (h : Lat A) {x y : Nat} (hx : x < A.length) (hy : y < A.length) (i : Nat) : trA A x y i < A.length := tri_lt hx hy ((h.latin.row x hx).lt y hy) i
theorem p3_lt (hp : IsP p) (h3 : p.length = 3) {i : Nat} (hi : i < 3) : pf p i < 3 := by have := hp.pf_lt (j := i) (by omega); omega
theorem p3_ne (hp : IsP p) (h3 : p.length = 3) {i j : Nat} (hi : i < 3) (hj : j < 3) (h : i ≠ j) : pf p i ≠ pf p j := fun e => h (hp.bij.inj i j (by omega) (by omega) e)
theorem ConP.start : ConP A p 0 0 (sqF A.length fun _ _ => 0) := ⟨sqF_sqr _ _, fun _ _ _ _ h => by omega⟩
theorem ConP.step (hA : Lat A) (hp : IsP p) (h3 : p.length = 3) {x y : Nat} {S : List (List Int)} (h : ConP A p x y S) (hx : x < A.length) (hy : y < A.length) :
    ConP A p x (y + 1) (putS S (trA A x y (pf p 0)) (trA A x y (pf p 1)) (trA A x y (pf p 2))) := by
  have h1 := trA_lt hA hx hy (pf p 0)
  have h2 := trA_lt hA hx hy (pf p 1)
  refine ⟨putS_sqr h.sqr h1 _ _, fun x' y' hx' hy' hl => ?_⟩
  rw [at2_putS h.sqr h1 h2]
  split
  · rename_i e
    obtain ⟨rfl, rfl⟩ := tri_inj hA.latin (p3_lt hp h3 (by omega)) (p3_lt hp h3 (by omega)) (p3_ne hp h3 (i := 0) (j := 1) (by omega) (by omega) (by omega)) hx hy hx' hy' e.1 e.2
    rfl
  · rename_i e
    refine h.at' x' y' hx' hy' ?_
    rcases hl with hl | ⟨rfl, hl⟩
    · exact .inl hl
    · refine .inr ⟨rfl, ?_⟩
      by_cases e2 : y' = y
      · subst e2; exact absurd ⟨rfl, rfl⟩ e
      · omega
theorem ConP.next {x : Nat} {S : List (List Int)} (h : ConP A p x A.length S) : ConP A p (x + 1) 0 S :=
  ⟨h.sqr, fun x' y' hx' hy' hl => h.at' x' y' hx' hy' (by omega)⟩
theorem ConP.done {S : List (List Int)} (h : ConP A p A.length 0 S) : ConR A p S := ⟨h.sqr, fun x y hx hy => h.at' x y hx hy (.inl hx)⟩
theorem ConR.el (hA : Lat A) (hp : IsP p) (h3 : p.length = 3) (h : ConR A p B) : Sq0 A.length B := by
  refine ⟨h.sqr, fun u v hu hv => ?_⟩
  obtain ⟨x, y, hx, hy, rfl, rfl⟩ := tri_onto hA.latin (p3_lt hp h3 (i := 0) (by omega)) (p3_lt hp h3 (i := 1) (by omega)) (p3_ne hp h3 (by omega) (by omega) (by omega)) hu hv
  have e1 := h.at' x y hx hy
  have e2 := trA_lt hA hx hy (pf p 2)
  unfold trA at e1 e2
  rw [e1]; omega
/-- conjugates are Latin squares -/
theorem ConR.lat (hA : Lat A) (hp : IsP p) (h3 : p.length = 3) (h : ConR A p B) : Lat B := by
  have h0 := h.el hA hp h3
  have hb := h.sqr.len
  have on := fun {u v : Nat} (hu : u < A.length) (hv : v < A.length) => tri_onto hA.latin (p3_lt hp h3 (i := 0) (by omega)) (p3_lt hp h3 (i := 1) (by omega)) (p3_ne hp h3 (by omega) (by omega) (by omega)) hu hv
  refine ⟨by rw [hb]; exact hA.pos, by rw [hb]; exact hA.le, fun x hx => by rw [hb] at hx ⊢; exact h0.row x hx, fun u hu => ?_, fun v hv => ?_⟩
  · rw [hb] at hu
    refine ⟨fun v hv => ?_, fun v v' hv hv' e => ?_⟩
    · rw [h0.row u hu] at hv ⊢; exact h0.el u v hu hv
    · rw [h0.row u hu] at hv hv'
      obtain ⟨x, y, hx, hy, e1, e2⟩ := on hu hv
      obtain ⟨x', y', hx', hy', e1', e2'⟩ := on hu hv'
      have f1 := h.at' x y hx hy
      have f2 := h.at' x' y' hx' hy'
      unfold trA at f1 f2
      rw [e1, e2] at f1
      rw [e1', e2'] at f2
      have e' : at2 B u v = at2 B u v' := e
      rw [f1, f2] at e'
      obtain ⟨rfl, rfl⟩ := tri_inj hA.latin (p3_lt hp h3 (by omega)) (p3_lt hp h3 (by omega)) (p3_ne hp h3 (i := 0) (j := 2) (by omega) (by omega) (by omega)) hx hy hx' hy' (e1.trans e1'.symm) (by omega)
      rw [← e2, ← e2']
  · rw [hb] at hv
    refine ⟨fun u hu => ?_, fun u u' hu hu' e => ?_⟩
    · rw [colL_len, hb] at hu ⊢; rw [nth_colL (by rw [hb]; exact hu)]; exact h0.el u v hu hv
    · rw [colL_len, hb] at hu hu'
      rw [nth_colL (by rw [hb]; exact hu), nth_colL (by rw [hb]; exact hu')] at e
      obtain ⟨x, y, hx, hy, e1, e2⟩ := on hu hv
      obtain ⟨x', y', hx', hy', e1', e2'⟩ := on hu' hv
      have f1 := h.at' x y hx hy
      have f2 := h.at' x' y' hx' hy'
      unfold trA at f1 f2
      rw [e1, e2] at f1
      rw [e1', e2'] at f2
      rw [f1, f2] at e
      obtain ⟨rfl, rfl⟩ := tri_inj hA.latin (p3_lt hp h3 (by omega)) (p3_lt hp h3 (by omega)) (p3_ne hp h3 (i := 1) (j := 2) (by omega) (by omega) (by omega)) hx hy hx' hy' (e2.trans e2'.symm) (by omega)
      rw [← e1, ← e1']
/-- conjugates of conjugates -/
theorem ConR.comp (hA : Lat A) (hp : IsP p) (hq : IsP q) (h3 : p.length = 3) (hq3 : q.length = 3) (h1 : ConR A p B) (h2 : ConR B q C) : ConR A (cmpL q p) C := by
  have hb := h1.sqr.len
  have hl := hA.latin
  refine ⟨by rw [← hb]; exact h2.sqr, fun x y hx hy => ?_⟩
  have c1 : ConjOf A.length (af A) (pf p) (af B) := fun x y hx hy => by
    have := h1.at' x y hx hy
    show (at2 B (trA A x y (pf p 0)) (trA A x y (pf p 1))).toNat = trA A x y (pf p 2)
    rw [this]; simp
  have c2 : ConjOf A.length (af B) (pf q) (af C) := fun x y hx hy => by
    have := h2.at' x y (by omega) (by omega)
    show (at2 C (trA B x y (pf q 0)) (trA B x y (pf q 1))).toNat = trA B x y (pf q 2)
    rw [this]; simp
  have hq' : Bij 3 (pf q) := by have := hq.bij; rwa [hq3] at this
  have c3 := ConjOf.comp hl hq' c1 c2 x y hx hy
  rw [pf_cmpL (by omega), pf_cmpL (by omega), pf_cmpL (by omega)]
  have hz := h2.el (h1.lat hA hp h3) hq hq3
  have z := hz.el (trA A x y (pf p (pf q 0))) (trA A x y (pf p (pf q 1))) (by rw [hb]; exact trA_lt hA hx hy _) (by rw [hb]; exact trA_lt hA hx hy _)
  have e : (af C (trA A x y (pf p (pf q 0))) (trA A x y (pf p (pf q 1))) : Int) = trA A x y (pf p (pf q 2)) := by
    unfold trA; exact congrArg Int.ofNat c3
  rw [← e]; unfold af; omega
end

end Go.Proofs.YtdlmohigkkdegaaGreat
end

section
/- Orthogonal squares as lists of lists, in plain terms. -/
namespace Go.Proofs.YtdlmohigkkdegaaGreat
set_option linter.unusedSimpArgs false
set_option linter.unusedVariables false
/-- every pair of symbols once -/
def Ort (n : Nat) (A B : List (List Int)) : Prop := ∀ x y x' y', x < n → y < n → x' < n → y' < n → at2 A x y = at2 A x' y' → at2 B x y = at2 B x' y' → x = x' ∧ y = y'
theorem Ort.symm {n : Nat} {A B : List (List Int)} (h : Ort n A B) : Ort n B A := fun x y x' y' hx hy hx' hy' e1 e2 => h x y x' y' hx hy hx' hy' e2 e1
open Classical in
noncomputable def orB (A B : List (List Int)) : Bool := decide (A.length = B.length ∧ Ort A.length A B)
theorem orB_t {A B : List (List Int)} (h : orB A B = true) : A.length = B.length ∧ Ort A.length A B := by simpa [orB] using h
/-- places ahead of place y of row x -/
def Bef (n x y x' y' : Nat) : Prop := x' < n ∧ y' < n ∧ (x' < x ∨ x' = x ∧ y' < y)
/-- the numbers that are marked are those of the places ahead, each once -/
structure SnI (n N : Nat) (f : Nat → Nat → Nat) (x y : Nat) (s : List Bool) : Prop where
  len : s.length = N
  mem : ∀ v, v < N → (bat s v = true ↔ ∃ x' y', Bef n x y x' y' ∧ f x' y' = v)
  inj : ∀ x1 y1 x2 y2, Bef n x y x1 y1 → Bef n x y x2 y2 → f x1 y1 = f x2 y2 → x1 = x2 ∧ y1 = y2
section
variable {n N : Nat} {f : Nat → Nat → Nat} {x y : Nat} {s : List Bool}
theorem SnI.start : SnI n N f 0 0 (List.replicate N false) :=
  ⟨by simp, fun v hv => by
    rw [bat_rep]
    exact ⟨fun h => (by cases h), fun ⟨x', y', h, _⟩ => by unfold Bef at h; omega⟩, fun _ _ _ _ h => by unfold Bef at h; omega⟩
theorem SnI.step (h : SnI n N f x y s) (hx : x < n) (hy : y < n) (hf : f x y < N) (hb : bat s (f x y) = false) : SnI n N f x (y + 1) (s.set (f x y) true) := by
  have bef : ∀ {x' y'}, Bef n x (y + 1) x' y' → Bef n x y x' y' ∨ (x' = x ∧ y' = y) := fun {x' y'} hh => by unfold Bef at hh ⊢; omega
  have feb : ∀ {x' y'}, Bef n x y x' y' → Bef n x (y + 1) x' y' := fun {x' y'} hh => by unfold Bef at hh ⊢; omega
  have nw : ∀ {x' y'}, Bef n x y x' y' → f x' y' ≠ f x y := fun {x' y'} hh e => by
    have := (h.mem _ hf).2 ⟨x', y', hh, e⟩
    rw [hb] at this; cases this
  refine ⟨by rw [List.length_set]; exact h.len, fun v hv => ?_, fun x1 y1 x2 y2 h1 h2 e => ?_⟩
  · rw [bat_set (by rw [h.len]; exact hf)]
    by_cases e : f x y = v
    · rw [if_pos e]; exact ⟨fun _ => ⟨x, y, by unfold Bef; omega, e⟩, fun _ => rfl⟩
    · rw [if_neg e, h.mem v hv]
      constructor
      · rintro ⟨x', y', h1, h2⟩; exact ⟨x', y', feb h1, h2⟩
      · rintro ⟨x', y', h1, h2⟩
        rcases bef h1 with h3 | ⟨rfl, rfl⟩
        · exact ⟨x', y', h3, h2⟩
        · exact absurd h2 e
  · rcases bef h1 with h1 | ⟨rfl, rfl⟩
    · rcases bef h2 with h2 | ⟨rfl, rfl⟩
      · exact h.inj x1 y1 x2 y2 h1 h2 e
      · exact absurd e (nw h1)
    · rcases bef h2 with h2 | ⟨rfl, rfl⟩
      · exact absurd e.symm (nw h2)
      · exact ⟨rfl, rfl⟩
theorem SnI.next (h : SnI n N f x n s) : SnI n N f (x + 1) 0 s := by
  have e : ∀ x' y', Bef n (x + 1) 0 x' y' ↔ Bef n x n x' y' := fun x' y' => by unfold Bef; omega
  refine ⟨h.len, fun v hv => ?_, fun x1 y1 x2 y2 h1 h2 => h.inj x1 y1 x2 y2 ((e _ _).1 h1) ((e _ _).1 h2)⟩
  rw [h.mem v hv]
  constructor
  · rintro ⟨x', y', h1, h2⟩; exact ⟨x', y', (e _ _).2 h1, h2⟩
  · rintro ⟨x', y', h1, h2⟩; exact ⟨x', y', (e _ _).1 h1, h2⟩
theorem SnI.done (h : SnI n N f n 0 s) : ∀ x y x' y', x < n → y < n → x' < n → y' < n → f x y = f x' y' → x = x' ∧ y = y' := fun x y x' y' hx hy hx' hy' e =>
  h.inj x y x' y' ⟨hx, hy, .inl hx⟩ ⟨hx', hy', .inl hx'⟩ e
end
/-- both symbols of a place in one number -/
def ovF (n : Nat) (A B : List (List Int)) (x y : Nat) : Nat := n * af A x y + af B x y
section
variable {n : Nat} {A B : List (List Int)}
theorem af_eq (h : Sq0 n A) {x y : Nat} (hx : x < n) (hy : y < n) : at2 A x y = (af A x y : Nat) ∧ af A x y < n := by
  have := h.el x y hx hy; unfold af; omega
theorem ovF_inj (hA : Sq0 n A) (hB : Sq0 n B) {x y x' y' : Nat} (hx : x < n) (hy : y < n) (hx' : x' < n) (hy' : y' < n) : ovF n A B x y = ovF n A B x' y' ↔ at2 A x y = at2 A x' y' ∧ at2 B x y = at2 B x' y' := by
  have a := af_eq hA hx hy
  have a' := af_eq hA hx' hy'
  have b := af_eq hB hx hy
  have b' := af_eq hB hx' hy'
  rw [a.1, a'.1, b.1, b'.1]
  unfold ovF
  generalize af A x y = p at *
  generalize af A x' y' = p' at *
  generalize af B x y = q at *
  generalize af B x' y' = q' at *
  constructor
  · intro e
    have e1 : p = p' := by
      have h1 : (n * p + q) / n = p := by rw [Nat.mul_add_div (by omega), Nat.div_eq_of_lt b.2]; omega
      have h2 : (n * p' + q') / n = p' := by rw [Nat.mul_add_div (by omega), Nat.div_eq_of_lt b'.2]; omega
      rw [← h1, ← h2, e]
    subst e1
    exact ⟨rfl, by omega⟩
  · rintro ⟨e1, e2⟩
    rw [show p = p' by omega, show q = q' by omega]
theorem SnI.ort (hA : Sq0 n A) (hB : Sq0 n B) {N : Nat} {s : List Bool} (h : SnI n N (ovF n A B) n 0 s) : Ort n A B := fun x y x' y' hx hy hx' hy' e1 e2 =>
  h.done x y x' y' hx hy hx' hy' ((ovF_inj hA hB hx hy hx' hy').2 ⟨e1, e2⟩)
end
/-! ### lists of squares -/
structure Mols (X : List (List (List Int))) : Prop where
  pos : 1 ≤ X.length
  le : X.length ≤ 10
  lat : ∀ k, k < X.length → Lat (x3at X k)
  ort : ∀ k i, i < k → k < X.length → orB (x3at X k) (x3at X i) = true
/-- all squares have as many rows -/
theorem Mols.len {X : List (List (List Int))} (h : Mols X) {k : Nat} (hk : k < X.length) : (x3at X k).length = (x3at X 0).length := by
  rcases Nat.eq_zero_or_pos k with rfl | h0
  · rfl
  · exact (orB_t (h.ort k 0 h0 hk)).1
end Go.Proofs.YtdlmohigkkdegaaGreat
end

section
/- Walks: what the laws choose by bytes. -/
namespace Go.Proofs.YtdlmohigkkdegaaGreat
set_option linter.unusedSimpArgs false
set_option linter.unusedVariables false
open Go.RowKit

/-- some number at most 1023, and less than n if there is one -/
theorem b10At_c (w : World) (cv : Value) (bs : List UInt8) (i n : Int) (hb : RdB w cv bs) (i0 : 0 ≤ i) (i1 : i ≤ 1000000) (n1 : n ≤ 1000000) :
    Calls Tryz.prog 13 #[cv, .int .i64 i, .int .i64 n] w fun e w' => ∃ x : Int, e = .returned (.int .i64 x) ∧ 0 ≤ x ∧ (x < n ∨ n ≤ 1 ∧ x = 0) ∧ w = w' := by
  have hln := hb.len
  have hix := hb.ix
  have hc := hb.cell
  have hle := hb.le
  by_cases h1 : n ≤ 1
  · go_enter Tryz.func13, Tryz.ntmps13
    go_wp2_with fail
    go_ret
    exact ⟨0, rfl, by omega, .inr ⟨h1, rfl⟩, rfl⟩
  · by_cases h2 : i < bs.length
    · obtain ⟨k, rfl⟩ := Int.eq_ofNat_of_zero_le i0
      have hck := hc k (by omega)
      have hbd := bnth_bd bs k
      go_enter Tryz.func13, Tryz.ntmps13
      go_wp2_with fail
      go_ret
      refine ⟨_, rfl, ?_, .inl ?_, rfl⟩
      · exact Int.emod_nonneg _ (by omega)
      · exact Int.emod_lt_of_pos _ (by omega)
    · go_enter Tryz.func13, Tryz.ntmps13
      go_wp2_with fail
      go_ret
      refine ⟨_, rfl, ?_, .inl ?_, rfl⟩
      · exact Int.emod_nonneg _ (by omega)
      · exact Int.emod_lt_of_pos _ (by omega)

end Go.Proofs.YtdlmohigkkdegaaGreat
end

section
/- Walks: the cycles of a permutation. Walks: SignOf; the law FnPermutations. Walks: CyclesOf, SignOf and OrderOfPermutation of any list, powers, permutations made of cycles, types. -/
namespace Go.Proofs.YtdlmohigkkdegaaGreat
set_option linter.unusedSimpArgs false
set_option linter.unusedVariables false
open Go.RowKit
attribute [local go_sem ↓] Go.wp_at_zero Go.wp_at_succ
/-- the first j numbers of the cycle of x -/
def cyP (xs : List Int) (x j : Nat) : List Int := (List.range j).map fun i => ((it (pf xs) i x : Nat) : Int)
/-- what is seen: all cycles that numbers below m lead, and the first j numbers of that of m -/
def Seen (xs : List Int) (m j : Nat) (s : List Bool) : Prop := s.length = xs.length ∧ ∀ y, y < xs.length → (bat s y = true ↔ y ∈ (cycs xs.length (pf xs) m).flatten ∨ ∃ i, i < j ∧ y = it (pf xs) i m)
theorem Seen.start (xs : List Int) : Seen xs 0 0 (List.replicate xs.length false) := ⟨by simp, fun y hy => by rw [bat_rep]; simp [cycs]⟩
theorem Seen.step {xs : List Int} {m j : Nat} {s : List Bool} (h : Seen xs m j s) (hp : IsP xs) (hm : m < xs.length) : Seen xs m (j + 1) (s.set (it (pf xs) j m) true) := by
  have hlt := it_lt hp.bij hm j
  refine ⟨by rw [List.length_set]; exact h.1, fun y hy => ?_⟩
  rw [bat_set (by rw [h.1]; exact hlt)]
  by_cases e : it (pf xs) j m = y
  · rw [if_pos e]; exact ⟨fun _ => .inr ⟨j, by omega, e.symm⟩, fun _ => rfl⟩
  · rw [if_neg e, h.2 y hy]
    constructor
    · rintro (h1 | ⟨i, hi, e2⟩)
      · exact .inl h1
      · exact .inr ⟨i, by omega, e2⟩
    · rintro (h1 | ⟨i, hi, e2⟩)
      · exact .inl h1
      · refine .inr ⟨i, ?_, e2⟩
        refine Nat.lt_of_le_of_ne (by omega) fun e3 => e ?_
        rw [e2, e3]
theorem Seen.no {xs : List Int} {m : Nat} {s : List Bool} (h : Seen xs m 0 s) (hp : IsP xs) (hm : m < xs.length) (hL : ¬ Lead (pf xs) m) : bat s m = true ∧ Seen xs (m + 1) 0 s := by
  have hs := fun hh => hL ((lead_seen hp.bij hm).2 hh)
  refine ⟨(h.2 m hm).2 (.inl (Classical.byContradiction hs)), h.1, fun y hy => ?_⟩
  rw [h.2 y hy, cycs, if_neg hL]; simp
theorem Seen.fresh {xs : List Int} {m j : Nat} {s : List Bool} (h : Seen xs m j s) (hp : IsP xs) (hm : m < xs.length) (hL : Lead (pf xs) m) (hj : j < clen xs.length (pf xs) m) : bat s (it (pf xs) j m) = false := by
  have hlt := it_lt hp.bij hm j
  have hc := clen_ok hp.bij hm
  cases e : bat s (it (pf xs) j m) with
  | false => rfl
  | true =>
    rcases (h.2 _ hlt).1 e with h1 | ⟨i, hi, e2⟩
    · exact absurd h1 (lead_fresh hp.bij hm hL ((mem_cycL hp.bij hm).2 ⟨j, rfl⟩))
    · have := hc.inj hp.bij hm hj (by omega) e2; omega
theorem Seen.back {xs : List Int} {m : Nat} {s : List Bool} (h : Seen xs m (clen xs.length (pf xs) m) s) (hp : IsP xs) (hm : m < xs.length) (hL : Lead (pf xs) m) : bat s (it (pf xs) (clen xs.length (pf xs) m) m) = true ∧ Seen xs (m + 1) 0 s := by
  have hc := clen_ok hp.bij hm
  have hb := hc.back
  refine ⟨?_, h.1, fun y hy => ?_⟩
  · rw [hb]; exact (h.2 m hm).2 (.inr ⟨0, hc.pos, rfl⟩)
  · rw [h.2 y hy, cycs, if_pos hL]
    simp only [List.flatten_append, List.flatten_cons, List.flatten_nil, List.append_nil, List.mem_append]
    constructor
    · rintro (h1 | ⟨i, hi, rfl⟩)
      · exact .inl (.inl h1)
      · exact .inl (.inr ((mem_cycL hp.bij hm).2 ⟨i, rfl⟩))
    · rintro ((h1 | h1) | ⟨i, hi, _⟩)
      · exact .inl h1
      · unfold cycL at h1
        obtain ⟨i, hi, rfl⟩ := List.mem_map.1 h1
        exact .inr ⟨i, List.mem_range.1 hi, rfl⟩
      · omega
/-- what the list of cycles is -/
structure CyOk (xs : List Int) (C : List (List Int)) : Prop where
  shape : ∀ t, t < C.length → ∃ m, m < xs.length ∧ xat C t = cyP xs m (clen xs.length (pf xs) m)
  all : ∀ y, y < xs.length → ∃ t k, t < C.length ∧ k < (xat C t).length ∧ nth (xat C t) k = (y : Int)
  nodup : C.flatten.Nodup
  sum : C.flatten.length = xs.length
/-- a number of a later place is not among those of earlier ones -/
theorem CyOk.fresh {xs : List Int} {C : List (List Int)} (h : CyOk xs C) {t k : Nat} (ht : t < C.length) (hk : k < (xat C t).length) : nth (xat C t) k ∉ (C.take t).flatten ++ (xat C t).take k := by
  have hs : C.flatten = (C.take t).flatten ++ ((xat C t).take k ++ (nth (xat C t) k :: ((xat C t).drop (k + 1) ++ (C.drop (t + 1)).flatten))) := by
    conv => lhs; rw [← List.take_append_drop t C, drop_xat ht]
    rw [List.flatten_append, List.flatten_cons]
    congr 1
    rw [← List.cons_append, ← drop_nth hk, ← List.append_assoc, List.take_append_drop]
  have hn := h.nodup
  rw [hs, ← List.append_assoc, List.nodup_append] at hn
  exact fun hm => hn.2.2 _ hm _ (by simp) rfl
/-! ### the least common multiple, bounded -/
end Go.Proofs.YtdlmohigkkdegaaGreat
end

section
/- Walks: valid Latin squares, isotopes, of the program. Walks: isotopes of the program. -/
namespace Go.Proofs.YtdlmohigkkdegaaGreat
set_option linter.unusedSimpArgs false
set_option linter.unusedVariables false
open Go.RowKit
attribute [local go_sem ↓] Go.wp_at_zero Go.wp_at_succ


/-- a square and a code -/
def IIK (w : World) (A : List (List Int)) (c : Int) (e : Ending) (w' : World) : Prop := ∃ v us, e = .returned (.tuple #[v, .int .i64 c]) ∧ us.length = A.length ∧ St w.heap.size w w' (own2 v us A)
theorem IIK.no {w w' : World} {L : List Ent} {c : Int} (h : St w.heap.size w w' L) : IIK w [] c (.returned (.tuple #[.slice none 0 0, .int .i64 c])) w' := ⟨_, [], rfl, rfl, h.out.newnil _⟩
end Go.Proofs.YtdlmohigkkdegaaGreat
end

section
/- Walks: the squares of a field. Walks: all squares of a field; products of squares. Walks: products of lists of orthogonal squares; orders that are drawn. -/
namespace Go.Proofs.YtdlmohigkkdegaaGreat
set_option linter.unusedSimpArgs false
set_option linter.unusedVariables false
open Go.RowKit
attribute [local go_sem ↓] Go.wp_at_zero Go.wp_at_succ


/-- what the field of n elements is -/
structure FQ (n : Nat) (p : Int) (D : Nat) (fs : List Int) : Prop where
  fv : FV p D fs
  pow : p ^ D = (n : Int)
  n2 : 2 ≤ n
  n10 : n ≤ 10
theorem mk_fq {q : Int} (h : mkOk q = true) (h10 : q ≤ 10) : ∃ (n : Nat) (p : Int) (D : Nat) (fs : List Int), q = n ∧ FQ n p D fs ∧ mkfP q = p ∧ mkfD q = D ∧ mkfL q = fs ∧ mkfC q = 0 := by
  obtain ⟨n, rfl, h2, h64, hm⟩ := mkOk_t h
  refine ⟨n, ((spl n).1 : Nat), (spl n).2, mkF n, rfl, ⟨hm.fv h64, ?_, h2, by omega⟩, ?_⟩
  · rw [← Int.natCast_pow, hm.pw]
  · simp [mkfP, mkfD, mkfL, mkfC, h]
/-- squares and a code -/
def IIIK (w : World) (X : List (List (List Int))) (c : Int) (e : Ending) (w' : World) : Prop := ∃ v vs uss, e = .returned (.tuple #[v, .int .i64 c]) ∧ Fit3 vs uss X ∧ St w.heap.size w w' (own3 v vs uss X)
theorem fitE : Fit3 [] [] [] := ⟨rfl, rfl, fun k h => by simp at h⟩
theorem IIIK.no {w w' : World} {L : List Ent} {c : Int} (h : St w.heap.size w w' L) : IIIK w [] c (.returned (.tuple #[.slice none 0 0, .int .i64 c])) w' := ⟨_, [], [], rfl, fitE, h.out.newnil _⟩
section
variable {ops : Array Oper} {o : Oper} {a : Act} {K : Act → World → Prop} {Q : Exit → Act → World → Prop} {E : Prop} {B : Nat} {w0 w : World} {L : List Ent}
end
end Go.Proofs.YtdlmohigkkdegaaGreat
end
