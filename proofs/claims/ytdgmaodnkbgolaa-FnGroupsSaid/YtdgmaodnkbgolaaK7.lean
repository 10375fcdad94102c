/- The texts of this claim, run 7: Cpt Gi Gj PBv POr POs Gn Gp Gh PIm Im1 Gq Gm Gr V8l. -/
import Derived.Test.YtdgmaodnkbgolaaK2
import Derived.Test.YtdgmaodnkbgolaaK3
import Derived.Test.YtdgmaodnkbgolaaK4
import Derived.Test.YtdgmaodnkbgolaaK5
import Derived.Test.YtdgmaodnkbgolaaK6
import Derived.Shelf.SlicesG.CompactI
import Derived.Sort.OwnSortedInts
import Derived.Shelf.SlicesG.Delete
import Derived.Deep.RegionHeld3
import Derived.Deep.DrawnRows
section
/- slices.Compact at []int64: a row that a call owns, without repetitions. -/
namespace Go.Proofs.Ytdgmaodnkbgolaa
set_option linter.unusedSimpArgs false
set_option linter.unusedVariables false
open Go.RowKit

def Try.mCompact_ren : Go.Shelf.Ren := ⟨fun | 43 => 53 | n => n, fun | 22 => 32 | 23 => 2 | 3 => 3 | 4 => 4 | 0 => 0 | n => n, fun | n => n⟩
theorem Try.mCompact : Go.Proofs.SlLaysN.n43 Try.prog Try.mCompact_ren := {
  mixed := by kernel_rfl
  f43 := ⟨Try.f53.name, by decide, Try.func53.trans (congrArg some (by kernel_rfl))⟩
  t0 := Try.underlying0
  a0 := Try.isAgg0
  z0 := Try.sizeOf0
  v0 := Try.zeroValue0
  t3 := Try.underlying3
  a3 := Try.isAgg3
  z3 := Try.sizeOf3
  v3 := Try.zeroValue3
  t4 := Try.underlying4
  a4 := Try.isAgg4
  z4 := Try.sizeOf4
  v4 := Try.zeroValue4
  t22 := Try.underlying32
  a22 := Try.isAgg32
  z22 := Try.sizeOf32
  v22 := Try.zeroValue32
  t23 := Try.underlying2
  a23 := Try.isAgg2
  z23 := Try.sizeOf2
  v23 := Try.zeroValue2
  i23 := by kernel_rfl
  }

theorem grow_none (w : World) : Go.Sort.grow w #[] = w := by simp [Go.Sort.grow]
theorem Compact_c {B : Nat} {w0 w : World} {L : List Ent} (hS : St B w0 w L) (i : Nat) {v : Value} {xs : List Int} (hi : L[i]? = some (row 2 v (iv xs))) (hl : xs.length < 4611686018427387904) :
    Calls Try.prog 53 #[v] w fun e w' => ∃ v', e = .returned v' ∧ St B w0 w' (L.set i (row 2 v' (iv (Go.Lib.compact xs)))) := by
  have hx := hS.ok _ (List.mem_of_getElem? hi)
  rcases hx with ⟨hp, _⟩ | ⟨_, hv, hu⟩ | ⟨_, g, cap, cur, hv, hB, hh, h1, h2, h3, h4⟩
  · simp [row] at hp
  · simp only [row] at hv hu
    have hx : xs = [] := by cases xs with
      | nil => rfl
      | cons a r => simp [iv] at hu
    subst hx
    subst hv
    have hc := AnyG.slices_Compact_int_empty Try.mCompact none 0 w
    refine Calls.mono hc ?_
    rintro e w' ⟨rfl, rfl⟩
    refine ⟨_, rfl, ?_⟩
    have : L.set i (row 2 (.slice none 0 0) (iv (Go.Lib.compact []))) = L := by
      obtain ⟨hlt, heq⟩ := List.getElem?_eq_some_iff.1 hi
      have e : Go.Lib.compact ([] : List Int) = [] := by simp [Go.Lib.compact, Go.Lib.compactUpTo]
      rw [e, ← heq, List.set_getElem_self]
    rw [this]; exact hS
  · simp only [row] at hv h1 h4 hh
    rw [iv_len] at hv h1 h4
    have hblk : g < w.heap.size := (Array.getElem?_eq_some_iff.1 hh).1
    have hH : Go.Sort.Holds (Value.int .i64) w g 0 xs.toArray := holds_of_blockI hh h4
    have hc := AnyG.slices_Compact_int Try.mCompact g 0 cap xs w hH (by omega) h1
    have hle : (Go.Lib.compact xs).length ≤ xs.length := by
      unfold Go.Lib.compact Go.Lib.compactUpTo
      rw [List.length_map]
      have := List.length_filter_le (Go.Lib.keeps xs.toArray) (List.range xs.length)
      simpa using this
    subst hv
    refine Calls.mono hc ?_
    rintro e w' ⟨rfl, q, rfl⟩
    refine ⟨_, rfl, ?_⟩
    have key : ∀ (W : World) (L' : List Ent), St B w0 (Go.Sort.grow W #[]) L' → St B w0 W L' := fun W L' h => by rwa [grow_none] at h
    refine key _ _ ?_
    clear key
    generalize Go.Lib.compact xs = ys at *
    have hlen : (ys ++ List.replicate (xs.length - ys.length) (0 : Int)).length = xs.length := by simp; omega
    refine hS.put i hi ?_ (row 2 (.slice (some ⟨g, 0, none⟩) ys.length cap) (iv ys)) (.inr (.inr ⟨rfl, g, cap, _, ?_, hB, heap_sortedI _ hh, ?_, h2, ?_, ?_⟩)) (.inl rfl)
    · exact grownBy_sortedI _
    · simp [row, iv_len]
    · simp [row, iv_len]; omega
    · simp [Go.Sort.putCells, h3]
    · have := take_putCellsI cur (ys ++ List.replicate (xs.length - ys.length) (0 : Int)) (by omega)
      rw [hlen] at this
      have h5 := congrArg (List.take ys.length) this
      have e5 : List.take ys.length (List.map (Value.int .i64) (ys ++ List.replicate (xs.length - ys.length) (0 : Int))) = List.map (Value.int .i64) ys := by rw [List.map_append, List.take_left' (by simp)]
      rw [List.take_take, Nat.min_eq_left hle, e5] at h5
      simpa [row, iv] using h5
/-! ### what it leaves, of a list in rising order -/
theorem gb_nth (xs : List Int) {j : Nat} (hj : j < xs.length) : xs.toArray[j]! = nth xs j := by
  simp [nth, hj]
theorem mem_compact {xs : List Int} {x : Int} : x ∈ Go.Lib.compact xs ↔ x ∈ xs := by
  unfold Go.Lib.compact Go.Lib.compactUpTo
  rw [List.mem_map]
  constructor
  · rintro ⟨j, hj, rfl⟩
    have := List.mem_range.1 (List.mem_filter.1 hj).1
    rw [gb_nth xs this]; exact nth_mem this
  · intro hx
    obtain ⟨j, hj, rfl⟩ := List.getElem_of_mem hx
    have key : ∀ j (hj : j < xs.length), ∃ i, i ∈ (List.range xs.length).filter (Go.Lib.keeps xs.toArray) ∧ xs.toArray[i]! = nth xs j := by
      intro j
      induction j with
      | zero => exact fun hj => ⟨0, List.mem_filter.2 ⟨List.mem_range.2 hj, by simp [Go.Lib.keeps]⟩, gb_nth xs hj⟩
      | succ j ih =>
        intro hj
        by_cases e : xs.toArray[j + 1]! = xs.toArray[j]!
        · obtain ⟨i, hi, e2⟩ := ih (by omega)
          exact ⟨i, hi, by rw [e2, ← gb_nth xs (by omega : j < xs.length), ← e, gb_nth xs hj]⟩
        · exact ⟨j + 1, List.mem_filter.2 ⟨List.mem_range.2 hj, by simp only [Go.Lib.keeps, decide_eq_true_eq]; exact .inr e⟩, gb_nth xs hj⟩
    obtain ⟨i, hi, e⟩ := key j hj
    exact ⟨i, hi, by rw [e, nth_eq hj]⟩
theorem compact_nodup {xs : List Int} (h : xs.Pairwise (· ≤ ·)) : (Go.Lib.compact xs).Nodup := by
  unfold Go.Lib.compact Go.Lib.compactUpTo
  have hs : ∀ i j, i ≤ j → j < xs.length → nth xs i ≤ nth xs j := fun i j hij hj => by
    rcases Nat.lt_or_eq_of_le hij with hlt | rfl
    · have := List.pairwise_iff_getElem.1 h i j (by omega) hj hlt
      rw [nth_eq (by omega), nth_eq hj]; exact this
    · exact Int.le_refl _
  rw [List.nodup_iff_pairwise_ne, List.pairwise_map]
  have hp : ((List.range xs.length).filter (Go.Lib.keeps xs.toArray)).Pairwise (· < ·) := List.Pairwise.filter _ (List.pairwise_lt_range)
  refine hp.imp_of_mem fun {a b} ha hb hab e => ?_
  have hb1 := List.mem_range.1 (List.mem_filter.1 hb).1
  have hk := (List.mem_filter.1 hb).2
  simp only [Go.Lib.keeps, decide_eq_true_eq] at hk
  rcases hk with h0 | hne
  · omega
  · rw [gb_nth xs hb1, gb_nth xs (by omega)] at hne
    rw [gb_nth xs (by omega), gb_nth xs hb1] at e
    have := hs a (b - 1) (by omega) (by omega)
    have := hs (b - 1) b (by omega) hb1
    omega
end Go.Proofs.Ytdgmaodnkbgolaa
end

section
/- Walks: orbits of points, of the program. -/
namespace Go.Proofs.Ytdgmaodnkbgolaa
set_option linter.unusedSimpArgs false
set_option linter.unusedVariables false
open Go.RowKit
attribute [local go_sem ↓] Go.wp_at_zero Go.wp_at_succ

/-- where a point is moved to, by the first k elements -/
def imA (A : List (List Int)) (x k : Nat) : List Int := (A.take k).map fun p => nth p x
theorem imA_succ {A : List (List Int)} {x k : Nat} (h : k < A.length) : imA A x (k + 1) = imA A x k ++ [nth (xat A k) x] := by
  unfold imA; rw [take_xat h]; simp
theorem imA_len (A : List (List Int)) (x k : Nat) : (imA A x k).length ≤ k := by unfold imA; rw [List.length_map, List.length_take]; omega
def orbL (A : List (List Int)) (x : Nat) : List Int := Go.Lib.compact (srt (imA A x A.length))
set_option maxHeartbeats 4000000 in
set_option maxRecDepth 100000 in
theorem orbitOf_c (n x : Nat) (v : Value) (us : List Value) (A : List (List Int)) (w : World) (hv : RII w v us A) (hA : Grp n A) (hx : x < n) (hl : A.length ≤ 720) :
    Calls Try.prog 26 #[gv n v, .int .i64 x] w (MakesI w (orbL A x)) := by
  obtain ⟨a, c, hsh⟩ := hv.1.sl.sh
  rw [hv.2.1] at hsh
  subst hsh
  have hS0 := (St.refl w).newboxF 26 #[.int .i64 n, .slice a A.length c]
  have b1 := hS0.bcell 0 rfl 1 rfl
  have hln := hv.len
  have hix := hv.ixe
  have hS1 : St w.heap.size w _ [row 2 (.slice none 0 0) (iv (imA A x 0))] := hS0.out.emp
  have Hv := Lib.hid hv
  have HA := Lib.hid hA
  unfold gv
  clear hv hA hS0
  go_enter Try.func26, Try.ntmps26
  go_wp2_with fail
  clear b1
  go_loopw [11, 5, 7] (fun ki o _ wr => ∃ k : Nat, ki = .int .i64 k ∧ k ≤ A.length ∧ St w.heap.size w wr [row 2 o (iv (imA A x k))]) (fun ki _ _ _ => A.length - (intOf ki).toNat)
  case atStart => exact ⟨0, rfl, by omega, hS1⟩
  case round =>
    clear hS1
    obtain ⟨k, rfl, hk, hS⟩ := hrel
    have hlk := imA_len A x k
    by_cases hkA : k < A.length
    · have hki : (k : Int) < (A.length : Int) := by omega
      have xk := hix (k : Int) k rfl hkA
      have ck := (hS.oldII Hv.out).cell k hkA
      have hpr := HA.out.prm _ (xat_mem hkA)
      have hrow := (hS.oldII Hv.out).row k hkA
      have cx := hrow.cell x (by rw [hpr.2]; exact hx)
      have xx := hrow.ixe (x : Int) x rfl (by rw [hpr.2]; exact hx)
      have hst := Lib.hid (imA_succ (x := x) hkA)
      have hN := Lib.hid (show (imA A x k).length < 4294967296 by omega)
      generalize nth (xat A k) x = y at *
      clear hrow hpr
      go_wp2_with (at_builtin; refine appI hS 0 rfl hN.out rfl _ _ rfl rfl _ rfl ?_; intro v2 w2 hS2)
      simp only [List.set_cons_zero] at hS2
      rw [← hst.out] at hS2
      go_roundw
      case rel => exact ⟨k + 1, by go_num, by omega, hS2⟩
      case measure => simp [intOf]; omega
    · obtain rfl : k = A.length := by omega
      have hsl : (srt (imA A x A.length)).length = (imA A x A.length).length := srt_len _
      go_wp2_with fail
      refine (Sort_c hS 0 rfl (by omega)).mono ?_
      rintro e w5 ⟨rfl, h5⟩
      simp only [List.set_cons_zero] at h5
      go_wp2_with fail
      refine (Compact_c h5 0 rfl (by omega)).mono ?_
      rintro e w6 ⟨v6, rfl, h6⟩
      simp only [List.set_cons_zero] at h6
      go_wp2_with fail
      go_ret
      exact ⟨v6, rfl, h6⟩
end Go.Proofs.Ytdgmaodnkbgolaa
end

section
/- Walks: the orbit of a point. -/
namespace Go.Proofs.Ytdgmaodnkbgolaa
set_option linter.unusedSimpArgs false
set_option linter.unusedVariables false
open Go.RowKit
attribute [local go_sem ↓] Go.wp_at_zero Go.wp_at_succ

set_option maxHeartbeats 4000000 in
set_option maxRecDepth 100000 in
theorem OrbitOf_c (n x : Nat) (v : Value) (us : List Value) (A : List (List Int)) (w : World) (hv : RII w v us A) (hn : 1 ≤ n ∧ n ≤ 32) (hA : Grp n A) (hx : x < n) (hl : A.length ≤ 720) :
    Calls Try.prog 11 #[gv n v, .int .i64 x] w (MakesLK w (orbL A x) 0) := by
  obtain ⟨a, c, hsh⟩ := hv.1.sl.sh
  rw [hv.2.1] at hsh
  subst hsh
  have hS0 := (St.refl w).newboxF 26 #[.int .i64 n, .slice a A.length c]
  have b0 := hS0.bcell 0 rfl 0 rfl
  have b1 := hS0.bcell 0 rfl 1 rfl
  have KV := Lib.hid (fun W (h : RII W (.slice a A.length c) us A) => ValidGroup_c n (.slice a A.length c) us A W h hn hA hl)
  have KO := Lib.hid (fun W (h : RII W (.slice a A.length c) us A) => orbitOf_c n x (.slice a A.length c) us A W h hA hx hl)
  have KW := Lib.hid (fun W => within_yes (n := (x : Int)) (a := 0) (b := (n : Int) - 1) (by omega) W)
  have Hv := Lib.hid hv
  have hN2 := hn.2
  have v1 : IntKind.i64.wrap ((n : Int) - 1) = (n : Int) - 1 := IntWalk.i64_in _ (by omega)
  unfold gv at KV KO ⊢
  clear hv hA hn
  go_enter Try.func11, Try.ntmps11
  go_wp2_with fail
  refine (KV.out _ (hS0.oldII Hv.out)).mono ?_
  clear KV
  rintro e w1 ⟨rfl, h1⟩
  have hS1 := hS0.call0 h1
  clear hS0 h1 b0 b1
  have b0 := hS1.bcell 0 rfl 0 rfl
  have b1 := hS1.bcell 0 rfl 1 rfl
  go_wp2_with (go_at_call 22; refine (KW.out _).mono ?_; rintro e w2 ⟨rfl, hw⟩; subst hw)
  refine (KO.out _ (hS1.oldII Hv.out)).mono ?_
  rintro e w3 ⟨v3, rfl, h3⟩
  have hS3 := hS1.call h3
  clear hS1 h3
  go_wp2_with fail
  go_ret2
  exact ⟨v3, rfl, hS3.sub (List.sublist_append_right _ _)⟩
end Go.Proofs.Ytdgmaodnkbgolaa
end

section
/- Plain: Burnside's count of the orbits of colorings. -/
namespace Go.Proofs.Ytdgmaodnkbgolaa
set_option linter.unusedSimpArgs false
set_option linter.unusedVariables false
open Go
theorem Prm.bij {n : Nat} {p : List Int} (h : Prm n p) : Bij n (pf p) := by have := h.1.bij; rwa [h.2] at this
/-! ### sums -/
theorem len_inj {B C : List (List Int)} (hB : B.Nodup) (f : List Int → List Int) (hf : ∀ b ∈ B, f b ∈ C) (hi : ∀ a ∈ B, ∀ b ∈ B, f a = f b → a = b) : B.length ≤ C.length := by
  have hnm : (B.map f).Nodup := by
    rw [List.nodup_iff_pairwise_ne, List.pairwise_map]
    rw [List.nodup_iff_pairwise_ne] at hB
    refine (List.Pairwise.and_mem.1 hB).imp ?_
    rintro x y ⟨hx, hy, hne⟩ e
    exact hne (hi x hx y hy e)
  have := hnm.length_le_of_subset (l₂ := C) (by
    intro x hx
    obtain ⟨a, ha, rfl⟩ := List.mem_map.1 hx
    exact hf a ha)
  rwa [List.length_map] at this
/-! ### orbits -/
section
variable {n : Nat} {A : List (List Int)}
end
end Go.Proofs.Ytdgmaodnkbgolaa
end

section
/- Plain: orbits and stabilizers of points, cosets. -/
namespace Go.Proofs.Ytdgmaodnkbgolaa
set_option linter.unusedSimpArgs false
set_option linter.unusedVariables false
open Go

def stA (A : List (List Int)) (x : Nat) : List (List Int) := A.filter fun p => decide (nth p x = (x : Int))
theorem mem_orbL {A : List (List Int)} {x : Nat} {y : Int} : y ∈ orbL A x ↔ ∃ p ∈ A, nth p x = y := by
  unfold orbL
  rw [mem_compact, (srt_perm _).mem_iff]
  unfold imA
  rw [List.take_length, List.mem_map]
theorem orbL_nodup (A : List (List Int)) (x : Nat) : (orbL A x).Nodup := compact_nodup (msort_sorted _)
section
variable {n x : Nat} {A : List (List Int)}
theorem Prm.at' {p : List Int} (h : Prm n p) (hx : x < n) : ∃ y : Nat, y < n ∧ nth p x = y ∧ pf p x = y := by
  have h1 := nth_pf h.1 (show x < p.length by rw [h.2]; exact hx)
  exact ⟨pf p x, h.bij.lt x hx, h1, rfl⟩
theorem nth_cmpG {p q : List Int} (h : Prm n p) (hx : x < n) {y : Nat} (hy : nth p x = y) : nth (cmpL p q) x = nth q y := by
  rw [nth_cmpL (by rw [h.2]; exact hx)]
  congr 1
  unfold pf; rw [hy, Int.toNat_natCast]
theorem nth_invG {p : List Int} (h : Prm n p) (hx : x < n) {y : Nat} (hy : nth p x = y) : nth (invL p) y = x := by
  have := nth_invL h.1 (show x < p.length by rw [h.2]; exact hx)
  have e : pf p x = y := by unfold pf; rw [hy, Int.toNat_natCast]
  rwa [e] at this
theorem Grp.stab (h : Grp n A) (hx : x < n) : Grp n (stA A x) :=
  h.sub (f := fun p => decide (nth p x = (x : Int))) (decide_eq_true (nth_iot hx)) fun p q hp hq h1 h2 => by
    rw [decide_eq_true_eq] at h1 h2 ⊢
    rw [nth_cmpG (h.prm p hp) hx h1]; exact h2
/-- orbit and stabilizer -/
theorem Grp.orb_stab (h : Grp n A) (hx : x < n) : A.length = (orbL A x).length * (stA A x).length := by
  refine fibre_c (f := fun p => nth p x) (orbL A x) A (orbL_nodup A x) (fun p hp => mem_orbL.2 ⟨p, hp, rfl⟩) fun y hy => ?_
  obtain ⟨p0, hp0, hy0⟩ := mem_orbL.1 hy
  have hP := h.prm p0 hp0
  have hi := h.inv hp0
  have hI := h.prm _ hi
  have hnd := h.str.nodup
  obtain ⟨z, hz, hzy, _⟩ := hP.at' hx
  rw [← hy0, hzy]
  apply Nat.le_antisymm
  · refine len_inj (hnd.sublist List.filter_sublist) (fun p => cmpL p (invL p0)) (fun p hp => ?_) (fun a ha b hb e => ?_)
    · unfold stA
      rw [List.mem_filter, decide_eq_true_eq] at hp ⊢
      refine ⟨h.mul _ _ hp.1 hi, ?_⟩
      rw [nth_cmpG (h.prm p hp.1) hx hp.2]; exact nth_invG hP hx hzy
    · exact (h.prm a (List.mem_filter.1 ha).1).right (h.prm b (List.mem_filter.1 hb).1) hI e
  · refine len_inj (hnd.sublist List.filter_sublist) (fun s => cmpL s p0) (fun s hs => ?_) (fun a ha b hb e => ?_)
    · unfold stA at hs
      rw [List.mem_filter, decide_eq_true_eq] at hs ⊢
      refine ⟨h.mul _ _ hs.1 hp0, ?_⟩
      rw [nth_cmpG (h.prm s hs.1) hx hs.2]; exact hzy
    · exact (h.prm a (List.mem_filter.1 ha).1).right (h.prm b (List.mem_filter.1 hb).1) hP e
/-! ### cosets of a subgroup -/
def cosL (H : List (List Int)) (c : List Int) : List (List Int) := H.map fun s => cmpL s c
/-- what CosetsOf has found: representatives C of the first t elements, no two in one coset -/
structure CoI (n : Nat) (A H : List (List Int)) (C : List (List Int)) (t : Nat) : Prop where
  sub : ∀ c ∈ C, c ∈ A
  nd : (C.flatMap (cosL H)).Nodup
  all : ∀ j, j < t → xat A j ∈ C.flatMap (cosL H)
theorem cos_len (H C : List (List Int)) : (C.flatMap (cosL H)).length = C.length * H.length := by
  induction C with
  | nil => simp
  | cons c C ih => rw [List.flatMap_cons, List.length_append, ih, List.length_cons, Nat.succ_mul]; unfold cosL; rw [List.length_map]; omega
theorem CoI.old {H C : List (List Int)} {t : Nat} (h : CoI n A H C t) (hm : xat A t ∈ C.flatMap (cosL H)) : CoI n A H C (t + 1) := ⟨h.sub, h.nd, fun j hj => by
  by_cases e : j = t
  · subst e; exact hm
  · exact h.all j (by omega)⟩
theorem CoI.new {H C : List (List Int)} {t : Nat} (h : CoI n A H C t) (hA : Grp n A) (hH : Grp n H) (hs : ∀ s ∈ H, s ∈ A) (ht : t < A.length) (hm : xat A t ∉ C.flatMap (cosL H)) : CoI n A H (C ++ [xat A t]) (t + 1) := by
  have ha := hA.prm _ (xat_mem ht)
  have hself : xat A t ∈ cosL H (xat A t) := List.mem_map.2 ⟨iot n, hH.one, iot_cmp ha.2⟩
  refine ⟨fun c hc => ?_, ?_, fun j hj => ?_⟩
  · rcases List.mem_append.1 hc with hc | hc
    · exact h.sub c hc
    · rw [List.mem_singleton.1 hc]; exact xat_mem ht
  · rw [List.flatMap_append, List.nodup_append]
    refine ⟨h.nd, ?_, ?_⟩
    · rw [List.flatMap_cons, List.flatMap_nil, List.append_nil]
      unfold cosL
      rw [List.nodup_iff_pairwise_ne, List.pairwise_map]
      have h1 := hH.str.nodup
      rw [List.nodup_iff_pairwise_ne] at h1
      refine (List.Pairwise.and_mem.1 h1).imp ?_
      rintro a b ⟨hx, hy, hne⟩ e
      exact hne ((hH.prm a hx).right (hH.prm b hy) ha e)
    · intro y hy z hz e
      rw [List.flatMap_cons, List.flatMap_nil, List.append_nil] at hz
      apply hm
      obtain ⟨c, hc, hyc⟩ := List.mem_flatMap.1 hy
      obtain ⟨s, hs', rfl⟩ := List.mem_map.1 hyc
      obtain ⟨r, hr, rfl⟩ := List.mem_map.1 hz
      -- s c = r a, so a = (r⁻¹ s) c
      refine List.mem_flatMap.2 ⟨c, hc, List.mem_map.2 ⟨cmpL (invL r) s, hH.mul _ _ (hH.inv hr) hs', ?_⟩⟩
      have hrp := hH.prm r hr
      have hip := hH.prm _ (hH.inv hr)
      have hsp := hH.prm s hs'
      show cmpL (cmpL (invL r) s) c = xat A t
      rw [hip.assoc hsp, e, ← hip.assoc hrp, inv_cmp hrp.1, hrp.2, iot_cmp ha.2]
  · rw [List.flatMap_append, List.mem_append]
    by_cases e : j = t
    · subst e; right; rw [List.flatMap_cons, List.flatMap_nil, List.append_nil]; exact hself
    · exact .inl (h.all j (by omega))
theorem CoI.fin {H C : List (List Int)} (h : CoI n A H C A.length) (hA : Grp n A) (hs : ∀ s ∈ H, s ∈ A) : A.length = C.length * H.length := by
  rw [← cos_len]
  apply Nat.le_antisymm
  · exact hA.str.nodup.length_le_of_subset fun p hp => by
      obtain ⟨j, hj, rfl⟩ := List.getElem_of_mem hp
      rw [← xat_eq hj]; exact h.all j hj
  · exact h.nd.length_le_of_subset fun p hp => by
      obtain ⟨c, hc, hpc⟩ := List.mem_flatMap.1 hp
      obtain ⟨s, hs', rfl⟩ := List.mem_map.1 hpc
      exact hA.mul _ _ (hs s hs') (h.sub c hc)
end
end Go.Proofs.Ytdgmaodnkbgolaa
end

section
/- Plain: the orbits of all points have all points once. -/
namespace Go.Proofs.Ytdgmaodnkbgolaa
set_option linter.unusedSimpArgs false
set_option linter.unusedVariables false
open Go

theorem compact_lt {xs : List Int} (h : xs.Pairwise (· ≤ ·)) : (Go.Lib.compact xs).Pairwise (· < ·) := by
  unfold Go.Lib.compact Go.Lib.compactUpTo
  have hs : ∀ i j, i ≤ j → j < xs.length → nth xs i ≤ nth xs j := fun i j hij hj => by
    rcases Nat.lt_or_eq_of_le hij with hlt | rfl
    · have := List.pairwise_iff_getElem.1 h i j (by omega) hj hlt
      rw [nth_eq (by omega), nth_eq hj]; exact this
    · exact Int.le_refl _
  rw [List.pairwise_map]
  have hp : ((List.range xs.length).filter (Go.Lib.keeps xs.toArray)).Pairwise (· < ·) := List.Pairwise.filter _ (List.pairwise_lt_range)
  refine hp.imp_of_mem fun {a b} ha hb hab => ?_
  have hb1 := List.mem_range.1 (List.mem_filter.1 hb).1
  have hk := (List.mem_filter.1 hb).2
  simp only [Go.Lib.keeps, decide_eq_true_eq] at hk
  rcases hk with h0 | hne
  · omega
  · rw [gb_nth xs hb1, gb_nth xs (by omega)] at hne
    rw [gb_nth xs (by omega), gb_nth xs hb1]
    have h1 := hs a (b - 1) (by omega) (by omega)
    have h2 := hs (b - 1) b (by omega) hb1
    omega
theorem orbL_inc (A : List (List Int)) (x : Nat) : (orbL A x).Pairwise (· < ·) := compact_lt (msort_sorted _)
section
variable {n x : Nat} {A : List (List Int)}
theorem Grp.orb_self (h : Grp n A) (hx : x < n) : (x : Int) ∈ orbL A x := mem_orbL.2 ⟨iot n, h.one, nth_iot hx⟩
theorem Grp.orb_pos (h : Grp n A) (hx : x < n) : 0 < (orbL A x).length := List.length_pos_of_mem (h.orb_self hx)
theorem Grp.orb_lt (h : Grp n A) (hx : x < n) {y : Int} (hy : y ∈ orbL A x) : ∃ z : Nat, y = z ∧ z < n := by
  obtain ⟨p, hp, e⟩ := mem_orbL.1 hy
  obtain ⟨z, hz, hzy, _⟩ := (h.prm p hp).at' hx
  exact ⟨z, by rw [← e, hzy], hz⟩
/-- points of one orbit have the same orbit -/
theorem Grp.orb_eq (h : Grp n A) (hx : x < n) {y : Nat} (hy : (y : Int) ∈ orbL A x) : orbL A y = orbL A x := by
  obtain ⟨p, hp, e⟩ := mem_orbL.1 hy
  obtain ⟨z, hz, hzy, _⟩ := (h.prm p hp).at' hx
  have hyn : y < n := by rw [e] at hzy; omega
  have hP := h.prm p hp
  refine sorted_eq ((List.perm_ext_iff_of_nodup (orbL_nodup A y) (orbL_nodup A x)).2 fun t => ?_) ((orbL_inc A y).imp fun h => by omega) ((orbL_inc A x).imp fun h => by omega)
  rw [mem_orbL, mem_orbL]
  constructor
  · rintro ⟨q, hq, rfl⟩
    exact ⟨cmpL p q, h.mul _ _ hp hq, nth_cmpG hP hx e⟩
  · rintro ⟨q, hq, rfl⟩
    exact ⟨cmpL (invL p) q, h.mul _ _ (h.inv hp) hq, nth_cmpG (h.prm _ (h.inv hp)) hyn (nth_invG hP hx e)⟩
/-- the orbits whose least points are below k -/
def obS (A : List (List Int)) : Nat → List (List Int)
  | 0 => []
  | k + 1 => if nth (orbL A k) 0 = (k : Int) then obS A k ++ [orbL A k] else obS A k
theorem obS_mem (A : List (List Int)) {b : List Int} : ∀ k, b ∈ obS A k ↔ ∃ x, x < k ∧ nth (orbL A x) 0 = (x : Int) ∧ b = orbL A x
  | 0 => ⟨fun h => by simp [obS] at h, fun ⟨x, hx, _⟩ => by omega⟩
  | k + 1 => by
    rw [obS]
    by_cases e : nth (orbL A k) 0 = (k : Int)
    · rw [if_pos e, List.mem_append, obS_mem A k, List.mem_singleton]
      constructor
      · rintro (⟨x, hx, h1, h2⟩ | rfl)
        · exact ⟨x, by omega, h1, h2⟩
        · exact ⟨k, by omega, e, rfl⟩
      · rintro ⟨x, hx, h1, h2⟩
        by_cases q : x = k
        · subst q; exact .inr h2
        · exact .inl ⟨x, by omega, h1, h2⟩
    · rw [if_neg e, obS_mem A k]
      constructor
      · rintro ⟨x, hx, h1, h2⟩; exact ⟨x, by omega, h1, h2⟩
      · rintro ⟨x, hx, h1, h2⟩
        by_cases q : x = k
        · subst q; exact absurd h1 e
        · exact ⟨x, by omega, h1, h2⟩
theorem obS_len (A : List (List Int)) : ∀ k, (obS A k).length ≤ k
  | 0 => Nat.le_refl _
  | k + 1 => by
    have h := obS_len A k
    rw [obS]
    split
    · rw [List.length_append]; simp; omega
    · omega
theorem Grp.ob_nodup (h : Grp n A) : ∀ k, k ≤ n → (obS A k).flatten.Nodup
  | 0, _ => by simp [obS]
  | k + 1, hk => by
    have ih := h.ob_nodup k (by omega)
    rw [obS]
    by_cases e : nth (orbL A k) 0 = (k : Int)
    · rw [if_pos e, List.flatten_append, List.nodup_append]
      refine ⟨ih, by simpa using orbL_nodup A k, fun y hy z hz q => ?_⟩
      have hz : z ∈ orbL A k := by simpa using hz
      subst q
      obtain ⟨b, hb, hyb⟩ := List.mem_flatten.1 hy
      obtain ⟨x, hx, hx0, rfl⟩ := (obS_mem A k).1 hb
      obtain ⟨m, rfl, hm⟩ := h.orb_lt (by omega) hz
      have e1 := h.orb_eq (show x < n by omega) hyb
      have e2 := h.orb_eq (show k < n by omega) hz
      rw [← e2, e1, hx0] at e
      omega
    · rw [if_neg e]; exact ih
theorem Grp.ob_all (h : Grp n A) : (obS A n).flatten.length = n := by
  have hp : (obS A n).flatten.Perm (iot n) := by
    refine (List.perm_ext_iff_of_nodup (h.ob_nodup n (Nat.le_refl _)) (iot_isP n).nodup).2 fun y => ?_
    rw [mem_iot, List.mem_flatten]
    constructor
    · rintro ⟨b, hb, hy⟩
      obtain ⟨x, hx, _, rfl⟩ := (obS_mem A n).1 hb
      obtain ⟨m, rfl, hm⟩ := h.orb_lt hx hy
      omega
    · rintro ⟨h0, h1⟩
      obtain ⟨m, rfl⟩ := Int.eq_ofNat_of_zero_le h0
      have hm : m < n := by omega
      have hpos := h.orb_pos hm
      obtain ⟨z, hz, hzn⟩ := h.orb_lt hm (nth_mem hpos)
      have hzm : (z : Int) ∈ orbL A m := by rw [← hz]; exact nth_mem hpos
      have e := h.orb_eq hm hzm
      exact ⟨orbL A z, (obS_mem A n).2 ⟨z, hzn, by rw [e]; exact hz, rfl⟩, by rw [e]; exact h.orb_self hm⟩
  rw [hp.length_eq, iot_len]
end
end Go.Proofs.Ytdgmaodnkbgolaa
end

section
/- Walks: the orbits of a group, of the program. -/
namespace Go.Proofs.Ytdgmaodnkbgolaa
set_option linter.unusedSimpArgs false
set_option linter.unusedVariables false
open Go.RowKit
attribute [local go_sem ↓] Go.wp_at_zero Go.wp_at_succ

set_option maxHeartbeats 8000000 in
set_option maxRecDepth 100000 in
theorem OrbitsOf_c (n : Nat) (v : Value) (us : List Value) (A : List (List Int)) (w : World) (hv : RII w v us A) (hn : 1 ≤ n ∧ n ≤ 32) (hA : Grp n A) (hl : A.length ≤ 720) :
    Calls Try.prog 9 #[gv n v] w (MakesII w (obS A n)) := by
  obtain ⟨a, c, hsh⟩ := hv.1.sl.sh
  rw [hv.2.1] at hsh
  subst hsh
  have hS0 := (St.refl w).newboxF 26 #[.int .i64 n, .slice a A.length c]
  have b0 := hS0.bcell 0 rfl 0 rfl
  have b1 := hS0.bcell 0 rfl 1 rfl
  have KV := Lib.hid (fun W (h : RII W (.slice a A.length c) us A) => ValidGroup_c n (.slice a A.length c) us A W h hn hA hl)
  have KO := Lib.hid (fun x (hx : x < n) W (h : RII W (.slice a A.length c) us A) => orbitOf_c n x (.slice a A.length c) us A W h hA hx hl)
  have Hv := Lib.hid hv
  have HA := Lib.hid hA
  have hN2 := hn.2
  unfold gv at KV KO ⊢
  clear hv hA hn
  go_enter Try.func9, Try.ntmps9
  go_wp2_with fail
  refine (KV.out _ (hS0.oldII Hv.out)).mono ?_
  clear KV
  rintro e w1 ⟨rfl, h1⟩
  have hS1 := (hS0.call0 h1).newnil 32
  have hS2 : St w.heap.size w w1 (box 26 w.heap.size [.int .i64 n, .slice a A.length c] :: own2 (.slice none 0 0) [] (obS A 0)) := hS1
  clear hS0 hS1 h1 b0 b1
  go_wp2_with fail
  go_loopw [3, 4, 5] (fun o xi _ wr => ∃ (x : Nat) (uo : List Value), xi = .int .i64 x ∧ x ≤ n ∧ Hid (uo.length = (obS A x).length) ∧ St w.heap.size w wr (box 26 w.heap.size [.int .i64 n, .slice a A.length c] :: own2 o uo (obS A x))) (fun _ xi _ _ => n - (intOf xi).toNat)
  case atStart => exact ⟨0, [], rfl, by omega, Lib.hid rfl, hS2⟩
  case round =>
    clear hS2
    obtain ⟨x, uo, rfl, hx, hul, hS⟩ := hrel
    have b0 := hS.bcell 0 rfl 0 rfl
    have b1 := hS.bcell 0 rfl 1 rfl
    have hob := Lib.hid (obS_len A x)
    by_cases hxn : x < n
    · have hxi : (x : Int) < (n : Int) := by omega
      have KX := Lib.hid (KO.out x hxn wr (hS.oldII Hv.out))
      have hpos := HA.out.orb_pos hxn
      go_wp2_with fail
      refine KX.out.mono ?_
      clear KX b0 b1
      rintro e w2 ⟨vo, rfl, h2⟩
      have hr := h2.rdI 0 rfl
      obtain ⟨ao, co, hsh⟩ := hr.sl.sh
      rw [iv_len] at hsh
      subst hsh
      have x0 := hr.ixe 0 0 rfl hpos
      have c0 := hr.cell 0 hpos
      have hS3 := hS.call h2
      have hN := Lib.hid (show uo.length < 4294967296 by have := hul.out; have := hob.out; omega)
      clear hS h2 hr
      by_cases he : nth (orbL A x) 0 = (x : Int)
      · have hst : Hid (obS A (x + 1) = obS A x ++ [orbL A x]) := Lib.hid (by rw [obS, if_pos he])
        have f1 : (nth (orbL A x) 0 == (x : Int)) = true := eq_t he
        clear he
        generalize nth (orbL A x) 0 = z at *
        generalize orbL A x = B at *
        go_wp2_with (at_builtin; refine appII hS3 1 rfl hN.out rfl _ _ rfl rfl _ rfl (by first | rfl | simp [Act.eval, World.size_alloc]) ?_; intro v4 w4 hS4)
        have hS5 : St w.heap.size w w4 (box 26 w.heap.size [.int .i64 n, .slice a A.length c] :: own2 v4 (uo ++ [.slice ao B.length co]) (obS A x ++ [B])) := by
          have := hS4
          rw [List.cons_append, List.set_cons_succ, own2_snocM hul.out] at this
          exact this
        rw [← hst.out] at hS5
        go_roundw
        case rel => exact ⟨x + 1, _, by go_num, by omega, Lib.hid (by rw [hst.out, List.length_append, List.length_append, hul.out]; rfl), hS5⟩
        case measure => simp [intOf]; omega
      · have hst : Hid (obS A (x + 1) = obS A x) := Lib.hid (by rw [obS, if_neg he])
        have f1 : (nth (orbL A x) 0 == (x : Int)) = false := eq_f he
        have f2 := he
        have hS5 := hS3.sub (L' := box 26 w.heap.size [.int .i64 n, .slice a A.length c] :: own2 u3 uo (obS A x)) (List.sublist_append_left _ _)
        rw [← hst.out] at hS5
        clear he hS3
        generalize nth (orbL A x) 0 = z at *
        go_wp2_with fail
        go_roundw
        case rel => exact ⟨x + 1, uo, by go_num, by omega, Lib.hid (by rw [hst.out, hul.out]), hS5⟩
        case measure => simp [intOf]; omega
    · obtain rfl : x = n := by omega
      have hR := hS.sub (L' := own2 u3 uo (obS A x)) (List.sublist_cons_self _ _)
      have hlu := Lib.hid hul.out
      go_wp2_with fail
      go_ret
      exact ⟨_, uo, rfl, hlu.out, hR⟩
end Go.Proofs.Ytdgmaodnkbgolaa
end

section
/- Walks: subgroups by a test of their elements, of the program. -/
namespace Go.Proofs.Ytdgmaodnkbgolaa
set_option linter.unusedSimpArgs false
set_option linter.unusedVariables false
open Go.RowKit
attribute [local go_sem ↓] Go.wp_at_zero Go.wp_at_succ

/-- a group of its own, by value -/
def MakesGv (w : World) (n : Nat) (A : List (List Int)) (e : Ending) (w' : World) : Prop := ∃ v us, e = .returned (gv n v) ∧ us.length = A.length ∧ St w.heap.size w w' (own2 v us A)
def flA (p : List Int → Bool) (A : List (List Int)) (k : Nat) : List (List Int) := (A.take k).filter p
theorem flA_yes {p : List Int → Bool} {A : List (List Int)} {k : Nat} (h : k < A.length) (hp : p (xat A k) = true) : flA p A (k + 1) = flA p A k ++ [xat A k] := by
  unfold flA; rw [take_xat h, List.filter_append, List.filter_cons_of_pos hp]; rfl
theorem flA_no {p : List Int → Bool} {A : List (List Int)} {k : Nat} (h : k < A.length) (hp : p (xat A k) = false) : flA p A (k + 1) = flA p A k := by
  unfold flA; rw [take_xat h, List.filter_append, List.filter_cons_of_neg (by rw [hp]; simp)]; simp
theorem flA_len (p : List Int → Bool) (A : List (List Int)) (k : Nat) : (flA p A k).length ≤ k := by
  unfold flA; exact Nat.le_trans (List.length_filter_le _ _) (by rw [List.length_take]; omega)
theorem flA_all (p : List Int → Bool) (A : List (List Int)) : flA p A A.length = A.filter p := by unfold flA; rw [List.take_length]
set_option maxHeartbeats 16000000 in
set_option maxRecDepth 100000 in
theorem subgroup_c (K : FuncId) (caps : Array Value) (p : List Int → Bool) (n : Nat) (v : Value) (us : List Value) (A : List (List Int)) (w : World) (hv : RII w v us A) (hl : A.length ≤ 720) (hrl : ∀ q ∈ A, q.length ≤ 32)
    (hcf : ∀ (args : Array Value) (W : World), (callFunc K args).run Try.prog W = .ok (.enter K args) W)
    (hK : ∀ (j : Nat) (W : World), St w.heap.size w W [] → j < A.length → Calls Try.prog K (#[vat us j] ++ caps) W (GivesB W (p (xat A j)))) :
    Calls Try.prog 27 #[gv n v, .func (.func K) #[] caps] w (MakesGv w n (A.filter p)) := by
  obtain ⟨a, c, hsh⟩ := hv.1.sl.sh
  rw [hv.2.1] at hsh
  subst hsh
  have hX0 := ((St.refl w).newboxF 26 #[.int .i64 n, .slice a A.length c]).newboxF 26 #[.int .i64 0, .slice none 0 0]
  simp only [World.size_alloc] at hX0
  have b0 := hX0.bcell 1 rfl 0 rfl
  have b1 := hX0.bcell 1 rfl 1 rfl
  have hX3 := (hX0.newboxF 26 #[.int .i64 n, .slice none 0 0]).newnil 32
  simp only [World.size_alloc] at hX3
  have HK := Lib.hid hK
  have Hv := Lib.hid hv
  have Hrl := Lib.hid (fun k (hk : k < A.length) => hrl _ (xat_mem hk))
  have hix := hv.ixe
  unfold gv
  clear hv hK hrl
  go_enter Try.func27, Try.ntmps27
  go_wp2_with fail
  clear b0 b1 hX0
  go_loopw [14, 7] (fun ki _ wr => ∃ (k : Nat) (vo : Value) (uo : List Value), ki = .int .i64 k ∧ k ≤ A.length ∧ Hid (uo.length = (flA p A k).length) ∧ St w.heap.size w wr (box 26 (w.heap.size + 1 + 1) [.int .i64 n, vo] :: box 26 (w.heap.size + 1) [.int .i64 0, .slice none 0 0] :: box 26 w.heap.size [.int .i64 n, .slice a A.length c] :: own2 vo uo (flA p A k))) (fun ki _ _ => A.length - (intOf ki).toNat)
  case atStart => exact ⟨0, .slice none 0 0, [], rfl, by omega, Lib.hid rfl, hX3⟩
  case round =>
    clear hX3
    obtain ⟨k, vo, uo, rfl, hk, hul, hS⟩ := hrel
    have hfl := flA_len p A k
    obtain ⟨oa, oc, hvo⟩ := (hS.rd 3 (e := 32) (v := vo) (us := uo) rfl).sl.sh
    subst hvo
    by_cases hkA : k < A.length
    · have hki : (k : Int) < (A.length : Int) := by omega
      have xk := hix (k : Int) k rfl hkA
      have ck := (hS.oldII Hv.out).cell k hkA
      have KX := Lib.hid (HK.out k wr hS.out hkA)
      go_wp2_with fail
      refine KX.out.mono ?_
      clear KX ck
      cases hp : p (xat A k)
      · have hst := Lib.hid (flA_no hkA hp)
        clear hp
        rintro e w2 ⟨rfl, h2⟩
        have hS2 := hS.call0 h2
        rw [← hst.out] at hS2
        clear hS h2
        go_wp2_with fail
        go_roundw
        case rel => exact ⟨k + 1, _, uo, by go_num, by omega, Lib.hid (by rw [hst.out, hul.out]), hS2⟩
        case measure => simp [intOf]; omega
      · have hst := Lib.hid (flA_yes hkA hp)
        clear hp
        rintro e w2 ⟨rfl, h2⟩
        have hS2 := (hS.call0 h2).drew
        have c1 := hS2.bcell 0 rfl 1 rfl
        have hrow := Lib.hid ((hS2.oldII Hv.out).row k hkA)
        have hN := Lib.hid (show uo.length < 4294967296 by rw [hul.out]; omega)
        have hrk := Lib.hid (Hrl.out k hkA)
        clear hS h2
        generalize xat A k = q at *
        go_wp2_with fail
        refine regionG (fun w' => w'.cell? ⟨w.heap.size + 1 + 1, 1, none⟩ = some (.slice oa uo.length oc)) 5 (by kernel_rfl) (cell_dr c1) (fun hHeld => ?_)
        refine takeP (i := 0) (v := ?_) rfl (by kernel_rfl) (fun _ _ _ h => h) (by rfl) ?_ (by assumption) ?_
        case refine_2 => (intro w'; go_simp; first | done | with_reducible rfl)
        try simp only [Act.put, List.setIfInBounds_toArray, List.set_cons_zero, List.set_cons_succ]
        refine takeH (i := 1) [] (v := ?_) rfl (by kernel_rfl) (fun _ _ _ h => h) (by rfl) ?_ (by assumption) ?_
        case refine_2 => (intro w' hSw; (try dsimp only at hSw); go_simp; first | done | with_reducible rfl)
        try simp only [Act.put, List.setIfInBounds_toArray, List.set_cons_zero, List.set_cons_succ]
        refine takeP (i := 2) (v := ?_) rfl (by kernel_rfl) (fun _ _ _ h => h) (by rfl) ?_ (by assumption) ?_
        case refine_2 => (intro w'; go_simp; first | done | with_reducible rfl)
        try simp only [Act.put, List.setIfInBounds_toArray, List.set_cons_zero, List.set_cons_succ]
        refine readyG (rs := [3]) (by kernel_rfl) (by simp) ?_
        refine AllG.cons rfl (fun K hK => ?_) AllG.nil
        go_simp
        refine (Clone_c (vat us k) q _ hrow.out (by have := hrk.out; omega)).mono ?_
        rintro e w3 ⟨u, rfl, h3⟩
        obtain ⟨ua, uc, hu⟩ := (h3.rdI 0 rfl).sl.sh
        rw [iv_len] at hu
        subst hu
        have hS3 := hS2.call h3
        have q0 := hS3.bcell 0 rfl 1 rfl
        refine hK.out _ _ q0 (fun hHeld => ?_)
        clear hK K
        try simp only [Act.put, List.setIfInBounds_toArray, List.set_cons_zero, List.set_cons_succ]
        refine readyG (rs := [4]) (by kernel_rfl) (by simp) ?_
        refine AllG.cons rfl (fun K hK => ?_) AllG.nil
        go_simp
        refine hK.out _ _ (cell_al q0) (fun hHeld => ?_)
        clear hK K
        try simp only [Act.put, List.setIfInBounds_toArray, List.set_cons_zero, List.set_cons_succ]
        refine readyG (rs := [5]) (by kernel_rfl) (by simp) ?_
        refine AllG.last rfl (by kernel_rfl) (fun K hK => ?_) AllG.nil
        refine stepII hS3 3 rfl hN.out rfl (.tmp 22) (.tmp 25) rfl (by first | rfl | simp [Act.eval, Act.put]) _ rfl (by first | rfl | simp [Act.eval, Act.put]) ?_
        intro v5 w5 hS5
        have hS5 : St w.heap.size w w5 (box 26 (w.heap.size + 1 + 1) [.int .i64 n, .slice oa uo.length oc] :: box 26 (w.heap.size + 1) [.int .i64 0, .slice none 0 0] :: box 26 w.heap.size [.int .i64 n, .slice a A.length c] :: own2 v5 (uo ++ [.slice ua q.length uc]) (flA p A k ++ [q])) := by
          have := hS5
          rw [List.cons_append, List.cons_append, List.cons_append, List.set_cons_succ, List.set_cons_succ, List.set_cons_succ, own2_snocM hul.out] at this
          exact this
        obtain ⟨fa, fc, hv5⟩ := (hS5.rd 3 (e := 32) (v := v5) (us := uo ++ [.slice ua q.length uc]) rfl).sl.sh
        rw [List.length_append, List.length_singleton] at hv5
        subst hv5
        refine hK.out _ _ ?_
        clear hK K
        try simp only [Act.put, List.setIfInBounds_toArray, List.set_cons_zero, List.set_cons_succ]
        have e1 := hS5.bcell 0 rfl 1 rfl
        have e0 := hS5.bfree 0 rfl 1
        refine readyG (rs := [6]) (by kernel_rfl) (by simp) ?_
        refine AllG.last rfl (by kernel_rfl) (fun K hK => ?_) AllG.nil
        go_simp
        refine hK.out _ _ ?_
        clear hK K
        try simp only [Act.put, List.setIfInBounds_toArray, List.set_cons_zero, List.set_cons_succ]
        refine readyG (rs := [7]) (by kernel_rfl) (by simp) ?_
        refine AllG.last rfl (by kernel_rfl) (fun K hK => ?_) AllG.nil
        go_simp
        refine hK.out _ _ ?_
        clear hK K
        try simp only [Act.put, List.setIfInBounds_toArray, List.set_cons_zero, List.set_cons_succ]
        refine doneG (by kernel_rfl) ?_ _
        refine NoPanic.normal ?_
        have hS6 := hS5.bstore 0 rfl 1 (.slice fa (uo.length + 1) fc)
        rw [← hst.out] at hS6
        go_wp2_with fail
        go_roundw
        case rel => exact ⟨k + 1, _, _, by go_num, by omega, Lib.hid (by rw [hst.out, List.length_append, List.length_append, hul.out]; rfl), hS6⟩
        case measure => simp [intOf]; omega
    · obtain rfl : k = A.length := by omega
      rw [flA_all] at hS hul
      have d0 := hS.bcell 0 rfl 0 rfl
      have d1 := hS.bcell 0 rfl 1 rfl
      have f0 := hS.bfree 1 rfl
      have r0 := hS.bcell 1 rfl 0 rfl
      have r1 := hS.bcell 1 rfl 1 rfl
      have h6 := (hS.bstore 1 rfl 0 (.int .i64 n)).bstore 1 rfl 1 (.slice oa uo.length oc)
      have g0 := h6.bcell 1 rfl 0 rfl
      have g1 := h6.bcell 1 rfl 1 rfl
      clear hS
      go_wp2_with fail
      refine bodyPost_ret (v := .agg #[.int .i64 n, .slice oa uo.length oc]) (by simp [results, Try.results27, go_sem, g0, g1]) rfl ?_
      exact ⟨_, uo, rfl, hul.out, h6.sub (((List.sublist_cons_self _ _).trans (List.sublist_cons_self _ _)).trans (List.sublist_cons_self _ _))⟩
end Go.Proofs.Ytdgmaodnkbgolaa
end

section
/- Walks: generators and elements of a group, of the program. -/
namespace Go.Proofs.Ytdgmaodnkbgolaa
set_option linter.unusedSimpArgs false
set_option linter.unusedVariables false
open Go.RowKit
attribute [local go_sem ↓] Go.wp_at_zero Go.wp_at_succ

/-- generators of its own: few, and they generate all -/
def MakesGn (w : World) (n : Nat) (A : List (List Int)) (e : Ending) (w' : World) : Prop := ∃ v us G, e = .returned v ∧ us.length = G.length ∧ ClO n G A ∧ (∀ g ∈ G, g ∈ A) ∧ 2 ^ G.length ≤ A.length ∧ St w.heap.size w w' (own2 v us G)
set_option maxHeartbeats 4000000 in
set_option maxRecDepth 100000 in
theorem GeneratorsOf_c (n : Nat) (v : Value) (us : List Value) (A : List (List Int)) (w : World) (hv : RII w v us A) (hn : 1 ≤ n ∧ n ≤ 32) (hA : Grp n A) (hl : A.length ≤ 720) :
    Calls Try.prog 6 #[gv n v] w (MakesGn w n A) := by
  obtain ⟨a, c, hsh⟩ := hv.1.sl.sh
  rw [hv.2.1] at hsh
  subst hsh
  have hS0 := (St.refl w).newboxF 26 #[.int .i64 n, .slice a A.length c]
  have b0 := hS0.bcell 0 rfl 0 rfl
  have b1 := hS0.bcell 0 rfl 1 rfl
  have KV := Lib.hid (fun W (h : RII W (.slice a A.length c) us A) => ValidGroup_c n (.slice a A.length c) us A W h hn hA hl)
  have KC := Lib.hid (fun W (h : RII W (.slice a A.length c) us A) => chosen_c n (.slice a A.length c) us A W h hn hA hl)
  have HA := Lib.hid hA
  have Hv := Lib.hid hv
  have hN2 := hn.2
  unfold gv at KV ⊢
  clear hv hA hn
  go_enter Try.func6, Try.ntmps6
  go_wp2_with fail
  refine (KV.out _ (hS0.oldII Hv.out)).mono ?_
  clear KV
  rintro e w1 ⟨rfl, h1⟩
  have hS1 := hS0.call0 h1
  clear hS0 h1 b0 b1
  have b0 := hS1.bcell 0 rfl 0 rfl
  have b1 := hS1.bcell 0 rfl 1 rfl
  go_wp2_with fail
  refine (KC.out _ (hS1.oldII Hv.out)).mono ?_
  clear KC
  rintro e w2 ⟨vg, ug, G, va, ua, rfl, hcl, hsub, htwo, rg, _, h2⟩
  have hS2 := hS1.call0 h2
  have hGl : G.length < 720 := by have := Nat.lt_two_pow_self (n := G.length); omega
  have KP := Lib.hid (copyLists_c vg ug G w2 rg (by omega) (fun xs hx => by rw [(HA.out.prm xs (hsub xs hx)).2]; omega))
  have HG := Lib.hid (And.intro hcl (And.intro hsub htwo))
  clear hS1 h2 rg hcl hsub htwo b0 b1
  go_wp2_with fail
  refine KP.out.mono ?_
  clear KP
  rintro e w3 ⟨v3, us3, rfl, hl3, h3⟩
  have hS3 := hS2.call h3
  clear hS2 h3
  go_wp2_with fail
  go_ret
  exact ⟨_, us3, G, rfl, hl3, HG.out.1, HG.out.2.1, HG.out.2.2, hS3.sub (List.sublist_append_right _ _)⟩
/-- it hands over a group of its own, and a code -/
def MakesGrC (w : World) (n : Int) (A : List (List Int)) (c : Int) (e : Ending) (w' : World) : Prop := ∃ v us, e = .returned (.tuple #[gv n v, .int .i64 c]) ∧ us.length = A.length ∧ St w.heap.size w w' (own2 v us A)
set_option maxHeartbeats 4000000 in
set_option maxRecDepth 100000 in
theorem MakeGroup_c (n : Nat) (v : Value) (us : List Value) (G A : List (List Int)) (w : World) (hv : RII w v us G) (hn : 1 ≤ n ∧ n ≤ 32) (hA : Grp n A) (hG : ∀ g ∈ G, g ∈ A) (hcl : ClO n G A) (hl : A.length ≤ 720) :
    Calls Try.prog 7 #[.int .i64 n, v] w (MakesGrC w n A 0) := by
  have hS0 := (St.refl w).newboxF 26 #[.int .i64 0, .slice none 0 0]
  have KW := Lib.hid (fun W => within_yes (n := (n : Int)) (a := 1) (b := 32) (by omega) W)
  have hN2 := hn.2
  have KP := Lib.hid (fun W (h : RII W v us G) => arePermutations_c n v us G W h (fun x hx => by rw [(hA.prm _ (hG _ (xat_mem hx))).2]; omega))
  have hall : allP n G = true := by
    unfold allP anyR
    rw [Bool.not_eq_true', List.any_eq_false]
    intro x hx
    have hp := hA.prm x (hG x hx)
    unfold pvN
    simp [hp.2, pvB_yes (by rw [hp.2]; exact hN2) hp.1]
  rw [hall] at KP
  have KC := Lib.hid (fun W (h : RII W v us G) => closure_c n v us G A W h hn hA hG hl)
  have Hv := Lib.hid hv
  have Hcl := Lib.hid hcl
  clear hv hA hn hG hcl hall
  go_enter Try.func7, Try.ntmps7
  go_wp2_with (first
    | (go_at_call 22; refine (KW.out _).mono ?_; rintro e w1 ⟨rfl, hw⟩; subst hw)
    | (go_at_call 23; refine (KP.out _ (hS0.oldII Hv.out)).mono ?_; rintro e w2 ⟨rfl, h2⟩; have hS2 := hS0.call0 h2))
  refine (KC.out _ (hS2.oldII Hv.out)).mono ?_
  rintro e w3 ⟨v3, us3, R, rfl, hl3, hR, h3⟩
  have hRA : R = A := hR.uniq Hcl.out
  subst hRA
  obtain ⟨a3, c3, hv3⟩ := (h3.rd 0 (e := 32) (v := v3) (us := us3) rfl).sl.sh
  rw [hl3] at hv3
  subst hv3
  have hB := hS2.call h3
  have e0 := hB.bcell 0 rfl 0 rfl
  have e1 := hB.bcell 0 rfl 1 rfl
  have f0 := hB.bfree 0 rfl
  have h6 := (hB.bstore 0 rfl 0 (.int .i64 n)).bstore 0 rfl 1 (.slice a3 R.length c3)
  have d0 := h6.bcell 0 rfl 0 rfl
  have d1 := h6.bcell 0 rfl 1 rfl
  have Hl3 := Lib.hid hl3
  clear hS0 hS2 hB h3 hl3 hR
  go_wp2_with fail
  refine bodyPost_ret (v := .tuple #[.agg #[.int .i64 n, .slice a3 R.length c3], .int .i64 0]) (by simp [results, Try.results7, go_sem, d0, d1]) rfl ?_
  exact ⟨_, us3, rfl, Hl3.out, h6.sub (List.sublist_cons_self _ _)⟩
end Go.Proofs.Ytdgmaodnkbgolaa
end

section
/- Images of sets under permutations; ranks of permutations. In plain terms. -/
namespace Go.Proofs.Ytdgmaodnkbgolaa
set_option linter.unusedSimpArgs false
set_option linter.unusedVariables false
/-- the image of a set -/
def imL (xs ss : List Int) : List Int := srt (ss.map fun x => nth xs x.toNat)
/-! ### ranks -/
end Go.Proofs.Ytdgmaodnkbgolaa
end

section
/- slices.Delete at []int64: a row that a call owns, without one of its numbers. Walks: images of sets, ranks of permutations. -/
namespace Go.Proofs.Ytdgmaodnkbgolaa
set_option linter.unusedSimpArgs false
set_option linter.unusedVariables false
open Go.RowKit
attribute [local go_sem ↓] Go.wp_at_zero Go.wp_at_succ
theorem incB_len : ∀ {xs : List Int} {l n : Int}, incB l n xs = true → l < n → (xs.length : Int) ≤ n - l - 1
  | [], l, n, _, h => by simp; omega
  | x :: t, l, n, h, hl => by
    unfold incB at h; split at h
    · simp at h
    · have := incB_len h (by omega)
      simp; omega
set_option maxHeartbeats 4000000 in
set_option maxRecDepth 100000 in
theorem image_c (v u : Value) (xs ss : List Int) (w : World) (hv : RdI w v xs) (hu : RdI w u ss) (hs : incB (-1) xs.length ss = true) (hN : xs.length ≤ 1000) :
    Calls Try.prog 38 #[v, u] w (MakesI w (imL xs ss)) := by
  have hlu := hu.len
  have hiu := hu.ix
  have hix := hv.ix
  have hsl := incB_len hs (by omega)
  have HM := Lib.hid (fun x hx => incB_gt hs x hx)
  have HS := fun {B : Nat} {w0 w : World} {L : List Ent} (hS : St B w0 w L) (i : Nat) {v : Value} {ys : List Int} (hl : ys.length = ss.length) (hi : L[i]? = some (row 2 v (iv ys))) => Lib.hid (Sort_c hS i hi (by omega))
  have HF := Lib.hid (show imL xs ss = srt (ss.map fun x => nth xs x.toNat) from rfl)
  generalize hf : (fun x : Int => nth xs x.toNat) = f at *
  have Hf := Lib.hid (fun x => congrFun hf x)
  clear hf hs
  generalize imL xs ss = R at *
  go_enter Try.func38, Try.ntmps38
  go_wp2_with fail
  go_loopw [5, 7, 10] (fun o _ x wr => ∃ k : Nat, k ≤ ss.length ∧ x = .int .i64 k ∧ St w.heap.size w wr [row 2 o (iv ((ss.take k).map f))]) (fun _ _ x _ => ss.length - (intOf x).toNat)
  case atStart => exact ⟨0, by omega, rfl, (St.refl w).emp⟩
  case round =>
    obtain ⟨k, hk, rfl, hS⟩ := hrel
    by_cases hlt : k < ss.length
    · have hck := (hS.oldI hu).cell k hlt
      have hm := HM.out _ (nth_mem hlt)
      have hcx := (hS.oldI hv).cell (nth ss k).toNat (by omega)
      rw [Hf.out] at hcx
      have Hst := Lib.hid (show (ss.take (k + 1)).map f = (ss.take k).map f ++ [f (nth ss k)] by rw [take_nth hlt]; simp)
      have Hlt := Lib.hid (show ((ss.take k).map f).length < 4294967296 by simp; omega)
      generalize f (nth ss k) = y at *
      generalize nth ss k = x at *
      obtain ⟨m0, m1⟩ := hm
      have hixx := hix .i64 x (by omega) m1
      go_wp2_with (at_builtin; refine appI hS 0 rfl Hlt.out rfl _ _ rfl rfl _ rfl ?_; intro v' w2 hS2)
      simp only [List.set_cons_zero] at hS2
      rw [← Hst.out] at hS2
      go_roundw
      case rel => exact ⟨k + 1, by omega, by go_num, hS2⟩
      case measure => simp [intOf]; omega
    · obtain rfl : k = ss.length := by omega
      rw [List.take_length] at hS
      go_wp2_with fail
      refine (HS hS 0 (by simp) rfl).out.mono ?_
      rintro e w2 ⟨rfl, hS2⟩
      rw [← HF.out] at hS2
      simp only [List.set_cons_zero] at hS2
      go_wp2_with fail
      go_ret
      exact ⟨_, rfl, hS2⟩
end Go.Proofs.Ytdgmaodnkbgolaa
end

section
/- Walks: stabilizers of points and of sets of one point, of the program. -/
namespace Go.Proofs.Ytdgmaodnkbgolaa
set_option linter.unusedSimpArgs false
set_option linter.unusedVariables false
open Go.RowKit
attribute [local go_sem ↓] Go.wp_at_zero Go.wp_at_succ

set_option maxHeartbeats 4000000 in
set_option maxRecDepth 100000 in
theorem stab1_c (x g : Nat) (vp : Value) (p : List Int) (w : World) (hb : w.cell? ⟨g, 0, none⟩ = some (.int .i64 x)) (hp : RdI w vp p) (hx : x < p.length) :
    Calls Try.prog 28 #[vp, .pointer (some ⟨g, 0, none⟩)] w (GivesB w (decide (nth p x = (x : Int)))) := by
  have c1 := hp.cell x hx
  have x1 := hp.ixe (x : Int) x rfl hx
  generalize nth p x = y at *
  clear hp
  go_enter Try.func28, Try.ntmps28
  go_wp2_with fail
  go_region_held3 (fun w' => w'.cell? ⟨g, 0, none⟩ = some (.int .i64 x) ∧ w'.cell? (el vp x) = some (.int .i64 y)) (((try dsimp only); (repeat' apply And.intro); all_goals (repeat (first | assumption | exact cell_dr (by assumption) | refine cell_dr ?_ | refine cell_al ?_ | refine cell_sc (by assumption) ?_)))) (fail)
  go_wp2_with fail
  go_ret
  exact ⟨ret_bool (by by_cases e : y = (x : Int) <;> simp [e]), (St.refl w).drew⟩
set_option maxHeartbeats 8000000 in
set_option maxRecDepth 100000 in
theorem StabilizerOf_c (n x : Nat) (v : Value) (us : List Value) (A : List (List Int)) (w : World) (hv : RII w v us A) (hn : 1 ≤ n ∧ n ≤ 32) (hA : Grp n A) (hx : x < n) (hl : A.length ≤ 720) :
    Calls Try.prog 12 #[gv n v, .int .i64 x] w (MakesGrC w n (stA A x) 0) := by
  obtain ⟨a, c, hsh⟩ := hv.1.sl.sh
  rw [hv.2.1] at hsh
  subst hsh
  have hX := (((St.refl w).newboxF 26 #[.int .i64 n, .slice a A.length c]).newboxF 2 #[.int .i64 x]).newboxF 26 #[.int .i64 0, .slice none 0 0]
  simp only [World.size_alloc] at hX
  have b0 := hX.bcell 2 rfl 0 rfl
  have b1 := hX.bcell 2 rfl 1 rfl
  have hcf := callFunc_go Try.func28 (by kernel_rfl) (by kernel_rfl)
  have hmf : ∀ (fn : Fn) (first cap : Array Value) (w : World), (Instr.makeFunc fn first cap).run Try.prog w = .ok (.func fn first cap) w := fun _ _ _ _ => rfl
  have KV := Lib.hid (fun W (h : RII W (.slice a A.length c) us A) => ValidGroup_c n (.slice a A.length c) us A W h hn hA hl)
  have KW := Lib.hid (fun W => within_yes (n := (x : Int)) (a := 0) (b := (n : Int) - 1) (by omega) W)
  have KS := Lib.hid (fun W (h : RII W (.slice a A.length c) us A) (hc : W.cell? ⟨w.heap.size + 1, 0, none⟩ = some (.int .i64 x)) => subgroup_c 28 #[.pointer (some ⟨w.heap.size + 1, 0, none⟩)] (fun p => decide (nth p x = (x : Int))) n (.slice a A.length c) us A W h hl (fun q hq => by rw [(hA.prm q hq).2]; exact hn.2) hcf (fun j W' hW' hj =>
    stab1_c x (w.heap.size + 1) (vat us j) (xat A j) W' (by rw [hW'.below.cell (World.block_lt_of_cell? _ _ hc)]; exact hc) ((h.row j hj).keep hW'.below) (by rw [(hA.prm _ (xat_mem hj)).2]; exact hx)))
  have Hv := Lib.hid hv
  have hN2 := hn.2
  have v1 : IntKind.i64.wrap ((n : Int) - 1) = (n : Int) - 1 := IntWalk.i64_in _ (by omega)
  unfold gv at KV KS ⊢
  clear hv hA hn
  go_enter Try.func12, Try.ntmps12
  go_wp2_with fail
  refine (KV.out _ (hX.oldII Hv.out)).mono ?_
  clear KV
  rintro e w1 ⟨rfl, h1⟩
  have hX1 := hX.call0 h1
  clear hX h1 b0 b1
  have b0 := hX1.bcell 2 rfl 0 rfl
  have b1 := hX1.bcell 2 rfl 1 rfl
  have c0 := hX1.bcell 1 rfl 0 rfl
  go_wp2_with (go_at_call 22; refine (KW.out _).mono ?_; rintro e w2 ⟨rfl, hw⟩; subst hw)
  refine (KS.out _ (hX1.oldII Hv.out) c0).mono ?_
  clear KS
  rintro e w3 ⟨v3, us3, rfl, hl3, h3⟩
  obtain ⟨a3, c3, hv3⟩ := (h3.rd 0 (e := 32) (v := v3) (us := us3) rfl).sl.sh
  subst hv3
  have hB := hX1.call h3
  have e0 := hB.bcell 0 rfl 0 rfl
  have e1 := hB.bcell 0 rfl 1 rfl
  have f0 := hB.bfree 0 rfl
  have h6 := (hB.bstore 0 rfl 0 (.int .i64 n)).bstore 0 rfl 1 (.slice a3 us3.length c3)
  have d0 := h6.bcell 0 rfl 0 rfl
  have d1 := h6.bcell 0 rfl 1 rfl
  have Hl3 := Lib.hid hl3
  clear hX1 hB h3 hl3 b0 b1 c0
  unfold gv
  go_wp2_with fail
  refine bodyPost_ret (v := .tuple #[.agg #[.int .i64 n, .slice a3 us3.length c3], .int .i64 0]) (by simp [results, Try.results12, go_sem, d0, d1]) rfl ?_
  exact ⟨_, us3, rfl, Hl3.out, h6.sub (((List.sublist_cons_self _ _).trans (List.sublist_cons_self _ _)).trans (List.sublist_cons_self _ _))⟩
theorem imL_one (p : List Int) (x : Nat) : imL p [(x : Int)] = [nth p x] := by
  unfold imL
  rw [List.map_cons, List.map_nil, Int.toNat_natCast]
  exact List.perm_singleton.1 (srt_perm _)
set_option maxHeartbeats 4000000 in
set_option maxRecDepth 100000 in
theorem stab2_c (x g : Nat) (vp : Value) (p : List Int) (sa : Option Addr) (sc : Nat) (w : World) (hb : w.cell? ⟨g, 0, none⟩ = some (.slice sa 1 sc)) (hs : RdI w (.slice sa 1 sc) [(x : Int)]) (hp : RdI w vp p) (hx : x < p.length) (hl : p.length ≤ 32) :
    Calls Try.prog 36 #[vp, .pointer (some ⟨g, 0, none⟩)] w (GivesB w (decide (nth p x = (x : Int)))) := by
  have hinc : incB (-1) p.length [(x : Int)] = true := by simp [incB]; omega
  have hSd := (St.refl w).drew
  have KI := Lib.hid (image_c vp (.slice sa 1 sc) p [(x : Int)] w.drew (hSd.oldI hp) (hSd.oldI hs) hinc (by omega))
  rw [imL_one] at KI
  have KE := Lib.hid (fun W va (h : RdI W va [nth p x]) (h2 : RdI W (.slice sa 1 sc) [(x : Int)]) => Equal_c va (.slice sa 1 sc) [nth p x] [(x : Int)] W h h2)
  have Hs := Lib.hid hs
  clear hs hp hinc
  generalize nth p x = y at *
  go_enter Try.func36, Try.ntmps36
  go_wp2_with fail
  go_region_held3 (fun w' => w'.cell? ⟨g, 0, none⟩ = some (.slice sa 1 sc)) (go_keep) (first
    | (go_at_call 37; refine (KE.out _ _ (h5.rdI 0 rfl) ((hSd.oldI Hs.out).keep h5.below)).mono ?_; rintro e2 w7 ⟨rfl, h7⟩; have hS7 := (hSd.call h5).call0 h7; have hb7 := cell_keepG h7.below hb5)
    | (go_at_call 38; refine KI.out.mono ?_; rintro e2 w5 ⟨v5, rfl, h5⟩; have hb5 := cell_keepG h5.below (cell_dr hb)))
  go_wp2_with fail
  go_ret
  exact ⟨ret_bool (by by_cases e : y = (x : Int) <;> simp [e]), hS7.out⟩
set_option maxHeartbeats 8000000 in
set_option maxRecDepth 100000 in
theorem SetStabilizer_c (n x : Nat) (v vs : Value) (us : List Value) (A : List (List Int)) (w : World) (hv : RII w v us A) (hs : RdI w vs [(x : Int)]) (hn : 1 ≤ n ∧ n ≤ 32) (hA : Grp n A) (hx : x < n) (hl : A.length ≤ 720) :
    Calls Try.prog 14 #[gv n v, vs] w (MakesGrC w n (stA A x) 0) := by
  obtain ⟨a, c, hsh⟩ := hv.1.sl.sh
  rw [hv.2.1] at hsh
  subst hsh
  obtain ⟨sa, sc, hsh⟩ := hs.sl.sh
  rw [iv_len, List.length_singleton] at hsh
  subst hsh
  have hX := (((St.refl w).newboxF 26 #[.int .i64 n, .slice a A.length c]).newboxF 32 #[.slice sa 1 sc]).newboxF 26 #[.int .i64 0, .slice none 0 0]
  simp only [World.size_alloc] at hX
  have b0 := hX.bcell 2 rfl 0 rfl
  have b1 := hX.bcell 2 rfl 1 rfl
  have hcf := callFunc_go Try.func36 (by kernel_rfl) (by kernel_rfl)
  have hmf : ∀ (fn : Fn) (first cap : Array Value) (w : World), (Instr.makeFunc fn first cap).run Try.prog w = .ok (.func fn first cap) w := fun _ _ _ _ => rfl
  have KV := Lib.hid (fun W (h : RII W (.slice a A.length c) us A) => ValidGroup_c n (.slice a A.length c) us A W h hn hA hl)
  have KW := Lib.hid (fun W (h : RdI W (.slice sa 1 sc) [(x : Int)]) => ValidSet_c (.slice sa 1 sc) [(x : Int)] (n : Int) W h)
  have hvs : validSetB [(x : Int)] (n : Int) = true := by
    have := hn.2
    simp [validSetB, incB, inB]; omega
  rw [hvs] at KW
  have KS := Lib.hid (fun W (h : RII W (.slice a A.length c) us A) (h2 : RdI W (.slice sa 1 sc) [(x : Int)]) (hc : W.cell? ⟨w.heap.size + 1, 0, none⟩ = some (.slice sa 1 sc)) => subgroup_c 36 #[.pointer (some ⟨w.heap.size + 1, 0, none⟩)] (fun p => decide (nth p x = (x : Int))) n (.slice a A.length c) us A W h hl (fun q hq => by rw [(hA.prm q hq).2]; exact hn.2) hcf (fun j W' hW' hj =>
    stab2_c x (w.heap.size + 1) (vat us j) (xat A j) sa sc W' (by rw [hW'.below.cell (World.block_lt_of_cell? _ _ hc)]; exact hc) (h2.keep hW'.below) ((h.row j hj).keep hW'.below) (by rw [(hA.prm _ (xat_mem hj)).2]; exact hx) (by rw [(hA.prm _ (xat_mem hj)).2]; exact hn.2)))
  have Hv := Lib.hid hv
  have Hs := Lib.hid hs
  have hN2 := hn.2
  unfold gv at KV KS ⊢
  clear hv hA hn hs hvs
  go_enter Try.func14, Try.ntmps14
  go_wp2_with fail
  refine (KV.out _ (hX.oldII Hv.out)).mono ?_
  clear KV
  rintro e w1 ⟨rfl, h1⟩
  have hX1 := hX.call0 h1
  clear hX h1 b0 b1
  have b0 := hX1.bcell 2 rfl 0 rfl
  have b1 := hX1.bcell 2 rfl 1 rfl
  have c0 := hX1.bcell 1 rfl 0 rfl
  go_wp2_with (go_at_call 35; refine (KW.out _ (hX1.oldI Hs.out)).mono ?_; rintro e w2 ⟨rfl, hw⟩; subst hw)
  refine (KS.out _ (hX1.oldII Hv.out) (hX1.oldI Hs.out) c0).mono ?_
  clear KS
  rintro e w3 ⟨v3, us3, rfl, hl3, h3⟩
  obtain ⟨a3, c3, hv3⟩ := (h3.rd 0 (e := 32) (v := v3) (us := us3) rfl).sl.sh
  subst hv3
  have hB := hX1.call h3
  have e0 := hB.bcell 0 rfl 0 rfl
  have e1 := hB.bcell 0 rfl 1 rfl
  have f0 := hB.bfree 0 rfl
  have h6 := (hB.bstore 0 rfl 0 (.int .i64 n)).bstore 0 rfl 1 (.slice a3 us3.length c3)
  have d0 := h6.bcell 0 rfl 0 rfl
  have d1 := h6.bcell 0 rfl 1 rfl
  have Hl3 := Lib.hid hl3
  clear hX1 hB h3 hl3 b0 b1 c0
  unfold gv
  go_wp2_with fail
  refine bodyPost_ret (v := .tuple #[.agg #[.int .i64 n, .slice a3 us3.length c3], .int .i64 0]) (by simp [results, Try.results14, go_sem, d0, d1]) rfl ?_
  exact ⟨_, us3, rfl, Hl3.out, h6.sub (((List.sublist_cons_self _ _).trans (List.sublist_cons_self _ _)).trans (List.sublist_cons_self _ _))⟩
end Go.Proofs.Ytdgmaodnkbgolaa
end

section
/- Walks: elements of a group, of the program. -/
namespace Go.Proofs.Ytdgmaodnkbgolaa
set_option linter.unusedSimpArgs false
set_option linter.unusedVariables false
open Go.RowKit
attribute [local go_sem ↓] Go.wp_at_zero Go.wp_at_succ

set_option maxHeartbeats 4000000 in
set_option maxRecDepth 100000 in
theorem hasElement_c (n : Nat) (v vp : Value) (us : List Value) (A : List (List Int)) (p : List Int) (w : World) (hv : RII w v us A) (hp : RdI w vp p) (hA : StrA A) (hl : A.length ≤ 720) :
    Calls Try.prog 31 #[gv n v, vp] w (GivesB w (decide (p ∈ A))) := by
  obtain ⟨a, c, hsh⟩ := hv.1.sl.sh
  rw [hv.2.1] at hsh
  subst hsh
  have hS0 := (St.refl w).newboxF 26 #[.int .i64 n, .slice a A.length c]
  have b1 := hS0.bcell 0 rfl 1 rfl
  have KB := Lib.hid (BinSearch_c (.slice a A.length c) vp us A p _ (hS0.oldII hv) (hS0.oldI hp) (by omega) hA)
  have hout := hS0.out
  unfold gv
  clear hv hp hA
  go_enter Try.func31, Try.ntmps31
  go_wp2_with fail
  refine KB.out.mono ?_
  clear KB
  rintro e w1 ⟨x, rfl, hw⟩
  subst hw
  go_wp2_with fail
  go_ret
  exact ⟨rfl, hout⟩
set_option maxHeartbeats 4000000 in
set_option maxRecDepth 100000 in
theorem GroupHas_c (n : Nat) (v vp : Value) (us : List Value) (A : List (List Int)) (p : List Int) (w : World) (hv : RII w v us A) (hp : RdI w vp p) (hn : 1 ≤ n ∧ n ≤ 32) (hA : Grp n A) (hl : A.length ≤ 720) (hm : p ∈ A) :
    Calls Try.prog 16 #[gv n v, vp] w (GivesB w true) := by
  obtain ⟨a, c, hsh⟩ := hv.1.sl.sh
  rw [hv.2.1] at hsh
  subst hsh
  have hS0 := (St.refl w).newboxF 26 #[.int .i64 n, .slice a A.length c]
  have b0 := hS0.bcell 0 rfl 0 rfl
  have b1 := hS0.bcell 0 rfl 1 rfl
  have KV := Lib.hid (fun W (h : RII W (.slice a A.length c) us A) => ValidGroup_c n (.slice a A.length c) us A W h hn hA hl)
  have KH := Lib.hid (fun W (h : RII W (.slice a A.length c) us A) (h2 : RdI W vp p) => (show Calls Try.prog 31 #[gv n (.slice a A.length c), vp] W (GivesB W true) from by
    have := hasElement_c n (.slice a A.length c) vp us A p W h h2 hA.str hl
    rwa [decide_eq_true hm] at this))
  have Hv := Lib.hid hv
  have Hp := Lib.hid hp
  unfold gv at KV KH ⊢
  clear hv hp hA hm
  go_enter Try.func16, Try.ntmps16
  go_wp2_with fail
  refine (KV.out _ (hS0.oldII Hv.out)).mono ?_
  clear KV
  rintro e w1 ⟨rfl, h1⟩
  have hS1 := hS0.call0 h1
  clear hS0 h1 b0 b1
  have b0 := hS1.bcell 0 rfl 0 rfl
  have b1 := hS1.bcell 0 rfl 1 rfl
  go_wp2_with fail
  refine (KH.out _ (hS1.oldII Hv.out) (hS1.oldI Hp.out)).mono ?_
  clear KH
  rintro e w2 ⟨rfl, h2⟩
  have hS2 := hS1.call0 h2
  clear hS1 h2 b0 b1
  go_wp2_with fail
  go_ret
  exact ⟨rfl, hS2.out⟩
end Go.Proofs.Ytdgmaodnkbgolaa
end

section
/- Walks: cosets of a subgroup, of the program. -/
namespace Go.Proofs.Ytdgmaodnkbgolaa
set_option linter.unusedSimpArgs false
set_option linter.unusedVariables false
open Go.RowKit Go.Maps
attribute [local go_sem ↓] Go.wp_at_zero Go.wp_at_succ

/-- representatives of its own, and a code -/
def MakesCos (w : World) (A H : List (List Int)) (e : Ending) (w' : World) : Prop := ∃ v us C, e = .returned (.tuple #[v, .int .i64 0]) ∧ us.length = C.length ∧ (∀ c ∈ C, c ∈ A) ∧ A.length = C.length * H.length ∧ St w.heap.size w w' (own2 v us C)
set_option maxHeartbeats 4000000 in
set_option maxRecDepth 100000 in
theorem cos1_c (n g : Nat) (a : Option Addr) (c : Nat) (vp : Value) (us : List Value) (A : List (List Int)) (p : List Int) (w : World) (hb0 : w.cell? ⟨g, 0, none⟩ = some (.int .i64 n)) (hb1 : w.cell? ⟨g, 1, none⟩ = some (.slice a A.length c)) (hv : RII w (.slice a A.length c) us A) (hp : RdI w vp p) (hA : StrA A) (hl : A.length ≤ 720) (hm : p ∈ A) :
    Calls Try.prog 30 #[vp, .pointer (some ⟨g, 0, none⟩)] w (GivesB w false) := by
  have KE := Lib.hid (hasElement_c n (.slice a A.length c) vp us A p w hv hp hA hl)
  rw [decide_eq_true hm] at KE
  unfold gv at KE
  clear hv hp hA hm
  go_enter Try.func30, Try.ntmps30
  go_wp2_with fail
  refine KE.out.mono ?_
  clear KE
  rintro e w1 ⟨rfl, h1⟩
  go_wp2_with fail
  go_ret
  exact ⟨rfl, h1⟩
/-- the coset of a, its first j elements behind E -/
def cosK (E H : List (List Int)) (a : List Int) (j : Nat) : List (List Int) := E ++ (H.take j).map fun s => cmpL s a
theorem cosK_succ {E H : List (List Int)} {a : List Int} {j : Nat} (h : j < H.length) : cosK E H a (j + 1) = cosK E H a j ++ [cmpL (xat H j) a] := by
  unfold cosK; rw [take_xat h]; simp
theorem cosK_all (C H : List (List Int)) (a : List Int) : cosK (C.flatMap (cosL H)) H a H.length = (C ++ [a]).flatMap (cosL H) := by
  unfold cosK cosL; rw [List.take_length, List.flatMap_append]; simp
theorem cosK_len (E H : List (List Int)) (a : List Int) (j : Nat) : (cosK E H a j).length ≤ E.length + H.length := by
  unfold cosK; rw [List.length_append, List.length_map, List.length_take]; omega
theorem CoI.le {n t : Nat} {A H C : List (List Int)} (h : CoI n A H C t) (hA : Grp n A) (hs : ∀ s ∈ H, s ∈ A) : (C.flatMap (cosL H)).length ≤ A.length ∧ ∀ p ∈ C.flatMap (cosL H), p ∈ A := by
  have hm : ∀ p ∈ C.flatMap (cosL H), p ∈ A := fun p hp => by
    obtain ⟨c, hc, hpc⟩ := List.mem_flatMap.1 hp
    obtain ⟨s, hs', rfl⟩ := List.mem_map.1 hpc
    exact hA.mul _ _ (hs s hs') (h.sub c hc)
  exact ⟨h.nd.length_le_of_subset hm, hm⟩
theorem CoI.cl {n t : Nat} {A H C : List (List Int)} (h : CoI n A H C t) (hA : Grp n A) (hH : Grp n H) (hs : ∀ s ∈ H, s ∈ A) : C.length ≤ A.length := by
  have h1 := (h.le hA hs).1
  rw [cos_len] at h1
  have h2 := Nat.mul_le_mul_left C.length (show 1 ≤ H.length from hH.pos)
  omega
set_option maxHeartbeats 32000000 in
set_option maxRecDepth 100000 in
theorem CosetsOf_c (n : Nat) (v vh : Value) (us uh : List Value) (A H : List (List Int)) (w : World) (hv : RII w v us A) (hh : RII w vh uh H) (hn : 1 ≤ n ∧ n ≤ 32) (hA : Grp n A) (hH : Grp n H) (hs : ∀ s ∈ H, s ∈ A) (hl : A.length ≤ 720) :
    Calls Try.prog 13 #[gv n v, gv n vh] w (MakesCos w A H) := by
  obtain ⟨a, c, hsh⟩ := hv.1.sl.sh
  rw [hv.2.1] at hsh
  subst hsh
  obtain ⟨ah, ch, hsh⟩ := hh.1.sl.sh
  rw [hh.2.1] at hsh
  subst hsh
  have hHl : H.length ≤ 720 := Nat.le_trans (hH.str.nodup.length_le_of_subset hs) hl
  have hX := ((St.refl w).newboxF 26 #[.int .i64 n, .slice a A.length c]).newboxF 26 #[.int .i64 n, .slice ah H.length ch]
  simp only [World.size_alloc] at hX
  have b0 := hX.bcell 1 rfl 0 rfl
  have b1 := hX.bcell 1 rfl 1 rfl
  have c0 := hX.bcell 0 rfl 0 rfl
  have c1 := hX.bcell 0 rfl 1 rfl
  have hcf := callFunc_go Try.func30 (by kernel_rfl) (by kernel_rfl)
  have hmf : ∀ (fn : Fn) (first cap : Array Value) (w : World), (Instr.makeFunc fn first cap).run Try.prog w = .ok (.func fn first cap) w := fun _ _ _ _ => rfl
  have hmm := @run_makeMap Try.prog
  have KV := Lib.hid (fun W (h : RII W (.slice a A.length c) us A) => ValidGroup_c n (.slice a A.length c) us A W h hn hA hl)
  have KH := Lib.hid (fun W (h : RII W (.slice ah H.length ch) uh H) => ValidGroup_c n (.slice ah H.length ch) uh H W h hn hH hHl)
  have hany : anyR (fun _ => false) H = false := by unfold anyR; simp
  have KC := Lib.hid (fun W (h : RII W (.slice a A.length c) us A) (h2 : RII W (.slice ah H.length ch) uh H) (d0 : W.cell? ⟨w.heap.size, 0, none⟩ = some (.int .i64 n)) (d1 : W.cell? ⟨w.heap.size, 1, none⟩ = some (.slice a A.length c)) =>
    ContainsFuncR_c 30 #[.pointer (some ⟨w.heap.size, 0, none⟩)] (fun _ => false) (.slice ah H.length ch) uh H W h2 hcf (fun j W' hW' hj =>
      cos1_c n w.heap.size a c (vat uh j) us A (xat H j) W' (cell_keepG hW'.below d0) (cell_keepG hW'.below d1) (h.keep hW'.below) ((h2.row j hj).keep hW'.below) hA.str hl (hs _ (xat_mem hj))))
  rw [hany] at KC
  have Hv := Lib.hid hv
  have Hh := Lib.hid hh
  have HA := Lib.hid hA
  have HH := Lib.hid hH
  have Hs := Lib.hid hs
  have hN2 := hn.2
  have hN1 := hn.1
  have f1 : ((n : Int) != (n : Int)) = false := ne_f rfl
  unfold gv at KV KH ⊢
  clear hv hh hA hH hs hn hany
  go_enter Try.func13, Try.ntmps13
  go_wp2_with fail
  refine (KV.out _ (hX.oldII Hv.out)).mono ?_
  clear KV
  rintro e w1 ⟨rfl, h1⟩
  have hX1 := hX.call0 h1
  clear hX h1 b0 b1 c0 c1
  have b0 := hX1.bcell 1 rfl 0 rfl
  have b1 := hX1.bcell 1 rfl 1 rfl
  have c0 := hX1.bcell 0 rfl 0 rfl
  have c1 := hX1.bcell 0 rfl 1 rfl
  go_wp2_with fail
  refine (KH.out _ (hX1.oldII Hh.out)).mono ?_
  clear KH
  rintro e w2 ⟨rfl, h2⟩
  have hX2 := hX1.call0 h2
  clear hX1 h2 b0 b1 c0 c1
  have b0 := hX2.bcell 1 rfl 0 rfl
  have b1 := hX2.bcell 1 rfl 1 rfl
  have c0 := hX2.bcell 0 rfl 0 rfl
  have c1 := hX2.bcell 0 rfl 1 rfl
  go_wp2_with fail
  refine (KC.out _ (hX2.oldII Hv.out) (hX2.oldII Hh.out) b0 b1).mono ?_
  clear KC
  rintro e w3 ⟨rfl, h3⟩
  have hX3 := (hX2.call0 h3).newnil 32
  have hX4 : St w.heap.size w w3 (box 26 (w.heap.size + 1) [.int .i64 n, .slice ah H.length ch] :: box 26 w.heap.size [.int .i64 n, .slice a A.length c] :: own2 (.slice none 0 0) [] []) := hX3
  clear hX2 hX3 h3 b0 b1 c0 c1
  have hlow := Lib.hid hX4.base
  have hap := Lib.hid (fun x (hx : x ∈ box 26 (w.heap.size + 1) [.int .i64 n, .slice ah H.length ch] :: box 26 w.heap.size [.int .i64 n, .slice a A.length c] :: own2 (.slice none 0 0) [] []) => (show bk x.v ≠ some w3.heap.size from fun e => by
    have := ((hX4.ok x hx).lt e).2
    omega))
  have hM := hX4.alloc' (.map #[] 0)
  have hM0 : SM w w3.heap.size 0 [] _ (box 26 (w.heap.size + 1) [.int .i64 n, .slice ah H.length ch] :: box 26 w.heap.size [.int .i64 n, .slice a A.length c] :: own2 (.slice none 0 0) [] []) := ⟨hM, World.ownsMap_made (H := Unit) w3 Try.prog 9 (plainElem (H := Unit) Try.prog 4), hlow.out, hap.out⟩
  have b0 := hM.bcell 1 rfl 0 rfl
  have b1 := hM.bcell 1 rfl 1 rfl
  clear hX4 hM hlow hap
  go_wp2_with fail
  clear b0 b1
  obtain ⟨b, hb⟩ : ∃ b, w3.heap.size = b := ⟨_, rfl⟩
  rw [hb] at hM0 ⊢
  clear hb
  have HC0 : Hid (CoI n A H [] 0 ∧ ([] : List Value).length = ([] : List (List Int)).length) := Lib.hid ⟨⟨fun c hc => by simp at hc, by simp, fun j hj => by omega⟩, rfl⟩
  have hix := Hv.out.ixe
  have hixh := Hh.out.ixe
  go_loopw [35, 7, 9, 11] (fun ti o _ _ wr => ∃ (t m : Nat) (uo : List Value) (C : List (List Int)), ti = .int .i64 t ∧ t ≤ A.length ∧ Hid (CoI n A H C t ∧ uo.length = C.length) ∧ m ≤ (C.flatMap (cosL H)).length ∧ SM w b m (kyA (C.flatMap (cosL H))) wr (box 26 (w.heap.size + 1) [.int .i64 n, .slice ah H.length ch] :: box 26 w.heap.size [.int .i64 n, .slice a A.length c] :: own2 o uo C)) (fun ti _ _ _ _ => A.length - (intOf ti).toNat)
  case atStart => exact ⟨0, 0, [], [], rfl, by omega, HC0, by simp, hM0⟩
  case round =>
    clear hM0 HC0
    obtain ⟨t, m, uo, C, rfl, ht, hI, hm, hM⟩ := hrel
    have hCl := Lib.hid (hI.out.1.cl HA.out HH.out Hs.out)
    have hCf := hI.out.1.le HA.out Hs.out
    by_cases htA : t < A.length
    · have hti : (t : Int) < (A.length : Int) := by omega
      have xt := hix (t : Int) t rfl htA
      have ct := (hM.st.oldII Hv.out).cell t htA
      have hpp := HA.out.prm _ (xat_mem htA)
      have hpb := hpp.byt hN2
      have HBE := Lib.hid (fun q (hq : q ∈ C.flatMap (cosL H)) => (HA.out.prm q (hCf.2 q hq)).byt hN2)
      have KK := Lib.hid (keyOf_c (vat us t) (xat A t) wr ((hM.st.oldII Hv.out).row t htA) hpb (by rw [hpp.2]; omega) (by rw [hpp.2]; omega))
      have hkey : Go.keyOf Try.prog 9 (.string (kyS (xat A t))) = some (kyL (xat A t)) := Go.WideMaps.keyOf_string_mk Try.und_str (by rw [kyS_size, hpp.2]; unfold maxLen; omega)
      have hz : ∀ W, (zeroValue 4).run Try.prog W = .ok (.bool false) W := fun W => by kernel_rfl
      have Hst := Lib.hid (And.intro (fun hm => hI.out.1.old hm) (fun hm => hI.out.1.new HA.out HH.out Hs.out htA hm))
      have hul := Lib.hid hI.out.2
      have Hpp := Lib.hid hpp
      have Hpb := Lib.hid hpb
      have Hrow := Lib.hid (fun W (h : RII W (.slice a A.length c) us A) => h.row t htA)
      have HcA := Lib.hid (fun s (hs : s ∈ H) => HA.out.mul _ _ (Hs.out s hs) (xat_mem htA))
      clear hpp hpb hI
      generalize xat A t = p at *
      go_wp2_with fail
      refine KK.out.mono ?_
      clear KK ct
      rintro e5 w5 ⟨rfl, h5⟩
      have hM5 := hM.call0 h5
      have hown := hM5.own
      clear hM h5
      by_cases hmem : p ∈ C.flatMap (cosL H)
      · have hat := setT_yes (kyL_key p) ((kyA_mem Hpb.out HBE.out).2 hmem)
        have HB := Lib.hid (Hst.out.1 hmem)
        clear hmem Hst
        go_wp2_with (at_lookup; refine wpList_lookup_own_bool _ rfl _ _ 57 rfl 9 4 Try.lawS Try.underlying57 Try.underlying4 (hz _) b _ _ rfl hown _ _ rfl hkey true hat ?_)
        go_roundw
        case rel => exact ⟨t + 1, m, uo, C, by go_num, by omega, Lib.hid ⟨HB.out, hul.out⟩, hm, hM5⟩
        case measure => simp [intOf]; omega
      · have hat := setT_no (kyL_key p) (fun h => hmem ((kyA_mem Hpb.out HBE.out).1 h))
        have HB := Lib.hid (Hst.out.2 hmem)
        have hC1 := Lib.hid ((Hst.out.2 hmem).cl HA.out HH.out Hs.out)
        have hC2 := (Hst.out.2 hmem).le HA.out Hs.out
        rw [← cosK_all] at hC2
        have HC2 := Lib.hid hC2
        clear hmem Hst hC2
        have c0 := hM5.st.bcell 0 rfl 0 rfl
        have c1 := hM5.st.bcell 0 rfl 1 rfl
        have hM6 : SM w b m (kyA (cosK (C.flatMap (cosL H)) H p 0)) w5 (box 26 (w.heap.size + 1) [.int .i64 n, .slice ah H.length ch] :: box 26 w.heap.size [.int .i64 n, .slice a A.length c] :: own2 u7 uo C) := by
          rw [show cosK (C.flatMap (cosL H)) H p 0 = C.flatMap (cosL H) by simp [cosK]]; exact hM5
        have hm6 : m ≤ (cosK (C.flatMap (cosL H)) H p 0).length := by
          rw [show cosK (C.flatMap (cosL H)) H p 0 = C.flatMap (cosL H) by simp [cosK]]; exact hm
        have HBall := Lib.hid (cosK_all C H p)
        have hEl : (C.flatMap (cosL H)).length ≤ 720 := by omega
        clear hCf
        go_wp2_with (at_lookup; refine wpList_lookup_own_bool _ rfl _ _ 57 rfl 9 4 Try.lawS Try.underlying57 Try.underlying4 (hz _) b _ _ rfl hown _ _ rfl hkey false hat ?_)
        clear hM5 hown hat hm c0 c1 hkey
        generalize C.flatMap (cosL H) = E at *
        go_loopw [46, 11] (fun ji _ wr => ∃ j m : Nat, ji = .int .i64 j ∧ j ≤ H.length ∧ m ≤ (cosK E H p j).length ∧ SM w b m (kyA (cosK E H p j)) wr (box 26 (w.heap.size + 1) [.int .i64 n, .slice ah H.length ch] :: box 26 w.heap.size [.int .i64 n, .slice a A.length c] :: own2 u7 uo C)) (fun ji _ _ => H.length - (intOf ji).toNat)
        case atStart => exact ⟨0, m, rfl, by omega, hm6, hM6⟩
        case round =>
          clear hM6 hm6
          obtain ⟨j, m, rfl, hj, hm, hM⟩ := hrel
          have hkl := cosK_len E H p j
          by_cases hjH : j < H.length
          · have hji : (j : Int) < (H.length : Int) := by omega
            have xj := hixh (j : Int) j rfl hjH
            have cj := (hM.st.oldII Hh.out).cell j hjH
            have hsp := HH.out.prm _ (xat_mem hjH)
            have KC := Lib.hid (compose_c (vat uh j) (vat us t) (xat H j) p wr ((hM.st.oldII Hh.out).row j hjH) (Hrow.out _ (hM.st.oldII Hv.out)) hsp.1 (by rw [hsp.2, Hpp.out.2]) (by rw [hsp.2]; omega))
            have hqq := hsp.cmp Hpp.out
            have hqb := hqq.byt hN2
            have Hst := Lib.hid (cosK_succ (E := E) (a := p) hjH)
            generalize cmpL (xat H j) p = q at *
            have KK := Lib.hid (fun W v (h : RdI W v q) => keyOf_c v q W h hqb (by rw [hqq.2]; omega) (by rw [hqq.2]; omega))
            have hkey : Go.keyOf Try.prog 9 (.string (kyS q)) = some (kyL q) := Go.WideMaps.keyOf_string_mk Try.und_str (by rw [kyS_size, hqq.2]; unfold maxLen; omega)
            have hqlen := Lib.hid hqq.2
            have hcap := Lib.hid (show m < maxLen by unfold maxLen; omega)
            clear hsp hqq hqb
            go_wp2_with fail
            refine KC.out.mono ?_
            clear KC
            rintro e7 w7 ⟨vp, rfl, h7⟩
            have hM7 := hM.call h7
            have r7 := h7.rdI 0 rfl
            obtain ⟨ap, cp, hsh⟩ := r7.sl.sh
            rw [iv_len, hqlen.out] at hsh
            subst hsh
            clear hM h7 cj
            go_wp2_with fail
            refine (KK.out _ _ r7).mono ?_
            clear KK
            rintro e8 w8 ⟨rfl, h8⟩
            have hM8 := (hM7.call0 h8).sub (List.sublist_append_left _ _)
            have hown := hM8.own
            clear hM7 h8 r7
            go_wp2_with (at_mapUpdate; refine wpList_mapUpdate_own _ rfl _ _ _ 57 rfl 9 4 Try.lawS Try.underlying57 (plainElem (H := Unit) Try.prog 4) b _ _ rfl hown hcap.out _ _ _ rfl rfl hkey _ [] (plainElem_bool Try.underlying4 true) ?_; intro w9 hM9 hg9; have hM10 := hM8.turn (ks' := kyA (cosK E H p j) ++ [kyL q]) hg9 (n' := m + 1) (by rw [setT_snoc]; exact hM9))
            have hke : kyA (cosK E H p j) ++ [kyL q] = kyA (cosK E H p (j + 1)) := by rw [Hst.out]; simp [kyA]
            rw [hke] at hM10
            go_roundw
            case rel => exact ⟨j + 1, m + 1, by go_num, by omega, by rw [Hst.out, List.length_append, List.length_singleton]; omega, hM10⟩
            case measure => simp [intOf]; omega
          · obtain rfl : j = H.length := by omega
            rw [HBall.out] at hM hm
            have KP := Lib.hid (Clone_c (vat us t) p wr (Hrow.out _ (hM.st.oldII Hv.out)) (by rw [Hpp.out.2]; omega))
            have hN := Lib.hid (show uo.length < 4294967296 by have h1 := hCl.out; have h2 := hul.out; omega)
            go_wp2_with fail
            refine KP.out.mono ?_
            clear KP
            rintro e9 w9 ⟨vp, rfl, h9⟩
            obtain ⟨ap, cp, hsh⟩ := (h9.rdI 0 rfl).sl.sh
            rw [iv_len, Hpp.out.2] at hsh
            subst hsh
            have hM9 := hM.call h9
            clear hM h9
            go_wp2_with (at_builtin; refine appIIM hM9 2 rfl hN.out rfl _ _ rfl rfl _ rfl (by first | rfl | simp [Act.eval, World.size_alloc]) ?_; intro v11 w11 hM11)
            have hM12 : SM w b m (kyA ((C ++ [p]).flatMap (cosL H))) w11 (box 26 (w.heap.size + 1) [.int .i64 n, .slice ah H.length ch] :: box 26 w.heap.size [.int .i64 n, .slice a A.length c] :: own2 v11 (uo ++ [.slice ap n cp]) (C ++ [p])) := by
              have := hM11
              rw [List.cons_append, List.cons_append, List.set_cons_succ, List.set_cons_succ, own2_snocM hul.out] at this
              exact this
            have hul2 := Lib.hid (show (uo ++ [Value.slice ap n cp]).length = (C ++ [p]).length by rw [List.length_append, List.length_append, hul.out]; rfl)
            clear hM9 hM11
            go_roundw
            case rel => exact ⟨t + 1, m, _, C ++ [p], by go_num, by omega, Lib.hid ⟨HB.out, hul2.out⟩, hm, hM12⟩
            case measure => simp [intOf]; omega
    · obtain rfl : t = A.length := by omega
      have hfin := Lib.hid (hI.out.1.fin HA.out Hs.out)
      have hsub := Lib.hid hI.out.1.sub
      have hul := Lib.hid hI.out.2
      have hR := hM.st.sub (L' := own2 u7 uo C) ((List.sublist_cons_self _ _).trans (List.sublist_cons_self _ _))
      clear hI hM hCf hm
      go_wp2_with fail
      go_ret2
      exact ⟨_, uo, C, rfl, hul.out, hsub.out, hfin.out, hR⟩
end Go.Proofs.Ytdgmaodnkbgolaa
end

section
/- Walks: v8Long, v8At of the laws. -/
namespace Go.Proofs.Ytdgmaodnkbgolaa
set_option linter.unusedSimpArgs false
set_option linter.unusedVariables false
open Go.RowKit

set_option maxHeartbeats 2000000 in
theorem v8Long_c (va vb : Value) (xs bs : List UInt8) (w : World) (ha : RdB w va xs) (hb : RdB w vb bs) :
    Calls Try.prog 4 #[va, vb] w fun e w' => e = .returned (.bool (decide (1048576 < (xs.length : Int)) || decide (1048576 < (bs.length : Int)))) ∧ w = w' := by
  have hla := ha.len
  have hlb := hb.len
  have hea := ha.le
  have heb := hb.le
  by_cases h1 : 1048576 < (xs.length : Int)
  · rw [decide_eq_true h1, Bool.true_or]
    go_enter Try.func4, Try.ntmps4
    go_wp2_with fail
    go_ret
    exact ⟨rfl, rfl⟩
  · rw [decide_eq_false h1, Bool.false_or]
    by_cases h2 : 1048576 < (bs.length : Int)
    · rw [decide_eq_true h2]
      go_enter Try.func4, Try.ntmps4
      go_wp2_with fail
      go_ret
      exact ⟨by simp [h1, h2], rfl⟩
    · rw [decide_eq_false h2]
      go_enter Try.func4, Try.ntmps4
      go_wp2_with fail
      go_ret
      exact ⟨by simp [h1, h2], rfl⟩
set_option maxHeartbeats 2000000 in
theorem v8At_c (v : Value) (bs : List UInt8) (k : Nat) (n : Int) (w : World) (hb : RdB w v bs) (hk : k ≤ 1000000) :
    Calls Try.prog 10 #[v, .int .i64 k, .int .i64 n] w (AnInt 0 (max (n - 1) 0) fun w' => w = w') := by
  have hln := hb.len
  have hle := hb.le
  by_cases h1 : n ≤ 1
  · go_enter Try.func10, Try.ntmps10
    go_wp2_with fail
    go_ret
    exact ⟨0, by omega, by omega, rfl, rfl⟩
  · by_cases h2 : k < bs.length
    · have hc := hb.cell k h2
      have hx := hb.ix .i64 (k : Int) (by omega) (by omega)
      rw [Int.toNat_natCast] at hx
      obtain ⟨b0, b1⟩ := bnth_bd bs k
      go_enter Try.func10, Try.ntmps10
      go_wp2_with fail
      go_ret
      have := Int.emod_nonneg (bnth bs k) (show n ≠ 0 by omega)
      have := Int.emod_lt_of_pos (bnth bs k) (show 0 < n by omega)
      exact ⟨_, by omega, by omega, rfl, rfl⟩
    · go_enter Try.func10, Try.ntmps10
      go_wp2_with fail
      go_ret
      exact ⟨0, by omega, by omega, rfl, rfl⟩
end Go.Proofs.Ytdgmaodnkbgolaa
end
