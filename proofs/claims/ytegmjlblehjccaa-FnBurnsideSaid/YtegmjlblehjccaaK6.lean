/- The texts of this claim, run 6: Srt Pm1 Pm3 Mk Ds0 Ds1 Gc Gb Gd Sss Sq PLat Bo Pm6. -/
import Derived.Test.YtegmjlblehjccaaK1
import Derived.Test.YtegmjlblehjccaaK3
import Derived.Test.YtegmjlblehjccaaK4
import Derived.Test.YtegmjlblehjccaaK5
import Derived.Shelf.SortM.Plain
import Derived.Shelf.SortM.SortNone
import Derived.Sort.OwnSortedInts
import Derived.Deep.RegionHeld3
import Derived.Deep.DrawnRows
import Derived.Shelf.SlSortCmp.NoneTotal
section
/- slices.Sort at []int64: a row that a call owns, sorted. -/
namespace Go.Proofs.Ytegmjlblehjccaa
set_option linter.unusedSimpArgs false
set_option linter.unusedVariables false
open Go.RowKit

def Try.mSort_ren : Go.Shelf.Ren := ⟨fun | 5 => 57 | 8 => 74 | 7 => 75 | 19 => 87 | 20 => 88 | 10 => 89 | 11 => 90 | 12 => 91 | 13 => 92 | 14 => 93 | 15 => 94 | 16 => 95 | 17 => 96 | 18 => 97 | 30 => 103 | 31 => 99 | 32 => 100 | 33 => 104 | 34 => 105 | 35 => 78 | 40 => 107 | n => n, fun | 23 => 30 | 25 => 2 | 3 => 3 | 32 => 29 | 22 => 30 | 0 => 0 | 44 => 107 | 46 => 72 | 4 => 4 | 36 => 101 | 35 => 100 | 41 => 81 | 5 => 5 | 9 => 9 | 53 => 115 | 57 => 119 | 63 => 123 | 64 => 124 | n => n, fun | n => n⟩
theorem Try.mSort : Go.Proofs.SlLaysM.n5 Try.prog Try.mSort_ren := {
  mixed := by kernel_rfl
  f5 := ⟨Try.f57.name, by decide, Try.func57.trans (congrArg some (by kernel_rfl))⟩
  f7 := ⟨Try.f75.name, by decide, Try.func75.trans (congrArg some (by kernel_rfl))⟩
  f8 := Try.func74.trans (congrArg some (by kernel_rfl))
  f10 := ⟨Try.f89.name, by decide, Try.func89.trans (congrArg some (by kernel_rfl))⟩
  f11 := ⟨Try.f90.name, by decide, Try.func90.trans (congrArg some (by kernel_rfl))⟩
  f12 := ⟨Try.f91.name, by decide, Try.func91.trans (congrArg some (by kernel_rfl))⟩
  f13 := ⟨Try.f92.name, by decide, Try.func92.trans (congrArg some (by kernel_rfl))⟩
  f14 := ⟨Try.f93.name, by decide, Try.func93.trans (congrArg some (by kernel_rfl))⟩
  f15 := ⟨Try.f94.name, by decide, Try.func94.trans (congrArg some (by kernel_rfl))⟩
  f16 := ⟨Try.f95.name, by decide, Try.func95.trans (congrArg some (by kernel_rfl))⟩
  f17 := ⟨Try.f96.name, by decide, Try.func96.trans (congrArg some (by kernel_rfl))⟩
  f18 := ⟨Try.f97.name, by decide, Try.func97.trans (congrArg some (by kernel_rfl))⟩
  f19 := Try.func87.trans (congrArg some (by kernel_rfl))
  f20 := Try.func88.trans (congrArg some (by kernel_rfl))
  f30 := ⟨Try.f103.name, by decide, Try.func103.trans (congrArg some (by kernel_rfl))⟩
  f31 := Try.func99.trans (congrArg some (by kernel_rfl))
  f32 := Try.func100.trans (congrArg some (by kernel_rfl))
  f33 := ⟨Try.f104.name, by decide, Try.func104.trans (congrArg some (by kernel_rfl))⟩
  f34 := ⟨Try.f105.name, by decide, Try.func105.trans (congrArg some (by kernel_rfl))⟩
  f35 := ⟨Try.f78.name, by decide, Try.func78.trans (congrArg some (by kernel_rfl))⟩
  f40 := ⟨Try.f107.name, by decide, Try.func107.trans (congrArg some (by kernel_rfl))⟩
  t0 := Try.underlying0
  a0 := Try.isAgg0
  z0 := Try.sizeOf0
  v0 := Try.zeroValue0
  t3 := Try.underlying3
  a3 := Try.isAgg3
  z3 := Try.sizeOf3
  v3 := Try.zeroValue3
  t4 := Try.underlying4
  a4 := Try.isAgg4
  z4 := Try.sizeOf4
  v4 := Try.zeroValue4
  t5 := Try.underlying5
  a5 := Try.isAgg5
  z5 := Try.sizeOf5
  v5 := Try.zeroValue5
  t9 := Try.underlying9
  a9 := Try.isAgg9
  z9 := Try.sizeOf9
  v9 := Try.zeroValue9
  t22 := Try.underlying30
  a22 := Try.isAgg30
  z22 := Try.sizeOf30
  v22 := Try.zeroValue30
  t23 := Try.underlying30
  a23 := Try.isAgg30
  z23 := Try.sizeOf30
  v23 := Try.zeroValue30
  t25 := Try.underlying2
  a25 := Try.isAgg2
  z25 := Try.sizeOf2
  v25 := Try.zeroValue2
  t32 := Try.underlying29
  a32 := Try.isAgg29
  z32 := Try.sizeOf29
  v32 := Try.zeroValue29
  t35 := Try.underlying100
  a35 := Try.isAgg100
  z35 := Try.sizeOf100
  v35 := Try.zeroValue100
  t36 := Try.underlying101
  a36 := Try.isAgg101
  z36 := Try.sizeOf101
  v36 := Try.zeroValue101
  t41 := Try.underlying81
  a41 := Try.isAgg81
  z41 := Try.sizeOf81
  v41 := Try.zeroValue81
  t44 := Try.underlying107
  a44 := Try.isAgg107
  z44 := Try.sizeOf107
  v44 := Try.zeroValue107
  t46 := Try.underlying72
  a46 := Try.isAgg72
  z46 := Try.sizeOf72
  v46 := Try.zeroValue72
  t53 := Try.underlying115
  a53 := Try.isAgg115
  z53 := Try.sizeOf115
  v53 := Try.zeroValue115
  t57 := Try.underlying119
  a57 := Try.isAgg119
  z57 := Try.sizeOf119
  v57 := Try.zeroValue119
  t63 := Try.underlying123
  a63 := Try.isAgg123
  z63 := Try.sizeOf123
  v63 := Try.zeroValue123
  t64 := Try.underlying124
  a64 := Try.isAgg124
  z64 := Try.sizeOf124
  v64 := Try.zeroValue124
  }

/-- in rising order -/
def srt (xs : List Int) : List Int := xs.mergeSort fun x y => decide (x ≤ y)
theorem srt_len (xs : List Int) : (srt xs).length = xs.length := List.length_mergeSort _
theorem Sort_c {B : Nat} {w0 w : World} {L : List Ent} (hS : St B w0 w L) (i : Nat) {v : Value} {xs : List Int} (hi : L[i]? = some (row 2 v (iv xs))) (hl : xs.length < 4611686018427387904) :
    Calls Try.prog 57 #[v] w fun e w' => e = .returned (.tuple #[]) ∧ St B w0 w' (L.set i (row 2 v (iv (srt xs)))) := by
  have hx := hS.ok _ (List.mem_of_getElem? hi)
  rcases hx with ⟨hp, _⟩ | ⟨_, hv, hu⟩ | ⟨_, g, cap, cur, hv, hB, hh, h1, h2, h3, h4⟩
  · simp [row] at hp
  · simp only [row] at hv hu
    have hx : xs = [] := by cases xs with
      | nil => rfl
      | cons a r => simp [iv] at hu
    subst hx
    subst hv
    have hc := AnyM.slices_Sort_int_none Try.mSort none 0 w
    refine Calls.mono hc ?_
    rintro e w' ⟨rfl, rfl⟩
    refine ⟨rfl, ?_⟩
    have : L.set i (row 2 (.slice none 0 0) (iv (srt []))) = L := by
      obtain ⟨hlt, heq⟩ := List.getElem?_eq_some_iff.1 hi
      have e : srt [] = [] := by simp [srt]
      rw [e, ← heq, List.set_getElem_self]
    rw [this]; exact hS
  · simp only [row] at hv h1 h4 hh
    rw [iv_len] at hv h1 h4
    have hblk : g < w.heap.size := (Array.getElem?_eq_some_iff.1 hh).1
    have hH : Go.Sort.Holds (Value.int .i64) w g 0 xs.toArray := holds_of_blockI hh h4
    have hc := AnyM.slices_Sort_int Try.mSort g 0 cap xs w hH hblk hl
    subst hv
    refine Calls.mono hc ?_
    rintro e w' ⟨rfl, n, os, rfl⟩
    refine ⟨rfl, ?_⟩
    have hlen : (srt xs).length = xs.length := srt_len xs
    refine hS.put i hi ?_ (row 2 (.slice (some ⟨g, 0, none⟩) xs.length cap) (iv (srt xs))) (.inr (.inr ⟨rfl, g, cap, _, ?_, hB, heap_sortedI _ hh, ?_, h2, ?_, ?_⟩)) (.inl rfl)
    · exact grownBy_sortedI _
    · simp [row, iv_len, hlen]
    · simp [row, iv_len, hlen]; omega
    · simp [Go.Sort.putCells, h3]
    · have := take_putCellsI cur (srt xs) (by omega)
      rw [hlen] at this
      have hlen' : (xs.mergeSort fun x y => decide (x ≤ y)).length = xs.length := hlen
      simpa [row, iv, srt, hlen'] using this
end Go.Proofs.Ytegmjlblehjccaa
end

section
/- Walks: valid permutations of both sides; permutations that the laws make. -/
namespace Go.Proofs.Ytegmjlblehjccaa
set_option linter.unusedSimpArgs false
set_option linter.unusedVariables false
open Go.RowKit
attribute [local go_sem ↓] Go.wp_at_zero Go.wp_at_succ

set_option maxHeartbeats 2000000 in
set_option maxRecDepth 100000 in
theorem ValidPermutation_c (v : Value) (xs : List Int) (w : World) (hv : RdI w v xs) (hN : xs.length ≤ 1048576) : Calls Try.prog 53 #[v] w (GivesB w (pvB xs)) := by
  have hlx := hv.len
  have HP := Lib.hid (show IsP xs ↔ ∀ j, j < xs.length → nth (srt xs) j = j from isP_iff)
  have Hl := Lib.hid (srt_len xs)
  have HS := fun {B : Nat} {w0 w : World} {L : List Ent} (hS : St B w0 w L) (i : Nat) {v : Value} (hi : L[i]? = some (row 2 v (iv xs))) => Lib.hid (Sort_c hS i hi (by omega))
  generalize srt xs = ys at *
  go_enter Try.func53, Try.ntmps53
  go_wp2_with fail
  refine (Clone_c v xs w hv hN).mono ?_
  rintro e w1 ⟨u, rfl, h1⟩
  go_wp2_with fail
  refine (HS h1 0 rfl).out.mono ?_
  rintro e w2 ⟨rfl, hS⟩
  simp only [List.set_cons_zero] at hS
  have hln := (hS.rdI 0 rfl).len
  have hix := (hS.rdI 0 rfl).ix
  rw [Hl.out] at hln hix
  clear HS h1
  go_wp2_with fail
  go_loopw [4, 5, 12] (fun _ _ x wr => ∃ k : Nat, k ≤ xs.length ∧ x = .int .i64 k ∧ Hid (∀ j, j < k → nth ys j = j) ∧ St w.heap.size w wr [row 2 u (iv ys)]) (fun _ _ x _ => xs.length - (intOf x).toNat)
  case atStart => exact ⟨0, by omega, rfl, fun j hj => by omega, hS⟩
  case round =>
    clear hS
    obtain ⟨k, hk, rfl, hI, hS⟩ := hrel
    by_cases hlt : k < xs.length
    · have hc := (hS.rdI 0 rfl).cell k (by rw [Hl.out]; exact hlt)
      by_cases h1 : nth ys k = k
      · have e1 := ne_f h1
        have H1 := Lib.hid h1
        clear h1
        go_wp2_with fail
        go_roundw
        case rel => exact ⟨k + 1, by omega, by go_num, fun j hj => by
          by_cases e : j = k
          · subst e; exact H1.out
          · exact hI.out j (by omega), hS⟩
        case measure => simp [intOf]; omega
      · have e1 := ne_t h1
        have H1 := Lib.hid h1
        clear h1
        go_wp2_with fail
        go_ret
        exact ⟨ret_bool (pvB_no fun h => H1.out (HP.out.1 h.2 k hlt)).symm, hS.out⟩
    · go_wp2_with fail
      go_ret
      have hp : IsP xs := HP.out.2 fun j hj => hI.out j (by omega)
      refine ⟨ret_bool ?_, hS.out⟩
      by_cases h32 : xs.length ≤ 32
      · rw [pvB_yes h32 hp]; simp; omega
      · rw [pvB_no fun h => h32 h.1]; simp; omega

end Go.Proofs.Ytegmjlblehjccaa
end

section
/- Walks: permutations that are made and drawn; composition, inverses. Walks: composition and inverses of permutations. -/
namespace Go.Proofs.Ytegmjlblehjccaa
set_option linter.unusedSimpArgs false
set_option linter.unusedVariables false
open Go.RowKit
attribute [local go_sem ↓] Go.wp_at_zero Go.wp_at_succ


set_option maxHeartbeats 1000000 in
set_option maxRecDepth 100000 in
theorem l04One_c (n : Nat) (w : World) (hn : n ≤ 1000) : Calls Try.prog 47 #[.int .i64 n] w (MakesI w (iot n)) := by
  have hS0 : St w.heap.size w (w.alloc (.cells #[] 2)) [row 2 (.slice (some ⟨w.heap.size, 0, none⟩) 0 0) (iv [])] := (St.refl w).new 2 #[] (by simp)
  go_enter Try.func47, Try.ntmps47
  go_wp2_with fail
  go_loopw [3, 4] (fun o x wr => ∃ k : Nat, k ≤ n ∧ x = .int .i64 k ∧ St w.heap.size w wr [row 2 o (iv (iot k))]) (fun _ x _ => n - (intOf x).toNat)
  case atStart => exact ⟨0, by omega, rfl, hS0⟩
  case round =>
    obtain ⟨k, hk, rfl, hS⟩ := hrel
    have hkl := iot_len k
    by_cases hlt : k < n
    · go_wp2_with (at_builtin; refine appI hS 0 rfl (by omega) rfl _ _ rfl rfl _ rfl ?_; intro v2 w2 hS2)
      go_roundw
      case rel => exact ⟨k + 1, by omega, by go_num, by rw [iot_succ]; exact hS2⟩
      case measure => simp [intOf]; omega
    · obtain rfl : k = n := by omega
      go_wp2_with fail
      go_ret
      exact ⟨_, rfl, hS⟩
/-- a permutation of n numbers, and the source goes on -/
def PermS (w0 : World) (cv : Value) (g K n : Nat) (L : List Ent) (e : Ending) (w' : World) : Prop := ∃ v xs, e = .returned v ∧ xs.length = n ∧ IsP xs ∧ Src w0 w' cv g K (row 2 v (iv xs) :: L)
set_option maxHeartbeats 2000000 in
set_option maxRecDepth 100000 in
theorem l04DrawPerm_c (w0 w : World) (cv : Value) (bs : List UInt8) (g K : Nat) (L : List Ent) (n : Nat) (hb : RdB w0 cv bs) (h : Src w0 w cv g K L) (hK : K < 100000000000) (hn : n ≤ 1000) :
    Calls Try.prog 67 #[.pointer (some ⟨g, 0, none⟩), .int .i64 n] w (PermS w0 cv g (K + 2 * n) n L) := by
  go_enter Try.func67, Try.ntmps67
  go_wp2_with fail
  refine (l04One_c n w hn).mono ?_
  rintro e w1 ⟨u, rfl, h1⟩
  have h2 := (h.call h1).perm List.perm_append_comm
  simp only [List.cons_append, List.nil_append] at h2
  clear h h1
  go_wp2_with fail
  go_loopw [6, 7, 8] (fun x _ _ wr => ∃ (j : Nat) (xs : List Int), j ≤ n ∧ x = .int .i64 ((j : Int) - 1) ∧ Hid (xs.length = n) ∧ Hid (IsP xs) ∧ Src w0 wr cv g (K + 2 * (n - j)) (row 2 u (iv xs) :: L)) (fun x _ _ _ => (intOf x).toNat)
  case atStart => exact ⟨n, iot n, by omega, by go_num, iot_len n, iot_isP n, h2.mono (by omega)⟩
  case round =>
    clear h2
    obtain ⟨j, xs, hj, rfl, hl, hp, hs⟩ := hrel
    by_cases h2 : 2 ≤ j
    · go_wp2_with fail
      refine (pick_c w0 wr cv bs g _ _ _ hb hs (by omega)).mono ?_
      rintro e w2 ⟨x, x0, x1, rfl, h3⟩
      obtain ⟨y, rfl⟩ := Int.eq_ofNat_of_zero_le x0
      have hyj : y < j := by omega
      have hyk : y < n := by omega
      have hr := h3.rdI 0 rfl
      have hi1 := hr.ixe ((j : Int) - 1) (j - 1) (by omega) (by rw [hl.out]; omega)
      have hi2 := hr.ixe (y : Int) y rfl (by rw [hl.out]; omega)
      have hc1 := hr.cell (j - 1) (by rw [hl.out]; omega)
      have hc2 := hr.cell y (by rw [hl.out]; omega)
      have Hsw := Lib.hid (hp.out.swp (i := j - 1) (k := y) (by rw [hl.out]; omega) (by rw [hl.out]; omega))
      obtain ⟨pp, ss, s0, s1, hS⟩ := h3
      clear hr x1 x0 hs
      go_wp2_with (first
        | (refine stoI hS2 1 rfl y (by rw [List.length_set, hl.out]; exact hyk) rfl _ _ rfl rfl _ rfl ?_; intro w3 hS3)
        | (refine stoI hS 1 rfl (j - 1) (by rw [hl.out]; omega) rfl _ _ rfl rfl _ rfl ?_; intro w2 hS2))
      go_roundw
      case rel => exact ⟨j - 1, swp2 xs (j - 1) y, by omega, by go_num, by unfold Hid; rw [swp2_len]; exact hl.out, Hsw.out, pp, ss, s0, by omega, hS3⟩
      case measure => simp [intOf]; omega
    · go_wp2_with fail
      go_ret
      exact ⟨_, xs, rfl, hl.out, hp.out, hs.mono (by omega)⟩
set_option maxHeartbeats 2000000 in
set_option maxRecDepth 100000 in
theorem compose_c (v u : Value) (xs ys : List Int) (w : World) (hv : RdI w v xs) (hu : RdI w u ys) (hp : IsP xs) (hl : xs.length = ys.length) (hN : xs.length ≤ 1000) :
    Calls Try.prog 38 #[v, u] w (MakesI w (cmpL xs ys)) := by
  have hlx := hv.len
  have hix := hv.ix
  have hiu := hu.ix
  have HP := Lib.hid hp
  have Hl := Lib.hid hl
  rw [← hl] at hiu
  clear hp hl
  go_enter Try.func38, Try.ntmps38
  go_wp2_with (at_make; refine mkI (St.refl w) rfl _ _ rfl _ _ xs.length rfl rfl (by omega) ?_; intro r w1 hS1; have hr := hS1.rdI 0 rfl; have hln := hr.len; have hir := hr.ix; simp only [List.length_replicate] at hln hir; clear hr)
  go_loopw [6, 12] (fun _ x wr => ∃ (k : Nat) (zs : List Int), k ≤ xs.length ∧ x = .int .i64 k ∧ Hid (zs.length = xs.length) ∧ Hid (∀ j, j < k → nth zs j = nth ys (pf xs j)) ∧ St w.heap.size w wr [row 2 r (iv zs)]) (fun _ x _ => xs.length - (intOf x).toNat)
  case atStart => exact ⟨0, _, by omega, rfl, by unfold Hid; simp, fun j hj => by omega, hS1⟩
  case round =>
    clear hS1
    obtain ⟨k, zs, hk, rfl, hz, hI, hS⟩ := hrel
    by_cases hlt : k < xs.length
    · have hck := (hS.oldI hv).cell k hlt
      have hpk := nth_pf HP.out hlt
      have hpl := HP.out.pf_lt hlt
      have hcu := (hS.oldI hu).cell (pf xs k) (by rw [← Hl.out]; exact hpl)
      rw [hpk] at hck
      clear hpk
      go_wp2_with (refine stoI hS 0 rfl k (by rw [hz.out]; exact hlt) rfl _ _ rfl rfl _ rfl ?_; intro w2 hS2)
      go_roundw
      case rel => exact ⟨k + 1, zs.set k (nth ys (pf xs k)), by omega, by go_num, by unfold Hid; rw [List.length_set]; exact hz.out, fun j hj => by
        rw [nth_set (by rw [hz.out]; exact hlt)]
        by_cases e : k = j
        · subst e; rw [if_pos rfl]
        · rw [if_neg e]; exact hI.out j (by omega), hS2⟩
      case measure => simp [intOf]; omega
    · obtain rfl : k = xs.length := by omega
      have he : zs = cmpL xs ys := nth_ext (by rw [cmpL_len]; exact hz.out) fun j hj => by rw [hz.out] at hj; rw [hI.out j hj, nth_cmpL hj]
      have He := Lib.hid he
      clear he
      go_wp2_with fail
      go_ret
      exact ⟨_, rfl, by rw [← He.out]; exact hS⟩
set_option maxHeartbeats 1000000 in
set_option maxRecDepth 100000 in
theorem ident_c (n : Nat) (w : World) (hn : n ≤ 1048576) : Calls Try.prog 54 #[.int .i64 n] w (MakesI w (iot n)) := by
  go_enter Try.func54, Try.ntmps54
  go_wp2_with (at_make; refine mkI (St.refl w) rfl _ _ rfl _ _ n rfl rfl (by omega) ?_; intro v1 w1 hS1; have hr := hS1.rdI 0 rfl; have hln := hr.len; have hix := hr.ix; simp only [List.length_replicate] at hln hix; clear hr)
  go_loopw [4, 9] (fun _ i wr => ∃ k : Nat, k ≤ n ∧ i = .int .i64 k ∧ St w.heap.size w wr [row 2 v1 (iv (iot k ++ List.replicate (n - k) 0))]) (fun _ i _ => n - (intOf i).toNat)
  case atStart => exact ⟨0, by omega, rfl, hS1⟩
  case round =>
    obtain ⟨k, hk, rfl, hS⟩ := hrel
    by_cases hlt : k < n
    · go_wp2_with (refine stoI hS 0 rfl k (by simp [iot]; omega) rfl _ _ rfl rfl _ rfl ?_; intro w2 hS2)
      go_roundw
      case rel =>
        refine ⟨k + 1, by omega, by go_num, ?_⟩
        have e : (iot k ++ List.replicate (n - k) 0).set k (k : Int) = iot (k + 1) ++ List.replicate (n - (k + 1)) 0 := by
          rw [List.set_append_right _ _ (by rw [iot_len]; omega), iot_len, show n - k = (n - (k + 1)) + 1 by omega, List.replicate_succ]
          simp [iot, List.range_succ]
        rw [← e]; exact hS2
      case measure => simp [intOf]; omega
    · obtain rfl : k = n := by omega
      go_wp2_with fail
      go_ret
      refine ⟨_, rfl, ?_⟩
      simpa using hS

end Go.Proofs.Ytegmjlblehjccaa
end

section
/- make inside a region that draws its order. A region that loads cells and writes them by its last stores: what is held of the world is asked until the first of these stores alone. A region that loads cells and writes them at its end: an operation taken first, by a chain of operations that wait for each other. -/
namespace Go.Proofs.Ytegmjlblehjccaa
set_option linter.unusedSimpArgs false
set_option linter.unusedVariables false
open Go.RowKit
theorem cell_al {w : World} {o : Obj} {a : Addr} {v : Value} (h : w.cell? a = some v) : (w.alloc o).cell? a = some v := by
  rw [World.cell?_alloc_some _ _ _ (by rw [h]; rfl)]; exact h
theorem cell_dr {w : World} {a : Addr} {v : Value} (h : w.cell? a = some v) : w.drew.cell? a = some v := h
theorem cell_sc {w : World} {p a : Addr} {u v : Value} (hp : p.block ≠ a.block) (h : w.cell? a = some v) : (w.setCell p u).cell? a = some v := by
  rw [World.cell?_setCell_far _ _ _ _ hp]; exact h
section
variable {P : Program} {ops : Array Oper} {o : Oper} {a : Act} {K : Act → World → Prop} {Q : Exit → Act → World → Prop} {E : Prop}
end
section
variable {ops : Array Oper} {o : Oper} {a : Act} {K : Act → World → Prop} {Q : Exit → Act → World → Prop} {E : Prop} {B : Nat} {w0 w : World} {L : List Ent}
end

section
variable {P : Program} {ops : Array Oper} {Q : Exit → Act → World → Prop} {md : Region.Mode} {S : World → Prop} {st : Nat}

/-- whichever order is picked; S is shown behind every operation till operation st has come up -/
def anyG (P : Program) (md : Region.Mode) (ops : Array Oper) (Q : Exit → Act → World → Prop) (S : World → Prop) (st : Nat) : Nat → Array Bool → Act → World → Prop
  | 0, listed, a, w => Region.ready md ops listed = [] ∧ Q .normal a w
  | n + 1, listed, a, w => (Region.ready md ops listed = [] → Q .normal a w) ∧
    ∀ i ∈ Region.ready md ops listed, wpOp P ops Q i (fun a' w' => ((listed.setIfInBounds i true).getD st true = false → S w') ∧ anyG P md ops Q S st n (listed.setIfInBounds i true) a' w') a w

def AllG (P : Program) (md : Region.Mode) (ops : Array Oper) (Q : Exit → Act → World → Prop) (S : World → Prop) (st n : Nat) (listed : Array Bool) (a : Act) (w : World) (rs : List Nat) : Prop :=
  ∀ i ∈ rs, wpOp P ops Q i (fun a' w' => ((listed.setIfInBounds i true).getD st true = false → S w') ∧ anyG P md ops Q S st n (listed.setIfInBounds i true) a' w') a w
theorem AllG.nil {n : Nat} {listed : Array Bool} {a : Act} {w : World} : AllG P md ops Q S st n listed a w [] := fun _ h => by cases h
/-- an operation ahead of st -/
theorem AllG.cons {n : Nat} {listed : Array Bool} {a : Act} {w : World} {i : Nat} {o : Oper} {rs : List Nat} (ho : ops[i]? = some o)
    (h : ∀ K' : Act → World → Prop, Shut (∀ a w, S w → (S w → anyG P md ops Q S st n (listed.setIfInBounds i true) a w) → K' a w) → if Region.wanted o (yielded ops a.tmps) = true then Oper.wp P o a w K' Q else K' (a.put o.dst undef) w)
    (hs : AllG P md ops Q S st n listed a w rs) : AllG P md ops Q S st n listed a w (i :: rs) := fun j hj => by
  rcases List.mem_cons.1 hj with rfl | hj
  · exact wpOp_step ho (fun K' hK => h K' (fun a w hS hW => hK a w ⟨fun _ => hS, hW hS⟩))
  · exact hs j hj
/-- st itself, or one behind it -/
theorem AllG.last {n : Nat} {listed : Array Bool} {a : Act} {w : World} {i : Nat} {o : Oper} {rs : List Nat} (ho : ops[i]? = some o) (hl : (listed.setIfInBounds i true).getD st true = true)
    (h : ∀ K' : Act → World → Prop, Shut (∀ a w, anyG P md ops Q S st n (listed.setIfInBounds i true) a w → K' a w) → if Region.wanted o (yielded ops a.tmps) = true then Oper.wp P o a w K' Q else K' (a.put o.dst undef) w)
    (hs : AllG P md ops Q S st n listed a w rs) : AllG P md ops Q S st n listed a w (i :: rs) := fun j hj => by
  rcases List.mem_cons.1 hj with rfl | hj
  · exact wpOp_step ho (fun K' hK => h K' (fun a w hW => hK a w ⟨fun e => (by rw [hl] at e; cases e), hW⟩))
  · exact hs j hj
end

section
variable {P : Program} {ops : Array Oper} {Q : Exit → Act → World → Prop} {md : Region.Mode} {S : World → Prop} {st : Nat}
end

end Go.Proofs.Ytegmjlblehjccaa
end

section
/- slices.SortFunc at [][]int64 with slices.Compare: rows that a call owns, put in order; slices.IsSortedFunc. -/
namespace Go.Proofs.Ytegmjlblehjccaa
set_option linter.unusedSimpArgs false
set_option linter.unusedVariables false
open Go.RowKit
attribute [local go_sem ↓] Go.wp_at_zero Go.wp_at_succ

def Try.mSortR_ren : Go.Shelf.Ren := ⟨fun | 6 => 55 | 15 => 74 | 14 => 73 | 28 => 87 | 29 => 88 | 20 => 79 | 21 => 80 | 22 => 81 | 23 => 82 | 24 => 83 | 25 => 84 | 26 => 85 | 27 => 86 | 46 => 98 | 47 => 99 | 48 => 100 | 49 => 101 | 50 => 102 | 57 => 106 | n => n, fun | 22 => 23 | 24 => 30 | 25 => 79 | 3 => 3 | 39 => 29 | 0 => 0 | 53 => 107 | 55 => 72 | 4 => 4 | 46 => 101 | 45 => 100 | 50 => 81 | 5 => 5 | 9 => 9 | 66 => 115 | 70 => 119 | 76 => 123 | 77 => 124 | n => n, fun | n => n⟩
theorem Try.mSortR : Go.Proofs.SlLaysF.n6 Try.prog Try.mSortR_ren := {
  mixed := by kernel_rfl
  f6 := ⟨Try.f55.name, by decide, Try.func55.trans (congrArg some (by kernel_rfl))⟩
  f14 := ⟨Try.f73.name, by decide, Try.func73.trans (congrArg some (by kernel_rfl))⟩
  f15 := Try.func74.trans (congrArg some (by kernel_rfl))
  f20 := ⟨Try.f79.name, by decide, Try.func79.trans (congrArg some (by kernel_rfl))⟩
  f21 := ⟨Try.f80.name, by decide, Try.func80.trans (congrArg some (by kernel_rfl))⟩
  f22 := ⟨Try.f81.name, by decide, Try.func81.trans (congrArg some (by kernel_rfl))⟩
  f23 := ⟨Try.f82.name, by decide, Try.func82.trans (congrArg some (by kernel_rfl))⟩
  f24 := ⟨Try.f83.name, by decide, Try.func83.trans (congrArg some (by kernel_rfl))⟩
  f25 := ⟨Try.f84.name, by decide, Try.func84.trans (congrArg some (by kernel_rfl))⟩
  f26 := ⟨Try.f85.name, by decide, Try.func85.trans (congrArg some (by kernel_rfl))⟩
  f27 := ⟨Try.f86.name, by decide, Try.func86.trans (congrArg some (by kernel_rfl))⟩
  f28 := Try.func87.trans (congrArg some (by kernel_rfl))
  f29 := Try.func88.trans (congrArg some (by kernel_rfl))
  f46 := ⟨Try.f98.name, by decide, Try.func98.trans (congrArg some (by kernel_rfl))⟩
  f47 := Try.func99.trans (congrArg some (by kernel_rfl))
  f48 := Try.func100.trans (congrArg some (by kernel_rfl))
  f49 := ⟨Try.f101.name, by decide, Try.func101.trans (congrArg some (by kernel_rfl))⟩
  f50 := ⟨Try.f102.name, by decide, Try.func102.trans (congrArg some (by kernel_rfl))⟩
  f57 := ⟨Try.f106.name, by decide, Try.func106.trans (congrArg some (by kernel_rfl))⟩
  t0 := Try.underlying0
  a0 := Try.isAgg0
  z0 := Try.sizeOf0
  v0 := Try.zeroValue0
  t3 := Try.underlying3
  a3 := Try.isAgg3
  z3 := Try.sizeOf3
  v3 := Try.zeroValue3
  t4 := Try.underlying4
  a4 := Try.isAgg4
  z4 := Try.sizeOf4
  v4 := Try.zeroValue4
  t5 := Try.underlying5
  a5 := Try.isAgg5
  z5 := Try.sizeOf5
  v5 := Try.zeroValue5
  t9 := Try.underlying9
  a9 := Try.isAgg9
  z9 := Try.sizeOf9
  v9 := Try.zeroValue9
  t22 := Try.underlying23
  a22 := Try.isAgg23
  z22 := Try.sizeOf23
  v22 := Try.zeroValue23
  a24 := Try.isAgg30
  z24 := Try.sizeOf30
  t25 := Try.underlying79
  a25 := Try.isAgg79
  z25 := Try.sizeOf79
  v25 := Try.zeroValue79
  t39 := Try.underlying29
  a39 := Try.isAgg29
  z39 := Try.sizeOf29
  v39 := Try.zeroValue29
  t45 := Try.underlying100
  a45 := Try.isAgg100
  z45 := Try.sizeOf100
  v45 := Try.zeroValue100
  t46 := Try.underlying101
  a46 := Try.isAgg101
  z46 := Try.sizeOf101
  v46 := Try.zeroValue101
  t50 := Try.underlying81
  a50 := Try.isAgg81
  z50 := Try.sizeOf81
  v50 := Try.zeroValue81
  t53 := Try.underlying107
  a53 := Try.isAgg107
  z53 := Try.sizeOf107
  v53 := Try.zeroValue107
  t55 := Try.underlying72
  a55 := Try.isAgg72
  z55 := Try.sizeOf72
  v55 := Try.zeroValue72
  t66 := Try.underlying115
  a66 := Try.isAgg115
  z66 := Try.sizeOf115
  v66 := Try.zeroValue115
  t70 := Try.underlying119
  a70 := Try.isAgg119
  z70 := Try.sizeOf119
  v70 := Try.zeroValue119
  t76 := Try.underlying123
  a76 := Try.isAgg123
  z76 := Try.sizeOf123
  v76 := Try.zeroValue123
  t77 := Try.underlying124
  a77 := Try.isAgg124
  z77 := Try.sizeOf124
  v77 := Try.zeroValue124
}

/-! ### a row of any kind -/
theorem holds_of_blockE {α : Type} [Inhabited α] (enc : α → Value) {w : World} {g : Nat} {cur : Array Value} {e : TypeId} {ss : List α} (hb : w.heap[g]? = some (.cells cur e (0, 0))) (ht : cur.toList.take ss.length = ss.map enc) : Go.Sort.Holds enc w g 0 ss.toArray := by
  intro j hj
  have hj' : j < ss.length := by simpa using hj
  refine ⟨?_, by simp [World.frozen?, hb]⟩
  have h1 : (cur.toList.take ss.length)[j]? = (ss.map enc)[j]? := by rw [ht]
  rw [List.getElem?_take_of_lt hj'] at h1
  simp only [World.cell?, hb, Nat.zero_add]
  simp only [Option.isSome_none, Bool.false_eq_true, if_false]
  rw [← Array.getElem?_toList, h1]
  simp [hj']
theorem heap_sortedE {α : Type} [Inhabited α] (enc : α → Value) {w : World} {g n : Nat} {os : Array Obj} {cur : Array Value} {e : TypeId} {fr : Nat × Nat} (d : Array α) (hb : w.heap[g]? = some (.cells cur e fr)) :
    (Go.Sort.grow (Go.Sort.putRow enc (Go.Sort.ahead w n) g 0 d) os).heap[g]? = some (.cells (Go.Sort.putCells enc 0 d cur) e fr) := by
  have hg : g < w.heap.size := (Array.getElem?_eq_some_iff.1 hb).1
  rw [Go.Sort.heap_grow_old _ _ (by simpa using hg)]
  simp [Go.Sort.putRow, Go.Sort.mapBlock, Go.Sort.ahead, Array.getElem?_modify, hb, Go.Sort.onCells]
theorem grownBy_sortedE {α : Type} [Inhabited α] (enc : α → Value) {w : World} {g n : Nat} {os : Array Obj} (d : Array α) : w.grownBy (Go.Sort.grow (Go.Sort.putRow enc (Go.Sort.ahead w n) g 0 d) os) (some g) := by
  refine ⟨rfl, rfl, rfl, by simp, fun k hk hne => ?_⟩
  rw [Go.Sort.heap_grow_old _ _ (by simpa using hk)]
  have : g ≠ k := fun e => hne (by rw [e])
  simp [Go.Sort.putRow, Go.Sort.mapBlock, Go.Sort.ahead, Array.getElem?_modify, this]
theorem take_putCellsE {α : Type} [Inhabited α] (enc : α → Value) (cur : Array Value) (d : Array α) (h : d.size ≤ cur.size) : (Go.Sort.putCells enc 0 d cur).toList.take d.size = d.toList.map enc := by
  apply List.ext_getElem?
  intro j
  by_cases hj : j < d.size
  · rw [List.getElem?_take_of_lt hj, Array.getElem?_toList]
    simp [Go.Sort.putCells, hj, show j < cur.size by omega]
  · rw [List.getElem?_take_eq_none (by omega), List.getElem?_eq_none (by simp; omega)]

end Go.Proofs.Ytegmjlblehjccaa
end

section
/- slices.SortFunc at [][]int64 with slices.Compare: the rows of an owned list of rows are put in order. -/
namespace Go.Proofs.Ytegmjlblehjccaa
set_option linter.unusedSimpArgs false
set_option linter.unusedVariables false
open Go.RowKit

theorem callR_cmp : ∀ (args : Array Value) (W : World), (callFunc 49 args).run Try.prog W = .ok (.enter 49 args) W :=
  fun args W => callFunc_go (P := Try.prog) Try.func49 (by kernel_rfl) (by kernel_rfl) args W
def cfR (A : List (List Int)) (x y : Fin A.length) : Int := cmpI (xat A x) (xat A y)
theorem swoR (A : List (List Int)) : Go.Sort.SWO (Go.Proofs.ltOf (cfR A)) where
  irrefl x := by simp [Go.Proofs.ltOf, cfR, cmpI_self]
  trans x y z h1 h2 := by
    have a1 := of_decide_eq_true h1
    have a2 := of_decide_eq_true h2
    refine decide_eq_true ?_
    unfold cfR at *
    have h3 := cmpI_trans (a := xat A x) (b := xat A y) (c := xat A z) (by omega) (by omega)
    rcases Int.lt_or_le (cmpI (xat A x) (xat A z)) 0 with h | h
    · exact h
    · have h4 := cmpI_eq (a := xat A x) (b := xat A z) (by omega)
      rw [h4] at a1
      have := cmpI_neg (xat A y) (xat A z)
      omega
  ntrans x y z h1 h2 := by
    have a1 := of_decide_eq_false h1
    have a2 := of_decide_eq_false h2
    refine decide_eq_false ?_
    unfold cfR at *
    have n1 := cmpI_neg (xat A x) (xat A y)
    have n2 := cmpI_neg (xat A y) (xat A z)
    have n3 := cmpI_neg (xat A x) (xat A z)
    have h3 := cmpI_trans (a := xat A z) (b := xat A y) (c := xat A x) (by omega) (by omega)
    omega
theorem fin_map {α : Type} (us : List α) (d : α) {n : Nat} (h : us.length = n) : (List.finRange n).map (fun k : Fin n => us.getD k d) = us := by
  subst h
  apply List.ext_getElem
  · simp
  · intro i h1 h2
    simp at h1 ⊢
theorem rows_fin {us : List Value} {A : List (List Int)} (h : us.length = A.length) : rowsI us A = (List.finRange A.length).map fun k : Fin A.length => row 2 (vat us k) (iv (xat A k)) := by
  apply List.ext_getElem
  · simp [rowsI, h]
  · intro i h1 h2
    simp [rowsI, h] at h1
    simp [rowsI, vat, xat, h, h1]
set_option maxHeartbeats 1000000 in
theorem SortRows_c {B : Nat} {w0 w : World} {L : List Ent} {v : Value} {us : List Value} {A : List (List Int)} (hS : St B w0 w (own2 v us A ++ L)) (hl : us.length = A.length) (hlen : A.length < 100000) :
    Calls Try.prog 55 #[v, .func (.func 49) #[] #[]] w fun e w' => ∃ us' : List Value, e = .returned (.tuple #[]) ∧ us'.length = A.length ∧ St B w0 w' (own2 v us' (srtL A) ++ L) := by
  have hi : (own2 v us A ++ L)[0]? = some (row 30 v us) := rfl
  by_cases h0 : A = []
  · subst h0
    have hu : us = [] := by simpa using hl
    subst hu
    obtain ⟨a, c, hv⟩ := (hS.rd 0 hi).sl.sh
    subst hv
    refine Calls.mono (Go.Proofs.AnyF.slices_SortFunc_none (P := Try.prog) (ρ := Try.mSortR_ren) { Try.mSortR with } a c (.func (.func 49) #[] #[]) w) ?_
    rintro e w' ⟨rfl, rfl⟩
    exact ⟨[], rfl, rfl, hS⟩
  · have hpos : 0 < A.length := by cases A with
      | nil => exact absurd rfl h0
      | cons _ _ => simp
    haveI : Inhabited (Fin A.length) := ⟨⟨0, hpos⟩⟩
    have hrow : ∀ {W : World} {u : List Value}, St B w0 W (row 30 v u :: (rowsI us A ++ L)) → ∀ k : Fin A.length, RdI W (vat us k) (xat A k) := by
      intro W u h k
      refine h.rdI (k + 1) (e := 2) ?_
      rw [List.getElem?_cons_succ, List.getElem?_append_left (by rw [rowsI_len hl]; exact k.isLt)]
      exact rowsI_get hl k.isLt
    have hok := hS.ok _ (List.mem_of_getElem? hi)
    rcases hok with ⟨hp, _⟩ | ⟨_, hv, hu⟩ | ⟨_, g, cap, cur, hv, hB, hh, h1, h2, h3, h4⟩
    · simp [row] at hp
    · simp only [row] at hu
      rw [hu] at hl; simp at hl; omega
    · simp only [row] at hv h1 h4 hh
      subst hv
      have hblk : g < w.heap.size := (Array.getElem?_eq_some_iff.1 hh).1
      have hOne : Go.Proofs.OneCell (fun k : Fin A.length => vat us k) := fun k => (hrow hS k).sl.one
      have hd : (List.finRange A.length).toArray.size = us.length := by simp [hl]
      have hH : Go.Sort.Holds (fun k : Fin A.length => vat us k) w g 0 (List.finRange A.length).toArray := holds_of_blockE _ hh (by
        rw [List.length_finRange]
        exact (by rw [← hl]; exact h4 : cur.toList.take A.length = us).trans (fin_map us undef hl).symm)
      have putAll : ∀ (m : Nat) (os : Array Obj) (dk : Array (Fin A.length)), dk.size = us.length → St B w0 (Go.Proofs.sortWorld (fun k : Fin A.length => vat us k) w g 0 m dk os) (row 30 (.slice (some ⟨g, 0, none⟩) us.length cap) (dk.toList.map fun k : Fin A.length => vat us k) :: (rowsI us A ++ L)) := by
        intro m os dk hs
        have := hS.put 0 hi (w' := Go.Proofs.sortWorld (fun k : Fin A.length => vat us k) w g 0 m dk os) ?_ (row 30 (.slice (some ⟨g, 0, none⟩) us.length cap) (dk.toList.map fun k : Fin A.length => vat us k)) (.inr (.inr ⟨rfl, g, cap, _, ?_, hB, heap_sortedE (fun k : Fin A.length => vat us k) _ hh, ?_, h2, ?_, ?_⟩)) (.inl rfl)
        · exact this
        · exact grownBy_sortedE (fun k : Fin A.length => vat us k) dk
        · simp [row, hs]
        · simp [row, hs]; exact h1
        · simp [Go.Sort.putCells, h3]
        · have := take_putCellsE (fun k : Fin A.length => vat us k) cur dk (by omega)
          rw [hs] at this
          simpa [row, hs] using this
      have hcmp : Go.Proofs.CmpLays1 Try.prog 49 #[] (fun k : Fin A.length => vat us k) (cfR A) g 0 (List.finRange A.length).toArray.size w := by
        refine Go.Proofs.CmpReads.lays fun m os dk hs x y => ?_
        have hp := putAll m os dk (by rw [hs, hd])
        refine (Compare_c _ _ _ _ _ (hrow hp x) (hrow hp y)).mono ?_
        rintro e w' ⟨rfl, rfl⟩
        exact ⟨rfl, 0, rfl⟩
      have hc := Go.Proofs.Any.slices_SortFunc (P := Try.prog) (ρ := Try.mSortR_ren) Try.mSortR (fun k : Fin A.length => vat us k) hOne (cfR A) (swoR A) 49 #[] g 0 cap (List.finRange A.length).toArray w callR_cmp hcmp hH hblk (by rw [hd]; omega)
      rw [hd] at hc
      refine Calls.mono hc ?_
      rintro e w' ⟨rfl, d', n, os, hperm, hso, rfl⟩
      have hds : d'.size = us.length := by have := hperm.1; omega
      have hpm : d'.toList.Perm (List.finRange A.length) := by
        have := hperm.2.2
        rw [show d'.extract 0 us.length = d' by rw [← hds]; simp, show (List.finRange A.length).toArray.extract 0 us.length = (List.finRange A.length).toArray by rw [← hd]; simp only [Array.extract_size]] at this
        simpa using this
      have hA : (d'.toList.map fun k : Fin A.length => xat A k) = srtL A := by
        refine srtL_eq ?_ ?_
        · have := hpm.map fun k : Fin A.length => xat A k
          rwa [show (List.finRange A.length).map (fun k : Fin A.length => xat A k) = A from fin_map A [] rfl] at this
        · rw [List.pairwise_map, List.pairwise_iff_getElem]
          intro i j hi' hj' hij
          have := hso i j (by omega) hij (by rw [← hds]; simpa using hj')
          have := of_decide_eq_false this
          unfold cfR at this
          have e1 : d'[i]! = d'.toList[i] := by simp at hi'; simp [hi']
          have e2 : d'[j]! = d'.toList[j] := by simp at hj'; simp [hj']
          rw [e1, e2] at this
          have := cmpI_neg (xat A d'.toList[j]) (xat A d'.toList[i])
          exact decide_eq_true (by omega)
      have hp := putAll n os d' hds
      refine ⟨d'.toList.map fun k : Fin A.length => vat us k, rfl, by simp [hds, hl], ?_⟩
      rw [← hA]
      refine hp.perm ?_
      unfold own2
      refine List.Perm.cons _ (List.Perm.append_right _ ?_)
      rw [rows_fin hl]
      refine (hpm.map _).symm.trans (.of_eq ?_)
      unfold rowsI
      rw [List.zipWith_map, List.zipWith_self]
end Go.Proofs.Ytegmjlblehjccaa
end

section
/- Walks: what permutations generate. -/
namespace Go.Proofs.Ytegmjlblehjccaa
set_option linter.unusedSimpArgs false
set_option linter.unusedVariables false
open Go.RowKit Go.Maps
attribute [local go_sem ↓] Go.wp_at_zero Go.wp_at_succ

/-- an ordered list of its own, and true -/
def MakesCl (w : World) (n : Nat) (S : List (List Int)) (e : Ending) (w' : World) : Prop := ∃ v us R, e = .returned (.tuple #[v, .bool true]) ∧ us.length = R.length ∧ ClO n S R ∧ St w.heap.size w w' (own2 v us R)
theorem own2_snocM {v : Value} {us : List Value} {xss : List (List Int)} {u : Value} {xs : List Int} (hl : us.length = xss.length) (v' : Value) :
    ((own2 v us xss ++ [row 2 u (iv xs)]).set 0 (row 30 v' (us ++ [u]))) = own2 v' (us ++ [u]) (xss ++ [xs]) := by
  rw [own2, own2, rowsI_app hl]; rfl
set_option maxHeartbeats 32000000 in
set_option maxRecDepth 100000 in
theorem closure_c (n : Nat) (vg : Value) (ug : List Value) (S A : List (List Int)) (w : World) (hv : RII w vg ug S) (hn : 1 ≤ n ∧ n ≤ 32) (hA : Grp n A) (hS : ∀ g ∈ S, g ∈ A) (hl : A.length ≤ 720) :
    Calls Try.prog 29 #[.int .i64 n, vg] w (MakesCl w n S) := by
  have hlng := hv.len
  have hixg := hv.ixe
  have hSl := hv.le
  have KI := Lib.hid (fun W => ident_c n W (by omega))
  have hmm := @run_makeMap Try.prog
  have Hv := Lib.hid hv
  have HA := Lib.hid hA
  have HS := Lib.hid hS
  have hN1 := hn.1
  have hN2 := hn.2
  clear hv hA hS hn
  go_enter Try.func29, Try.ntmps29
  go_wp2_with fail
  refine (KI.out _).mono ?_
  rintro e w1 ⟨v1, rfl, h1⟩
  obtain ⟨a1, c1, hsh⟩ := (h1.rdI 0 rfl).sl.sh
  rw [iv_len, iot_len] at hsh
  subst hsh
  have hS2 := (h1.new 30 #[.slice a1 n c1] (by simp [maxLen])).perm (L' := own2 (.slice (some ⟨w1.heap.size, 0, none⟩) 1 1) [.slice a1 n c1] [iot n]) List.perm_append_comm
  have hlow := Lib.hid hS2.base
  have hap := Lib.hid (fun x (hx : x ∈ own2 (.slice (some ⟨w1.heap.size, 0, none⟩) 1 1) [.slice a1 n c1] [iot n]) => (show bk x.v ≠ some (w1.heap.size + 1) from fun e => by
    have := ((hS2.ok x hx).lt e).2
    simp only [World.size_alloc] at this; omega))
  have hM := hS2.alloc' (.map #[] 0)
  have hr := hM.rii rfl
  have x0 := hr.ixe 0 0 rfl (by simp)
  have c0 := hr.cell 0 (by simp)
  rw [show vat [.slice a1 n c1] 0 = .slice a1 n c1 from rfl] at c0
  have hr0 := hr.row 0 (by simp)
  rw [show vat [.slice a1 n c1] 0 = .slice a1 n c1 from rfl, show xat [iot n] 0 = iot n from rfl] at hr0
  have KK := Lib.hid (keyOf_c _ _ _ hr0 ((Prm.one n).byt hN2) (by rw [iot_len]; omega) (by rw [iot_len]; omega))
  have hM0 : SM w (w1.heap.size + 1) 0 [] _ (own2 (.slice (some ⟨w1.heap.size, 0, none⟩) 1 1) [.slice a1 n c1] [iot n]) := ⟨hM, by
    have := World.ownsMap_made (H := Unit) (w1.alloc (.cells #[.slice a1 n c1] 30)) Try.prog 9 (plainElem (H := Unit) Try.prog 4)
    simp only [World.size_alloc] at this
    exact this, by have := hlow.out; simp only [World.size_alloc] at this; omega, hap.out⟩
  have hkey0 : Go.keyOf Try.prog 9 (.string (kyS (iot n))) = some (kyL (iot n)) := Go.WideMaps.keyOf_string_mk Try.und_str (by rw [kyS_size, iot_len]; unfold maxLen; omega)
  clear h1 hS2 hM hr hr0
  go_wp2_with fail
  refine KK.out.mono ?_
  clear KK
  rintro e w3 ⟨rfl, h3⟩
  have hM1 := hM0.call0 h3
  have hown := hM1.own
  clear hM0 h3 x0 c0
  go_wp2_with (refine wpList_insert_own _ rfl _ _ _ 64 rfl 9 4 Try.lawS Try.underlying64 (plainElem (H := Unit) Try.prog 4) (w1.heap.size + 1) _ _ rfl hown (by unfold maxLen; omega) _ _ _ rfl rfl hkey0 _ [] (plainElem_bool Try.underlying4 true) ?_; intro w5 hM5 hg5)
  have hM6 := hM1.turn (ks' := kyA [iot n]) hg5 (n' := 1) hM5
  clear hM1 hown hM5 hg5 hkey0 hlow hap
  obtain ⟨b, hb⟩ : ∃ b, w1.heap.size + 1 = b := ⟨_, rfl⟩
  rw [hb] at hM6 ⊢
  clear hb
  have HB0 : Hid (Bfs n S [iot n] 0 0 ∧ [Value.slice a1 n c1].length = [iot n].length) := Lib.hid ⟨Bfs.start n S, rfl⟩
  have Hbyt := Lib.hid (fun p (hp : p ∈ A) => (HA.out.prm p hp).byt hN2)
  go_wp2_with fail
  go_loopw [8, 6, 10, 11, 12] (fun ki o _ _ _ wr => ∃ (k m : Nat) (uo : List Value) (E : List (List Int)), ki = .int .i64 k ∧ Hid (Bfs n S E k 0 ∧ uo.length = E.length) ∧ m ≤ E.length ∧ SM w b m (kyA E) wr (own2 o uo E)) (fun ki _ _ _ _ _ => A.length + 1 - (intOf ki).toNat)
  case atStart => exact ⟨0, 1, _, [iot n], rfl, HB0, by simp, hM6⟩
  case round =>
    clear hM6 HB0
    obtain ⟨k, m, uo, E, rfl, hI, hm, hM⟩ := hrel
    have hEl := hI.out.1.le HA.out HS.out
    have hkE := hI.out.1.kl
    have hr := hM.st.rii hI.out.2
    have hlE := hr.len
    by_cases hk : k < E.length
    · have hki : (k : Int) < (E.length : Int) := by omega
      have HK0 : Hid (Bfs n S E k 0 ∧ uo.length = E.length ∧ k < E.length) := Lib.hid ⟨hI.out.1, hI.out.2, hk⟩
      clear hr hI
      go_wp2_with fail
      clear hlE
      go_loopw [30, 6, 10, 11, 12] (fun ii o _ _ _ wr => ∃ (i m : Nat) (uo : List Value) (E : List (List Int)), ii = .int .i64 i ∧ i ≤ S.length ∧ Hid (Bfs n S E k i ∧ uo.length = E.length ∧ k < E.length) ∧ m ≤ E.length ∧ SM w b m (kyA E) wr (own2 o uo E)) (fun ii _ _ _ _ _ => S.length - (intOf ii).toNat)
      case atStart => exact ⟨0, m, uo, E, rfl, by omega, HK0, hm, hM⟩
      case round =>
        clear hM HK0 hEl hkE hk hki hm
        obtain ⟨i, m, uo, E, rfl, hi, hI, hm, hM⟩ := hrel
        have hEl := hI.out.1.le HA.out HS.out
        have hk := hI.out.2.2
        have hr := hM.st.rii hI.out.2.1
        by_cases hiS : i < S.length
        · have hii : (i : Int) < (S.length : Int) := by omega
          have xi := hixg (i : Int) i rfl hiS
          have ci := (hM.st.oldII Hv.out).cell i hiS
          have xk := hr.ixe (k : Int) k rfl hk
          have ck := hr.cell k hk
          have hpE := HA.out.prm _ (HA.out.gen HS.out (hI.out.1.gen _ (xat_mem hk)))
          have hpS := HA.out.prm _ (HS.out _ (xat_mem hiS))
          have KC := Lib.hid (compose_c (vat uo k) (vat ug i) (xat E k) (xat S i) wr (hr.row k hk) ((hM.st.oldII Hv.out).row i hiS) hpE.1 (by rw [hpE.2, hpS.2]) (by rw [hpE.2]; omega))
          have hpp := hpE.cmp hpS
          have hpb := hpp.byt hN2
          have HBE := Lib.hid (fun q (hq : q ∈ E) => Hbyt.out q (HA.out.gen HS.out (hI.out.1.gen q hq)))
          have Hst := Lib.hid (And.intro (fun hm => hI.out.1.old (i := i) hm) (fun hm => hI.out.1.new hk hiS hm))
          have hul := Lib.hid hI.out.2.1
          generalize cmpL (xat E k) (xat S i) = p at *
          have KK := Lib.hid (fun W v (h : RdI W v p) => keyOf_c v p W h hpb (by rw [hpp.2]; omega) (by rw [hpp.2]; omega))
          have hkey : Go.keyOf Try.prog 9 (.string (kyS p)) = some (kyL p) := Go.WideMaps.keyOf_string_mk Try.und_str (by rw [kyS_size, hpp.2]; unfold maxLen; omega)
          have hz : ∀ W, (zeroValue 4).run Try.prog W = .ok (.bool false) W := fun W => by kernel_rfl
          have hplen := Lib.hid hpp.2
          have Hpb := Lib.hid hpb
          clear hpE hpS hpp hpb hI hr
          go_wp2_with fail
          refine KC.out.mono ?_
          clear KC
          rintro e7 w7 ⟨vp, rfl, h7⟩
          have hM7 := hM.call h7
          have r7 := h7.rdI 0 rfl
          obtain ⟨ap, cp, hsh⟩ := r7.sl.sh
          rw [iv_len, hplen.out] at hsh
          subst hsh
          clear hM h7 ck ci
          go_wp2_with fail
          refine (KK.out _ _ r7).mono ?_
          clear KK
          rintro e8 w8 ⟨rfl, h8⟩
          have hM8 := hM7.call0 h8
          have hown := hM8.own
          clear hM7 h8 r7
          by_cases hmem : p ∈ E
          · have hat := setT_yes (kyL_key p) ((kyA_mem Hpb.out HBE.out).2 hmem)
            have HB := Lib.hid (Hst.out.1 hmem)
            clear hmem Hst
            go_wp2_with (at_lookup; refine wpList_lookup_own_bool _ rfl _ _ 64 rfl 9 4 Try.lawS Try.underlying64 Try.underlying4 (hz _) b _ _ rfl hown _ _ rfl hkey true hat ?_)
            go_roundw
            case rel => exact ⟨i + 1, m, uo, E, by go_num, by omega, Lib.hid ⟨HB.out, hul.out, hk⟩, hm, hM8.sub (List.sublist_append_left _ _)⟩
            case measure => simp [intOf]; omega
          · have hat := setT_no (kyL_key p) (fun h => hmem ((kyA_mem Hpb.out HBE.out).1 h))
            have HB := Lib.hid (Hst.out.2 hmem)
            clear hmem Hst
            have hcap := Lib.hid (show m < maxLen by unfold maxLen; omega)
            have hN := Lib.hid (show uo.length < 4294967296 by rw [hul.out]; omega)
            go_wp2_with (first
              | (at_lookup; refine wpList_lookup_own_bool _ rfl _ _ 64 rfl 9 4 Try.lawS Try.underlying64 Try.underlying4 (hz _) b _ _ rfl hown _ _ rfl hkey false hat ?_)
              | (at_mapUpdate; refine wpList_mapUpdate_own _ rfl _ _ _ 64 rfl 9 4 Try.lawS Try.underlying64 (plainElem (H := Unit) Try.prog 4) b _ _ rfl hown hcap.out _ _ _ rfl rfl hkey _ [] (plainElem_bool Try.underlying4 true) ?_; intro w9 hM9 hg9; have hM10 := hM8.turn (ks' := kyA E ++ [kyL p]) hg9 (n' := m + 1) (by rw [setT_snoc]; exact hM9))
              | (at_builtin; refine appIIM hM10 0 rfl hN.out rfl _ _ rfl rfl _ rfl (by first | rfl | simp [Act.eval, World.size_alloc]) ?_; intro v11 w11 hM11))
            rw [own2_snocM hul.out] at hM11
            have hke : kyA E ++ [kyL p] = kyA (E ++ [p]) := by simp [kyA]
            rw [hke] at hM11
            go_roundw
            case rel => exact ⟨i + 1, m + 1, _, _, by go_num, by omega, Lib.hid ⟨HB.out, by rw [List.length_append, List.length_append, hul.out]; rfl, by rw [List.length_append]; omega⟩, by rw [List.length_append, List.length_singleton]; omega, hM11⟩
            case measure => simp [intOf]; omega
        · obtain rfl : i = S.length := by omega
          have hlE := hr.len
          have h720 : ¬ (720 : Int) < (E.length : Int) := by omega
          have HB := Lib.hid (hI.out.1.next hk)
          have hul := Lib.hid hI.out.2.1
          clear hr hI
          go_wp2_with fail
          go_roundw
          case rel => exact ⟨k + 1, m, uo, E, by go_num, Lib.hid ⟨HB.out, hul.out⟩, hm, hM⟩
          case measure => simp [intOf]; omega
    · obtain rfl : k = E.length := by omega
      have HF := Lib.hid hI.out.1.fin
      have hul := hI.out.2
      have hS := hM.st.perm (L' := own2 u6 uo E ++ []) (by rw [List.append_nil])
      have KS := Lib.hid (SortRows_c hS hul (by omega))
      clear hr hI hS hul hM
      go_wp2_with fail
      refine KS.out.mono ?_
      clear KS
      rintro e9 w9 ⟨us9, rfl, hl9, h9⟩
      rw [List.append_nil] at h9
      go_wp2_with fail
      go_ret2
      exact ⟨_, us9, _, rfl, hl9.trans (srtL_len _).symm, HF.out, h9⟩
end Go.Proofs.Ytegmjlblehjccaa
end

section
/- Walks: binary search among ordered lists. -/
namespace Go.Proofs.Ytegmjlblehjccaa
set_option linter.unusedSimpArgs false
set_option linter.unusedVariables false
open Go.RowKit
attribute [local go_sem ↓] Go.wp_at_zero Go.wp_at_succ

/-- where it would be, and whether it is there -/
def GivesBS (w : World) (A : List (List Int)) (p : List Int) (e : Ending) (w' : World) : Prop := ∃ a : Nat, e = .returned (.tuple #[.int .i64 a, .bool (decide (p ∈ A))]) ∧ w = w'
theorem callG_cmp : ∀ (args : Array Value) (W : World), (callFunc 49 args).run Try.prog W = .ok (.enter 49 args) W :=
  fun args W => callFunc_go (P := Try.prog) Try.func49 (by kernel_rfl) (by kernel_rfl) args W
/-- the bounds of the search -/
structure BsI (A : List (List Int)) (p : List Int) (lo hi : Nat) : Prop where
  le : lo ≤ hi
  hl : hi ≤ A.length
  lt : ∀ i, i < lo → cmpI (xat A i) p < 0
  ge : ∀ i, hi ≤ i → i < A.length → 0 ≤ cmpI (xat A i) p
theorem BsI.low {A : List (List Int)} {p : List Int} {lo hi m : Nat} (hA : StrA A) (h : BsI A p lo hi) (h1 : lo ≤ m) (h2 : m < hi) (hc : cmpI (xat A m) p < 0) : BsI A p (m + 1) hi :=
  ⟨h2, h.hl, fun i hi => by
    by_cases e : i = m
    · subst e; exact hc
    · exact cmpI_tlt (hA.at' (show i < m by omega) (by have := h.hl; omega)) hc, h.ge⟩
theorem BsI.high {A : List (List Int)} {p : List Int} {lo hi m : Nat} (hA : StrA A) (h : BsI A p lo hi) (h1 : lo ≤ m) (h2 : m < hi) (hc : ¬ cmpI (xat A m) p < 0) : BsI A p lo m :=
  ⟨h1, by have := h.hl; omega, h.lt, fun i hmi hil => by
    by_cases e : i = m
    · subst e; omega
    · have h3 := hA.at' (show m < i by omega) hil
      by_cases q : cmpI (xat A i) p < 0
      · exact absurd (cmpI_tlt h3 q) hc
      · omega⟩
theorem BsI.fin {A : List (List Int)} {p : List Int} {lo : Nat} (hA : StrA A) (h : BsI A p lo lo) : (p ∈ A) ↔ (lo < A.length ∧ cmpI (xat A lo) p = 0) := by
  constructor
  · intro hp
    obtain ⟨i, hi, rfl⟩ := List.getElem_of_mem hp
    rcases Nat.lt_trichotomy i lo with q | q | q
    · have := h.lt i q
      rw [xat_eq hi, cmpI_self] at this; omega
    · subst q; exact ⟨hi, by rw [xat_eq hi, cmpI_self]⟩
    · have h1 := hA.at' q hi
      have h2 := h.ge lo (Nat.le_refl _) (by omega)
      rw [xat_eq hi] at h1; omega
  · rintro ⟨h1, h2⟩
    rw [← cmpI_eq h2]; exact xat_mem h1
set_option maxHeartbeats 4000000 in
set_option maxRecDepth 100000 in
theorem BinSearch_c (v vx : Value) (us : List Value) (A : List (List Int)) (p : List Int) (w : World) (hv : RII w v us A) (hx : RdI w vx p) (hlen : A.length ≤ 4294967296) (hA : StrA A) :
    Calls Try.prog 50 #[v, vx, .func (.func 49) #[] #[]] w (GivesBS w A p) := by
  have hln := hv.len
  have hix := hv.ixe
  have hcf := callG_cmp
  have KC := fun j hj => Lib.hid (Compare_c _ _ _ _ w (hv.row j hj) hx)
  have HA := Lib.hid hA
  clear hA
  go_enter Try.func50, Try.ntmps50
  go_wp2_with fail
  go_loopw [9, 10, 11] (fun i j _ wr => ∃ lo hi : Nat, i = .int .i64 lo ∧ j = .int .i64 hi ∧ Hid (BsI A p lo hi) ∧ w = wr) (fun i j _ _ => (intOf j - intOf i).toNat)
  case atStart => exact ⟨0, A.length, rfl, rfl, ⟨by omega, by omega, fun i hi => by omega, fun i h1 h2 => by omega⟩, rfl⟩
  case round =>
    obtain ⟨lo, hi, rfl, rfl, hI, rfl⟩ := hrel
    have h2 := hI.out.le
    have h3 := hI.out.hl
    by_cases hlt : lo < hi
    · obtain ⟨m, hm⟩ : ∃ m, (lo + hi) / 2 = m := ⟨_, rfl⟩
      have hml : lo ≤ m ∧ m < hi := by omega
      have hm1 : ((lo : Int) + (hi : Int)) / 2 = (m : Int) := by omega
      have hxm := hix (m : Int) m rfl (by omega)
      have hcm := hv.cell m (by omega)
      have KC := KC m (by omega)
      clear hm
      by_cases hc : cmpI (xat A m) p < 0
      · have HN := Lib.hid (hI.out.low HA.out hml.1 hml.2 hc)
        generalize cmpI (xat A m) p = z at KC hc
        go_wp2_with (go_at_call 49; refine KC.out.mono ?_; rintro e2 w4 ⟨rfl, hw4⟩; subst hw4)
        go_roundw
        case rel => exact ⟨m + 1, hi, by go_num, rfl, HN, by first | trivial | rfl⟩
        case measure => simp [intOf]; omega
      · have HN := Lib.hid (hI.out.high HA.out hml.1 hml.2 hc)
        generalize cmpI (xat A m) p = z at KC hc
        go_wp2_with (go_at_call 49; refine KC.out.mono ?_; rintro e2 w4 ⟨rfl, hw4⟩; subst hw4)
        go_roundw
        case rel => exact ⟨lo, m, rfl, rfl, HN, by first | trivial | rfl⟩
        case measure => simp [intOf]; omega
    · obtain rfl : hi = lo := by omega
      have HF := Lib.hid (hI.out.fin HA.out)
      by_cases hl : hi < A.length
      · have hxm := hix (hi : Int) hi rfl hl
        have hcm := hv.cell hi hl
        have KC := KC hi hl
        have hli : (hi : Int) < (A.length : Int) := by omega
        by_cases hz : cmpI (xat A hi) p = 0
        · have HD := Lib.hid (decide_eq_true (HF.out.2 ⟨hl, hz⟩))
          rw [hz] at KC
          clear hz
          go_wp2_with (go_at_call 49; refine KC.out.mono ?_; rintro e2 w4 ⟨rfl, hw4⟩; subst hw4)
          go_ret2
          exact ⟨hi, by rw [HD.out]; rfl, rfl⟩
        · have HD := Lib.hid (decide_eq_false (fun q => hz (HF.out.1 q).2))
          have fz := eq_f hz
          generalize cmpI (xat A hi) p = z at KC fz hz
          go_wp2_with (go_at_call 49; refine KC.out.mono ?_; rintro e2 w4 ⟨rfl, hw4⟩; subst hw4)
          go_ret2
          exact ⟨hi, by rw [HD.out]; rfl, rfl⟩
      · have HD := Lib.hid (decide_eq_false (fun q => hl (HF.out.1 q).1))
        have hli : ¬ (hi : Int) < (A.length : Int) := by omega
        go_wp2_with fail
        go_ret2
        exact ⟨hi, by rw [HD.out]; rfl, rfl⟩
end Go.Proofs.Ytegmjlblehjccaa
end

section
/- Walks: generators of a group, chosen one after the other. -/
namespace Go.Proofs.Ytegmjlblehjccaa
set_option linter.unusedSimpArgs false
set_option linter.unusedVariables false
open Go.RowKit
attribute [local go_sem ↓] Go.wp_at_zero Go.wp_at_succ

theorem vat_gl {us ws : List Value} {j : Nat} (h : j < us.length) : vat (us ++ ws) j = vat us j := by
  unfold vat; rw [List.getD_eq_getElem?_getD, List.getElem?_append_left h, ← List.getD_eq_getElem?_getD]
theorem vat_gr {us : List Value} {u : Value} {j : Nat} (h : us.length = j) : vat (us ++ [u]) j = u := by
  subst h; unfold vat; simp
def GivesBT (w : World) (b : Bool) (e : Ending) (w' : World) : Prop := ∃ a : Nat, e = .returned (.tuple #[.int .i64 a, .bool b]) ∧ w = w'
theorem BinSearch_b (b : Bool) (v vx : Value) (us : List Value) (A : List (List Int)) (p : List Int) (w : World) (hv : RII w v us A) (hx : RdI w vx p) (hlen : A.length ≤ 4294967296) (hA : StrA A) (hb : decide (p ∈ A) = b) :
    Calls Try.prog 50 #[v, vx, .func (.func 49) #[] #[]] w (GivesBT w b) := by
  refine (BinSearch_c v vx us A p w hv hx hlen hA).mono ?_
  rintro e w' ⟨a, he, hw⟩
  exact ⟨a, by rw [he, hb], hw⟩
/-- generators, all elements, and true -/
def MakesCh (w : World) (n : Nat) (A : List (List Int)) (e : Ending) (w' : World) : Prop := ∃ vg ug G va ua, e = .returned (.tuple #[vg, va, .bool true]) ∧ ClO n G A ∧ (∀ g ∈ G, g ∈ A) ∧ 2 ^ G.length ≤ A.length ∧ RII w' vg ug G ∧ RII w' va ua A ∧ St w.heap.size w w' []
/-- the generators so far -/
structure ChI (n : Nat) (A G R : List (List Int)) (t : Nat) : Prop where
  cl : ClO n G R
  sub : ∀ g ∈ G, g ∈ A
  all : ∀ j, j < t → xat A j ∈ R
  two : 2 ^ G.length ≤ R.length
section
variable {n t : Nat} {A G R R' : List (List Int)}
theorem ChI.start (h : ClO n [] R) : ChI n A [] R 0 := ⟨h, fun g hg => by simp at hg, fun j hj => by omega, List.length_pos_of_mem ((h.2 _).2 Gen.one)⟩
theorem ChI.old (h : ChI n A G R t) (hm : xat A t ∈ R) : ChI n A G R (t + 1) := ⟨h.cl, h.sub, fun j hj => by
  by_cases e : j = t
  · subst e; exact hm
  · exact h.all j (by omega), h.two⟩
theorem ChI.new (h : ChI n A G R t) (hA : Grp n A) (ht : t < A.length) (hm : xat A t ∉ R) (hR : ClO n (G ++ [xat A t]) R') : ChI n A (G ++ [xat A t]) R' (t + 1) := by
  have hp : ∀ g ∈ G, Prm n g := fun g hg => hA.prm g (h.sub g hg)
  have hq := hA.prm _ (xat_mem ht)
  have hS' : ∀ g ∈ G ++ [xat A t], Prm n g := fun g hg => by
    rcases List.mem_append.1 hg with hg | hg
    · exact hp g hg
    · rw [List.mem_singleton.1 hg]; exact hq
  refine ⟨hR, fun g hg => ?_, fun j hj => ?_, ?_⟩
  · rcases List.mem_append.1 hg with hg | hg
    · exact h.sub g hg
    · rw [List.mem_singleton.1 hg]; exact xat_mem ht
  · by_cases e : j = t
    · subst e; exact (hR.2 _).2 (Gen.of_mem hS' (by simp))
    · exact (hR.2 _).2 (((h.cl.2 _).1 (h.all j (by omega))).mono fun g hg => by simp [hg])
  · have := h.cl.double hp hq hR hm
    rw [List.length_append, List.length_singleton, Nat.pow_succ]
    have := h.two; omega
theorem ChI.fin (h : ChI n A G R A.length) (hA : Grp n A) : R = A := h.cl.all hA h.sub fun p hp => by
  obtain ⟨j, hj, rfl⟩ := List.getElem_of_mem hp
  rw [← xat_eq hj]; exact h.all j hj
theorem ChI.len (h : ChI n A G R t) (hA : Grp n A) : G.length < R.length ∧ R.length ≤ A.length := ⟨by have := Nat.lt_two_pow_self (n := G.length); have := h.two; omega, h.cl.le hA h.sub⟩
end
set_option maxHeartbeats 32000000 in
set_option maxRecDepth 100000 in
theorem chosen_c (n : Nat) (v : Value) (us : List Value) (A : List (List Int)) (w : World) (hv : RII w v us A) (hn : 1 ≤ n ∧ n ≤ 32) (hA : Grp n A) (hl : A.length ≤ 720) :
    Calls Try.prog 26 #[.int .i64 n, v] w (MakesCh w n A) := by
  have hln := hv.len
  have hix := hv.ixe
  have hnil : RII w (.slice none 0 0) [] [] := ⟨Rd.nil w, rfl, fun j hj => by simp at hj⟩
  have K0 := Lib.hid (closure_c n (.slice none 0 0) [] [] A w hnil hn hA (fun g hg => by simp at hg) hl)
  have KC := Lib.hid (fun W vg ug G (h : RII W vg ug G) (hs : ∀ g ∈ G, g ∈ A) => closure_c n vg ug G A W h hn hA hs hl)
  have Hv := Lib.hid hv
  have HA := Lib.hid hA
  clear hv hA hnil hn
  go_enter Try.func26, Try.ntmps26
  go_wp2_with fail
  refine K0.out.mono ?_
  clear K0
  rintro e w1 ⟨va, ua, R, rfl, hla, hcl, h1⟩
  have hI0 : Hid (ChI n A [] R 0 ∧ ua.length = R.length ∧ ([] : List Value).length = ([] : List (List Int)).length ∧ ∀ j, j < ([] : List (List Int)).length → RdI w (vat [] j) (xat [] j)) := Lib.hid ⟨ChI.start hcl, hla, rfl, fun j hj => by simp at hj⟩
  have hS1 := (h1.newnil 30).perm (L' := row 30 (.slice none 0 0) [] :: own2 va ua R) List.perm_append_comm
  clear h1 hla hcl
  go_wp2_with fail
  go_loopw [21, 7, 8, 9, 11, 12, 13] (fun ti vg va ok _ _ _ wr => ∃ (t : Nat) (ug ua : List Value) (G R : List (List Int)), ti = .int .i64 t ∧ t ≤ A.length ∧ ok = .bool true ∧ Hid (ChI n A G R t ∧ ua.length = R.length ∧ ug.length = G.length ∧ ∀ j, j < G.length → RdI w (vat ug j) (xat G j)) ∧ St w.heap.size w wr (row 30 vg ug :: own2 va ua R)) (fun ti _ _ _ _ _ _ _ => A.length - (intOf ti).toNat)
  case atStart => exact ⟨0, [], ua, [], R, rfl, by omega, rfl, hI0, hS1⟩
  case round =>
    clear hI0 hS1
    obtain ⟨t, ug, ua, G, R, rfl, ht, rfl, hI, hS⟩ := hrel
    obtain ⟨hg1, hg2⟩ := hI.out.1.len HA.out
    by_cases htA : t < A.length
    · have hti : (t : Int) < (A.length : Int) := by omega
      have xt := hix (t : Int) t rfl htA
      have ct := (hS.oldII Hv.out).cell t htA
      have hra := (hS.sub (List.sublist_cons_self _ _)).rii hI.out.2.1
      have hrp := (hS.oldII Hv.out).row t htA
      have KB := fun b hb => Lib.hid (BinSearch_b b u8 (vat us t) ua R (xat A t) wr hra hrp (by omega) hI.out.1.cl.1 hb)
      by_cases hm : xat A t ∈ R
      · have KB := KB true (decide_eq_true hm)
        have HN : Hid (ChI n A G R (t + 1) ∧ ua.length = R.length ∧ ug.length = G.length ∧ ∀ j, j < G.length → RdI w (vat ug j) (xat G j)) := Lib.hid ⟨hI.out.1.old hm, hI.out.2⟩
        clear hm hra hrp hI
        go_wp2_with fail
        refine KB.out.mono ?_
        clear KB
        rintro e2 w2 ⟨a2, rfl, hw⟩
        subst hw
        go_wp2_with fail
        go_roundw
        case rel => exact ⟨t + 1, ug, ua, G, R, by go_num, by omega, rfl, HN, hS⟩
        case measure => simp [intOf]; omega
      · have KB := KB false (decide_eq_false hm)
        have hrw := Lib.hid (Hv.out.row t htA)
        have Hnew := Lib.hid (fun R' (hR : ClO n (G ++ [xat A t]) R') => hI.out.1.new HA.out htA hm hR)
        have hN := Lib.hid (show ug.length < 4294967296 by rw [hI.out.2.2.1]; omega)
        obtain ⟨ap, cp, hsh⟩ := hrp.sl.sh
        rw [iv_len, (HA.out.prm _ (xat_mem htA)).2] at hsh
        rw [hsh] at ct KB hrw
        obtain ⟨pv, hpv⟩ : ∃ pv : Value, pv = .slice ap n cp := ⟨_, rfl⟩
        rw [← hpv] at hrw
        have HG : Hid (∀ g ∈ G ++ [xat A t], g ∈ A) := Lib.hid (fun g hg => by
          rcases List.mem_append.1 hg with hg | hg
          · exact hI.out.1.sub g hg
          · rw [List.mem_singleton.1 hg]; exact xat_mem htA)
        have Hug : Hid ((ug ++ [pv]).length = (G ++ [xat A t]).length ∧ ∀ j, j < (G ++ [xat A t]).length → RdI w (vat (ug ++ [pv]) j) (xat (G ++ [xat A t]) j)) := Lib.hid ⟨by rw [List.length_append, List.length_append, hI.out.2.2.1]; rfl, fun j hj => by
          have hul := hI.out.2.2.1
          by_cases e : j < G.length
          · rw [xat_appL e, vat_gl (show j < ug.length by omega)]
            exact hI.out.2.2.2 j e
          · obtain rfl : j = G.length := by rw [List.length_append, List.length_singleton] at hj; omega
            rw [show xat (G ++ [xat A t]) G.length = xat A t from by rw [xat_eq (by simp)]; simp, vat_gr hul]
            exact hrw.out⟩
        rw [hpv] at Hug
        clear hm hra hrp hI hsh hrw hpv
        generalize G ++ [xat A t] = G2 at *
        go_wp2_with fail
        refine KB.out.mono ?_
        clear KB
        rintro e2 w2 ⟨a2, rfl, hw⟩
        subst hw
        go_wp2_with (at_builtin; refine appII hS 0 rfl hN.out rfl _ _ rfl rfl _ rfl (by first | rfl | simp [Act.eval, World.size_alloc]) ?_; intro v3 w3 hS3; simp only [List.set_cons_zero] at hS3)
        refine (KC.out w3 v3 _ G2 ⟨hS3.rd 0 rfl, Hug.out.1, fun j hj => hS3.oldI (Hug.out.2 j hj)⟩ HG.out).mono ?_
        rintro e4 w4 ⟨va4, ua4, R4, rfl, hla4, hcl4, h4⟩
        have hS4 := (hS3.sub (L' := [row 30 v3 (ug ++ [Value.slice ap n cp])]) ((List.nil_sublist _).cons_cons _)).call h4
        have HN : Hid (ChI n A G2 R4 (t + 1) ∧ ua4.length = R4.length ∧ (ug ++ [Value.slice ap n cp]).length = G2.length ∧ ∀ j, j < G2.length → RdI w (vat (ug ++ [Value.slice ap n cp]) j) (xat G2 j)) := Lib.hid ⟨Hnew.out R4 hcl4, hla4, Hug.out.1, Hug.out.2⟩
        clear hS hS3 h4 hla4 hcl4
        go_wp2_with fail
        go_roundw
        case rel => exact ⟨t + 1, _, ua4, G2, R4, by go_num, by omega, rfl, HN, hS4⟩
        case measure => simp [intOf]; omega
    · obtain rfl : t = A.length := by omega
      have hRA := hI.out.1.fin HA.out
      have hrg : RII wr u7 ug G := ⟨hS.rd 0 rfl, hI.out.2.2.1, fun j hj => hS.oldI (hI.out.2.2.2 j hj)⟩
      have hra := (hS.sub (List.sublist_cons_self _ _)).rii hI.out.2.1
      have HI := Lib.hid (And.intro hI.out.1.cl (And.intro hI.out.1.sub (And.intro hI.out.1.two (And.intro hrg hra))))
      rw [hRA] at HI
      have hout := hS.out
      clear hI hRA hrg hra hS hg1 hg2
      go_wp2_with fail
      refine bodyPost_ret (v := .tuple #[u7, u8, .bool true]) (by simp [results, Try.results26, go_sem]) rfl ?_
      exact ⟨u7, ug, G, u8, ua, rfl, HI.out.1, HI.out.2.1, HI.out.2.2.1, HI.out.2.2.2.1, HI.out.2.2.2.2, hout⟩
end Go.Proofs.Ytegmjlblehjccaa
end

section
/- Slices of slices of slices of integers: what they read as, what a call owns, and the law's functions on them. -/
namespace Go.Proofs.Ytegmjlblehjccaa
set_option linter.unusedSimpArgs false
set_option linter.unusedVariables false
open Go.RowKit

def x3at (X : List (List (List Int))) (k : Nat) : List (List Int) := X.getD k []
theorem x3at_set {X : List (List (List Int))} {j k : Nat} {x : List (List Int)} (h : j < X.length) : x3at (X.set j x) k = if j = k then x else x3at X k := by
  unfold x3at
  rw [List.getD_eq_getElem?_getD, List.getElem?_set]
  split
  · rename_i e; subst e; simp [h]
  · simp [List.getD_eq_getElem?_getD]
/-- what is read -/
def RIII (w : World) (v : Value) (vs : List Value) (uss : List (List Value)) (X : List (List (List Int))) : Prop :=
  Rd w v vs ∧ vs.length = X.length ∧ ∀ k, k < X.length → RII w (vat vs k) (vsat uss k) (x3at X k)
section
variable {w w' : World} {v : Value} {vs : List Value} {uss : List (List Value)} {X : List (List (List Int))}
theorem RIII.le (h : RIII w v vs uss X) : X.length ≤ 9223372036854775807 := by have := h.1.sl.le; rwa [h.2.1] at this
theorem RIII.cell (h : RIII w v vs uss X) (j : Nat) (hj : j < X.length) : w.cell? (el v j) = some (vat vs j) := Rd.cell h.1 (by rw [h.2.1]; exact hj)
theorem RIII.row (h : RIII w v vs uss X) (j : Nat) (hj : j < X.length) : RII w (vat vs j) (vsat uss j) (x3at X j) := h.2.2 j hj
theorem RIII.keep (h : RIII w v vs uss X) (hb : Below w.heap.size w w') : RIII w' v vs uss X := ⟨h.1.keep hb, h.2.1, fun j hj => (h.2.2 j hj).keep hb⟩
end
/-! ### what is owned -/
section
variable {v : Value} {vs : List Value} {uss : List (List Value)} {X : List (List (List Int))} {L2 : List Ent} {j : Nat}
end
/-- the lengths fit -/
def Fit3 (vs : List Value) (uss : List (List Value)) (X : List (List (List Int))) : Prop := vs.length = X.length ∧ uss.length = X.length ∧ ∀ k, k < X.length → (vsat uss k).length = (x3at X k).length
theorem Fit3.set {vs : List Value} {uss : List (List Value)} {X : List (List (List Int))} (h : Fit3 vs uss X) {j : Nat} (hj : j < X.length) {x : List (List Int)} (hx : x.length = (x3at X j).length) : Fit3 vs uss (X.set j x) :=
  ⟨by simpa using h.1, by simpa using h.2.1, fun k hk => by
    rw [x3at_set hj]
    simp only [List.length_set] at hk
    by_cases e : j = k
    · rw [if_pos e, hx]; subst e; exact h.2.2 j hj
    · rw [if_neg e]; exact h.2.2 k hk⟩

/-! ### the law's functions -/
end Go.Proofs.Ytegmjlblehjccaa
end

section
/- Walks: squares that are made. -/
namespace Go.Proofs.Ytegmjlblehjccaa
set_option linter.unusedSimpArgs false
set_option linter.unusedVariables false
open Go.RowKit
section
variable {ops : Array Oper} {rest : List Oper} {o : Oper} {a : Act} {Q : Exit → Act → World → Prop} {B : Nat} {w0 w : World} {L : List Ent}
end
/-- a square by its entries -/
def sqF (n : Nat) (f : Nat → Nat → Int) : List (List Int) := (List.range n).map fun x => tab n (f x)
theorem sqF_len (n : Nat) (f : Nat → Nat → Int) : (sqF n f).length = n := by simp [sqF]
theorem xat_sqF {n : Nat} {f : Nat → Nat → Int} {x : Nat} (h : x < n) : xat (sqF n f) x = tab n (f x) := by simp [sqF, xat, h]
end Go.Proofs.Ytegmjlblehjccaa
end

section
/- Latin squares as lists of lists, their isotopes. In plain terms. -/
namespace Go.Proofs.Ytegmjlblehjccaa
set_option linter.unusedSimpArgs false
set_option linter.unusedVariables false
/-- the entry of a place -/
def at2 (A : List (List Int)) (x y : Nat) : Int := nth (xat A x) y
/-- a square of n rows and columns -/
structure Sqr (n : Nat) (A : List (List Int)) : Prop where
  len : A.length = n
  row : ∀ x, x < n → (xat A x).length = n
def colL (A : List (List Int)) (y : Nat) : List Int := A.map fun r => nth r y
/-- a Latin square of at most 10 rows -/
structure Lat (A : List (List Int)) : Prop where
  pos : 1 ≤ A.length
  le : A.length ≤ 10
  len : ∀ x, x < A.length → (xat A x).length = A.length
  row : ∀ x, x < A.length → IsP (xat A x)
  col : ∀ y, y < A.length → IsP (colL A y)
theorem sqF_sqr (n : Nat) (f : Nat → Nat → Int) : Sqr n (sqF n f) := ⟨sqF_len n f, fun x hx => by rw [xat_sqF hx, tab_len]⟩
/-- one entry anew -/
def putS (S : List (List Int)) (x y : Nat) (v : Int) : List (List Int) := S.set x ((xat S x).set y v)
theorem xat_putS {n : Nat} {S : List (List Int)} (h : Sqr n S) {x : Nat} (hx : x < n) (y : Nat) (v : Int) (t : Nat) : xat (putS S x y v) t = if x = t then (xat S x).set y v else xat S t := by
  unfold putS xat
  rw [List.getD_eq_getElem?_getD, List.getElem?_set]
  split
  · rename_i e; subst e; rw [if_pos (by rw [h.len]; exact hx)]; rfl
  · simp
theorem putS_sqr {n : Nat} {S : List (List Int)} (h : Sqr n S) {x : Nat} (hx : x < n) (y : Nat) (v : Int) : Sqr n (putS S x y v) := by
  refine ⟨by unfold putS; rw [List.length_set]; exact h.len, fun t ht => ?_⟩
  rw [xat_putS h hx]
  split
  · rw [List.length_set]; exact h.row x hx
  · exact h.row t ht
theorem at2_putS {n : Nat} {S : List (List Int)} (h : Sqr n S) {x y : Nat} (hx : x < n) (hy : y < n) (v : Int) (t u : Nat) : at2 (putS S x y v) t u = if x = t ∧ y = u then v else at2 S t u := by
  unfold at2
  rw [xat_putS h hx]
  by_cases e : x = t
  · subst e
    rw [if_pos rfl, nth_set (by rw [h.row x hx]; exact hy)]
    by_cases e2 : y = u
    · rw [if_pos e2, if_pos ⟨rfl, e2⟩]
    · rw [if_neg e2, if_neg fun h => e2 h.2]
  · rw [if_neg e, if_neg fun h => e h.1]
/-! ### isotopes -/
/-- the isotope, made as far as place y of row x -/
structure IsoP (A : List (List Int)) (r c s : List Int) (x y : Nat) (S : List (List Int)) : Prop where
  sqr : Sqr A.length S
  at' : ∀ x' y', x' < A.length → y' < A.length → (x' < x ∨ x' = x ∧ y' < y) → at2 S (pf r x') (pf c y') = nth s (at2 A x' y').toNat
section
variable {A : List (List Int)} {r c s : List Int}
theorem IsoP.start : IsoP A r c s 0 0 (sqF A.length fun _ _ => 0) := ⟨sqF_sqr _ _, fun _ _ _ _ h => by omega⟩
theorem IsoP.step (hr : IsP r) (hc : IsP c) (hrl : r.length = A.length) (hcl : c.length = A.length) {x y : Nat} {S : List (List Int)} (h : IsoP A r c s x y S) (hx : x < A.length) (hy : y < A.length) :
    IsoP A r c s x (y + 1) (putS S (pf r x) (pf c y) (nth s (at2 A x y).toNat)) := by
  have h1 : pf r x < A.length := by rw [← hrl]; exact hr.pf_lt (by omega)
  have h2 : pf c y < A.length := by rw [← hcl]; exact hc.pf_lt (by omega)
  refine ⟨putS_sqr h.sqr h1 _ _, fun x' y' hx' hy' hl => ?_⟩
  rw [at2_putS h.sqr h1 h2]
  split
  · rename_i e
    rw [hr.bij.inj x x' (by omega) (by omega) e.1, hc.bij.inj y y' (by omega) (by omega) e.2]
  · rename_i e
    refine h.at' x' y' hx' hy' ?_
    rcases hl with hl | ⟨rfl, hl⟩
    · exact .inl hl
    · refine .inr ⟨rfl, ?_⟩
      by_cases e2 : y' = y
      · subst e2; exact absurd ⟨rfl, rfl⟩ e
      · omega
theorem IsoP.next {x : Nat} {S : List (List Int)} (h : IsoP A r c s x A.length S) : IsoP A r c s (x + 1) 0 S :=
  ⟨h.sqr, fun x' y' hx' hy' hl => h.at' x' y' hx' hy' (by omega)⟩
end
end Go.Proofs.Ytegmjlblehjccaa
end

section
/- Slices of truth values. -/
namespace Go.Proofs.Ytegmjlblehjccaa
set_option linter.unusedSimpArgs false
set_option linter.unusedVariables false
open Go.RowKit
/-- the cells of a list of truth values -/
def bo (xs : List Bool) : List Value := xs.map Value.bool
/-- element j -/
def bat (xs : List Bool) (j : Nat) : Bool := xs.getD j false
theorem bo_len (xs : List Bool) : (bo xs).length = xs.length := by simp [bo]
theorem bo_get {xs : List Bool} {j : Nat} (h : j < xs.length) : (bo xs).getD j undef = .bool (bat xs j) := by
  simp [bo, bat, List.getD, List.getElem?_eq_getElem h]
theorem bo_set (xs : List Bool) (j : Nat) (x : Bool) : (bo xs).set j (.bool x) = bo (xs.set j x) := by simp [bo, List.map_set]
theorem bo_rep (n : Nat) : List.replicate n (Value.bool false) = bo (List.replicate n false) := by simp [bo]
theorem bat_set {xs : List Bool} {i j : Nat} {x : Bool} (h : i < xs.length) : bat (xs.set i x) j = if i = j then x else bat xs j := by
  unfold bat
  rw [List.getD_eq_getElem?_getD, List.getElem?_set]
  split
  · rename_i e; subst e; simp [h]
  · simp
theorem bat_rep (n j : Nat) : bat (List.replicate n false) j = false := by
  unfold bat
  rw [List.getD_eq_getElem?_getD, List.getElem?_replicate]; split <;> rfl
def RdO (w : World) (v : Value) (xs : List Bool) : Prop := Rd w v (bo xs)
theorem Try.info_o : (Try.prog.info? 4).map (fun i => (i.zero, i.size, i.bytes)) = some (some (.bool false), 1, 1) := by kernel_rfl
theorem Try.size_o : (Try.prog.info? 4).map (·.size) = some 1 := by kernel_rfl
theorem Try.und_os : Try.prog.underlying 80 = some (.slice 4) := by kernel_rfl
section
variable {w w' : World} {v : Value} {xs : List Bool}
theorem RdO.le (h : RdO w v xs) : xs.length ≤ 9223372036854775807 := by have := h.sl.le; rwa [bo_len] at this
theorem RdO.len (h : RdO w v xs) (ty : TypeId) (W : World) : (Builtin.len_ #[80] ty #[v]).run Try.prog W = .ok (.int .i64 xs.length) W := by
  have := run_len_sl (P := Try.prog) h.sl 80 ty Try.und_os W; rwa [bo_len] at this
theorem RdO.ix (h : RdO w v xs) (k : IntKind) (i : Int) (h0 : 0 ≤ i) (hi : i < xs.length) (W : World) :
    (Instr.indexAt 80 v (.int k i)).run Try.prog W = .ok (.pointer (some (el v i.toNat))) W :=
  run_ix_sl (P := Try.prog) h.sl 80 Try.und_os Try.size_o k i h0 (by rw [bo_len]; exact hi) W
theorem RdO.ixe (h : RdO w v xs) (i : Int) (j : Nat) (hij : i = (j : Int)) (hj : j < xs.length) (W : World) :
    (Instr.indexAt 80 v (.int .i64 i)).run Try.prog W = .ok (.pointer (some (el v j))) W := by
  have := h.ix .i64 i (by omega) (by omega) W
  rwa [hij, Int.toNat_natCast, ← hij] at this
theorem RdO.cell (h : RdO w v xs) (j : Nat) (hj : j < xs.length) : w.cell? (el v j) = some (.bool (bat xs j)) := by
  rw [Rd.cell h (by rw [bo_len]; exact hj), bo_get hj]
theorem RdO.keep (h : RdO w v xs) (hb : Below w.heap.size w w') : RdO w' v xs := Rd.keep h hb
end
theorem St.rdO {B : Nat} {w0 w : World} {L : List Ent} (h : St B w0 w L) (i : Nat) {e : TypeId} {v : Value} {xs : List Bool} (hi : L[i]? = some (row e v (bo xs))) : RdO w v xs := h.rd i hi
section
variable {ops : Array Oper} {rest : List Oper} {o : Oper} {a : Act} {Q : Exit → Act → World → Prop} {B : Nat} {w0 w : World} {L : List Ent}
/-- a store into an owned row of truth values -/
theorem stoO (hS : St B w0 w L) (i : Nat) {v : Value} {xs : List Bool} (hi : L[i]? = some (row 4 v (bo xs))) (j : Nat) (hj : j < xs.length) (hg : o.guard = none) (x y : Operand)
    (hop : o.op = .store 4 x y) (hx : a.eval x = .pointer (some (el v j))) (n : Bool) (hy : a.eval y = .bool n)
    (hK : ∀ w', St B w0 w' (L.set i (row 4 v (bo (xs.set j n)))) → wpList Try.prog ops Q rest (a.put o.dst undef) w') :
    wpList Try.prog ops Q (o :: rest) a w :=
  wpList_st_store hg x y 4 hop Try.size_o hS i hi j (by rw [bo_len]; exact hj) (.bool n) hx hy rfl rfl (fun w' h => hK w' (by rw [← bo_set]; exact h))
/-- make([]bool, n) -/
theorem mkO (hS : St B w0 w L) (hg : o.guard = none) (x y : Operand) (hop : o.op = .makeSlice 80 x y) (kl kc : IntKind) (n : Nat) (hx : a.eval x = .int kl n) (hy : a.eval y = .int kc n) (hN : n ≤ 4294967296)
    (hK : ∀ v' w', St B w0 w' (L ++ [row 4 v' (bo (List.replicate n false))]) → wpList Try.prog ops Q rest (a.put o.dst v') w') :
    wpList Try.prog ops Q (o :: rest) a w :=
  wpList_st_make hg x y 80 hop 4 (.bool false) 1 Try.und_os Try.info_o rfl hS kl kc n hx hy (by omega) hN (fun v' w' h => hK v' w' (by rw [← bo_rep]; exact h))
end
theorem RdI.shz {w : World} {v : Value} {xs : List Int} (h : RdI w v xs) : ∃ a c, v = .slice a xs.length c := by
  obtain ⟨a, c, hv, _⟩ := h.sl
  rw [iv_len] at hv
  exact ⟨a, c, hv⟩
end Go.Proofs.Ytegmjlblehjccaa
end

section
/- Walks: the cycles of a permutation. Walks: SignOf; the law FnPermutations. Walks: CyclesOf, SignOf and OrderOfPermutation of any list, powers, permutations made of cycles, types. -/
namespace Go.Proofs.Ytegmjlblehjccaa
set_option linter.unusedSimpArgs false
set_option linter.unusedVariables false
open Go.RowKit
attribute [local go_sem ↓] Go.wp_at_zero Go.wp_at_succ


def ofN (l : List Nat) : List Int := l.map fun k : Nat => (k : Int)
/-- the cycles that numbers below m lead -/
noncomputable def cyM (xs : List Int) (m : Nat) : List (List Int) := (cycs xs.length (pf xs) m).map ofN
/-- the first j numbers of the cycle of x -/
def cyP (xs : List Int) (x j : Nat) : List Int := (List.range j).map fun i => ((it (pf xs) i x : Nat) : Int)
theorem cyP_succ (xs : List Int) (x j : Nat) : cyP xs x (j + 1) = cyP xs x j ++ [((it (pf xs) j x : Nat) : Int)] := by simp [cyP, List.range_succ]
theorem cyP_len (xs : List Int) (x j : Nat) : (cyP xs x j).length = j := by simp [cyP]
theorem cyP_all (xs : List Int) (x : Nat) : cyP xs x (clen xs.length (pf xs) x) = ofN (cycL xs.length (pf xs) x) := by simp [cyP, ofN, cycL]
theorem cyM_yes {xs : List Int} {m : Nat} (h : Lead (pf xs) m) : cyM xs (m + 1) = cyM xs m ++ [cyP xs m (clen xs.length (pf xs) m)] := by
  unfold cyM; rw [cycs, if_pos h, cyP_all]; simp
theorem cyM_no {xs : List Int} {m : Nat} (h : ¬ Lead (pf xs) m) : cyM xs (m + 1) = cyM xs m := by
  unfold cyM; rw [cycs, if_neg h]; simp
theorem cyM_len (xs : List Int) (m : Nat) : (cyM xs m).length ≤ m := by
  unfold cyM; rw [List.length_map, cycs_len]
  induction m with
  | zero => simp [cyc]
  | succ m ih => rw [cyc]; split <;> omega
/-- what is seen: all cycles that numbers below m lead, and the first j numbers of that of m -/
def Seen (xs : List Int) (m j : Nat) (s : List Bool) : Prop := s.length = xs.length ∧ ∀ y, y < xs.length → (bat s y = true ↔ y ∈ (cycs xs.length (pf xs) m).flatten ∨ ∃ i, i < j ∧ y = it (pf xs) i m)
theorem Seen.start (xs : List Int) : Seen xs 0 0 (List.replicate xs.length false) := ⟨by simp, fun y hy => by rw [bat_rep]; simp [cycs]⟩
theorem Seen.step {xs : List Int} {m j : Nat} {s : List Bool} (h : Seen xs m j s) (hp : IsP xs) (hm : m < xs.length) : Seen xs m (j + 1) (s.set (it (pf xs) j m) true) := by
  have hlt := it_lt hp.bij hm j
  refine ⟨by rw [List.length_set]; exact h.1, fun y hy => ?_⟩
  rw [bat_set (by rw [h.1]; exact hlt)]
  by_cases e : it (pf xs) j m = y
  · rw [if_pos e]; exact ⟨fun _ => .inr ⟨j, by omega, e.symm⟩, fun _ => rfl⟩
  · rw [if_neg e, h.2 y hy]
    constructor
    · rintro (h1 | ⟨i, hi, e2⟩)
      · exact .inl h1
      · exact .inr ⟨i, by omega, e2⟩
    · rintro (h1 | ⟨i, hi, e2⟩)
      · exact .inl h1
      · refine .inr ⟨i, ?_, e2⟩
        refine Nat.lt_of_le_of_ne (by omega) fun e3 => e ?_
        rw [e2, e3]
theorem Seen.no {xs : List Int} {m : Nat} {s : List Bool} (h : Seen xs m 0 s) (hp : IsP xs) (hm : m < xs.length) (hL : ¬ Lead (pf xs) m) : bat s m = true ∧ Seen xs (m + 1) 0 s := by
  have hs := fun hh => hL ((lead_seen hp.bij hm).2 hh)
  refine ⟨(h.2 m hm).2 (.inl (Classical.byContradiction hs)), h.1, fun y hy => ?_⟩
  rw [h.2 y hy, cycs, if_neg hL]; simp
theorem Seen.fresh {xs : List Int} {m j : Nat} {s : List Bool} (h : Seen xs m j s) (hp : IsP xs) (hm : m < xs.length) (hL : Lead (pf xs) m) (hj : j < clen xs.length (pf xs) m) : bat s (it (pf xs) j m) = false := by
  have hlt := it_lt hp.bij hm j
  have hc := clen_ok hp.bij hm
  cases e : bat s (it (pf xs) j m) with
  | false => rfl
  | true =>
    rcases (h.2 _ hlt).1 e with h1 | ⟨i, hi, e2⟩
    · exact absurd h1 (lead_fresh hp.bij hm hL ((mem_cycL hp.bij hm).2 ⟨j, rfl⟩))
    · have := hc.inj hp.bij hm hj (by omega) e2; omega
theorem Seen.back {xs : List Int} {m : Nat} {s : List Bool} (h : Seen xs m (clen xs.length (pf xs) m) s) (hp : IsP xs) (hm : m < xs.length) (hL : Lead (pf xs) m) : bat s (it (pf xs) (clen xs.length (pf xs) m) m) = true ∧ Seen xs (m + 1) 0 s := by
  have hc := clen_ok hp.bij hm
  have hb := hc.back
  refine ⟨?_, h.1, fun y hy => ?_⟩
  · rw [hb]; exact (h.2 m hm).2 (.inr ⟨0, hc.pos, rfl⟩)
  · rw [h.2 y hy, cycs, if_pos hL]
    simp only [List.flatten_append, List.flatten_cons, List.flatten_nil, List.append_nil, List.mem_append]
    constructor
    · rintro (h1 | ⟨i, hi, rfl⟩)
      · exact .inl (.inl h1)
      · exact .inl (.inr ((mem_cycL hp.bij hm).2 ⟨i, rfl⟩))
    · rintro ((h1 | h1) | ⟨i, hi, _⟩)
      · exact .inl h1
      · unfold cycL at h1
        obtain ⟨i, hi, rfl⟩ := List.mem_map.1 h1
        exact .inr ⟨i, List.mem_range.1 hi, rfl⟩
      · omega
theorem rowsI_snoc {us : List Value} {R : List (List Int)} (hl : us.length = R.length) (u : Value) (xs : List Int) : rowsI (us ++ [u]) (R ++ [xs]) = rowsI us R ++ [row 2 u (iv xs)] := rowsI_app hl u xs
set_option maxHeartbeats 4000000 in
set_option maxRecDepth 100000 in
theorem cyclesOf_c (v : Value) (xs : List Int) (w : World) (hv : RdI w v xs) (hp : IsP xs) (hN : xs.length ≤ 1000) : Calls Try.prog 24 #[v] w (MakesII w (cyM xs xs.length)) := by
  have hlx := hv.len
  have hix := hv.ix
  have HP := Lib.hid hp
  clear hp
  go_enter Try.func24, Try.ntmps24
  go_wp2_with (at_make; refine mkO (St.refl w) rfl _ _ rfl _ _ xs.length rfl rfl (by omega) ?_; intro sv w1 hS1; have hr := hS1.rdO 0 rfl; have hsx := hr.ix; simp only [List.length_replicate] at hsx; clear hr)
  go_loopw [4, 5, 6, 7, 13] (fun c _ _ _ x wr => ∃ (k : Nat) (us : List Value) (s : List Bool), k ≤ xs.length ∧ x = .int .i64 k ∧ Hid (us.length = (cyM xs k).length) ∧ Hid (Seen xs k 0 s) ∧ St w.heap.size w wr (row 4 sv (bo s) :: row 30 c us :: rowsI us (cyM xs k))) (fun _ _ _ _ x _ => xs.length - (intOf x).toNat)
  case atStart => exact ⟨0, [], _, by omega, rfl, rfl, Seen.start xs, hS1.newnil 30⟩
  case round =>
    clear hS1
    obtain ⟨k, us, s, hk, rfl, hus, hse, hS⟩ := hrel
    by_cases hlt : k < xs.length
    · have hck := (hS.rdO 0 rfl).cell k (by rw [hse.out.1]; exact hlt)
      by_cases hL : Lead (pf xs) k
      · have HL := Lib.hid hL
        have Hc := Lib.hid (clen_ok HP.out.bij hlt)
        have hcp := Hc.out.pos
        have Hcl := Lib.hid Hc.out.le
        have hS2 : St w.heap.size w wr (row 2 (.slice none 0 0) (iv (cyP xs k 0)) :: row 4 sv (bo s) :: row 30 u4 us :: rowsI us (cyM xs k)) := (hS.newnil 2).perm List.perm_append_comm
        have hcl' : clen xs.length (pf xs) k ≤ 1000 := by have := Hcl.out; omega
        clear hL
        go_wp2_with fail
        go_loopw [6, 7] (fun c y wr => ∃ (j : Nat) (s : List Bool) (a : Option Addr) (cap : Nat), j ≤ clen xs.length (pf xs) k ∧ c = .slice a j cap ∧ y = .int .i64 (it (pf xs) j k : Nat) ∧ Hid (Seen xs k j s) ∧ St w.heap.size w wr (row 2 c (iv (cyP xs k j)) :: row 4 sv (bo s) :: row 30 u4 us :: rowsI us (cyM xs k))) (fun c _ _ => clen xs.length (pf xs) k - (match c with | .slice _ n _ => n | _ => 0))
        case atStart => exact ⟨0, s, none, 0, by omega, rfl, rfl, hse, hS2⟩
        case round =>
          clear hS hS2 hck
          obtain ⟨j, s, a, cap, hj, rfl, rfl, hse, hS⟩ := hrel
          have hyl := it_lt HP.out.bij hlt j
          have hcy := (hS.rdO 1 rfl).cell (it (pf xs) j k) (by rw [hse.out.1]; exact hyl)
          by_cases hjl : j < clen xs.length (pf xs) k
          · rw [hse.out.fresh HP.out hlt HL.out hjl] at hcy
            have hcx := (hS.oldI hv).cell (it (pf xs) j k) hyl
            rw [nth_pf HP.out hyl, show pf xs (it (pf xs) j k) = it (pf xs) (j + 1) k from rfl] at hcx
            have Hst := Lib.hid (hse.out.step HP.out hlt)
            have hyl' := Lib.hid (show it (pf xs) j k < s.length by rw [hse.out.1]; exact hyl)
            have Hlen := Lib.hid (cyP_len xs k j)
            have Hsuc := Lib.hid (cyP_succ xs k j)
            have hcP : ∀ (wz : World) (sz : List Bool) (c2 : Value), St w.heap.size w wz (row 2 c2 (iv (cyP xs k j ++ [((it (pf xs) j k : Nat) : Int)])) :: row 4 sv (bo sz) :: row 30 u4 us :: rowsI us (cyM xs k)) → wz.cell? (el v (it (pf xs) j k)) = some (.int .i64 ((it (pf xs) (j + 1) k : Nat) : Int)) := fun wz sz c2 h => by
              have := (h.oldI hv).cell (it (pf xs) j k) hyl
              rwa [nth_pf HP.out hyl] at this
            clear hcx
            generalize it (pf xs) j k = y at *
            generalize hy' : it (pf xs) (j + 1) k = y' at *
            have Hy' := Lib.hid hy'
            clear hy'
            go_wp2_with (first
              | (at_builtin; refine appI hS2 0 rfl (by rw [Hlen.out]; omega) rfl _ _ rfl rfl _ rfl ?_; intro c2 w3 hS3; have hcz := hcP _ _ _ hS3)
              | (refine stoO hS 1 rfl y hyl'.out rfl _ _ rfl rfl true rfl ?_; intro w2 hS2))
            simp only [List.set_cons_zero, List.set_cons_succ] at hS3
            obtain ⟨a3, c3, hv3⟩ := (hS3.rdI 0 rfl).shz
            rw [List.length_append, Hlen.out] at hv3
            simp only [List.length_cons, List.length_nil, Nat.zero_add] at hv3
            subst hv3
            go_roundw
            case rel => exact ⟨j + 1, _, a3, c3, by omega, rfl, by rw [Hy'.out], Hst.out, by rw [Hsuc.out]; exact hS3⟩
            case measure => simp; omega
          · obtain rfl : j = clen xs.length (pf xs) k := by omega
            have hb := hse.out.back HP.out hlt HL.out
            rw [hb.1] at hcy
            have Hb := Lib.hid hb.2
            have Hyes := Lib.hid (cyM_yes HL.out)
            have hlu := Lib.hid (show us.length < 4294967296 by have := cyM_len xs k; rw [hus.out]; omega)
            have hjp : (0 : Int) < (clen xs.length (pf xs) k : Nat) := by omega
            clear hb hse
            go_wp2_with (at_builtin; refine appII hS 2 rfl hlu.out rfl _ _ rfl rfl _ rfl rfl ?_; intro c2 w3 hS3)
            simp only [List.set_cons_zero, List.set_cons_succ] at hS3
            go_roundw
            case rel => exact ⟨k + 1, us ++ [.slice a (clen xs.length (pf xs) k) cap], s, by omega, by go_num, by unfold Hid; rw [Hyes.out]; simp; exact hus.out, Hb.out, by
              rw [Hyes.out, rowsI_snoc hus.out]
              exact hS3.perm (by (try simp only [own2, List.cons_append, List.nil_append, List.append_nil]); classical exact List.perm_iff_count.2 (fun a => by simp only [List.cons_append, List.nil_append, List.append_nil, List.count_append, List.count_cons, List.count_nil] <;> omega))⟩
            case measure => simp [intOf]; omega
      · have Hno := Lib.hid (hse.out.no HP.out hlt hL)
        have Hq := Lib.hid (cyM_no hL)
        rw [Hno.out.1] at hck
        clear hL hse
        go_wp2_with fail
        go_loopw [6, 7] (fun c y wr' => c = .slice none 0 0 ∧ y = .int .i64 k ∧ wr' = wr) (fun _ _ _ => 0)
        case atStart => exact ⟨rfl, rfl, rfl⟩
        case round =>
          obtain ⟨rfl, rfl, rfl⟩ := hrel
          go_wp2_with fail
          go_roundw
          case rel => exact ⟨k + 1, us, s, by omega, by go_num, by unfold Hid; rw [Hq.out]; exact hus.out, Hno.out.2, by rw [Hq.out]; exact hS⟩
          case measure => simp [intOf]; omega
    · obtain rfl : k = xs.length := by omega
      go_wp2_with fail
      go_ret
      exact ⟨_, us, rfl, hus.out, hS.sub (List.sublist_cons_self _ _)⟩


theorem cyM_cyc (xs : List Int) (m : Nat) : (cyM xs m).length = cyc m (pf xs) := by unfold cyM; rw [List.length_map, cycs_len]
/-- what the list of cycles is -/
structure CyOk (xs : List Int) (C : List (List Int)) : Prop where
  shape : ∀ t, t < C.length → ∃ m, m < xs.length ∧ xat C t = cyP xs m (clen xs.length (pf xs) m)
  all : ∀ y, y < xs.length → ∃ t k, t < C.length ∧ k < (xat C t).length ∧ nth (xat C t) k = (y : Int)
  nodup : C.flatten.Nodup
  sum : C.flatten.length = xs.length
theorem nth_cyP {xs : List Int} {m j k : Nat} (h : k < j) : nth (cyP xs m j) k = ((it (pf xs) k m : Nat) : Int) := by simp [cyP, nth, h]
/-- a cycle, number by number -/
structure Cyc (xs : List Int) (c : List Int) : Prop where
  pos : 1 ≤ c.length
  le : c.length ≤ xs.length
  el : ∀ k, k < c.length → 0 ≤ nth c k ∧ nth c k < xs.length
  next : ∀ k, k < c.length → nth c ((k + 1) % c.length) = nth xs (nth c k).toNat
  pw : ∀ k (e : Int), k < c.length → nth c (((k : Int) + e) % (c.length : Int)).toNat = ((ipw xs.length (pf xs) e (nth c k).toNat : Nat) : Int)
  len : ∀ k, k < c.length → clen xs.length (pf xs) (nth c k).toNat = c.length
theorem CyOk.cyc {xs : List Int} {C : List (List Int)} (h : CyOk xs C) (hp : IsP xs) {t : Nat} (ht : t < C.length) : Cyc xs (xat C t) := by
  obtain ⟨m, hm, e⟩ := h.shape t ht
  have hc := clen_ok hp.bij hm
  have hl : (xat C t).length = clen xs.length (pf xs) m := by rw [e, cyP_len]
  have hpos := hc.pos
  refine ⟨by rw [hl]; exact hc.pos, by rw [hl]; exact hc.le, fun k hk => ?_, fun k hk => ?_, fun k E hk => ?_, fun k hk => ?_⟩
  · rw [hl] at hk
    rw [e, nth_cyP hk]
    have := it_lt hp.bij hm k; omega
  · rw [hl] at hk ⊢
    rw [e, nth_cyP hk, nth_cyP (Nat.mod_lt _ (by omega)), Int.toNat_natCast, hc.mod, nth_pf hp (it_lt hp.bij hm k)]
    rfl
  · rw [hl] at hk ⊢
    have h1 := Int.emod_nonneg ((k : Int) + E) (show (clen xs.length (pf xs) m : Int) ≠ 0 by omega)
    have h2 := Int.emod_lt_of_pos ((k : Int) + E) (show 0 < (clen xs.length (pf xs) m : Int) by omega)
    rw [e, nth_cyP hk, nth_cyP (by omega), Int.toNat_natCast, ipw_cyc hp.bij hm]
  · rw [hl] at hk ⊢
    rw [e, nth_cyP hk, Int.toNat_natCast]
    exact (clen_ok hp.bij (it_lt hp.bij hm k)).uniq (hc.it hp.bij hm k)
/-- a number of a later place is not among those of earlier ones -/
theorem CyOk.fresh {xs : List Int} {C : List (List Int)} (h : CyOk xs C) {t k : Nat} (ht : t < C.length) (hk : k < (xat C t).length) : nth (xat C t) k ∉ (C.take t).flatten ++ (xat C t).take k := by
  have hs : C.flatten = (C.take t).flatten ++ ((xat C t).take k ++ (nth (xat C t) k :: ((xat C t).drop (k + 1) ++ (C.drop (t + 1)).flatten))) := by
    conv => lhs; rw [← List.take_append_drop t C, drop_xat ht]
    rw [List.flatten_append, List.flatten_cons]
    congr 1
    rw [← List.cons_append, ← drop_nth hk, ← List.append_assoc, List.take_append_drop]
  have hn := h.nodup
  rw [hs, ← List.append_assoc, List.nodup_append] at hn
  exact fun hm => hn.2.2 _ hm _ (by simp) rfl
/-! ### the least common multiple, bounded -/
theorem sz_c (v : Value) (xs : List Int) (w : World) (hv : RdI w v xs) : Calls Try.prog 52 #[v] w fun e w' => e = .returned (.int .i64 xs.length) ∧ w = w' := by
  have hln := hv.len
  go_enter Try.func52, Try.ntmps52
  go_wp2_with fail
  go_ret
  exact ⟨rfl, rfl⟩
end Go.Proofs.Ytegmjlblehjccaa
end
