/- Walks: powers of permutations, permutations made of cycles. -/
import Derived.Test.YtcenabaklokhhaaPm6
namespace Go.Proofs.Ytcenabaklokhhaa
set_option linter.unusedSimpArgs false
set_option linter.unusedVariables false
open Go.RowKit
attribute [local go_sem ↓] Go.wp_at_zero Go.wp_at_succ

/-- what has been gone through: t cycles whole and k numbers of the next -/
def dn (C : List (List Int)) (t k : Nat) : List Int := (C.take t).flatten ++ (xat C t).take k
theorem dn_0 {C : List (List Int)} {t : Nat} : dn C t 0 = (C.take t).flatten := by simp [dn]
theorem dn_all {C : List (List Int)} {t : Nat} (ht : t < C.length) : dn C t (xat C t).length = dn C (t + 1) 0 := by
  rw [dn_0, take_fl ht]; simp [dn]
theorem dn_succ {C : List (List Int)} {t k : Nat} (hk : k < (xat C t).length) : dn C t (k + 1) = dn C t k ++ [nth (xat C t) k] := by
  unfold dn; rw [List.append_assoc, List.take_succ_eq_append_getElem hk, nth_eq hk]
theorem dn_end {C : List (List Int)} : dn C C.length 0 = C.flatten := by rw [dn_0, List.take_length]
/-- a list that is filled at the numbers of D -/
def filP (n : Nat) (f g : Nat → Int) (D : List Int) : List Int := (List.range n).map fun y : Nat => if (y : Int) ∈ D then f y else g y
theorem filP_len (n : Nat) (f g : Nat → Int) (D : List Int) : (filP n f g D).length = n := by simp [filP]
theorem nth_filP {n : Nat} {f g : Nat → Int} {D : List Int} {y : Nat} (h : y < n) : nth (filP n f g D) y = if (y : Int) ∈ D then f y else g y := by simp [filP, nth, h]
theorem filP_nil (n : Nat) (f g : Nat → Int) : filP n f g [] = (List.range n).map g := by simp [filP]
theorem filP_set {n : Nat} {f g : Nat → Int} {D : List Int} {x : Int} (h0 : 0 ≤ x) (h1 : x < n) : (filP n f g D).set x.toNat (f x.toNat) = filP n f g (D ++ [x]) := by
  refine nth_ext (by simp [filP_len]) fun y hy => ?_
  rw [List.length_set, filP_len] at hy
  rw [nth_filP hy]
  by_cases e : x.toNat = y
  · have : (y : Int) = x := by omega
    rw [nth_set (by rw [filP_len]; omega), if_pos e, if_pos (by rw [this]; simp), e]
  · have : (y : Int) ≠ x := by omega
    rw [nth_set (by rw [filP_len]; omega), if_neg e, nth_filP hy]
    simp [this]
theorem filP_all {n : Nat} {f g : Nat → Int} {D : List Int} (h : ∀ y : Nat, y < n → (y : Int) ∈ D) : filP n f g D = (List.range n).map f := by
  unfold filP
  exact List.map_congr_left fun y hy => if_pos (h y (List.mem_range.1 hy))
theorem CyOk.mem {xs : List Int} {C : List (List Int)} (h : CyOk xs C) (y : Nat) (hy : y < xs.length) : (y : Int) ∈ C.flatten := by
  obtain ⟨t, k, ht, hk, e⟩ := h.all y hy
  rw [← e]
  exact List.mem_flatten.2 ⟨xat C t, xat_mem ht, by rw [nth_eq hk]; exact List.getElem_mem hk⟩
theorem rot_eq {k e l : Int} (hl : 1 ≤ l) (hk : 0 ≤ k) : (((k + e).tmod l + l).tmod l) = (k + e) % l ∧ -l < (k + e).tmod l ∧ (k + e).tmod l < l := by
  have h1 := Int.tmod_lt_of_pos (k + e) (show 0 < l by omega)
  have h2 : -l < (k + e).tmod l := by
    by_cases h : 0 ≤ k + e
    · have := Int.tmod_nonneg l h; omega
    · have := Int.tmod_lt_of_pos (-(k + e)) (show 0 < l by omega)
      rw [Int.neg_tmod] at this; omega
  refine ⟨?_, h2, h1⟩
  rw [Int.tmod_eq_emod_of_nonneg (by omega)]
  rw [Int.add_emod_right]
  have h3 : (k + e).tmod l = (k + e) - l * (k + e).tdiv l := by have := Int.tmod_add_tdiv_mul (k + e) l; grind
  rw [h3, Int.sub_mul_emod_self_left]
theorem powL_fil (xs : List Int) (e : Int) : powL xs e = (List.range xs.length).map fun y => ((ipw xs.length (pf xs) e y : Nat) : Int) := rfl
set_option maxHeartbeats 4000000 in
set_option maxRecDepth 100000 in
theorem PowerPermutation_c (v : Value) (xs : List Int) (e : Int) (w : World) (hv : RdI w v xs) (hp : pvB xs = true) (h0 : -1000000 ≤ e) (h1 : e ≤ 1000000) : Calls Try.prog 88 #[v, .int .i64 e] w (MakesLK w (powL xs e) 0) := by
  have hpp := pvB_t hp
  have h32 := hpp.1
  have hlx := hv.len
  have HX := Lib.hid (ValidPermutation_c v xs w hv (by omega))
  rw [hp] at HX
  have HC := fun W (hv : RdI W v xs) => Lib.hid (cyclesOf_c v xs W hv hpp.2 (by omega))
  have HO := Lib.hid (cyOk hpp.2)
  have HY := fun t (ht : t < (cyM xs xs.length).length) => Lib.hid ((cyOk hpp.2).cyc hpp.2 ht)
  have hcl := cyM_len xs xs.length
  have hin := inB_true (n := e) (a := -1000000) (b := 1000000) ⟨h0, h1⟩
  clear hp hpp
  generalize cyM xs xs.length = C at *
  have HF := Lib.hid (show (filP xs.length (fun y => ((ipw xs.length (pf xs) e y : Nat) : Int)) (fun _ => 0) C.flatten) = powL xs e from filP_all HO.out.mem)
  have Hset := fun (D : List Int) (x : Int) (a : 0 ≤ x) (b : x < xs.length) => Lib.hid (filP_set (f := fun y => ((ipw xs.length (pf xs) e y : Nat) : Int)) (g := fun _ => 0) (D := D) a b)
  have Hst : Hid (List.replicate xs.length (0 : Int) = filP xs.length (fun y => ((ipw xs.length (pf xs) e y : Nat) : Int)) (fun _ => 0) (dn C 0 0)) := by
    unfold Hid; rw [show dn C 0 0 = [] by simp [dn], filP_nil]
    exact List.ext_getElem (by simp) fun i _ _ => by simp
  have Hfl := fun D => Lib.hid (filP_len xs.length (fun y => ((ipw xs.length (pf xs) e y : Nat) : Int)) (fun _ => 0) D)
  generalize hFd : filP xs.length (fun y => ((ipw xs.length (pf xs) e y : Nat) : Int)) (fun _ => 0) = F at *
  clear hFd
  go_enter Try.func88, Try.ntmps88
  go_wp2_with fail
  refine HX.out.mono ?_
  rintro e w1 ⟨rfl, hS1⟩
  go_wp2_with fail
  refine (within_c _ _ _ _).mono ?_
  rintro e w1' ⟨rfl, rfl⟩
  go_wp2_with (at_make; refine mkI hS1 rfl _ _ rfl _ _ xs.length rfl rfl (by omega) ?_; intro r w2 hS2; have hr := hS2.rdI 0 rfl; have hir := hr.ix; simp only [List.length_replicate] at hir; clear hr)
  rw [Hst.out] at hS2
  refine (HC _ (hS2.oldI hv)).out.mono ?_
  rintro e w3 ⟨u, us, rfl, hl, h3⟩
  have hS3 := hS2.call h3
  have Hl := Lib.hid hl
  have hln := (h3.rii hl).len
  have hix := (h3.rii hl).ix
  clear hl h3 hS1 hS2
  go_wp2_with fail
  go_loopw [8, 9, 10, 11, 24, 32] (fun _ _ _ _ i _ wr => ∃ t : Nat, t ≤ C.length ∧ i = .int .i64 t ∧ St w.heap.size w wr (row 2 r (iv (F (dn C t 0))) :: own2 u us C)) (fun _ _ _ _ i _ _ => C.length - (intOf i).toNat)
  case atStart => exact ⟨0, by omega, rfl, hS3⟩
  case round =>
    clear hS3
    obtain ⟨t, ht, rfl, hS⟩ := hrel
    by_cases hlt : t < C.length
    · have hC := (hS.sub (List.sublist_cons_self _ _)).rii Hl.out
      have hct := hC.cell t hlt
      have hrw := hC.row t hlt
      have hlc := hrw.len
      have hic := hrw.ix
      have HYt := HY t hlt
      have hl1 := HYt.out.pos
      have hl2 := HYt.out.le
      have Hz := fun W (h : RdI W (vat us t) (xat C t)) => Lib.hid (sz_c (vat us t) (xat C t) W h)
      clear hC
      go_wp2_with (go_at_call 106; refine (Hz _ hrw).out.mono ?_; rintro e w4 ⟨rfl, rfl⟩)
      go_loopw [10, 11, 32] (fun _ _ i wr' => ∃ k : Nat, k ≤ (xat C t).length ∧ i = .int .i64 k ∧ St w.heap.size w wr' (row 2 r (iv (F (dn C t k))) :: own2 u us C)) (fun _ _ i _ => (xat C t).length - (intOf i).toNat)
      case atStart => exact ⟨0, by omega, rfl, hS⟩
      case round =>
        clear hS hrw hct
        obtain ⟨k, hk, rfl, hS⟩ := hrel
        by_cases hlk : k < (xat C t).length
        · have hC := (hS.sub (List.sublist_cons_self _ _)).rii Hl.out
          have hel := HYt.out.el k hlk
          have hcx := (hC.row t hlt).cell k hlk
          have hrot := rot_eq (k := (k : Int)) (e := e) (l := ((xat C t).length : Int)) (by omega) (by omega)
          have hpw := HYt.out.pw k e hlk
          have hm0 := Int.emod_nonneg ((k : Int) + e) (show ((xat C t).length : Int) ≠ 0 by omega)
          have hm1 := Int.emod_lt_of_pos ((k : Int) + e) (show 0 < ((xat C t).length : Int) by omega)
          have hcy := (hC.row t hlt).cell (((k : Int) + e) % ((xat C t).length : Int)).toNat (by omega)
          rw [hpw] at hcy
          have Hs := Hset (dn C t k) (nth (xat C t) k) hel.1 hel.2
          have Hd := Lib.hid (dn_succ hlk)
          have HL := Hfl (dn C t k)
          have Hlast := Lib.hid (Hs.out)
          clear hC hpw Hs
          obtain ⟨hr1, hr2, hr3⟩ := hrot
          have f0 : (((xat C t).length : Int) == 0) = false := eq_f (by omega)
          generalize ((k : Int) + e) % ((xat C t).length : Int) = z at *
          have hixz := hic .i64 z hm0 hm1
          generalize nth (xat C t) k = x at *
          generalize hy : ((ipw xs.length (pf xs) e x.toNat : Nat) : Int) = y at *
          obtain ⟨x0, x1⟩ := hel
          have hirx := hir .i64 x x0 x1
          go_wp2_with (refine stoI hS 0 rfl x.toNat (by rw [HL.out]; omega) rfl _ _ rfl rfl _ rfl ?_; intro w2 hS2)
          simp only [List.set_cons_zero, List.set_cons_succ] at hS2
          go_roundw
          case rel => exact ⟨k + 1, by omega, by go_num, by rw [Hd.out, ← Hlast.out]; exact hS2⟩
          case measure => simp [intOf]; omega
        · obtain rfl : k = (xat C t).length := by omega
          have Hda := Lib.hid (dn_all hlt)
          go_wp2_with fail
          go_roundw
          case rel => exact ⟨t + 1, by omega, by go_num, by rw [← Hda.out]; exact hS⟩
          case measure => simp [intOf]; omega
    · obtain rfl : t = C.length := by omega
      go_wp2_with fail
      go_ret2
      refine ⟨_, rfl, ?_⟩
      have h := hS.sub (L' := [row 2 r (iv (F (dn C C.length 0)))]) (by simp)
      rw [dn_end, HF.out] at h
      exact h
end Go.Proofs.Ytcenabaklokhhaa
