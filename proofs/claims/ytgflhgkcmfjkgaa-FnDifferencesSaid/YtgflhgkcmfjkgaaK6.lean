/- The texts of this claim, run 6: Df2 PPut Put DsE Df3 V8l Eqs8 DsF DsH PDi LDif Prf PFnDifferences. -/
import Derived.Test.YtgflhgkcmfjkgaaK2
import Derived.Test.YtgflhgkcmfjkgaaK3
import Derived.Test.YtgflhgkcmfjkgaaK4
import Derived.Test.YtgflhgkcmfjkgaaK5
import Derived.Deep.RegionHeld3
import Derived.Deep.DrawnRows
import Derived.ProofKit
import Derived.OpenShut
import Derived.ShutString
import Derived.ChangeOld
import Derived.Below
section
/- Walks: designs of families, their index, cyclic designs, of the program; counts of pairs of the reference. -/
namespace Go.Proofs.Ytgflhgkcmfjkgaa
set_option linter.unusedSimpArgs false
set_option linter.unusedVariables false
open Go.RowKit
attribute [local go_sem ↓] Go.wp_at_zero Go.wp_at_succ

theorem sPairCounts_c (P : Nat) (v : Value) (us : List Value) (A : List (List Int)) (w : World) (hv : RII w v us A) (hok : dOk P A = true) :
    Calls Try.prog 25 #[dv P v] w (MakesC1 w (parL P A) 0) := by
  obtain ⟨a, c, hsh⟩ := hv.1.sl.sh
  rw [hv.2.1] at hsh
  subst hsh
  have hD := dOk_t hok
  have hP := hD.le
  have hDl := hD.len
  have hS0 := (St.refl w).newboxF 35 #[.int .i64 P, .slice a A.length c]
  have K1 := Lib.hid (l10Ok_c P w.heap.size (.slice a A.length c) us A _ (hS0.oldII hv) ⟨hS0.bcell 0 rfl 0 rfl, hS0.bcell 0 rfl 1 rfl⟩)
  rw [hok] at K1
  have K2 := fun W (hW : RII W (.slice a A.length c) us A) (hB : BoxD W w.heap.size P (.slice a A.length c)) => Lib.hid (l10Pairs_c P w.heap.size (.slice a A.length c) us A W hW hB (by omega) hDl)
  unfold dv
  clear hD
  go_enter Try.func25, Try.ntmps25
  go_wp2_with (first
    | (go_at_call 62; refine K1.out.mono ?_; rintro e2 w2 ⟨rfl, h2⟩; have hS2 := hS0.call0 h2)
    | (go_at_call 63; refine (K2 _ (hS2.oldII hv) ⟨hS2.bcell 0 rfl 0 rfl, hS2.bcell 0 rfl 1 rfl⟩).out.mono ?_; rintro e3 w3 ⟨v3, rfl, h3⟩; have hS3 := hS2.call h3))
  go_ret2
  exact ⟨_, rfl, hS3.sub (List.sublist_cons_self _ _)⟩
theorem SameDesignI_c (P : Int) (va vb : Value) (us ws : List Value) (A B : List (List Int)) (w : World) (ha : RII w va us A) (hb : RII w vb ws B) :
    Calls Try.prog 60 #[dv P va, dv P vb] w (GivesB w (decide (A = B))) := by
  obtain ⟨a, c, hsh⟩ := ha.1.sl.sh
  rw [ha.2.1] at hsh
  subst hsh
  obtain ⟨a', c', hsh⟩ := hb.1.sl.sh
  rw [hb.2.1] at hsh
  subst hsh
  have hS0 := ((St.refl w).newboxF 35 #[.int .i64 P, .slice a A.length c]).newboxF 35 #[.int .i64 P, .slice a' B.length c']
  simp only [World.size_alloc] at hS0
  have b0 := hS0.bcell 1 rfl 0 rfl
  have b1 := hS0.bcell 1 rfl 1 rfl
  have c0 := hS0.bcell 0 rfl 0 rfl
  have c1 := hS0.bcell 0 rfl 1 rfl
  have K := Lib.hid (areSame_c _ _ _ _ A B _ (hS0.oldII ha) (hS0.oldII hb))
  have f1 : ((P : Int) == P) = true := eq_t rfl
  generalize decide (A = B) = z at *
  unfold dv
  go_enter Try.func60, Try.ntmps60
  go_wp2_with (go_at_call 92; refine K.out.mono ?_; rintro e2 w2 ⟨rfl, h2⟩; have hS2 := hS0.call0 h2)
  go_ret
  exact ⟨rfl, hS2.out⟩
set_option maxHeartbeats 4000000 in
set_option maxRecDepth 100000 in
theorem relabeled_c (P : Int) (v vp : Value) (us : List Value) (A : List (List Int)) (p : List Int) (w : World) (hv : RII w v us A) (hp : RdI w vp p) (hA : ∀ s ∈ A, incB (-1) p.length s = true) (hpl : p.length ≤ 1000) (hl : A.length ≤ 128) :
    Calls Try.prog 61 #[dv P v, vp] w fun e w' => ∃ v' us', e = .returned (dv P v') ∧ us'.length = A.length ∧ St w.heap.size w w' (own2 v' us' (srtL (A.map (imL p)))) := by
  obtain ⟨a, c, hsh⟩ := hv.1.sl.sh
  rw [hv.2.1] at hsh
  subst hsh
  have hln := hv.len
  have hix := hv.ixe
  have hS0 := ((St.refl w).newboxF 35 #[.int .i64 P, .slice a A.length c]).newboxF 35 #[.int .i64 0, .slice none 0 0]
  simp only [World.size_alloc] at hS0
  have b1 := hS0.bcell 1 rfl 1 rfl
  have hS1 := (hS0.newnil 30).perm (L' := own2 (.slice none 0 0) [] [] ++ [box 35 (w.heap.size + 1) [.int .i64 0, .slice none 0 0], box 35 w.heap.size [.int .i64 P, .slice a A.length c]]) (by rw [own2_nil']; exact List.perm_append_comm)
  clear hS0
  have HA := Lib.hid hA
  have HM := Lib.hid (fun xs (hx : xs ∈ A.map (imL p)) => (show xs.length ≤ 1048576 by
    obtain ⟨s, hs, rfl⟩ := List.mem_map.1 hx
    rw [imL_len]
    have := inc_len (hA s hs) (by omega)
    omega))
  clear hA
  unfold dv
  go_enter Try.func61, Try.ntmps61
  go_wp2_with fail
  go_loopw [13, 5, 7] (fun i o _ wr => ∃ (k : Nat) (v2 : Value) (uc : List Value), v2 = o ∧ k ≤ A.length ∧ i = .int .i64 k ∧ Hid (uc.length = ((A.take k).map (imL p)).length) ∧ St w.heap.size w wr (own2 v2 uc ((A.take k).map (imL p)) ++ [box 35 (w.heap.size + 1) [.int .i64 0, .slice none 0 0], box 35 w.heap.size [.int .i64 P, .slice a A.length c]])) (fun i _ _ _ => A.length - (intOf i).toNat)
  case atStart => exact ⟨0, _, [], rfl, by omega, rfl, rfl, hS1⟩
  case round =>
    clear hS1 b1
    obtain ⟨k, v2, uc, rfl, hk, rfl, hlu, hS⟩ := hrel
    by_cases hlt : k < A.length
    · have hc := (hS.oldII hv).cell k hlt
      have hx := hix (k : Int) k rfl hlt
      have KI := Lib.hid (image_c vp _ p (xat A k) _ (hS.oldI hp) ((hS.oldII hv).row k hlt) (HA.out _ (xat_mem hlt)) hpl)
      have HT := Lib.hid (show (A.take (k + 1)).map (imL p) = (A.take k).map (imL p) ++ [imL p (xat A k)] by rw [take_xat hlt]; simp)
      have hN := Lib.hid (show uc.length < 4294967296 by rw [hlu.out, List.length_map, List.length_take]; omega)
      generalize imL p (xat A k) = y at *
      go_wp2_with (first
        | (at_builtin; refine appII hS2 0 rfl hN.out rfl _ _ rfl rfl _ rfl rfl ?_; intro v5 w5 hS5)
        | (go_at_call 93; refine KI.out.mono ?_; rintro e2 w2 ⟨u, rfl, h2⟩; obtain ⟨ua, uc2, hu⟩ := (h2.rdI 0 rfl).sl.sh; subst hu; have hS2 := hS.call h2))
      have hS8 := own2_snocL hlu.out hS5
      rw [← HT.out] at hS8
      go_roundw
      case rel => exact ⟨k + 1, _, _, rfl, by omega, by go_num, by rw [HT.out]; simp [Hid, hlu.out], hS8⟩
      case measure => simp [intOf]; omega
    · obtain rfl : k = A.length := by omega
      rw [List.take_length] at hS hlu
      have b0 := hS.bcell _ (at_app (i := 1) rfl) 0 rfl
      have rR := (hS.sub (List.sublist_append_left _ _)).rii hlu.out
      have KS := Lib.hid (sorted_c P v2 uc _ _ rR (by rw [List.length_map]; exact hl) HM.out)
      have Hll := Lib.hid (show (srtL (A.map (imL p))).length = A.length by rw [srtL_len, List.length_map])
      have Hlm := Lib.hid (show (A.map (imL p)).length = A.length by rw [List.length_map])
      clear rR
      go_wp2_with (go_at_call 39; refine KS.out.mono ?_; rintro e4 w4 ⟨v4, us4, rfl, hl4, h4⟩; rw [Hll.out] at hl4; obtain ⟨a4, c4, hv4⟩ := (h4.rd 0 (e := 30) (v := v4) (us := us4) rfl).sl.sh; rw [hl4] at hv4; subst hv4; unfold dv; have hB := ((hS.sub (List.sublist_append_right _ _)).call h4).newboxF 35 #[.int .i64 P, .slice a4 A.length c4]; have d0 := hB.bcell 0 rfl 0 rfl; have d1 := hB.bcell 0 rfl 1 rfl; have e0 := hB.bcell 1 rfl 0 rfl; have e1 := hB.bcell 1 rfl 1 rfl; have f0 := hB.bfree 1 rfl; have h6 := (hB.bstore 1 rfl 0 (.int .i64 P)).bstore 1 rfl 1 (.slice a4 A.length c4); have g0 := h6.bcell 1 rfl 0 rfl; have g1 := h6.bcell 1 rfl 1 rfl)
      refine bodyPost_ret (v := .agg #[.int .i64 P, .slice a4 A.length c4]) (by simp [results, Try.results61, go_sem, g0, g1]) rfl ?_
      exact ⟨_, us4, rfl, hl4, h6.sub (.cons _ (.cons _ (.cons _ (.refl _))))⟩
/-- the residues, some of them moved on -/
def shK (n k : Nat) : List Int := (List.range n).map fun x : Nat => if x < k then ((x : Int) + 1) % n else x
theorem shK_len (n k : Nat) : (shK n k).length = n := by simp [shK]
theorem shK_0 (n : Nat) : shK n 0 = idn n := by simp [shK, idn]
theorem shK_end (n : Nat) : shK n n = shfZ n := by
  rw [shK, shfZ]
  refine List.map_congr_left fun x hx => ?_
  rw [if_pos (List.mem_range.1 hx)]
theorem shK_nth {n k : Nat} (hk : k < n) : nth (shK n k) k = k := by
  rw [nth_eq (by rw [shK_len]; exact hk)]; simp [shK]
theorem shK_set {n k : Nat} (hk : k < n) : (shK n k).set k (((k : Int) + 1) % n) = shK n (k + 1) := by
  refine List.ext_getElem (by simp [shK_len]) fun i h1 h2 => ?_
  rw [List.getElem_set]
  simp only [shK, List.getElem_map, List.getElem_range]
  by_cases e : k = i
  · subst e; rw [if_pos rfl, if_pos (by omega)]
  · rw [if_neg e]
    by_cases h : i < k
    · rw [if_pos h, if_pos (by omega)]
    · rw [if_neg h, if_neg (by omega)]
set_option maxHeartbeats 4000000 in
set_option maxRecDepth 100000 in
theorem IsCyclicDesign_c (n : Nat) (v : Value) (us : List Value) (A : List (List Int)) (w : World) (hv : RII w v us A) (hok : dOk n A = true) (hcy : srtL (A.map (imL (shfZ n))) = A) :
    Calls Try.prog 24 #[dv n v] w (GivesB w true) := by
  obtain ⟨a, c, hsh⟩ := hv.1.sl.sh
  rw [hv.2.1] at hsh
  subst hsh
  have hD := dOk_t hok
  have n1 := hD.pos
  have n32 := hD.le
  have hS0 := (St.refl w).newboxF 35 #[.int .i64 n, .slice a A.length c]
  have b0 := hS0.bcell 0 rfl 0 rfl
  have b1 := hS0.bcell 0 rfl 1 rfl
  have K1 := fun W hW => Lib.hid (ValidDesign_c n (.slice a A.length c) us A W hW)
  rw [hok] at K1
  have K2 := fun W => Lib.hid (identity_c n W (by omega))
  rw [← shK_0] at K2
  have K3 := fun W vp hW (hp : RdI W vp (shfZ n)) => Lib.hid (relabeled_c n (.slice a A.length c) vp us A (shfZ n) W hW hp (by rw [shfZ_len]; exact hD.inc) (by rw [shfZ_len]; omega) hD.len)
  rw [hcy] at K3
  have K4 := fun va ws W (h1 : RII W va ws A) (h2 : RII W (.slice a A.length c) us A) => Lib.hid (SameDesignI_c n va (.slice a A.length c) ws us A A W h1 h2)
  simp only [decide_true] at K4
  have K1 := K1 _ (hS0.oldII hv)
  have H1 := Lib.hid (shK_end n)
  unfold dv at K1 K3 K4 ⊢
  clear hD hcy hok
  go_enter Try.func24, Try.ntmps24
  go_wp2_with (first
    | (go_at_call 42; refine K1.out.mono ?_; rintro e2 w2 ⟨rfl, h2⟩; have hS2 := hS0.call0 h2; have b2 := hS2.bcell 0 rfl 0 rfl)
    | (go_at_call 47; refine (K2 _).out.mono ?_; rintro e3 w3 ⟨vp, rfl, h3⟩; have hS3 := (hS2.call h3).perm (L' := row 2 vp (iv (shK n 0)) :: [box 35 w.heap.size [.int .i64 n, .slice a A.length c]]) List.perm_append_comm; have hlp := (hS3.rdI 0 rfl).len; have hxp := (hS3.rdI 0 rfl).ixe; rw [shK_len] at hlp hxp))
  clear hS0 b0 b1 K1 K2 hS2 h2 h3 b2
  go_loopw [13, 4] (fun i _ wr => ∃ k : Nat, k ≤ n ∧ i = .int .i64 k ∧ St w.heap.size w wr (row 2 vp (iv (shK n k)) :: [box 35 w.heap.size [.int .i64 n, .slice a A.length c]])) (fun i _ _ => n - (intOf i).toNat)
  case atStart => exact ⟨0, by omega, rfl, hS3⟩
  case round =>
    clear hS3
    obtain ⟨k, hk, rfl, hS⟩ := hrel
    by_cases hkt : k < n
    · have ck := (hS.rdI 0 rfl).cell k (by rw [shK_len]; exact hkt)
      rw [shK_nth hkt] at ck
      have xk := hxp (k : Int) k rfl hkt
      have b0 := hS.bcell 1 rfl 0 rfl
      have q0 : ((k : Int) + 1).tmod (n : Int) = ((k : Int) + 1) % n := Int.tmod_eq_emod_of_nonneg (by omega)
      have w1 : IntKind.i64.wrap ((k : Int) + 1) = (k : Int) + 1 := IntWalk.i64_in _ (by omega)
      have hn0 : ((n : Int) == 0) = false := eq_f (by omega)
      have hn1 : ¬ (n : Int) = 0 := by omega
      have hn2 : ¬ n = 0 := by omega
      obtain ⟨y, hy⟩ : ∃ y, ((k : Int) + 1) % (n : Int) = y := ⟨_, rfl⟩
      have hyb : 0 ≤ y ∧ y < n := by rw [← hy]; exact ⟨Int.emod_nonneg _ (by omega), Int.emod_lt_of_pos _ (by omega)⟩
      have HT := Lib.hid (shK_set hkt)
      rw [hy] at q0 HT
      have w2 : IntKind.i64.wrap y = y := IntWalk.i64_in _ (by omega)
      clear hy
      go_wp2_with fail
      refine regionG (fun w' => w'.cell? (el vp k) = some (.int .i64 k) ∧ w'.cell? ⟨w.heap.size, 0, none⟩ = some (.int .i64 n)) 11 (by kernel_rfl) ⟨cell_dr ck, cell_dr b0⟩ (fun hHeld => ?_)
      refine takeP (i := 0) (v := ?_) rfl (by kernel_rfl) (fun _ _ _ h => h) (by rfl) ?_ (by assumption) ?_
      case refine_2 => (intro w'; go_simp; first | done | with_reducible rfl)
      try simp only [Act.put, List.setIfInBounds_toArray, List.set_cons_zero, List.set_cons_succ]
      refine takeP (i := 1) (v := ?_) rfl (by kernel_rfl) (fun _ _ _ h => h) (by rfl) ?_ (by assumption) ?_
      case refine_2 => (intro w'; go_simp; first | done | with_reducible rfl)
      try simp only [Act.put, List.setIfInBounds_toArray, List.set_cons_zero, List.set_cons_succ]
      refine takeP (i := 2) (v := ?_) rfl (by kernel_rfl) (fun _ _ _ h => h) (by rfl) ?_ (by assumption) ?_
      case refine_2 => (intro w'; go_simp; first | done | with_reducible rfl)
      try simp only [Act.put, List.setIfInBounds_toArray, List.set_cons_zero, List.set_cons_succ]
      refine takeP (i := 3) (v := ?_) rfl (by kernel_rfl) (fun _ _ _ h => h) (by rfl) ?_ (by assumption) ?_
      case refine_2 => (intro w'; go_simp; first | done | with_reducible rfl)
      try simp only [Act.put, List.setIfInBounds_toArray, List.set_cons_zero, List.set_cons_succ]
      refine takeP (i := 4) (v := ?_) rfl (by kernel_rfl) (fun _ _ _ h => h) (by rfl) ?_ (by assumption) ?_
      case refine_2 => (intro w'; go_simp; first | done | with_reducible rfl)
      try simp only [Act.put, List.setIfInBounds_toArray, List.set_cons_zero, List.set_cons_succ]
      refine takeH (i := 5) [6, 9] (v := ?_) rfl (by kernel_rfl) (fun _ _ _ h => h) (by rfl) ?_ (by assumption) ?_
      case refine_2 => (intro w' hSw; (try dsimp only at hSw); go_simp; first | done | with_reducible rfl)
      try simp only [Act.put, List.setIfInBounds_toArray, List.set_cons_zero, List.set_cons_succ]
      refine takeP (i := 6) (v := ?_) rfl (by kernel_rfl) (fun _ _ _ h => h) (by rfl) ?_ (by assumption) ?_
      case refine_2 => (intro w'; go_simp; first | done | with_reducible rfl)
      try simp only [Act.put, List.setIfInBounds_toArray, List.set_cons_zero, List.set_cons_succ]
      refine takeP (i := 7) (v := ?_) rfl (by kernel_rfl) (fun _ _ _ h => h) (by rfl) ?_ (by assumption) ?_
      case refine_2 => (intro w'; go_simp; first | done | with_reducible rfl)
      try simp only [Act.put, List.setIfInBounds_toArray, List.set_cons_zero, List.set_cons_succ]
      refine takeH (i := 8) [9] (v := ?_) rfl (by kernel_rfl) (fun _ _ _ h => h) (by rfl) ?_ (by assumption) ?_
      case refine_2 => (intro w' hSw; (try dsimp only at hSw); go_simp; first | done | with_reducible rfl)
      try simp only [Act.put, List.setIfInBounds_toArray, List.set_cons_zero, List.set_cons_succ]
      refine takeP (i := 9) (v := ?_) rfl (by kernel_rfl) (fun _ _ _ h => h) (by rfl) ?_ (by assumption) ?_
      case refine_2 => (intro w'; go_simp; first | done | with_reducible rfl)
      try simp only [Act.put, List.setIfInBounds_toArray, List.set_cons_zero, List.set_cons_succ]
      refine takeP (i := 10) (v := ?_) rfl (by kernel_rfl) (fun _ _ _ h => h) (by rfl) ?_ (by assumption) ?_
      case refine_2 => (intro w'; go_simp; first | done | with_reducible rfl)
      try simp only [Act.put, List.setIfInBounds_toArray, List.set_cons_zero, List.set_cons_succ]
      have hSd := hS.drew
      have u1 := hSd.unfrozen 0 rfl (j := k) (by rw [iv_len, shK_len]; exact hkt)
      have co1 := (hSd.rdI 0 rfl).cell k (by rw [shK_len]; exact hkt)
      refine readyG (rs := [11]) (by kernel_rfl) (by simp) ?_
      refine AllG.last rfl (by kernel_rfl) (fun K hK => ?_) AllG.nil
      go_simp
      refine hK.out _ _ ?_
      clear hK K
      try simp only [Act.put, List.setIfInBounds_toArray, List.set_cons_zero, List.set_cons_succ]
      refine doneG (by kernel_rfl) ?_ _
      refine NoPanic.normal ?_
      have hS9 := hSd.store 0 rfl (j := k) (by rw [iv_len, shK_len]; exact hkt) (.int .i64 y)
      rw [iv_set, HT.out] at hS9
      simp only [List.set_cons_zero] at hS9
      go_wp2_with fail
      go_roundw
      case rel => exact ⟨k + 1, by omega, by go_num, hS9⟩
      case measure => simp [intOf]; omega
    · obtain rfl : k = n := by omega
      rw [H1.out] at hS
      have b0 := hS.bcell 1 rfl 0 rfl
      have b1 := hS.bcell 1 rfl 1 rfl
      have KR := K3 _ vp (hS.drew.oldII hv) (hS.drew.rdI 0 rfl)
      go_wp2_with fail
      go_region_held3 (fun w' => w'.cell? ⟨w.heap.size, 0, none⟩ = some (.int .i64 k) ∧ w'.cell? ⟨w.heap.size, 1, none⟩ = some (.slice a A.length c)) (go_keep) (first
        | (go_at_call 60; refine (K4 _ _ _ (hS5.rii (hl5)) ((hS.drew.oldII hv).keep hS5.below)).out.mono ?_; rintro e2 w7 ⟨rfl, h7⟩; have hS7 := (hS.drew.call hS5).call0 h7; have c0 := hS7.bcell 1 rfl 0 rfl; have c1 := hS7.bcell 1 rfl 1 rfl)
        | (go_at_call 61; refine KR.out.mono ?_; rintro e2 w5 ⟨v5, us5, rfl, hl5, hS5⟩; have hS6 := hS.drew.call hS5; have b0 := hS6.bcell 1 rfl 0 rfl; have b1 := hS6.bcell 1 rfl 1 rfl))
      go_wp2_with fail
      go_ret
      exact ⟨rfl, hS7.out⟩
/-! ### the design of a family -/
def dvW (n : Nat) (A : List (List Int)) (k b : Nat) : List (List Int) := dvU n (A.take k) ++ (List.range b).map (trZ n (xat A k))
theorem dvW_0 (n : Nat) (A : List (List Int)) (k : Nat) : dvW n A k 0 = dvU n (A.take k) := by simp [dvW]
theorem dvW_next {n : Nat} {A : List (List Int)} {k : Nat} (h : k < A.length) : dvU n (A.take (k + 1)) = dvW n A k n := by
  rw [dvU, take_xat h, List.flatMap_append, dvW, dvU]; simp
theorem dvW_succ (n : Nat) (A : List (List Int)) (k b : Nat) : dvW n A k (b + 1) = dvW n A k b ++ [trZ n (xat A k) b] := by
  rw [dvW, dvW, List.range_succ, List.map_append, List.append_assoc]; rfl
theorem dvW_len {n : Nat} {A : List (List Int)} {k b : Nat} : (dvW n A k b).length ≤ A.length * n + b := by
  rw [dvW, List.length_append, dvU_len, List.length_map, List.length_range, List.length_take]
  have : min k A.length * n ≤ A.length * n := Nat.mul_le_mul_right n (Nat.min_le_right _ _)
  omega
/-- a design and a code: that of the family, or none -/
def MakesDf (w : World) (n : Nat) (A : List (List Int)) (e : Ending) (w' : World) : Prop :=
  (128 < (dvU n A).length ∧ MakesD w 0 [] 5 e w') ∨ ((dvU n A).length ≤ 128 ∧ MakesD w n (dvB n A) 0 e w')
set_option maxHeartbeats 4000000 in
set_option maxRecDepth 100000 in
theorem DevelopFamily_c (n : Nat) (v : Value) (us : List Value) (A : List (List Int)) (w : World) (hv : RII w v us A) (h : Fam n A) :
    Calls Try.prog 22 #[.int .i64 n, v] w (MakesDf w n A) := by
  have hln := hv.len
  have hix := hv.ixe
  have hle := hv.le
  have n1 := h.n1
  have n32 := h.n32
  have h8 := h.len
  have hS0 := (St.refl w).newboxF 35 #[.int .i64 0, .slice none 0 0]
  have K1 := Lib.hid (areBases_c n v us A _ (hS0.oldII hv) h)
  have K2 := fun k b W (hk : k < A.length) (hb : b < n) hW => Lib.hid (translate_c n b (vat us k) (xat A k) W hW (h.rst _ (xat_mem hk)) n1 n32 hb)
  have HL := fun k (hk : k < A.length) => Rst.len (h.rst _ (xat_mem hk)) n1
  have HM := Lib.hid (fun xs (hx : xs ∈ dvU n A) => (show xs.length ≤ 1048576 by
    obtain ⟨s, hs, hx⟩ := List.mem_flatMap.1 hx
    obtain ⟨b, _, rfl⟩ := List.mem_map.1 hx
    rw [trZ_len]
    have := Rst.len (h.rst s hs) n1
    omega))
  have HW := fun k b (hb : b ≤ n) => Lib.hid (show (dvW n A k b).length ≤ 288 by
    have h1 := dvW_len (n := n) (A := A) (k := k) (b := b)
    have h2 : A.length * n ≤ 8 * 32 := Nat.mul_le_mul h8 n32
    omega)
  have E0 := fun k => Lib.hid (dvW_0 n A k)
  have E1 := fun k (hk : k < A.length) => Lib.hid (dvW_next (n := n) hk)
  have E2 := fun k b => Lib.hid (dvW_succ n A k b)
  have E3 : Hid (dvU n (A.take 0) = []) := Lib.hid (by simp [dvU])
  clear h
  go_enter Try.func22, Try.ntmps22
  go_wp2_with (go_at_call 56; refine K1.out.mono ?_; rintro e2 w2 ⟨rfl, h2⟩)
  have hS2 := ((hS0.call0 h2).newnil 30).perm (L' := own2 (.slice none 0 0) [] [] ++ [box 35 w.heap.size [.int .i64 0, .slice none 0 0]]) (by rw [own2_nil']; exact List.perm_append_comm)
  clear hS0 K1 h2
  go_loopw [17, 6, 8, 22, 9] (fun i o _ _ _ wr => ∃ (k : Nat) (v2 : Value) (uc : List Value), v2 = o ∧ k ≤ A.length ∧ i = .int .i64 k ∧ Hid (uc.length = (dvU n (A.take k)).length) ∧ St w.heap.size w wr (own2 v2 uc (dvU n (A.take k)) ++ [box 35 w.heap.size [.int .i64 0, .slice none 0 0]])) (fun i _ _ _ _ _ => A.length - (intOf i).toNat)
  case atStart => exact ⟨0, _, [], rfl, by omega, rfl, by rw [E3.out]; rfl, by rw [E3.out]; exact hS2⟩
  case round =>
    clear hS2
    obtain ⟨k, v2, uc, rfl, hk, rfl, hlu, hS⟩ := hrel
    by_cases hlt : k < A.length
    · have hc := (hS.oldII hv).cell k hlt
      have hx := hix (k : Int) k rfl hlt
      have E0 := E0 k
      have E1 := E1 k hlt
      rw [← E0.out] at hS hlu
      have HLk := HL k hlt
      go_wp2_with fail
      go_loopw [22, 6, 9] (fun i o _ wr => ∃ (b : Nat) (v2 : Value) (uc : List Value), v2 = o ∧ b ≤ n ∧ i = .int .i64 b ∧ Hid (uc.length = (dvW n A k b).length) ∧ St w.heap.size w wr (own2 v2 uc (dvW n A k b) ++ [box 35 w.heap.size [.int .i64 0, .slice none 0 0]])) (fun i _ _ _ => n - (intOf i).toNat)
      case atStart => exact ⟨0, _, uc, rfl, by omega, rfl, hlu, hS⟩
      case round =>
        clear hS hc hlu
        obtain ⟨b, v2, uc, rfl, hb, rfl, hlu, hS⟩ := hrel
        by_cases hbt : b < n
        · have KT := K2 k b _ hlt hbt ((hS.oldII hv).row k hlt)
          have E2 := E2 k b
          have hN := Lib.hid (show uc.length < 4294967296 by have := (HW k b (by omega)).out; rw [hlu.out]; omega)
          generalize trZ n (xat A k) b = y at *
          go_wp2_with (first
            | (at_builtin; refine appII hS3 0 rfl hN.out rfl _ _ rfl rfl _ rfl rfl ?_; intro v5 w5 hS5)
            | (go_at_call 58; refine KT.out.mono ?_; rintro e2 w2 ⟨u, rfl, h2⟩; obtain ⟨ua, uc2, hu⟩ := (h2.rdI 0 rfl).sl.sh; subst hu; have hS3 := hS.call h2))
          have hS8 := own2_snocL hlu.out hS5
          rw [← E2.out] at hS8
          go_roundw
          case rel => exact ⟨b + 1, _, _, rfl, by omega, by go_num, by rw [E2.out]; simp [Hid, hlu.out], hS8⟩
          case measure => simp [intOf]; omega
        · obtain rfl : b = n := by omega
          rw [← E1.out] at hS hlu
          go_wp2_with fail
          go_roundw
          case rel => exact ⟨k + 1, _, uc, rfl, by omega, by go_num, hlu, hS⟩
          case measure => simp [intOf]; omega
    · obtain rfl : k = A.length := by omega
      rw [List.take_length] at hS hlu
      have rR := (hS.sub (List.sublist_append_left _ _)).rii hlu.out
      have hSb := hS.sub (List.sublist_append_right _ _)
      by_cases h128 : (dvU n A).length ≤ 128
      · have KS := Lib.hid (sorted_c n v2 uc _ _ rR h128 HM.out)
        have H128 := Lib.hid h128
        rw [show srtL (dvU n A) = dvB n A from rfl] at KS
        clear rR hS h128
        go_wp2_with (go_at_call 39; refine KS.out.mono ?_; rintro e4 w4 ⟨v4, us4, rfl, hl4, h4⟩; obtain ⟨a4, c4, hv4⟩ := (h4.rd 0 (e := 30) (v := v4) (us := us4) rfl).sl.sh; rw [hl4] at hv4; subst hv4; unfold dv; have hB := hSb.call h4; have e0 := hB.bcell 0 rfl 0 rfl; have e1 := hB.bcell 0 rfl 1 rfl; have f0 := hB.bfree 0 rfl; have h6 := (hB.bstore 0 rfl 0 (.int .i64 n)).bstore 0 rfl 1 (.slice a4 (dvB n A).length c4); have g0 := h6.bcell 0 rfl 0 rfl; have g1 := h6.bcell 0 rfl 1 rfl)
        refine bodyPost_ret (v := .tuple #[.agg #[.int .i64 n, .slice a4 (dvB n A).length c4], .int .i64 0]) (by simp [results, Try.results22, go_sem, g0, g1]) rfl ?_
        exact .inr ⟨H128.out, _, us4, rfl, hl4, h6.sub (.cons _ (.refl _))⟩
      · have KS := Lib.hid (sorted_no n v2 uc _ _ rR (by omega))
        have H128 := Lib.hid (show 128 < (dvU n A).length by omega)
        clear rR hS h128
        go_wp2_with (go_at_call 39; refine KS.out.mono ?_; rintro e4 w4 ⟨v4, us4, rfl, hl4, h4⟩; obtain ⟨a4, c4, hv4⟩ := (h4.rd 0 (e := 30) (v := v4) (us := us4) rfl).sl.sh; rw [show us4.length = 0 from hl4] at hv4; subst hv4; unfold dv; have hB := hSb.call h4; have e0 := hB.bcell 0 rfl 0 rfl; have e1 := hB.bcell 0 rfl 1 rfl; have f0 := hB.bfree 0 rfl; have h6 := (hB.bstore 0 rfl 0 (.int .i64 0)).bstore 0 rfl 1 (.slice a4 0 c4); have g0 := h6.bcell 0 rfl 0 rfl; have g1 := h6.bcell 0 rfl 1 rfl)
        refine bodyPost_ret (v := .tuple #[.agg #[.int .i64 0, .slice a4 0 c4], .int .i64 5]) (by simp [results, Try.results22, go_sem, g0, g1]) rfl ?_
        exact .inl ⟨H128.out, _, us4, rfl, hl4, h6.sub (.cons _ (.refl _))⟩
/-! ### the index of a family -/
def FamB (w : World) (n : Nat) (T : List Int) (e : Ending) (w' : World) : Prop := ∃ (l : Int) (b : Bool), e = .returned (.tuple #[.int .i64 l, .bool b]) ∧ (b = true → ∀ d, 0 < d → d < n → nth T d = l) ∧ St w.heap.size w w' []
def FamL (w : World) (n : Nat) (T : List Int) (e : Ending) (w' : World) : Prop := ∃ (l : Int) (c : Int), e = .returned (.tuple #[.int .i64 l, .int .i64 c]) ∧ (c = 0 → ∀ d, 0 < d → d < n → nth T d = l) ∧ St w.heap.size w w' []
set_option maxHeartbeats 4000000 in
set_option maxRecDepth 100000 in
theorem familyLambda_c (n : Nat) (v : Value) (us : List Value) (A : List (List Int)) (w : World) (hv : RII w v us A) (h : Fam n A) :
    Calls Try.prog 59 #[.int .i64 n, v] w (FamB w n (tabL n (dfA n A))) := by
  have K1 := Lib.hid (differenceTable_c n v us A w hv h)
  have hTl := tabL_len n (dfA n A)
  generalize tabL n (dfA n A) = T at *
  clear h
  by_cases h2 : (n : Int) < 2
  · go_enter Try.func59, Try.ntmps59
    go_wp2_with fail
    go_ret2
    exact ⟨0, false, rfl, (fun h => Bool.noConfusion h), St.refl w⟩
  · have HTl := Lib.hid hTl
    clear hTl
    go_enter Try.func59, Try.ntmps59
    go_wp2_with fail
    refine K1.out.mono ?_
    rintro e2 w2 ⟨v2, rfl, hS⟩
    have rT := hS.rdI 0 rfl
    have hsl : ∀ W, (Instr.slice 30 v2 (some (.int .i64 (1 : Int))) none none).run Try.prog W = .ok (rsl v2 1 n) W := fun W => by
      have := rsl_lo rT 1 (by rw [HTl.out]; omega) W
      rwa [HTl.out] at this
    have rs := rsl_rd rT (lo := 1) (hi := n) (by omega) (by rw [HTl.out]; exact Nat.le_refl _)
    have hr1 : Hid (∀ j, j < n - 1 → nth ((T.take n).drop 1) j = nth T (j + 1)) := Lib.hid (fun j hj => by
      rw [List.take_of_length_le (by rw [HTl.out]; exact Nat.le_refl _), nth_eq (by rw [List.length_drop, HTl.out]; exact hj), nth_eq (by rw [HTl.out]; omega), List.getElem_drop]
      congr 1; omega)
    have hrl : ((T.take n).drop 1).length = n - 1 := by rw [List.length_drop, List.length_take, HTl.out]; omega
    generalize (T.take n).drop 1 = U at *
    generalize rsl v2 1 n = vu at *
    obtain ⟨m, hm⟩ : ∃ m, n - 1 = m := ⟨_, rfl⟩
    rw [hm] at hrl hr1
    have hlu := rs.len
    have hxu := rs.ixe
    have hleu := rs.le
    rw [hrl] at hlu hxu hleu
    have Hrl := Lib.hid hrl
    have hm1 : 0 < m := by omega
    have Hm := Lib.hid hm
    clear hrl hm rT
    have c0 := rs.cell 0 (by rw [Hrl.out]; exact hm1)
    have x0 := hxu (0 : Int) 0 rfl hm1
    go_wp2_with fail
    go_loopw [17, 8] (fun i _ wr => ∃ k : Nat, k ≤ m ∧ i = .int .i64 k ∧ Hid (∀ j, j < k → nth U j = nth U 0) ∧ wr = w2) (fun i _ _ => m - (intOf i).toNat)
    case atStart => exact ⟨0, by omega, rfl, fun j hj => by omega, rfl⟩
    case round =>
      obtain ⟨k, hk, rfl, hA, rfl⟩ := hrel
      by_cases hkt : k < m
      · have ck := rs.cell k (by rw [Hrl.out]; exact hkt)
        have xk := hxu (k : Int) k rfl hkt
        by_cases he : nth U k = nth U 0
        · have f1 : (nth U k != nth U 0) = false := ne_f he
          have He := Lib.hid he
          clear he
          go_wp2_with fail
          go_roundw
          case rel => exact ⟨k + 1, by omega, by go_num, fun j hj => by
            by_cases e : j = k
            · rw [e]; exact He.out
            · exact hA.out j (by omega), by first | trivial | rfl⟩
          case measure => simp [intOf]; omega
        · have f1 : (nth U k != nth U 0) = true := ne_t he
          clear he
          go_wp2_with fail
          go_ret2
          exact ⟨0, false, rfl, (fun h => Bool.noConfusion h), hS.out⟩
      · obtain rfl : k = m := by omega
        go_wp2_with fail
        go_ret2
        exact ⟨_, true, rfl, fun _ d h0 hd => by
          have := hA.out (d - 1) (by have := Hm.out; omega)
          rw [hr1.out _ (by have := Hm.out; omega), show d - 1 + 1 = d by omega] at this
          exact this, hS.out⟩
theorem FamilyLambda_c (n : Nat) (v : Value) (us : List Value) (A : List (List Int)) (w : World) (hv : RII w v us A) (h : Fam n A) :
    Calls Try.prog 23 #[.int .i64 n, v] w (FamL w n (tabL n (dfA n A))) := by
  have K1 := areBases_c n v us A w hv h
  have K2 := fun W hW => Lib.hid (familyLambda_c n v us A W hW h)
  clear h
  go_enter Try.func23, Try.ntmps23
  go_wp2_with (go_at_call 56; refine K1.mono ?_; rintro e2 w2 ⟨rfl, h2⟩)
  refine (K2 _ (h2.oldII hv)).out.mono ?_
  clear K1 K2
  rintro e3 w3 ⟨l, b, rfl, hb, h3⟩
  have Hb := Lib.hid hb
  clear hb
  cases b
  · go_wp2_with fail
    go_ret2
    exact ⟨0, 6, rfl, fun h => by omega, h2.trans h3⟩
  · go_wp2_with fail
    go_ret2
    exact ⟨l, 0, rfl, fun _ => Hb.out (by first | trivial | rfl), h2.trans h3⟩
end Go.Proofs.Ytgflhgkcmfjkgaa
end

section
/- Plain: a number put into an increasing list. -/
namespace Go.Proofs.Ytgflhgkcmfjkgaa
set_option linter.unusedSimpArgs false
set_option linter.unusedVariables false

/-- a number put into an increasing list -/
def putL : List Int → Int → List Int
  | [], n => [n]
  | x :: r, n => if n < x then n :: x :: r else if x = n then x :: r else x :: putL r n
theorem putL_len : ∀ (xs : List Int) (n : Int), (putL xs n).length ≤ xs.length + 1
  | [], n => by simp [putL]
  | x :: r, n => by
    rw [putL]
    split
    · simp
    · split
      · simp
      · have := putL_len r n; simp; omega
end Go.Proofs.Ytgflhgkcmfjkgaa
end

section
/- Walks: the reference puts a number into an increasing list. -/
namespace Go.Proofs.Ytgflhgkcmfjkgaa
set_option linter.unusedSimpArgs false
set_option linter.unusedVariables false
open Go.RowKit


/-- what l00Put has made so far -/
def PutI (xs : List Int) (n : Int) (k : Nat) (b : Bool) (ys : List Int) : Prop :=
  (b = false → ys = xs.take k ∧ putL xs n = xs.take k ++ putL (xs.drop k) n) ∧ (b = true → ys ++ xs.drop k = putL xs n)
theorem PutI.len {xs : List Int} {n : Int} {k : Nat} {b : Bool} {ys : List Int} (h : PutI xs n k b ys) (hk : k ≤ xs.length) : ys.length ≤ xs.length + 1 := by
  cases b
  · rw [(h.1 rfl).1, List.length_take]; omega
  · have h1 := congrArg List.length (h.2 rfl)
    have := putL_len xs n
    rw [List.length_append] at h1; omega
theorem PutI.go {xs : List Int} {n : Int} {k : Nat} {ys : List Int} (h : PutI xs n k true ys) (hk : k < xs.length) : PutI xs n (k + 1) true (ys ++ [nth xs k]) :=
  ⟨fun h => absurd h (by decide), fun _ => by rw [← h.2 rfl, drop_nth hk]; simp⟩
theorem PutI.lt {xs : List Int} {n : Int} {k : Nat} {ys : List Int} (h : PutI xs n k false ys) (hk : k < xs.length) (hn : nth xs k < n) : PutI xs n (k + 1) false (ys ++ [nth xs k]) := by
  obtain ⟨h1, h2⟩ := h.1 rfl
  refine ⟨fun _ => ⟨by rw [h1, take_nth hk], ?_⟩, fun h => absurd h (by decide)⟩
  rw [h2, drop_nth hk, putL, if_neg (by omega), if_neg (by omega), take_nth hk]; simp
theorem PutI.eq {xs : List Int} {n : Int} {k : Nat} {ys : List Int} (h : PutI xs n k false ys) (hk : k < xs.length) (hn : nth xs k = n) : PutI xs n (k + 1) true (ys ++ [nth xs k]) := by
  obtain ⟨h1, h2⟩ := h.1 rfl
  refine ⟨fun h => absurd h (by decide), fun _ => ?_⟩
  rw [h2, drop_nth hk, putL, if_neg (by omega), if_pos hn, h1]; simp
theorem PutI.gt {xs : List Int} {n : Int} {k : Nat} {ys : List Int} (h : PutI xs n k false ys) (hk : k < xs.length) (hn : n < nth xs k) : PutI xs n (k + 1) true ((ys ++ [n]) ++ [nth xs k]) := by
  obtain ⟨h1, h2⟩ := h.1 rfl
  refine ⟨fun h => absurd h (by decide), fun _ => ?_⟩
  rw [h2, drop_nth hk, putL, if_pos hn, h1]; simp
theorem PutI.end0 {xs : List Int} {n : Int} {ys : List Int} (h : PutI xs n xs.length false ys) : ys ++ [n] = putL xs n := by
  obtain ⟨h1, h2⟩ := h.1 rfl
  rw [h2, h1, List.drop_length, putL]
theorem PutI.end1 {xs : List Int} {n : Int} {ys : List Int} (h : PutI xs n xs.length true ys) : ys = putL xs n := by
  have := h.2 rfl
  rwa [List.drop_length, List.append_nil] at this
set_option maxHeartbeats 2000000 in
set_option maxRecDepth 100000 in
theorem l00PutX_c (v : Value) (xs : List Int) (n : Int) (w : World) (hv : RdI w v xs) (hxs : xs.length ≤ 1000000) :
    Calls Try.prog 89 #[v, .int .i64 n] w (MakesI w (putL xs n)) := by
  have hln := hv.len
  have hix := hv.ix
  have hm := hv.le
  go_enter Try.func89, Try.ntmps89
  go_wp2_with fail
  go_loopw [5, 6, 7] (fun o d i wr => ∃ (k : Nat) (b : Bool) (ys : List Int), k ≤ xs.length ∧ i = .int .i64 k ∧ d = .bool b ∧ Hid (PutI xs n k b ys) ∧ ys.length ≤ xs.length + 1 ∧ St w.heap.size w wr [row 2 o (iv ys)]) (fun _ _ i _ => xs.length - (intOf i).toNat)
  case atStart => exact ⟨0, false, [], by omega, rfl, rfl, ⟨fun _ => ⟨rfl, rfl⟩, fun h => absurd h (by decide)⟩, by simp, St.emp0⟩
  case round =>
    obtain ⟨k, b, ys, hk, rfl, rfl, hI, hy, hS⟩ := hrel
    by_cases hlt : k < xs.length
    · have hc := (hS.oldI hv).cell k hlt
      cases b
      · by_cases h1 : n ≤ nth xs k
        · by_cases h2 : n < nth xs k
          · have hJ := Lib.hid (hI.out.gt hlt h2)
            have hJl := hJ.out.len hlt
            go_wp2_with (first | (at_builtin; refine appI hS 0 rfl (by omega) rfl (.tmp 31) (.tmp 33) rfl rfl _ rfl ?_; intro v' w2 hS2; have hc2 := (hS2.oldI hv).cell k hlt) | (at_builtin; refine appI hS2 0 rfl (by simp; omega) rfl (.tmp 35) (.tmp 40) rfl rfl _ rfl ?_; intro v2 w3 hS3))
            go_roundw
            case rel => exact ⟨k + 1, true, _, by omega, by go_num, rfl, hJ.out, hJl, hS3⟩
            case measure => simp [intOf]; omega
          · have hJ := Lib.hid (hI.out.eq hlt (by omega))
            have hJl := hJ.out.len hlt
            go_wp2_with (at_builtin; refine appI hS 0 rfl (by omega) rfl (.tmp 35) (.tmp 40) rfl rfl _ rfl ?_; intro v2 w3 hS3)
            go_roundw
            case rel => exact ⟨k + 1, true, _, by omega, by go_num, rfl, hJ.out, hJl, hS3⟩
            case measure => simp [intOf]; omega
        · have hJ := Lib.hid (hI.out.lt hlt (by omega))
          have hJl := hJ.out.len hlt
          go_wp2_with (at_builtin; refine appI hS 0 rfl (by omega) rfl (.tmp 35) (.tmp 40) rfl rfl _ rfl ?_; intro v2 w3 hS3)
          go_roundw
          case rel => exact ⟨k + 1, false, _, by omega, by go_num, rfl, hJ.out, hJl, hS3⟩
          case measure => simp [intOf]; omega
      · have hJ := Lib.hid (hI.out.go hlt)
        have hJl := hJ.out.len hlt
        go_wp2_with (at_builtin; refine appI hS 0 rfl (by omega) rfl (.tmp 35) (.tmp 40) rfl rfl _ rfl ?_; intro v2 w3 hS3)
        go_roundw
        case rel => exact ⟨k + 1, true, _, by omega, by go_num, rfl, hJ.out, hJl, hS3⟩
        case measure => simp [intOf]; omega
    · obtain rfl : k = xs.length := by omega
      cases b
      · have hJ := Lib.hid hI.out.end0
        go_wp2_with (at_builtin; refine appI hS 0 rfl (by omega) rfl (.tmp 44) (.tmp 46) rfl rfl _ rfl ?_; intro v2 w3 hS3)
        go_ret
        exact ⟨_, rfl, by rw [← hJ.out]; exact hS3⟩
      · have hJ := Lib.hid hI.out.end1
        go_wp2_with fail
        go_ret
        exact ⟨_, rfl, by rw [← hJ.out]; exact hS⟩
end Go.Proofs.Ytgflhgkcmfjkgaa
end

section
/- Walks: designs that the reference draws. -/
namespace Go.Proofs.Ytgflhgkcmfjkgaa
set_option linter.unusedSimpArgs false
set_option linter.unusedVariables false
open Go.RowKit
attribute [local go_sem ↓] Go.wp_at_zero Go.wp_at_succ

theorem putL_inc : ∀ {xs : List Int} {l n x : Int}, incB l n xs = true → l < x → x < n → incB l n (putL xs x) = true
  | [], l, n, x, _, h1, h2 => by rw [putL, incB, if_neg (by omega)]; rfl
  | a :: r, l, n, x, h, h1, h2 => by
    rw [incB] at h
    by_cases hc : a ≤ l ∨ n ≤ a
    · rw [if_pos hc] at h; cases h
    · rw [if_neg hc] at h
      rw [putL]
      by_cases h3 : x < a
      · rw [if_pos h3, incB, if_neg (by omega), incB, if_neg (by omega)]; exact h
      · rw [if_neg h3]
        by_cases h4 : a = x
        · rw [if_pos h4, incB, if_neg hc]; exact h
        · rw [if_neg h4, incB, if_neg hc]; exact putL_inc h (by omega) h2
theorem putL_pos (xs : List Int) (x : Int) : 0 < (putL xs x).length := by
  cases xs with
  | nil => simp [putL]
  | cons a r => rw [putL]; split <;> (try split) <;> simp
end Go.Proofs.Ytgflhgkcmfjkgaa
end

section
/- Walks: base blocks that are drawn. -/
namespace Go.Proofs.Ytgflhgkcmfjkgaa
set_option linter.unusedSimpArgs false
set_option linter.unusedVariables false
open Go.RowKit
attribute [local go_sem ↓] Go.wp_at_zero Go.wp_at_succ

/-- some base blocks -/
def MakesFm (w0 : World) (cv : Value) (g K : Nat) (e : Ending) (w' : World) : Prop := ∃ (n : Nat) (A : List (List Int)) (v : Value) (us : List Value), Fam n A ∧ e = .returned (.tuple #[.int .i64 n, v]) ∧ us.length = A.length ∧ Src w0 w' cv g K (own2 v us A)
theorem fam7 : Fam 7 [[0, 1, 3]] := ⟨by omega, by omega, by simp, by simp, by decide +kernel⟩
theorem fam13 : Fam 13 [[0, 1, 4], [0, 2, 7]] := ⟨by omega, by omega, by simp, by simp, by decide +kernel⟩
theorem fam11 : Fam 11 [[1, 3, 4, 5, 9]] := ⟨by omega, by omega, by simp, by simp, by decide +kernel⟩
theorem rst_one {n : Nat} {x : Int} (h0 : 0 ≤ x) (h1 : x < n) : Rst n [x] := incB_of (by simp; omega) (by simp)
set_option maxHeartbeats 8000000 in
set_option maxRecDepth 100000 in
theorem l13Draw_c (w0 w : World) (cv : Value) (bs : List UInt8) (g K : Nat) (hb : RdB w0 cv bs) (h : Src w0 w cv g K []) (hK : K < 10000000) :
    Calls Try.prog 55 #[.pointer (some ⟨g, 0, none⟩)] w (MakesFm w0 cv g (K + 100)) := by
  go_enter Try.func55, Try.ntmps55
  go_wp2_with fail
  refine (pick_c w0 _ cv bs g _ _ 5 hb h (by omega)).mono ?_
  rintro e w1 ⟨x, x0, x1, rfl, h1⟩
  clear h
  by_cases e0 : x = 0
  · have f0 := eq_t e0
    have hL := ((St.refl w1).new 2 #[.int .i64 0, .int .i64 1, .int .i64 3] (by simp [maxLen])).new 30 #[.slice (some ⟨w1.heap.size, 0, none⟩) 3 3] (by simp [maxLen])
    have h2 := (h1.call hL).perm (L' := own2 (.slice (some ⟨w1.heap.size + 1, 0, none⟩) 1 1) [.slice (some ⟨w1.heap.size, 0, none⟩) 3 3] [[0, 1, 3]]) (by simp only [World.size_alloc]; exact List.Perm.swap _ _ _)
    clear h1 hL e0 x1
    go_wp2_with fail
    go_ret2
    exact ⟨7, _, _, _, fam7, rfl, rfl, h2.mono (by omega)⟩
  · have f0 := eq_f e0
    by_cases e1 : x = 1
    · have f1 := eq_t e1
      have hL := (((St.refl w1).new 2 #[.int .i64 0, .int .i64 1, .int .i64 4] (by simp [maxLen])).new 2 #[.int .i64 0, .int .i64 2, .int .i64 7] (by simp [maxLen])).new 30 #[.slice (some ⟨w1.heap.size, 0, none⟩) 3 3, .slice (some ⟨w1.heap.size + 1, 0, none⟩) 3 3] (by simp [maxLen])
      have h2 := (h1.call hL).perm (L' := own2 (.slice (some ⟨w1.heap.size + 1 + 1, 0, none⟩) 2 2) [.slice (some ⟨w1.heap.size, 0, none⟩) 3 3, .slice (some ⟨w1.heap.size + 1, 0, none⟩) 3 3] [[0, 1, 4], [0, 2, 7]]) (by simp only [World.size_alloc]; exact List.perm_append_singleton _ [_, _])
      clear h1 hL e0 e1 x1
      go_wp2_with fail
      go_ret2
      exact ⟨13, _, _, _, fam13, rfl, rfl, h2.mono (by omega)⟩
    · have f1 := eq_f e1
      by_cases e2 : x = 2
      · have f2 := eq_t e2
        have hL := ((St.refl w1).new 2 #[.int .i64 1, .int .i64 3, .int .i64 4, .int .i64 5, .int .i64 9] (by simp [maxLen])).new 30 #[.slice (some ⟨w1.heap.size, 0, none⟩) 5 5] (by simp [maxLen])
        have h2 := (h1.call hL).perm (L' := own2 (.slice (some ⟨w1.heap.size + 1, 0, none⟩) 1 1) [.slice (some ⟨w1.heap.size, 0, none⟩) 5 5] [[1, 3, 4, 5, 9]]) (by simp only [World.size_alloc]; exact List.Perm.swap _ _ _)
        clear h1 hL e0 e1 e2 x1
        go_wp2_with fail
        go_ret2
        exact ⟨11, _, _, _, fam11, rfl, rfl, h2.mono (by omega)⟩
      · have f2 := eq_f e2
        clear e0 e1 e2 x0 x1
        go_wp2_with fail
        refine (pick_c w0 _ cv bs g _ _ 14 hb h1 (by omega)).mono ?_
        rintro e w2 ⟨y, y0, y1, rfl, h2⟩
        obtain ⟨n, hn⟩ : ∃ n : Nat, 1 + y = n := ⟨(1 + y).toNat, by omega⟩
        have hn1 : 1 ≤ n ∧ n ≤ 14 := by omega
        have hE := h2.empII
        clear h1 h2 y0 y1
        go_wp2_with fail
        try rw [hn]
        clear hn
        refine (pick_c w0 _ cv bs g _ _ 4 hb hE (by omega)).mono ?_
        rintro e w3 ⟨z, z0, z1, rfl, h3⟩
        obtain ⟨m, hm⟩ : ∃ m : Nat, z = m := ⟨z.toNat, by omega⟩
        have hm3 : m ≤ 3 := by omega
        clear hE z0 z1
        subst hm
        go_wp2_with fail
        go_loopw [5, 6, 7, 8] (fun o i _ _ wr => ∃ (m : Nat) (uo : List Value) (R : List (List Int)), m ≤ 3 ∧ i = .int .i64 m ∧ Hid (R.length + m ≤ 3 ∧ uo.length = R.length ∧ ∀ r ∈ R, 0 < r.length ∧ Rst n r) ∧ Src w0 wr cv g (K + 90 - 12 * m) (own2 o uo R)) (fun _ i _ _ _ => (intOf i).toNat)
        case atStart => exact ⟨m, [], [], hm3, rfl, ⟨by simpa using hm3, rfl, fun r hr => by cases hr⟩, h3.mono (by omega)⟩
        case round =>
          clear h3
          obtain ⟨m, uo, R, hm, rfl, hI, hS⟩ := hrel
          by_cases hm0 : 0 < m
          · go_wp2_with fail
            refine (pick_c w0 _ cv bs g _ _ n hb hS (by omega)).mono ?_
            rintro e w2 ⟨y, y0, y1, rfl, h2⟩
            have h3 : Src w0 (w2.alloc (.cells #[.int .i64 y] 2)) cv g _ (row 2 (.slice (some ⟨w2.heap.size, 0, none⟩) 1 1) (iv [y]) :: own2 u5 uo R) := h2.lit [y] (by simp)
            have Hy0 := Lib.hid (rst_one (n := n) y0 (by omega))
            clear hS h2 y0 y1
            go_wp2_with fail
            refine (pick_c w0 _ cv bs g _ _ 4 hb h3 (by omega)).mono ?_
            rintro e w3 ⟨k, k0, k1, rfl, h4⟩
            obtain ⟨kk, rfl⟩ := Int.eq_ofNat_of_zero_le k0
            have hkk : kk ≤ 3 := by omega
            clear h3 k0 k1
            go_wp2_with fail
            go_loopw [7, 8] (fun q i wx => ∃ (t : Nat) (xs : List Int), t ≤ 3 ∧ i = .int .i64 t ∧ Hid (0 < xs.length ∧ xs.length + t ≤ 4 ∧ Rst n xs) ∧ Src w0 wx cv g (K + 90 - 12 * m + 10 - 2 * t) (row 2 q (iv xs) :: own2 u5 uo R)) (fun _ i _ => (intOf i).toNat)
            case atStart => exact ⟨kk, [y], hkk, rfl, ⟨by simp, by simp; omega, Hy0.out⟩, h4.mono (by omega)⟩
            case round =>
              clear h4
              obtain ⟨t, xs, ht, rfl, hx, hS⟩ := hrel
              by_cases ht0 : 0 < t
              · go_wp2_with fail
                refine (pick_c w0 _ cv bs g _ _ n hb hS (by omega)).mono ?_
                rintro e w4 ⟨z, z0, z1, rfl, h5⟩
                have hrx := h5.rdI 0 rfl
                have hxl := hx.out.2.1
                have hnew := Lib.hid (And.intro (putL_pos xs z) (And.intro (putL_len xs z) (putL_inc (x := z) hx.out.2.2 (by omega) (by omega))))
                clear hS z0 z1
                go_wp2_with fail
                refine (l00PutX_c u7 xs z _ hrx (by omega)).mono ?_
                rintro e w5 ⟨v5, rfl, h6⟩
                have h7 := ((h5.call h6).sub (L' := own2 u5 uo R ++ [row 2 v5 (iv (putL xs z))]) (List.sublist_cons_self _ _)).perm (L' := row 2 v5 (iv (putL xs z)) :: own2 u5 uo R) List.perm_append_comm
                clear h5 h6 hrx hxl
                go_wp2_with fail
                go_roundw
                case rel => exact ⟨t - 1, putL xs z, by omega, by go_num, ⟨hnew.out.1, by have := hnew.out.2.1; have := hx.out.2.1; omega, hnew.out.2.2⟩, h7.mono (by omega)⟩
                case measure => simp [intOf]; omega
              · obtain ⟨pp, ss, p0, p1, hT⟩ := hS
                have HP := Lib.hid (And.intro p0 p1)
                obtain ⟨la, lc, hle⟩ := (hT.rdI 1 rfl).sl.sh
                rw [iv_len] at hle
                subst hle
                have hul := Lib.hid (show uo.length < 4294967296 by rw [hI.out.2.1]; have := hI.out.1; omega)
                clear p0 p1
                go_wp2_with (at_builtin; refine appII hT 2 rfl hul.out rfl _ _ rfl rfl _ rfl rfl ?_; intro v8 w8 hS8)
                simp only [List.set_cons_succ] at hS8
                go_roundw
                case rel =>
                  refine ⟨m - 1, uo ++ [.slice la xs.length lc], R ++ [xs], by omega, by go_num, ⟨by simp; have := hI.out.1; omega, by simp [hI.out.2.1], fun r hr => ?_⟩, pp, ss, HP.out.1, by have := HP.out.2; omega, ?_⟩
                  · rcases List.mem_append.1 hr with hr | hr
                    · exact hI.out.2.2 r hr
                    · obtain rfl := List.mem_singleton.1 hr
                      exact ⟨hx.out.1, hx.out.2.2⟩
                  · rw [own2, rowsI_app hI.out.2.1]
                    have h9 : St w0.heap.size w0 w8 (box 101 g [cv, .int .i64 pp, .int .u64 ss] :: row 2 (.slice la xs.length lc) (iv xs) :: row 30 v8 (uo ++ [.slice la xs.length lc]) :: rowsI uo R) := hS8
                    exact h9.perm (by (try simp only [own2, List.cons_append, List.nil_append, List.append_nil]); classical exact List.perm_iff_count.2 (fun a => by simp only [List.cons_append, List.nil_append, List.append_nil, List.count_append, List.count_cons, List.count_nil] <;> omega))
                case measure => simp [intOf]; omega
          · obtain rfl : m = 0 := by omega
            go_wp2_with fail
            go_ret2
            exact ⟨n, R, _, uo, ⟨hn1.1, by omega, by have := hI.out.1; omega, fun s hs => (hI.out.2.2 s hs).1, fun s hs => (hI.out.2.2 s hs).2⟩, rfl, hI.out.2.1, hS.mono (by omega)⟩
theorem V8Base_c (w : World) (cv : Value) (bs : List UInt8) (hb : RdB w cv bs) : Calls Try.prog 20 #[cv] w fun e w' => ∃ (n : Nat) (A : List (List Int)) (v : Value) (us : List Value), Fam n A ∧ e = .returned (.tuple #[.int .i64 n, v]) ∧ RII w' v us A ∧ St w.heap.size w w' [] := by
  go_enter Try.func20, Try.ntmps20
  go_wp2_with fail
  refine (l00From_c w cv bs hb).mono ?_
  rintro e w1 ⟨rfl, h1⟩
  go_wp2_with fail
  refine (l13Draw_c w _ cv bs _ _ hb h1 (by omega)).mono ?_
  rintro e w2 ⟨n, A, v, us, hF, rfl, hl, h2⟩
  have HF := Lib.hid hF
  have rv := h2.riiS (v := v) (us := us) (A := A) (.refl _) hl
  have hS := h2.st
  clear h1 h2 hF
  go_wp2_with fail
  go_ret2
  exact ⟨n, A, v, us, HF.out, rfl, rv, hS.out⟩
end Go.Proofs.Ytgflhgkcmfjkgaa
end

section
/- Walks: v8Long, v8At of the laws. -/
namespace Go.Proofs.Ytgflhgkcmfjkgaa
set_option linter.unusedSimpArgs false
set_option linter.unusedVariables false
open Go.RowKit

set_option maxHeartbeats 2000000 in
theorem v8Long_c (va vb : Value) (xs bs : List UInt8) (w : World) (ha : RdB w va xs) (hb : RdB w vb bs) :
    Calls Try.prog 19 #[va, vb] w fun e w' => e = .returned (.bool (decide (1048576 < (xs.length : Int)) || decide (1048576 < (bs.length : Int)))) ∧ w = w' := by
  have hla := ha.len
  have hlb := hb.len
  have hea := ha.le
  have heb := hb.le
  by_cases h1 : 1048576 < (xs.length : Int)
  · rw [decide_eq_true h1, Bool.true_or]
    go_enter Try.func19, Try.ntmps19
    go_wp2_with fail
    go_ret
    exact ⟨rfl, rfl⟩
  · rw [decide_eq_false h1, Bool.false_or]
    by_cases h2 : 1048576 < (bs.length : Int)
    · rw [decide_eq_true h2]
      go_enter Try.func19, Try.ntmps19
      go_wp2_with fail
      go_ret
      exact ⟨by simp [h1, h2], rfl⟩
    · rw [decide_eq_false h2]
      go_enter Try.func19, Try.ntmps19
      go_wp2_with fail
      go_ret
      exact ⟨by simp [h1, h2], rfl⟩
set_option maxHeartbeats 2000000 in
theorem v8At_c (v : Value) (bs : List UInt8) (k : Nat) (n : Int) (w : World) (hb : RdB w v bs) (hk : k ≤ 1000000) :
    Calls Try.prog 26 #[v, .int .i64 k, .int .i64 n] w (AnInt 0 (max (n - 1) 0) fun w' => w = w') := by
  have hln := hb.len
  have hle := hb.le
  by_cases h1 : n ≤ 1
  · go_enter Try.func26, Try.ntmps26
    go_wp2_with fail
    go_ret
    exact ⟨0, by omega, by omega, rfl, rfl⟩
  · by_cases h2 : k < bs.length
    · have hc := hb.cell k h2
      have hx := hb.ix .i64 (k : Int) (by omega) (by omega)
      rw [Int.toNat_natCast] at hx
      obtain ⟨b0, b1⟩ := bnth_bd bs k
      go_enter Try.func26, Try.ntmps26
      go_wp2_with fail
      go_ret
      have := Int.emod_nonneg (bnth bs k) (show n ≠ 0 by omega)
      have := Int.emod_lt_of_pos (bnth bs k) (show 0 < n by omega)
      exact ⟨_, by omega, by omega, rfl, rfl⟩
    · go_enter Try.func26, Try.ntmps26
      go_wp2_with fail
      go_ret
      exact ⟨0, by omega, by omega, rfl, rfl⟩
end Go.Proofs.Ytgflhgkcmfjkgaa
end

section
/- Walks: the laws' own comparisons of lists. -/
namespace Go.Proofs.Ytgflhgkcmfjkgaa
set_option linter.unusedSimpArgs false
set_option linter.unusedVariables false
open Go.RowKit

set_option maxHeartbeats 1000000 in
set_option maxRecDepth 100000 in
theorem v8Same_c (va vb : Value) (xs ys : List Int) (w : World) (ha : RdI w va xs) (hb : RdI w vb ys) :
    Calls Try.prog 29 #[va, vb] w (GivesB w (decide (xs = ys))) := by
  have hla := ha.len
  have hlb := hb.len
  have hia := ha.ix
  have hib := hb.ix
  have hma := ha.le
  by_cases hne : xs.length = ys.length
  · have f0 : ((xs.length : Int) != (ys.length : Int)) = false := ne_f (by omega)
    have hle : xs.length ≤ ys.length := by omega
    have Hne := Lib.hid hne; clear hne
    go_enter Try.func29, Try.ntmps29
    go_wp2_with fail
    go_loopw [5] (fun i wr => ∃ k : Nat, k ≤ xs.length ∧ i = .int .i64 k ∧ Hid (∀ j, j < k → nth xs j = nth ys j) ∧ St w.heap.size w wr []) (fun i _ => xs.length - (intOf i).toNat)
    case atStart => exact ⟨0, by omega, rfl, fun j hj => by omega, St.refl w⟩
    case round =>
      obtain ⟨k, hk, rfl, hI, hS⟩ := hrel
      by_cases hlt : k < xs.length
      · have hqa := fun s : SS w.heap.size w [] => (s.st.oldI ha).cell k hlt
        have hqb := fun s : SS w.heap.size w [] => (s.st.oldI hb).cell k (by omega)
        have hk2 : k < ys.length := by omega
        by_cases h1 : nth xs k = nth ys k
        · have f1 := ne_f h1
          have H1 := Lib.hid h1; clear h1
          go_wp2_with fail
          have hne : Nonempty (SS _ _ _) := ⟨⟨_, hS⟩⟩
          refine wp_region_st (by kernel_rfl) (by kernel_rfl) hS ?_
          repeat (go_big_quiet_step (fail))
          refine wpQuiet_nil ?_
          rintro _ ⟨s2, rfl⟩
          have hS2 := s2.st
          generalize s2.w = w2 at hS2 ⊢
          go_wp2_with fail
          go_roundw
          case rel => exact ⟨k + 1, by omega, by go_num, fun j hj => by
            by_cases e : j = k
            · subst e; exact H1.out
            · exact hI.out j (by omega), hS2⟩
          case measure => simp [intOf]; omega
        · have f1 := ne_t h1
          have H1 := Lib.hid h1; clear h1
          go_wp2_with fail
          have hne : Nonempty (SS _ _ _) := ⟨⟨_, hS⟩⟩
          refine wp_region_st (by kernel_rfl) (by kernel_rfl) hS ?_
          repeat (go_big_quiet_step (fail))
          refine wpQuiet_nil ?_
          rintro _ ⟨s2, rfl⟩
          have hS2 := s2.st
          generalize s2.w = w2 at hS2 ⊢
          go_wp2_with fail
          go_ret
          exact ⟨ret_bool (by symm; rw [decide_eq_false_iff_not]; intro e; subst e; exact H1.out rfl), hS2⟩
      · go_wp2_with fail
        go_ret
        refine ⟨ret_bool ?_, hS⟩
        symm; rw [decide_eq_true_iff]
        apply List.ext_getElem Hne.out
        intro j h1 h2
        have := hI.out j (by omega)
        rwa [nth_eq h1, nth_eq h2] at this
  · have f0 : ((xs.length : Int) != (ys.length : Int)) = true := ne_t (by omega)
    have Hne := Lib.hid hne; clear hne
    go_enter Try.func29, Try.ntmps29
    go_wp2_with fail
    go_ret
    exact ⟨ret_bool (by symm; rw [decide_eq_false_iff_not]; intro e; exact Hne.out (by rw [e])), St.refl w⟩

end Go.Proofs.Ytgflhgkcmfjkgaa
end

section
/- Walks: incidence matrices; sorted designs; numbers of pairs and replications, with codes. -/
namespace Go.Proofs.Ytgflhgkcmfjkgaa
set_option linter.unusedSimpArgs false
set_option linter.unusedVariables false
open Go.RowKit
attribute [local go_sem ↓] Go.wp_at_zero Go.wp_at_succ
def incC (A : List (List Int)) (k j x c : Nat) : Prop := (c < k ∧ (x : Int) ∈ xat A c) ∨ (c = k ∧ (x : Int) ∈ (xat A k).take j)
open Classical in
structure IncS (P : Nat) (A : List (List Int)) (k j : Nat) (M : List (List Int)) : Prop where
  len : M.length = P
  row : ∀ x, x < P → (xat M x).length = A.length
  at' : ∀ x c, x < P → c < A.length → nth (xat M x) c = if incC A k j x c then 1 else 0
theorem IncS.next {P : Nat} {A : List (List Int)} {k : Nat} {M : List (List Int)} (h : IncS P A k (xat A k).length M) : IncS P A (k + 1) 0 M := by
  refine ⟨h.len, h.row, fun x c hx hc => ?_⟩
  have hiff : incC A k (xat A k).length x c ↔ incC A (k + 1) 0 x c := by
    unfold incC
    rw [List.take_length]
    constructor
    · rintro (⟨h1, h2⟩ | ⟨h1, h2⟩)
      · exact .inl ⟨by omega, h2⟩
      · exact .inl ⟨by omega, by rw [h1]; exact h2⟩
    · rintro (⟨h1, h2⟩ | ⟨_, h2⟩)
      · by_cases e : c = k
        · exact .inr ⟨e, by rw [← e]; exact h2⟩
        · exact .inl ⟨by omega, h2⟩
      · simp at h2
  rw [h.at' x c hx hc]
  by_cases hcc : incC A k (xat A k).length x c
  · rw [if_pos hcc, if_pos (hiff.1 hcc)]
  · rw [if_neg hcc, if_neg (fun h' => hcc (hiff.2 h'))]
end Go.Proofs.Ytgflhgkcmfjkgaa
end

section
/- Walks: the design of an incidence matrix. -/
namespace Go.Proofs.Ytgflhgkcmfjkgaa
set_option linter.unusedSimpArgs false
set_option linter.unusedVariables false
open Go.RowKit
attribute [local go_sem ↓] Go.wp_at_zero Go.wp_at_succ

/-- the points below y -/
def blw (b : List Int) (y : Nat) : List Int := b.filter fun z => decide (z < (y : Int))
theorem blw_step {b : List Int} (hp : b.Pairwise (· < ·)) (x : Nat) : blw b (x + 1) = blw b x ++ if (x : Int) ∈ b then [(x : Int)] else [] := by
  induction b with
  | nil => rfl
  | cons a r ih =>
    obtain ⟨h1, h2⟩ := List.pairwise_cons.1 hp
    have ih := ih h2
    unfold blw at ih ⊢
    rcases Int.lt_trichotomy a (x : Int) with h | h | h
    · rw [List.filter_cons_of_pos (by simp; omega), List.filter_cons_of_pos (by simp; omega), ih]
      have : ((x : Int) ∈ a :: r) ↔ (x : Int) ∈ r := by
        rw [List.mem_cons]; constructor
        · rintro (e | e)
          · omega
          · exact e
        · exact .inr
      simp only [this, List.cons_append]
    · have hnr : (x : Int) ∉ r := fun hm => by have := h1 _ hm; omega
      have e0 : r.filter (fun z => decide (z < (x : Int))) = [] := by
        rw [List.filter_eq_nil_iff]; intro z hz; have := h1 z hz; simp; omega
      rw [if_neg hnr, e0] at ih
      rw [List.filter_cons_of_pos (by simp; omega), List.filter_cons_of_neg (by simp; omega), e0, ih, if_pos (by rw [h]; exact List.mem_cons_self), h]; rfl
    · have hnr : (x : Int) ∉ a :: r := fun hm => by
        rcases List.mem_cons.1 hm with e | hm
        · omega
        · have := h1 _ hm; omega
      have e0 : ∀ y : Int, y ≤ a → r.filter (fun z => decide (z < y)) = [] := fun y hy => by
        rw [List.filter_eq_nil_iff]; intro z hz; have := h1 z hz; simp; omega
      rw [List.filter_cons_of_neg (by simp; omega), List.filter_cons_of_neg (by simp; omega), e0 _ (by omega), e0 _ (by omega), if_neg hnr]; rfl
/-- the blocks behind x rows and k places -/
structure BlS (A : List (List Int)) (x k : Nat) (M : List (List Int)) : Prop where
  len : M.length = A.length
  at' : ∀ c, c < A.length → xat M c = blw (xat A c) (x + if c < k then 1 else 0)
theorem incB_pw2 {P : Nat} {b : List Int} (h : Inc P b) : b.Pairwise (· < ·) := by
  rw [List.pairwise_iff_getElem]
  intro i j hi hj hij
  have := h.lt i j hij hj
  rwa [nth_eq hi, nth_eq hj] at this
theorem BlS.no {P : Nat} {A : List (List Int)} {x k : Nat} {M : List (List Int)} (h : BlS A x k M) (hD : DOk P A) (hk : k < A.length) (hx : (x : Int) ∉ xat A k) : BlS A x (k + 1) M :=
  ⟨h.len, fun c hc => by
    rw [h.at' c hc]
    by_cases e : k = c
    · subst e
      rw [if_neg (by omega), if_pos (by omega), Nat.add_zero, blw_step (incB_pw2 (hD.inc' hk)), if_neg hx, List.append_nil]
    · congr 1
      by_cases h2 : c < k
      · rw [if_pos h2, if_pos (by omega)]
      · rw [if_neg h2, if_neg (by omega)]⟩
theorem BlS.next {A : List (List Int)} {x : Nat} {M : List (List Int)} (h : BlS A x A.length M) : BlS A (x + 1) 0 M :=
  ⟨h.len, fun c hc => by rw [h.at' c hc, if_pos hc, if_neg (by omega)]⟩
end Go.Proofs.Ytgflhgkcmfjkgaa
end

section
/- Plain: images of balanced designs have the same parameters. -/
namespace Go.Proofs.Ytgflhgkcmfjkgaa
set_option linter.unusedSimpArgs false
set_option linter.unusedVariables false
section
variable {p : List Int} {P : Nat} {b : List Int}
end
section
variable {p : List Int} {P : Nat} {A : List (List Int)}
theorem parL_mem {P : Nat} {A : List (List Int)} {c : Int} : c ∈ parL P A ↔ ∃ x y, x < y ∧ y < P ∧ c = parF A x y := by
  unfold parL
  simp only [List.mem_flatten, List.mem_map, List.mem_range]
  constructor
  · rintro ⟨l, ⟨x, hx, rfl⟩, hc⟩
    unfold parR at hc
    simp only [List.mem_map, List.mem_range] at hc
    obtain ⟨t, ht, rfl⟩ := hc
    exact ⟨x, x + 1 + t, by omega, by omega, rfl⟩
  · rintro ⟨x, y, hxy, hy, rfl⟩
    refine ⟨parR P A x, ⟨x, by omega, rfl⟩, ?_⟩
    unfold parR
    simp only [List.mem_map, List.mem_range]
    exact ⟨y - (x + 1), by omega, by rw [show x + 1 + (y - (x + 1)) = y by omega]⟩
end
end Go.Proofs.Ytgflhgkcmfjkgaa
end

section
/- The law FnDifferences, walked. -/
namespace Go.Proofs.Ytgflhgkcmfjkgaa
set_option linter.unusedSimpArgs false
set_option linter.unusedVariables false
open Go.RowKit
attribute [local go_sem ↓] Go.wp_at_zero Go.wp_at_succ

theorem newD5 (w : World) (P : Int) (v : Value) : St w.heap.size w (w.alloc (.cells #[.int .i64 P, v] 35)) [] ∧ BoxD (w.alloc (.cells #[.int .i64 P, v] 35)) w.heap.size P v := by
  have hN := (St.refl w).newboxF 35 #[.int .i64 P, v]
  exact ⟨hN.out, hN.bcell 0 rfl 0 rfl, hN.bcell 0 rfl 1 rfl⟩
theorem sumZ_take {T : List Int} {i : Nat} (h : i < T.length) : sumZ (T.take (i + 1)) = sumZ (T.take i) + nth T i := by
  rw [take_nth h, sumZ_app]; simp [sumZ]
theorem sqS_take {A : List (List Int)} {i : Nat} (h : i < A.length) : sqS (A.take (i + 1)) = sqS (A.take i) + ((xat A i).length : Int) * ((xat A i).length - 1) := by
  rw [take_xat h, sqS_app]; simp [sqS]
theorem sumZ_bd {T : List Int} {c : Nat} (h : ∀ x ∈ T, 0 ≤ x ∧ x ≤ c) : 0 ≤ sumZ T ∧ sumZ T ≤ T.length * c := by
  induction T with
  | nil => simp [sumZ]
  | cons x r ih =>
    have h1 := h x (List.mem_cons_self ..)
    have h2 := ih fun y hy => h y (List.mem_cons_of_mem _ hy)
    rw [sumZ, List.length_cons, show ((r.length + 1 : Nat) : Int) = (r.length : Int) + 1 by omega, Int.add_mul]; omega
theorem sqS_bd {A : List (List Int)} (h : ∀ s ∈ A, s.length ≤ 32) : 0 ≤ sqS A ∧ sqS A ≤ A.length * 1024 := by
  induction A with
  | nil => simp [sqS]
  | cons x r ih =>
    have h1 := h x (List.mem_cons_self ..)
    have h2 := ih fun y hy => h y (List.mem_cons_of_mem _ hy)
    have h3 : 0 ≤ (x.length : Int) * ((x.length : Int) - 1) ∧ (x.length : Int) * ((x.length : Int) - 1) ≤ 1024 := by
      cases hx : x.length with
      | zero => simp
      | succ k =>
        have : (k + 1) * k ≤ 32 * 32 := Nat.mul_le_mul (by omega) (by omega)
        have e : ((k + 1 : Nat) : Int) * (((k + 1 : Nat) : Int) - 1) = ((k + 1) * k : Nat) := by push_cast; rw [Int.add_sub_cancel]
        rw [e]; omega
    rw [sqS, List.length_cons, show ((r.length + 1 : Nat) : Int) = (r.length : Int) + 1 by omega, Int.add_mul]; omega
theorem tab_bd {n : Nat} {A : List (List Int)} (h : Fam n A) : ∀ x ∈ tabL n (dfA n A), 0 ≤ x ∧ x ≤ (10000 : Nat) := by
  intro x hx
  obtain ⟨d, hd, rfl⟩ := List.mem_map.1 hx
  have h1 := List.countP_le_length (p := fun x => decide (x = (d : Int))) (l := dfA n A)
  have h2 := dfA_len h.rst
  have h3 := sqS_bd fun s hs => Nat.le_trans (Rst.len (h.rst s hs) h.n1) h.n32
  have h4 := h.len
  omega
theorem fam_sub {n : Nat} {A : List (List Int)} (h : Fam n A) {s : List Int} (hs : Rst n s) (h0 : 0 < s.length) : Fam n [s] := ⟨h.n1, h.n32, by simp, by simpa using h0, by simpa using hs⟩
/-- one row as a list of rows -/
theorem one_rii {W : World} {v : Value} {s : List Int} (hr : RdI W v s) : St W.heap.size W (W.alloc (.cells #[v] 30)) [] ∧ RII (W.alloc (.cells #[v] 30)) (.slice (some ⟨W.heap.size, 0, none⟩) 1 1) [v] [s] := by
  have hN := (St.refl W).new 30 #[v] (by simp [maxLen])
  refine ⟨hN.out, hN.rd 0 (e := 30) rfl, rfl, fun j hj => ?_⟩
  simp only [List.length_singleton] at hj
  obtain rfl : j = 0 := by omega
  exact hr.keep hN.below
set_option maxHeartbeats 16000000 in
set_option maxRecDepth 100000 in
theorem FnDifferences_law (w : World) (cv : Value) (bs : List UInt8) (cm : Value) (ms : List UInt8) (hb : RdB w cv bs) (hm : RdB w cm ms) :
    Calls Try.prog 5 #[cv, cm] w (GivesB w true) := by
  have KL := v8Long_c cv cm bs ms w hb hm
  generalize (decide (1048576 < (bs.length : Int)) || decide (1048576 < (ms.length : Int))) = lo at KL
  cases lo
  case true =>
    go_enter Try.func5, Try.ntmps5
    go_wp2_with fail
    refine KL.mono ?_
    rintro e w1 ⟨rfl, rfl⟩
    go_wp2_with fail
    go_ret
    exact ⟨rfl, St.refl _⟩
  case false =>
    go_enter Try.func5, Try.ntmps5
    go_wp2_with fail
    refine KL.mono ?_
    clear KL
    rintro e w1 ⟨rfl, rfl⟩
    go_wp2_with fail
    refine (V8Base_c w cv bs hb).mono ?_
    rintro e w1 ⟨n, A, v, us, hF, rfl, rv, hT⟩
    have rm := hm.keep hT.below
    have HF := Lib.hid hF
    have K1 := Lib.hid (DifferenceTable_c n v us A w1 rv hF)
    have HTl := Lib.hid (tabL_len n (dfA n A))
    have HT0 := Lib.hid (dif_zero (by have := hF.n1; omega) hF.rst)
    have HTn := Lib.hid (fun i h0 hi => dif_neg hF.rst (i := i) h0 hi)
    have HTs := Lib.hid (dif_sum hF.rst)
    have HTb := Lib.hid (tab_bd hF)
    have KL := Lib.hid (fun W hW => FamilyLambda_c n v us A W hW hF)
    have KV := Lib.hid (fun W hW => DevelopFamily_c n v us A W hW hF)
    have HP := Lib.hid (fun x y (hxy : x < y) (hy : y < n) => dev_pair hF.rst hxy hy)
    have n1 := hF.n1
    have n32 := hF.n32
    have hA8 := hF.len
    clear hF hb hm
    go_wp2_with fail
    refine K1.out.mono ?_
    clear K1
    generalize tabL n (dfA n A) = T at *
    rintro e w2 ⟨vt, rfl, h2⟩
    have rv := rv.keep h2.below
    have rm := rm.keep h2.below
    have rT := h2.rdI 0 rfl
    have hT := (hT.call0 h2.out).out
    clear h2
    have hlt := rT.len
    have hxt := rT.ixe
    have hlet := rT.le
    rw [HTl.out] at hlt hxt hlet
    have c0 := rT.cell 0 (by rw [HTl.out]; omega)
    have x0 := hxt (0 : Int) 0 rfl (by omega)
    rw [HT0.out] at c0
    have f0 : ((n : Int) != (n : Int)) = false := ne_f rfl
    have hlA := rv.len
    have hleA := rv.le
    have hxA := rv.ixe
    go_wp2_with fail
    clear c0 x0 f0
    go_loopw [10, 9] (fun i s wr => ∃ k : Nat, k ≤ n ∧ i = .int .i64 k ∧ s = .int .i64 (sumZ (T.take k)) ∧ St w2.heap.size w2 wr []) (fun i _ _ => n - (intOf i).toNat)
    case atStart => exact ⟨0, by omega, rfl, rfl, St.refl w2⟩
    case round =>
      obtain ⟨k, hk, rfl, rfl, hS⟩ := hrel
      by_cases hkt : k < n
      · have ck := (hS.oldI rT).cell k (by rw [HTl.out]; exact hkt)
        have xk := hxt (k : Int) k rfl hkt
        have HS := Lib.hid (sumZ_take (T := T) (i := k) (by rw [HTl.out]; exact hkt))
        have hbs := sumZ_bd (T := T.take k) (c := 10000) fun x hx => HTb.out x (List.mem_of_mem_take hx)
        have hbk := HTb.out (nth T k) (nth_mem (by rw [HTl.out]; exact hkt))
        have hbl : ((T.take k).length : Int) * (10000 : Nat) ≤ 32 * 10000 := by
          have : (T.take k).length ≤ 32 := by rw [List.length_take]; omega
          omega
        have hbs0 := hbs.1
        have hbs1 : sumZ (T.take k) ≤ 320000 := by omega
        have q0 := fun s : SS w2.heap.size w2 [] => (s.st.oldI rT).cell k (by rw [HTl.out]; exact hkt)
        have w3 : IntKind.i64.wrap (sumZ (T.take k) + nth T k) = sumZ (T.take k) + nth T k := IntWalk.i64_in _ (by omega)
        clear hbs hbl
        by_cases hk0 : k = 0
        · subst hk0
          have x00 := hxt (0 : Int) 0 rfl (by omega)
          generalize sumZ (T.take 0) = z at *
          go_wp2_with fail
          have hne : Nonempty (SS _ _ _) := ⟨⟨_, hS⟩⟩
          refine wp_region_st (by kernel_rfl) (by kernel_rfl) hS ?_
          repeat (go_big_quiet_step (fail))
          refine wpQuiet_nil ?_
          rintro _ ⟨s2, rfl⟩
          have hS5 := s2.st
          generalize s2.w = w5 at hS5 ⊢
          go_wp2_with fail
          go_roundw
          case rel => exact ⟨1, by omega, by go_num, by rw [HS.out], hS5⟩
          case measure => simp [intOf]; omega
        · have hkp : 0 < k := by omega
          have hn' := HTn.out k hkp hkt
          have cn := fun s : SS w2.heap.size w2 [] => (s.st.oldI rT).cell (n - k) (by rw [HTl.out]; omega)
          have xn := hxt ((n : Int) - (k : Int)) (n - k) (by omega) (by omega)
          rw [← hn'] at cn
          have f1 : (nth T k != nth T k) = false := ne_f rfl
          have w4 : IntKind.i64.wrap ((n : Int) - (k : Int)) = (n : Int) - (k : Int) := IntWalk.i64_in _ (by omega)
          clear hn'
          generalize sumZ (T.take k) = z at *
          generalize nth T k = y at *
          go_wp2_with fail
          have hne : Nonempty (SS _ _ _) := ⟨⟨_, hS⟩⟩
          refine wp_region_st (by kernel_rfl) (by kernel_rfl) hS ?_
          repeat (go_big_quiet_step (fail))
          refine wpQuiet_nil ?_
          rintro _ ⟨s2, rfl⟩
          have hS5 := s2.st
          generalize s2.w = w5 at hS5 ⊢
          go_wp2_with fail
          go_roundw
          case rel => exact ⟨k + 1, by omega, by go_num, by rw [HS.out], hS5⟩
          case measure => simp [intOf]; omega
      · obtain rfl : k = n := by omega
        rw [show T.take k = T by rw [← HTl.out, List.take_length], HTs.out]
        have rv := rv.keep hS.below
        have rm := rm.keep hS.below
        have hT := (hT.call0 hS).out
        clear rT hxt hlet HTn HT0
        have hA32 : Hid (∀ s ∈ A, s.length ≤ 32) := Lib.hid (fun s hs => Nat.le_trans (Rst.len (HF.out.rst s hs) HF.out.n1) HF.out.n32)
        go_wp2_with fail
        go_loopw [11, 9, 12] (fun i s _ wx => ∃ j : Nat, j ≤ A.length ∧ i = .int .i64 j ∧ s = .int .i64 (sqS A - sqS (A.take j)) ∧ wx = wr) (fun i _ _ _ => A.length - (intOf i).toNat)
        case atStart => exact ⟨0, by omega, rfl, by simp [sqS], rfl⟩
        case round =>
          obtain ⟨j, hj, rfl, rfl, rfl⟩ := hrel
          by_cases hjt : j < A.length
          · have cj := rv.cell j hjt
            have xj := hxA (j : Int) j rfl hjt
            have hlj := (rv.row j hjt).len
            have HS := Lib.hid (sqS_take hjt)
            have hb1 := sqS_bd hA32.out
            have hb2 := sqS_bd (A := A.take j) fun s hs => hA32.out s (List.mem_of_mem_take hs)
            have hb3 : ((A.take j).length : Int) ≤ 8 := by
              have : (A.take j).length ≤ 8 := by rw [List.length_take]; omega
              omega
            have h32 := hA32.out _ (xat_mem hjt)
            obtain ⟨m, hml⟩ : ∃ m, (xat A j).length = m := ⟨_, rfl⟩
            rw [hml] at hlj HS h32
            have hmm : 0 ≤ (m : Int) * ((m : Int) - 1) ∧ (m : Int) * ((m : Int) - 1) ≤ 1024 := by
              cases m with
              | zero => simp
              | succ k =>
                have : (k + 1) * k ≤ 32 * 32 := Nat.mul_le_mul (by omega) (by omega)
                have e : ((k + 1 : Nat) : Int) * (((k + 1 : Nat) : Int) - 1) = ((k + 1) * k : Nat) := by push_cast; rw [Int.add_sub_cancel]
                rw [e]; omega
            have w1 : IntKind.i64.wrap ((m : Int) * ((m : Int) - 1)) = (m : Int) * ((m : Int) - 1) := IntWalk.i64_in _ (by omega)
            have hb0 : 0 ≤ sqS A ∧ sqS A ≤ 10000 ∧ 0 ≤ sqS (A.take j) ∧ sqS (A.take j) ≤ 10000 := by omega
            clear hb1 hb2 hb3 hml
            generalize sqS A = sa at *
            generalize sqS (A.take j) = sj at *
            generalize hgp : (m : Int) * ((m : Int) - 1) = pp at *
            go_wp2_with fail
            go_roundw
            case rel => exact ⟨j + 1, by omega, by go_num, by rw [HS.out]; first | (rw [hgp]; congr 1; omega) | (congr 1; omega), by first | trivial | rfl⟩
            case measure => simp [intOf]; omega
          · obtain rfl : j = A.length := by omega
            rw [List.take_length, Int.sub_self]
            have KD := Lib.hid (KV.out _ rv)
            go_wp2_with fail
            refine KD.out.mono ?_
            clear KD KV hS hlt
            rintro e w3 (⟨hl, vd, ud, rfl, hld, h3⟩ | ⟨hl, vd, ud, rfl, hld, h3⟩)
            · obtain ⟨ad, cd, hvd⟩ := (h3.rd 0 (e := 30) (v := vd) (us := ud) rfl).sl.sh
              rw [show ud.length = 0 from hld] at hvd
              subst hvd
              have hn := (newD5 w3 0 (.slice ad 0 cd)).1
              have rv := (rv.keep h3.below).keep hn.below
              have hT := (((hT.call0 h3.out).out).call0 hn).out
              have K1 := Lib.hid (KL.out _ rv)
              clear h3 hn hl hld
              unfold dv
              go_wp2_with fail
              refine K1.out.mono ?_
              clear K1
              rintro e w4 ⟨l, c, rfl, _, h4⟩
              have hT := (hT.call0 h4).out
              clear h4
              go_wp2_with fail
              go_ret
              exact ⟨rfl, hT⟩
            · have rD := h3.rii hld
              obtain ⟨ad, cd, hvd⟩ := rD.1.sl.sh
              rw [hld] at hvd
              subst hvd
              obtain ⟨hn, bd⟩ := newD5 w3 k (.slice ad (dvB k A).length cd)
              have rv := (rv.keep h3.below).keep hn.below
              have rm := (rm.keep h3.below).keep hn.below
              have rD := rD.keep hn.below
              have hT := (((hT.call0 h3.out).out).call0 hn).out
              have K1 := Lib.hid (KL.out _ rv)
              have Hok := Lib.hid (dv_ok n1 n32 HF.out.rst HF.out.ne hl)
              have Hcy := Lib.hid (dv_cyc (n := k) (A := A) (by omega) HF.out.rst)
              generalize dvB k A = D at *
              clear h3 hn hl hld KL
              unfold dv
              go_wp2_with fail
              refine K1.out.mono ?_
              clear K1
              rintro e w4 ⟨l, c, rfl, hlam, h4⟩
              have Hlam := Lib.hid hlam
              have hT := (hT.call0 h4).out
              have rv := rv.keep h4.below
              have rm := rm.keep h4.below
              have rD := rD.keep h4.below
              have bd := bd.keep h4.below
              have b0 := bd.1
              have b1 := bd.2
              clear h4 hlam
              have K1 := Lib.hid (IsCyclicDesign_c k (.slice ad D.length cd) ud D w4 rD Hok.out Hcy.out)
              unfold dv at K1
              go_wp2_with fail
              refine K1.out.mono ?_
              clear K1 b0 b1
              rintro e w5 ⟨rfl, h5⟩
              have hT := (hT.call0 h5).out
              have rv := rv.keep h5.below
              have rm := rm.keep h5.below
              have rD := rD.keep h5.below
              have bd := bd.keep h5.below
              have b0 := bd.1
              have b1 := bd.2
              clear h5
              have K1 := Lib.hid (sPairCounts_c k (.slice ad D.length cd) ud D w5 rD Hok.out)
              have HQ : Hid (c = 0 → ∀ x ∈ parL k D, x = l) := Lib.hid (fun hc x hx => by
                obtain ⟨a, b, hab, hbk, rfl⟩ := parL_mem.1 hx
                rw [HP.out a b hab hbk]
                exact Hlam.out hc _ (by omega) (by omega))
              unfold dv at K1
              go_wp2_with fail
              refine K1.out.mono ?_
              clear K1 b0 b1
              generalize parL k D = Q at *
              rintro e w6 ⟨vq, rfl, h6⟩
              have hT := (hT.call0 h6.out).out
              have rv := rv.keep h6.below
              have rm := rm.keep h6.below
              have rQ := h6.rdI 0 rfl
              have hlq := rQ.len
              have hxq := rQ.ixe
              have hleq := rQ.le
              have hlA := rv.len
              clear h6 bd rD
              go_wp2_with fail
              go_loopw [19] (fun i wx => ∃ j : Nat, j ≤ Q.length ∧ i = .int .i64 j ∧ wx = w6) (fun i _ => Q.length - (intOf i).toNat)
              case atStart => exact ⟨0, by omega, rfl, rfl⟩
              case round =>
                obtain ⟨j, hj, rfl, rfl⟩ := hrel
                by_cases hgo : j < Q.length ∧ c = 0
                · obtain ⟨hjt, hc0⟩ := hgo
                  subst hc0
                  have cj := rQ.cell j hjt
                  have xj := hxq (j : Int) j rfl hjt
                  rw [HQ.out rfl _ (nth_mem hjt)] at cj
                  have f1 : (l != l) = false := ne_f rfl
                  go_wp2_with fail
                  go_roundw
                  case rel => exact ⟨j + 1, by omega, by go_num, by first | trivial | rfl⟩
                  case measure => simp [intOf]; omega
                · have hstop : ((j : Int) < (Q.length : Int) ∧ (c == 0) = false) ∨ ¬ (j : Int) < (Q.length : Int) := by
                    by_cases hjt : j < Q.length
                    · exact .inl ⟨by omega, eq_f fun h => hgo ⟨hjt, h⟩⟩
                    · exact .inr (by omega)
                  clear hgo
                  by_cases hA0 : A.length = 0
                  · rcases hstop with ⟨g1, g2⟩ | g1
                    all_goals
                      go_wp2_with fail
                      go_ret
                      exact ⟨rfl, hT⟩
                  · have hA1 : 0 < A.length := by omega
                    have r0 := rv.row 0 hA1
                    have c0 := rv.cell 0 hA1
                    have x0 := rv.ixe (0 : Int) 0 rfl hA1
                    have H0 := Lib.hid (HF.out.rst _ (xat_mem hA1))
                    have H1 := Lib.hid (HF.out.ne _ (xat_mem hA1))
                    have KAt := Lib.hid (v8At_c cm ms 0 k _ rm (by omega))
                    have g3 : ¬ (A.length : Int) = 0 := by omega
                    have g4 : ((A.length : Int) == 0) = false := eq_f g3
                    rcases hstop with ⟨g1, g2⟩ | g1
                    all_goals
                      go_wp2_with fail
                      refine KAt.out.mono ?_
                      clear KAt
                      rintro e w7 ⟨y, y0, y1, rfl, hw7⟩
                      subst hw7
                      obtain ⟨b, rfl⟩ := Int.eq_ofNat_of_zero_le y0
                      have hbk : b < k := by omega
                      have hrst : Rst k (trZ k (xat A 0) b) := trZ_rst H0.out (by omega) hbk
                      have hE1 := Lib.hid (nr_trans H0.out hbk)
                      have hE2 := Lib.hid (dif_trans H0.out hbk)
                      have hFx := Lib.hid (fam_sub HF.out hrst (by rw [trZ_len]; exact H1.out))
                      have hF0 := Lib.hid (fam_sub HF.out H0.out H1.out)
                      have K1 := Lib.hid (TranslateSet_c k b (vat us 0) (xat A 0) _ r0 H0.out n1 n32 hbk)
                      have K2 := fun W hW => Lib.hid (NormalSet_c k (vat us 0) (xat A 0) W hW H0.out n1 n32)
                      have K3 := fun W v hW => Lib.hid (NormalSet_c k v (trZ k (xat A 0) b) W hW hrst n1 n32)
                      rw [nr_trans H0.out hbk] at K3
                      have K4 := fun W v us hW => Lib.hid (DifferenceTable_c k v us [trZ k (xat A 0) b] W hW hFx.out)
                      have K5 := fun W v us hW => Lib.hid (DifferenceTable_c k v us [xat A 0] W hW hF0.out)
                      rw [dif_trans H0.out hbk] at K4
                      clear y0 y1
                      generalize tabL k (dfA k [xat A 0]) = T1 at *
                      generalize nrK k (xat A 0) k = N1 at *
                      generalize trZ k (xat A 0) b = X1 at *
                      go_wp2_with fail
                      refine K1.out.mono ?_
                      clear K1
                      rintro e w7 ⟨vx, rfl, h7⟩
                      have hT := (hT.call0 h7.out).out
                      have rx := h7.rdI 0 rfl
                      have rv := rv.keep h7.below
                      have r0 := r0.keep h7.below
                      have c0 := rv.cell 0 hA1
                      clear h7
                      go_wp2_with fail
                      refine (K2 _ r0).out.mono ?_
                      clear K2
                      rintro e w8 ⟨vn, rfl, h8⟩
                      have hT := (hT.call0 h8.out).out
                      have rn := h8.rdI 0 rfl
                      have rx := rx.keep h8.below
                      have rv := rv.keep h8.below
                      have r0 := r0.keep h8.below
                      have c0 := rv.cell 0 hA1
                      clear h8
                      go_wp2_with fail
                      refine (K3 _ _ rx).out.mono ?_
                      clear K3
                      rintro e w9 ⟨vm, rfl, h9⟩
                      have hT := (hT.call0 h9.out).out
                      have rn2 := h9.rdI 0 rfl
                      have rn := rn.keep h9.below
                      have rx := rx.keep h9.below
                      have rv := rv.keep h9.below
                      have r0 := r0.keep h9.below
                      clear h9
                      obtain ⟨hn, rX⟩ := one_rii rx
                      have hT := (hT.call0 hn).out
                      obtain ⟨xa, xc, hvx⟩ := rx.sl.sh
                      subst hvx
                      have rn2 := rn2.keep hn.below
                      have rn := rn.keep hn.below
                      have rv := rv.keep hn.below
                      have r0 := r0.keep hn.below
                      have c0 := rv.cell 0 hA1
                      go_wp2_with fail
                      refine (K4 _ _ _ rX).out.mono ?_
                      clear K4 rX hn rx
                      rintro e w10 ⟨vo, rfl, h10⟩
                      have hT := (hT.call0 h10.out).out
                      have ro := h10.rdI 0 rfl
                      have rn2 := rn2.keep h10.below
                      have rn := rn.keep h10.below
                      have rv := rv.keep h10.below
                      have r0 := r0.keep h10.below
                      have c0 := rv.cell 0 hA1
                      clear h10
                      obtain ⟨hn, rX⟩ := one_rii r0
                      have hT := (hT.call0 hn).out
                      have ro := ro.keep hn.below
                      have rn2 := rn2.keep hn.below
                      have rn := rn.keep hn.below
                      obtain ⟨ya, yc, hvy⟩ := r0.sl.sh
                      rw [hvy] at c0 rX hn hT ro rn2 rn
                      clear hvy
                      go_wp2_with fail
                      refine (K5 _ _ _ rX).out.mono ?_
                      clear K5 rX hn
                      rintro e w11 ⟨vw, rfl, h11⟩
                      have hT := (hT.call0 h11.out).out
                      have rw1 := h11.rdI 0 rfl
                      have ro := ro.keep h11.below
                      have rn2 := rn2.keep h11.below
                      have rn := rn.keep h11.below
                      clear h11 c0
                      have KS1 := v8Same_c _ _ _ _ _ rn rn2
                      have KS2 := fun W h1 h2 => Lib.hid (v8Same_c vo vw T1 T1 W h1 h2)
                      simp only [decide_true] at KS1 KS2
                      go_wp2_with (first
                        | (go_at_call_of 29 vn; refine KS1.mono ?_; rintro e2 w12 ⟨rfl, h12⟩)
                        | (have hz := h12; clear hz; go_at_call 29; refine (KS2 _ (ro.keep h12.below) (rw1.keep h12.below)).out.mono ?_; rintro e2 w13 ⟨rfl, h13⟩))
                      go_ret
                      exact ⟨rfl, (((hT.call0 h12).out).call0 h13).out⟩
end Go.Proofs.Ytgflhgkcmfjkgaa
end

section
/- How arguments that come in read. How bytes that come in read. -/
namespace Go.Proofs.Ytgflhgkcmfjkgaa
set_option linter.unusedSimpArgs false
set_option linter.unusedVariables false
open Go.RowKit


/-- what came in as a slice of integers: nothing, or a row of numbers that fit -/
def IsRow (k : IntKind) (w : World) (a : Option Addr) (len cap : Nat) (zs : List Int) : Prop :=
  (a = none ∧ len = 0 ∧ cap = 0 ∧ zs = []) ∨
  ∃ x, a = some x ∧ len ≤ cap ∧ cap ≤ maxLen ∧ zs.length = cap ∧ (∀ i, i < zs.length → w.cell? (x.add i) = some (.int k (zs.getD i 0))) ∧ ∀ n ∈ zs, (Lit.int k n).wf = true

theorem IsRow.rd {k : IntKind} {w : World} {a : Option Addr} {len cap : Nat} {zs : List Int} (h : IsRow k w a len cap zs) : Rd w (.slice a len cap) ((zs.take len).map (Value.int k)) := by
  rcases h with ⟨rfl, rfl, rfl, rfl⟩ | ⟨x, rfl, h1, h2, h3, h4, h5⟩
  · exact Rd.nil w
  · have hl : ((zs.take len).map (Value.int k)).length = len := by simp; omega
    refine ⟨⟨some x, cap, by rw [hl], by omega, h2, .inr (by simp)⟩, ?_⟩
    intro i u hu
    have hi : i < len := by have := (List.getElem?_eq_some_iff.1 hu).1; omega
    have := h4 i (by omega)
    simp only [List.getElem?_map, List.getElem?_take, hi, if_true] at hu
    rw [List.getElem?_eq_getElem (by omega)] at hu
    simp at hu
    simp only [el]
    rw [this, ← hu]
    simp [List.getD, List.getElem?_eq_getElem (show i < zs.length by omega)]


theorem IsRow.rdB {w : World} {a : Option Addr} {len cap : Nat} {zs : List Int} (h : IsRow .u8 w a len cap zs) : ∃ bs, RdB w (.slice a len cap) bs := by
  refine ⟨(zs.take len).map fun n => UInt8.ofNat n.toNat, ?_⟩
  have h1 := h.rd
  have hw : ∀ n ∈ zs, 0 ≤ n ∧ n ≤ 255 := by
    rcases h with ⟨_, _, _, rfl⟩ | ⟨_, _, _, _, _, _, h5⟩
    · simp
    · intro n hn; have := h5 n hn; simpa [Lit.wf, IntKind.min, IntKind.max, IntKind.signed, IntKind.bits] using this
  unfold RdB bv
  rw [List.map_map]
  rw [List.map_congr_left (g := Value.int .u8)]
  · exact h1
  · intro n hn
    have := hw n (List.mem_of_mem_take hn)
    simp only [Function.comp]
    congr 1
    rw [UInt8.toNat_ofNat']
    omega

end Go.Proofs.Ytgflhgkcmfjkgaa
end

section
/- FnDifferences holds: for every input the call returns true and leaves its arguments as they are. No condition. -/
namespace Go.Proofs.Ytgflhgkcmfjkgaa.fnDifferences
set_option linter.unusedSimpArgs false
set_option linter.unusedVariables false
open Go.ChangeShapes Go.WideShapes Go.ChangeAt Go.RowKit
set_option linter.unusedVariables false

theorem own : ownKnob Try.prog.godebug = none := by kernel_rfl
theorem laidOut : laidOutB Try.prog = true := by kernel_rfl

set_option maxRecDepth 100000 in
theorem lifted (os : Os) (started : os.Started) (H : Type) (enc : TypeId × Value → H) :
    ReturnsInHanded {} Try.checked os 5 .any (Rows.fnDifferencesSpec.pre6 enc Try.prog Try.f5 Rows.fnDifferencesRow.domain false) (Rows.fnDifferencesSpec.post enc Try.prog Try.f5 false true false false) := by
  refine returnsInHanded_of_change (C := Try.checked) own started (by kernel_rfl) Try.func5
    (ChangeSpec.witness6 (enc := enc) (C := Try.checked) false ⟨#[], #[.slice none 0 0, .slice none 0 0], []⟩ 8 (by kernel_rfl) (by kernel_rfl) (by kernel_rfl) (by kernel_rfl)) ?_
  intro W base args ds gs before hval0 hW hcnd _
  have hval : ∀ (j : Nat) t v, Try.f5.params[j]? = some t → args[j]? = some v → Value.okWide Try.prog W .any base t v := hval0
  have hW' := hW
  obtain ⟨p, q, hA0, hV, rfl, hfz, hnd⟩ := hW
  have hA : DataW.TrodAll enc Try.prog W 0 (fun _ => true) true Try.f5.params.toList args.toList ds p := hA0
  rw [Try.params5] at hA hval
  obtain ⟨v0, vs0, d0, ds0, p0, q0, hargs, rfl, rfl, h0, r0⟩ := trodAll_cons hA
  obtain ⟨v1, vs1, d1, ds1, p1, q1, rfl, rfl, rfl, h1, r1⟩ := trodAll_cons r0
  obtain ⟨rfl, rfl, rfl⟩ := trodAll_nil r1
  obtain rfl : args = #[v0, v1] := by cases args; simp_all
  obtain ⟨rfl, rfl⟩ := trodVars_none hV
  obtain ⟨a0, len0, cap0, rfl⟩ := okWide_slice Try.underlying22 (hval 0 22 v0 rfl rfl)
  have k0 := h0
  have lt0 : ∀ x ∈ p0, x.block < W.heap.size := by obtain ⟨m, hm⟩ := k0; exact DataW.trod_lt m _ _ _ hm
  obtain ⟨bs0, rd0⟩ : ∃ bs, RdB W (.slice a0 len0 cap0) bs := by
    obtain ⟨fuel, hf⟩ := h0
    rcases open_ints Try.underlying22 Try.underlying5 (by kernel_rfl) hf with ⟨hcs, _⟩ | ⟨x, l, c, zs, hcs, _, hl, hm, hz, _, hcell, hwz⟩
    · simp [Value.cells] at hcs
      obtain ⟨rfl, rfl, rfl⟩ := hcs
      exact IsRow.rdB (zs := []) (.inl ⟨rfl, rfl, rfl, rfl⟩)
    · simp [Value.cells] at hcs
      obtain ⟨rfl, rfl, rfl⟩ := hcs
      exact IsRow.rdB (zs := zs) (.inr ⟨_, rfl, hl, hm, by simpa using hz, hcell, hwz⟩)
  obtain ⟨a1, len1, cap1, rfl⟩ := okWide_slice Try.underlying22 (hval 1 22 v1 rfl rfl)
  have k1 := h1
  have lt1 : ∀ x ∈ p1, x.block < W.heap.size := by obtain ⟨m, hm⟩ := k1; exact DataW.trod_lt m _ _ _ hm
  obtain ⟨bs1, rd1⟩ : ∃ bs, RdB W (.slice a1 len1 cap1) bs := by
    obtain ⟨fuel, hf⟩ := h1
    rcases open_ints Try.underlying22 Try.underlying5 (by kernel_rfl) hf with ⟨hcs, _⟩ | ⟨x, l, c, zs, hcs, _, hl, hm, hz, _, hcell, hwz⟩
    · simp [Value.cells] at hcs
      obtain ⟨rfl, rfl, rfl⟩ := hcs
      exact IsRow.rdB (zs := []) (.inl ⟨rfl, rfl, rfl, rfl⟩)
    · simp [Value.cells] at hcs
      obtain ⟨rfl, rfl, rfl⟩ := hcs
      exact IsRow.rdB (zs := zs) (.inr ⟨_, rfl, hl, hm, by simpa using hz, hcell, hwz⟩)
  clear hA0 hval0
  refine (FnDifferences_law W _ bs0 _ bs1 rd0 rd1).mono fun e W' ⟨he, hst⟩ => ?_
  have bel := hst.below
  subst he
  exact ⟨_, rfl, _, _, _, [], _, [], hW', trodAll_mk1 (shut_bool Try.underlying4 _), (trodAll_cons_mk (Below.trod laidOut (by kernel_rfl) (of_decide_eq_true (by kernel_rfl)) k0 bel lt0) (trodAll_cons_mk (Below.trod laidOut (by kernel_rfl) (of_decide_eq_true (by kernel_rfl)) k1 bel lt1) trodAll_mk0)), rfl, bel.frame _, fun h => by cases h⟩

theorem over : Rows.fnDifferencesRow.holds Try.pinned (OpenSpec.ofChange Rows.fnDifferencesSpec) :=
  OpenClaim.holds_of_wide 5 Try.f5 rfl rfl rfl rfl rfl rfl rfl ⟨rfl, rfl, rfl, rfl, rfl⟩ rfl rfl rfl rfl rfl (by kernel_rfl) Try.func5 (by kernel_rfl)
    (of_decide_eq_true (by kernel_rfl)) (by unfold Func.isWrapper; first | (rw [if_pos (by decide +kernel)]; kernel_rfl) | (rw [if_neg (by decide +kernel)]; exact ⟨rfl, rfl⟩))
    (fun os started H enc _ => lifted os started H enc)

theorem proved : Rows.FnDifferencesSaid := over
#print axioms proved
end Go.Proofs.Ytgflhgkcmfjkgaa.fnDifferences
end
