/- The texts of this claim, run 14: Ar1 Ar2 Ps3 PPs Times Pn2 LPlS Prf PFnPlaneSquares. -/
import Derived.Test.YtdgmaodnkbgolaaGreatK4
import Derived.Test.YtdgmaodnkbgolaaGreatK6
import Derived.Test.YtdgmaodnkbgolaaGreatK7
import Derived.Test.YtdgmaodnkbgolaaGreatK8
import Derived.Test.YtdgmaodnkbgolaaGreatK9
import Derived.Test.YtdgmaodnkbgolaaGreatK10
import Derived.Test.YtdgmaodnkbgolaaGreatK11
import Derived.Test.YtdgmaodnkbgolaaGreatK12
import Derived.Test.YtdgmaodnkbgolaaGreatK13
import Derived.Deep.CutRange
import Derived.Deep.CutBlock
import Derived.ProofKit
import Derived.OpenShut
import Derived.ShutString
import Derived.ChangeOld
import Derived.Below
section
/- Walks: the reference's squares of a field, lists of them that are drawn. -/
namespace Go.Proofs.YtdgmaodnkbgolaaGreat
set_option linter.unusedSimpArgs false
set_option linter.unusedVariables false
open Go.RowKit
attribute [local go_sem ↓] Go.wp_at_zero Go.wp_at_succ


set_option maxHeartbeats 8000000 in
set_option maxRecDepth 100000 in
theorem l07Square_c (n m : Nat) (w : World) (h2 : 2 ≤ n) (h10 : n ≤ 10) (hmk : MK n) (hm : m < n) :
    Calls Tryz.prog 65 #[.int .i64 n, .int .i64 m] w (MakesII w (fsq ((spl n).1 : Nat) (spl n).2 (mkF n) n m)) := by
  have HM := fun W => Lib.hid (l03Make_c n W h2 (by omega) hmk)
  have hfv := hmk.fv (by omega)
  have hpw : (((spl n).1 : Nat) : Int) ^ (spl n).2 = (n : Int) := by rw [← Int.natCast_pow, hmk.pw]
  have hel := fun (j : Nat) (hj : j < n) => (show El ((spl n).1 : Nat) (spl n).2 (j : Int) from ⟨by omega, by rw [hpw]; omega⟩)
  rw [fsq]
  clear hmk
  generalize (spl n).1 = P at *
  generalize (spl n).2 = D at *
  generalize mkF n = F at *
  have p2 := hfv.p2
  have p64 := hfv.p64
  have HZ := fun W => Lib.hid (l06Zero_c n W (by omega))
  have HU := fun g v (b : Nat) W hr hb (hbn : b < n) => Lib.hid (l03Mul_c P D g v F m b W hr hb hfv (show (0 : Int) ≤ m by omega) (by omega) (show (0 : Int) ≤ b by omega) (by omega))
  have HS := fun g v (a : Int) (b : Nat) W hb a0 a1 (hbn : b < n) => Lib.hid (l03Sum_c P D g v F a b 1 W hb hfv a0 a1 (show (0 : Int) ≤ b by omega) (by omega) (by omega) (by omega))
  have HL := Lib.hid (fun x : Nat => (fmul_el hfv.fa (m : Int) (x : Int)).lim hfv)
  have hS0 := St.refl w
  clear hfv hpw hel
  go_enter Tryz.func65, Tryz.ntmps65
  go_wp2_with fail
  refine (HM _).out.mono ?_
  rintro e w1 ⟨v1, rfl, h1⟩
  obtain ⟨a1, c1, he1⟩ := (h1.rdI 0 rfl).shp'
  subst he1
  have hS2 := h1.newboxF 73 #[.int .i64 P, .int .i64 D, .slice a1 F.length c1]
  have hr := Lib.hid (hS2.rdI 1 rfl)
  have hb : BoxF (w1.alloc (.cells #[.int .i64 P, .int .i64 D, .slice a1 F.length c1] 73)) w1.heap.size P D (.slice a1 F.length c1) := ⟨hS2.bcell 0 rfl 0 rfl, hS2.bcell 0 rfl 1 rfl, hS2.bcell 0 rfl 2 rfl⟩
  have Hb := Lib.hid hb
  have HW := Lib.hid hS2
  unfold fv
  clear hS0 h1 HM hS2
  go_wp2_with fail
  clear hb
  generalize hw2 : w1.alloc (.cells #[.int .i64 P, .int .i64 D, .slice a1 F.length c1] 73) = w2 at *
  clear hw2
  refine (HZ _).out.mono ?_
  rintro e w3 ⟨o, uo, rfl, hl, hS3⟩
  rw [sqF_len] at hl
  have Hl := Lib.hid hl
  have hS4 : St w2.heap.size w2 w3 (own2 o uo (sqF n fun _ _ => 0) ++ []) := by rw [List.append_nil]; exact hS3
  clear hS3 hl
  go_wp2_with fail
  go_loopw [7, 8, 9] (fun i _ _ wr => ∃ (k : Nat) (S : List (List Int)), k ≤ n ∧ i = .int .i64 k ∧ Hid (FilQ n (fun x y => fsum P D (fmul P D F m x) y 1) k 0 S) ∧ St w2.heap.size w2 wr (own2 o uo S ++ [])) (fun i _ _ _ => n - (intOf i).toNat)
  case atStart => exact ⟨0, _, by omega, rfl, FilQ.start, hS4⟩
  case round =>
    clear hS4
    obtain ⟨k, S, hk, rfl, hI, hS⟩ := hrel
    by_cases hlt : k < n
    · go_wp2_with fail
      refine (HU _ _ k _ (hS.oldI hr.out) (hS.oldF Hb.out) hlt).out.mono ?_
      rintro e w5 ⟨rfl, h5⟩
      have hS5 := hS.call0 h5
      clear hS h5
      go_wp2_with fail
      go_loopw [9] (fun j wr' => ∃ (y : Nat) (S : List (List Int)), y ≤ n ∧ j = .int .i64 y ∧ Hid (FilQ n (fun x y => fsum P D (fmul P D F m x) y 1) k y S) ∧ St w2.heap.size w2 wr' (own2 o uo S ++ [])) (fun j _ => n - (intOf j).toNat)
      case atStart => exact ⟨0, S, by omega, rfl, hI.out, hS5⟩
      case round =>
        clear hI hS5
        obtain ⟨y, S, hy, rfl, hI, hS⟩ := hrel
        by_cases hly : y < n
        · have hsl : S.length = n := hI.out.sqr.len
          have hsa : (xat S k).length = n := hI.out.sqr.row k hlt
          have hlS : uo.length = S.length := by rw [Hl.out, hsl]
          have hR := rii2 hS hlS
          have z0 := hR.cell k (by rw [hsl]; exact hlt)
          have xo := hR.ixe (k : Int) k rfl (by rw [hsl]; exact hlt)
          have xb := (hR.row k (by rw [hsl]; exact hlt)).ixe (y : Int) y rfl (by rw [hsa]; exact hly)
          have hF := HL.out k
          have Hst2 := Lib.hid (hI.out.step hlt hly)
          have Hsl := Lib.hid (And.intro hsl (And.intro hsa hlS))
          clear hR hsl hsa hlS
          go_wp2_with fail
          refine regionG (fun w' => w'.cell? (el o k) = some (vat uo k)) 9 (by kernel_rfl) (cell_dr z0) (fun hHeld => ?_)
          refine takeP (i := 0) (v := ?_) rfl (by kernel_rfl) (fun _ _ _ h => h) (by rfl) ?_ (by assumption) ?_
          case refine_2 => (intro w'; go_simp; first | done | with_reducible rfl)
          try simp only [Act.put, List.setIfInBounds_toArray, List.set_cons_zero, List.set_cons_succ]
          refine takeP (i := 1) (v := ?_) rfl (by kernel_rfl) (fun _ _ _ h => h) (by rfl) ?_ (by assumption) ?_
          case refine_2 => (intro w'; go_simp; first | done | with_reducible rfl)
          try simp only [Act.put, List.setIfInBounds_toArray, List.set_cons_zero, List.set_cons_succ]
          refine takeP (i := 2) (v := ?_) rfl (by kernel_rfl) (fun _ _ _ h => h) (by rfl) ?_ (by assumption) ?_
          case refine_2 => (intro w'; go_simp; first | done | with_reducible rfl)
          try simp only [Act.put, List.setIfInBounds_toArray, List.set_cons_zero, List.set_cons_succ]
          refine takeH (i := 3) [8] (v := ?_) rfl (by kernel_rfl) (fun _ _ _ h => h) (by rfl) ?_ (by assumption) ?_
          case refine_2 => (intro w' hSw; (try dsimp only at hSw); go_simp; first | done | with_reducible rfl)
          try simp only [Act.put, List.setIfInBounds_toArray, List.set_cons_zero, List.set_cons_succ]
          refine takeP (i := 4) (v := ?_) rfl (by kernel_rfl) (fun _ _ _ h => h) (by rfl) ?_ (by assumption) ?_
          case refine_2 => (intro w'; go_simp; first | done | with_reducible rfl)
          try simp only [Act.put, List.setIfInBounds_toArray, List.set_cons_zero, List.set_cons_succ]
          refine takeP (i := 5) (v := ?_) rfl (by kernel_rfl) (fun _ _ _ h => h) (by rfl) ?_ (by assumption) ?_
          case refine_2 => (intro w'; go_simp; first | done | with_reducible rfl)
          try simp only [Act.put, List.setIfInBounds_toArray, List.set_cons_zero, List.set_cons_succ]
          refine takeP (i := 6) (v := ?_) rfl (by kernel_rfl) (fun _ _ _ h => h) (by rfl) ?_ (by assumption) ?_
          case refine_2 => (intro w'; go_simp; first | done | with_reducible rfl)
          try simp only [Act.put, List.setIfInBounds_toArray, List.set_cons_zero, List.set_cons_succ]
          refine readyG (rs := [7]) (by kernel_rfl) (by simp) ?_
          refine AllG.cons rfl (fun K hK => ?_) AllG.nil
          go_simp
          go_at_call 109
          refine (HS _ _ _ y _ (hS.drew.oldF Hb.out) hF.1 hF.2 hly).out.mono ?_
          rintro e w8 ⟨rfl, h8⟩
          have hS8 := hS.drew.call0 h8
          have c3 := (rii2 hS8 Hsl.out.2.2).cell k (by rw [Hsl.out.1]; exact hlt)
          refine hK.out _ _ c3 (fun hHeld => ?_)
          clear hK K h8
          try simp only [Act.put, List.setIfInBounds_toArray, List.set_cons_zero, List.set_cons_succ]
          refine takeP (i := 8) (v := ?_) rfl (by kernel_rfl) (fun _ _ _ h => h) (by rfl) ?_ (by assumption) ?_
          case refine_2 => (intro w'; go_simp; first | done | with_reducible rfl)
          try simp only [Act.put, List.setIfInBounds_toArray, List.set_cons_zero, List.set_cons_succ]
          have hat := hS8.at_row Hsl.out.2.2 (j := k) (by rw [Hsl.out.1]; exact hlt)
          have u1 := hS8.unfrozen (k + 1) hat (j := y) (by rw [iv_len, Hsl.out.2.1]; exact hly)
          have co1 := (hS8.rdI (k + 1) hat).cell y (by rw [Hsl.out.2.1]; exact hly)
          refine readyG (rs := [9]) (by kernel_rfl) (by simp) ?_
          refine AllG.last rfl (by kernel_rfl) (fun K hK => ?_) AllG.nil
          go_simp
          refine hK.out _ _ ?_
          clear hK K
          try simp only [Act.put, List.setIfInBounds_toArray, List.set_cons_zero, List.set_cons_succ]
          refine doneG (by kernel_rfl) ?_ _
          refine NoPanic.normal ?_
          have hS9 := hS8.store (k + 1) hat (j := y) (by rw [iv_len, Hsl.out.2.1]; exact hly) (.int .i64 (fsum P D (fmul P D F m k) y 1))
          rw [iv_set, own2_set Hsl.out.2.2 (by rw [Hsl.out.1]; exact hlt)] at hS9
          clear hS8 hat u1 co1 c3 z0 hS
          go_wp2_with fail
          go_roundw
          case rel => exact ⟨y + 1, _, by omega, by go_num, Hst2.out, hS9⟩
          case measure => simp [intOf]; omega
        · obtain rfl : y = n := by omega
          go_wp2_with fail
          go_roundw
          case rel => exact ⟨k + 1, S, by omega, by go_num, hI.out.next, hS⟩
          case measure => simp [intOf]; omega
    · obtain rfl : k = n := by omega
      rw [List.append_nil, hI.out.done] at hS
      go_wp2_with fail
      go_ret
      exact ⟨o, uo, rfl, by rw [Hl.out]; exact (sqF_len _ _).symm, HW.out.trans hS⟩
/-- a list of squares, in memory of its own -/
def MakesX (w : World) (X : List (List (List Int))) (e : Ending) (w' : World) : Prop := ∃ v vs uss, e = .returned v ∧ Fit3 vs uss X ∧ St w.heap.size w w' (own3 v vs uss X)
theorem fit3_0 : Fit3 [] [] [] := ⟨rfl, rfl, fun k hk => absurd hk (by simp)⟩
set_option maxHeartbeats 4000000 in
set_option maxRecDepth 100000 in
theorem l07Mols_c (n : Nat) (w : World) (h2 : 2 ≤ n) (h10 : n ≤ 10) (hmk : MK n) :
    Calls Tryz.prog 21 #[.int .i64 n] w (MakesX w (fmL ((spl n).1 : Nat) (spl n).2 (mkF n) n (n - 1))) := by
  have HF := fun (m : Nat) W (h1 : m < n) => Lib.hid (l07Square_c n m W h2 h10 hmk h1)
  generalize (((spl n).1 : Nat) : Int) = p at *
  generalize (spl n).2 = D at *
  generalize mkF n = fs at *
  have HL := fun k => Lib.hid (fmL_len p D fs n k)
  have HS := fun k => Lib.hid (fmL_succ p D fs n k)
  clear hmk
  have hS1 := (St.refl w).new 26 #[] (by simp)
  go_enter Tryz.func21, Tryz.ntmps21
  go_wp2_with fail
  go_loopw [3, 4] (fun o m wr => ∃ (k : Nat) (vs : List Value) (uss : List (List Value)), k ≤ n - 1 ∧ m = .int .i64 ((k : Int) + 1) ∧ Hid (Fit3 vs uss (fmL p D fs n k)) ∧ St w.heap.size w wr (own3 o vs uss (fmL p D fs n k))) (fun _ m _ => n - (intOf m).toNat)
  case atStart => exact ⟨0, [], [], by omega, rfl, fit3_0, hS1⟩
  case round =>
    clear hS1
    obtain ⟨k, vs, uss, hk, rfl, hf, hS⟩ := hrel
    by_cases hlt : (k : Int) + 1 < n
    · have hkn : k < n - 1 := by omega
      have Hvl := Lib.hid (show vs.length < 4294967296 by rw [hf.out.1, (HL k).out]; omega)
      have Hs := HS k
      have HFk := fun W => HF (k + 1) W (by omega)
      rw [show ((k + 1 : Nat) : Int) = (k : Int) + 1 from rfl] at HFk
      go_wp2_with fail
      refine (HFk _).out.mono ?_
      rintro e w2 ⟨u, us2, rfl, hl2, h2⟩
      obtain ⟨ua, uc, rfl⟩ := (h2.rd 0 rfl).sl.sh
      have hS2 := hS.call h2
      have Hl2 := Lib.hid hl2
      clear hS h2 hl2
      go_wp2_with (at_builtin; refine appIII hS2 0 rfl Hvl.out rfl _ _ rfl rfl _ rfl rfl ?_; intro v5 w5 hS5)
      have hf5 := Lib.hid (hf.out.snoc (.slice ua us2.length uc) Hl2.out)
      have hS6 := own3_snoc hf.out.1 hf.out.2.1 hS5
      rw [← Hs.out] at hf5 hS6
      go_roundw
      case rel => exact ⟨k + 1, _, _, by omega, by go_num, hf5.out, hS6⟩
      case measure => simp [intOf]; omega
    · obtain rfl : k = n - 1 := by omega
      go_wp2_with fail
      go_ret
      exact ⟨_, vs, uss, rfl, hf.out, hS⟩
/-! ### lists of squares in another order -/
theorem Mols.pick {X Y : List (List (List Int))} (h : Mols X) (s : Nat → Nat) (h1 : 1 ≤ Y.length) (h2 : Y.length ≤ 10) (hs : ∀ t, t < Y.length → s t < X.length ∧ x3at Y t = x3at X (s t)) (hi : ∀ t t', t < t' → t' < Y.length → s t ≠ s t') : Mols Y := by
  refine ⟨h1, h2, fun k hk => by rw [(hs k hk).2]; exact h.lat _ (hs k hk).1, fun k i hik hk => ?_⟩
  rw [(hs k hk).2, (hs i (by omega)).2]
  have hne := hi i k hik hk
  rcases Nat.lt_or_gt_of_ne hne with h' | h'
  · exact h.ort _ _ h' (hs k hk).1
  · rw [orB_symm]; exact h.ort _ _ h' (hs i (by omega)).1
theorem Mols.rot {X : List (List (List Int))} (h : Mols X) {k j : Nat} (hk : k ≤ X.length) (hj : 1 ≤ j) (hj2 : j ≤ X.length) : Mols ((X.drop k ++ X.take k).take j) := by
  have hl : ((X.drop k ++ X.take k).take j).length = j := by simp; omega
  refine h.pick (fun t => if t < X.length - k then k + t else t - (X.length - k)) (by omega) (by have := h.le; omega) (fun t ht => ?_) (fun t t' htt ht' => ?_)
  · rw [hl] at ht
    by_cases e : t < X.length - k
    · rw [if_pos e]
      refine ⟨by omega, ?_⟩
      rw [x3at, x3at, List.getD, List.getD, List.getElem?_take, if_pos ht, List.getElem?_append_left (by simp; omega), List.getElem?_drop]
    · rw [if_neg e]
      refine ⟨by omega, ?_⟩
      rw [x3at, x3at, List.getD, List.getD, List.getElem?_take, if_pos ht, List.getElem?_append_right (by simp; omega), List.getElem?_take, List.length_drop, if_pos (by omega)]
  · rw [hl] at ht'
    intro e
    split at e <;> split at e <;> omega
theorem rows3_append : ∀ {vs : List Value} {uss : List (List Value)} {X : List (List (List Int))} (vs' : List Value) (uss' : List (List Value)) (X' : List (List (List Int))), vs.length = X.length → uss.length = X.length → rows3 (vs ++ vs') (uss ++ uss') (X ++ X') = rows3 vs uss X ++ rows3 vs' uss' X'
  | [], [], [], _, _, _, _, _ => rfl
  | [], _ :: _, [], _, _, _, _, h2 => by simp at h2
  | _ :: _, [], _ :: _, _, _, _, _, h2 => by simp at h2
  | a :: vs, b :: uss, c :: X, vs', uss', X', h1, h2 => by
    simp only [List.cons_append, rows3]
    rw [rows3_append vs' uss' X' (by simpa using h1) (by simpa using h2), List.append_assoc]
theorem rows3_cut {vs : List Value} {uss : List (List Value)} {X : List (List (List Int))} (h1 : vs.length = X.length) (h2 : uss.length = X.length) (k : Nat) : rows3 vs uss X = rows3 (vs.take k) (uss.take k) (X.take k) ++ rows3 (vs.drop k) (uss.drop k) (X.drop k) := by
  rw [← rows3_append _ _ _ (by simp [h1]) (by simp [h2]), List.take_append_drop, List.take_append_drop, List.take_append_drop]
theorem rows3_rot {vs : List Value} {uss : List (List Value)} {X : List (List (List Int))} (h1 : vs.length = X.length) (h2 : uss.length = X.length) (k : Nat) : (rows3 vs uss X).Perm (rows3 (vs.drop k ++ vs.take k) (uss.drop k ++ uss.take k) (X.drop k ++ X.take k)) := by
  rw [rows3_cut h1 h2 k, rows3_append _ _ _ (by simp [h1]) (by simp [h2])]
  exact List.perm_append_comm
theorem rows3_take {vs : List Value} {uss : List (List Value)} {X : List (List (List Int))} (h1 : vs.length = X.length) (h2 : uss.length = X.length) (k : Nat) : (rows3 (vs.take k) (uss.take k) (X.take k)).Sublist (rows3 vs uss X) := by
  rw [rows3_cut h1 h2 k]; exact List.sublist_append_left _ _
theorem vsat_app {α : Type} (d : α) (A B : List α) (k : Nat) : (A ++ B).getD k d = if k < A.length then A.getD k d else B.getD (k - A.length) d := by
  rw [List.getD, List.getD, List.getD]
  split
  · rw [List.getElem?_append_left (by assumption)]
  · rw [List.getElem?_append_right (by omega)]
theorem Fit3.rot {vs : List Value} {uss : List (List Value)} {X : List (List (List Int))} (h : Fit3 vs uss X) {k : Nat} (hk : k ≤ X.length) : Fit3 (vs.drop k ++ vs.take k) (uss.drop k ++ uss.take k) (X.drop k ++ X.take k) := by
  obtain ⟨h1, h2, h3⟩ := h
  refine ⟨by simp [h1], by simp [h2], fun t ht => ?_⟩
  simp only [List.length_append, List.length_drop, List.length_take] at ht
  unfold vsat x3at
  rw [vsat_app, vsat_app, List.length_drop, List.length_drop, h2]
  by_cases e : t < X.length - k
  · rw [if_pos e, if_pos e]
    have := h3 (k + t) (by omega)
    unfold vsat x3at at this
    simp only [List.getD, List.getElem?_drop] at this ⊢
    exact this
  · rw [if_neg e, if_neg e]
    have := h3 (t - (X.length - k)) (by omega)
    unfold vsat x3at at this
    simp only [List.getD, List.getElem?_take, if_pos (show t - (X.length - k) < k by omega)] at this ⊢
    exact this
theorem Fit3.take {vs : List Value} {uss : List (List Value)} {X : List (List (List Int))} (h : Fit3 vs uss X) (k : Nat) : Fit3 (vs.take k) (uss.take k) (X.take k) := by
  obtain ⟨h1, h2, h3⟩ := h
  refine ⟨by simp [h1], by simp [h2], fun t ht => ?_⟩
  rw [List.length_take] at ht
  have := h3 t (by omega)
  unfold vsat x3at at this ⊢
  simp only [List.getD, List.getElem?_take, if_pos (show t < k by omega)] at this ⊢
  exact this
theorem rslIII_lo {w : World} {v : Value} {us : List Value} (h : Rd w v us) (lo : Nat) (h2 : lo ≤ us.length) (W : World) :
    (Instr.slice 24 v (some (.int .i64 (lo : Int))) none none).run Tryz.prog W = .ok (rsl v lo us.length) W := by
  obtain ⟨⟨a, cap, rfl, hc1, hc2, ha⟩, hcell⟩ := h
  obtain ⟨inf, hinf, hs⟩ := Option.map_eq_some_iff.1 elem_size_a3
  rw [run_slice_l W 24 a _ cap und_elem_a3 .i64 lo (by omega) (by omega)]
  simp [sizeOf, typeInfo, hinf, hs]
  rfl
/-- the squares that are drawn: orthogonal ones -/
def MolsS (w0 : World) (cv : Value) (g K n : Nat) (L : List Ent) (e : Ending) (w' : World) : Prop := ∃ v vs uss X, e = .returned v ∧ Mols X ∧ (x3at X 0).length = n ∧ X.length ≤ n - 1 ∧ Fit3 vs uss X ∧ Src w0 w' cv g K (own3 v vs uss X ++ L)
section
variable {ops : Array Oper} {o : Oper} {a : Act} {K : Act → World → Prop} {Q : Exit → Act → World → Prop} {E : Prop} {B : Nat} {w0 w : World} {L : List Ent}
/-- append of the squares of a slice to an owned row of squares, as a step -/
theorem stepsIII (hS : St B w0 w L) (i : Nat) {v : Value} {us : List Value} (hi : L[i]? = some (row 26 v us)) (vx : Value) (ws : List Value) (hr : Rd w vx ws) (h1 : ∀ u ∈ ws, u.oneCell' = true) (hN : us.length + ws.length ≤ 4294967296) (hg : o.guard = none) (s x : Operand)
    (hop : o.op = .call { callee := .builtin .append, args := #[s, x], argTypes := #[24, 24] }) (hs : a.eval s = v) (hx : a.eval x = vx)
    (hK : ∀ v' w', St B w0 w' (L.set i (row 26 v' (us ++ ws))) → K (a.put o.dst v') w') :
    if Region.wanted o (yielded ops a.tmps) = true then Oper.wp Tryz.prog o a w K Q else E :=
  step_st_apps hg s x 24 hop 26 (.slice none 0 0) 24 Tryz.und_isss Tryz.info_iss rfl hS i hi hs vx hx ws hr h1 (by omega) hN hK
end
set_option maxHeartbeats 8000000 in
set_option maxRecDepth 100000 in
theorem l07DrawMols_c (w0 w : World) (cv : Value) (bs : List UInt8) (g K : Nat) (L : List Ent) (n : Nat) (hb : RdB w0 cv bs) (h : Src w0 w cv g K L) (hK : K < 10000000000) (h2 : 2 ≤ n) (h10 : n ≤ 10) (hmk : MK n) :
    Calls Tryz.prog 23 #[.pointer (some ⟨g, 0, none⟩), .int .i64 n] w (MolsS w0 cv g (K + 4) n L) := by
  have hfv := hmk.fv (by omega)
  have hpw : (((spl n).1 : Nat) : Int) ^ (spl n).2 = (n : Int) := by rw [← Int.natCast_pow, hmk.pw]
  have HM := Lib.hid (fmL_mols hfv hpw h2 h10)
  have HL := Lib.hid (fmL_len ((spl n).1 : Nat) (spl n).2 (mkF n) n (n - 1))
  have H0 := Lib.hid (fun t (ht : t < n - 1) => (show (x3at (fmL ((spl n).1 : Nat) (spl n).2 (mkF n) n (n - 1)) t).length = n by rw [fmL_at ht, fsq, sqF_len]))
  have HC := Lib.hid (l07Mols_c n w h2 h10 hmk)
  clear hfv hpw hmk
  generalize fmL ((spl n).1 : Nat) (spl n).2 (mkF n) n (n - 1) = X at *
  go_enter Tryz.func23, Tryz.ntmps23
  go_wp2_with fail
  refine HC.out.mono ?_
  rintro e w1 ⟨o, vs, uss, rfl, hf, h1⟩
  have h3 : Src w0 w1 cv g K (own3 o vs uss X ++ L) := (h.call h1).perm List.perm_append_comm
  have hln := (h3.st.riii hf).len
  rw [HL.out] at hln
  have Hf := Lib.hid hf
  clear h h1 HC hf
  go_wp2_with fail
  refine (pick_c w0 _ cv bs g _ _ _ hb h3 (by omega)).mono ?_
  rintro e w2 ⟨x, x0, x1, rfl, h4⟩
  obtain ⟨k, rfl⟩ := Int.eq_ofNat_of_zero_le x0
  have hk : k < n - 1 := by omega
  obtain ⟨pp, ss, p0, p1, hS⟩ := h4
  have hR := h3.st.riii Hf.out
  have hlv : vs.length = n - 1 := by rw [Hf.out.1, HL.out]
  have hrd := hS.rd 1 (e := 26) (v := o) (us := vs) rfl
  have i1 := rslIII_lo hrd k (by omega)
  have i2 := rslIII_hi hrd k (by omega)
  have Hone := Lib.hid (fun u (hu : u ∈ vs) => (show u.oneCell' = true by
    obtain ⟨j, hj, rfl⟩ := List.getElem_of_mem hu
    rw [← vat_eq hj]
    exact (hR.row j (by rw [← Hf.out.1]; exact hj)).1.sl.one))
  have z0 : w2.cell? (el o 0) = some (vat vs 0) := Rd.cell hrd (by omega)
  have hS1 := (hS.drew.new 26 #[] (by simp)).perm List.perm_append_comm
  simp only [List.cons_append, List.nil_append] at hS1
  have Hlv := Lib.hid hlv
  have HP := Lib.hid (And.intro p0 p1)
  clear x0 x1 h3 hS p0 p1 hlv hR
  go_wp2_with fail
  go_region_held3 (fun w' => w'.cell? (el o 0) = some (vat vs 0)) (((try dsimp only); (repeat' apply And.intro); all_goals (repeat (first | assumption | exact cell_dr (by assumption) | refine cell_dr ?_ | refine cell_al ?_ | refine cell_sc (by assumption) ?_))))
    (first
    | (refine stepsIII hS1 0 rfl (rsl o k vs.length) ((vs.take vs.length).drop k) (rsl_Rd (hS1.rd 2 (e := 26) (v := o) (us := vs) rfl) (by rw [Hlv.out]; omega) (Nat.le_refl _)) (fun u hu => Hone.out u (List.mem_of_mem_take (List.mem_of_mem_drop hu))) (by simp [Hlv.out]; omega) rfl (.tmp 13) (.tmp 16) rfl (by first | rfl | simp [Act.eval, Act.put]) (by first | rfl | simp [Act.eval, Act.put]) ?_; intro v5 w5 hS5; have d5 : w5.cell? (el o 0) = some (vat vs 0) := Rd.cell (hS5.rd 2 (e := 26) (v := o) (us := vs) rfl) (by rw [Hlv.out]; omega))
    | (refine stepsIII hS5 0 rfl (rsl o 0 k) ((vs.take k).drop 0) (rsl_Rd (hS5.rd 2 (e := 26) (v := o) (us := vs) rfl) (by omega) (by rw [Hlv.out]; omega)) (fun u hu => Hone.out u (List.mem_of_mem_take (List.mem_of_mem_drop hu))) (by simp [Hlv.out]; omega) rfl (.tmp 17) (.tmp 20) rfl (by first | rfl | simp [Act.eval, Act.put]) (by first | rfl | simp [Act.eval, Act.put]) ?_; intro v6 w6 hS6; have d6 : w6.cell? (el o 0) = some (vat vs 0) := Rd.cell (hS6.rd 2 (e := 26) (v := o) (us := vs) rfl) (by rw [Hlv.out]; omega)))
  all_goals
    simp only [List.set_cons_zero, List.nil_append, List.take_length, List.drop_zero] at hS6
    have hS7 : St w0.heap.size w0 w6 (box 95 g [cv, .int .i64 pp, .int .u64 ss] :: (own3 v6 (vs.drop k ++ vs.take k) (uss.drop k ++ uss.take k) (X.drop k ++ X.take k) ++ L)) := by
      have hp := rows3_rot Hf.out.1 Hf.out.2.1 k
      have h1 : (row 26 v6 (vs.drop k ++ vs.take k) :: box 95 g [cv, .int .i64 pp, .int .u64 ss] :: (rows3 vs uss X ++ L)).Sublist (row 26 v6 (vs.drop k ++ vs.take k) :: box 95 g [cv, .int .i64 pp, .int .u64 ss] :: (row 26 o vs :: (rows3 vs uss X ++ L))) := ((List.sublist_cons_self _ _).cons_cons _).cons_cons _
      refine (hS6.sub h1).perm ((List.Perm.swap _ _ _).trans ?_)
      exact (((hp.append_right L).cons _).cons _)
    clear hS6 hS5 hS1 d5 d6 z0
    have hF7 := Lib.hid (Hf.out.rot (k := k) (by rw [HL.out]; omega))
    have hl7 : (X.drop k ++ X.take k).length = n - 1 := by simp [HL.out]; omega
    have hv7 : (vs.drop k ++ vs.take k).length = n - 1 := by rw [hF7.out.1, hl7]
    have hM7 := Lib.hid (fun j (h1 : 1 ≤ j) (h2 : j ≤ n - 1) => HM.out.rot (k := k) (j := j) (by rw [HL.out]; omega) h1 (by rw [HL.out]; exact h2))
    have hx7 := Lib.hid (fun t (ht : t < n - 1) => (show (x3at (X.drop k ++ X.take k) t).length = n by
      by_cases e : t < n - 1 - k
      · rw [x3at, List.getD, List.getElem?_append_left (by simp [HL.out]; omega), List.getElem?_drop]; exact H0.out (k + t) (by omega)
      · rw [x3at, List.getD, List.getElem?_append_right (by simp [HL.out]; omega), List.getElem?_take, List.length_drop, HL.out, if_pos (by omega)]; exact H0.out (t - (n - 1 - k)) (by omega)))
    generalize X.drop k ++ X.take k = Y at *
    generalize vs.drop k ++ vs.take k = ws at *
    generalize uss.drop k ++ uss.take k = wss at *
    have h8 : Src w0 w6 cv g (K + 2) (own3 v6 ws wss Y ++ L) := ⟨pp, ss, HP.out.1, HP.out.2, hS7⟩
    have hR7 := h8.st.riii hF7.out
    have hln7 := hR7.len
    rw [hl7] at hln7
    have Hl7 := Lib.hid (And.intro hl7 hv7)
    clear hS7 hl7 hv7 hR7 hln
    go_wp2_with fail
    refine (pick_c w0 _ cv bs g _ _ _ hb h8 (by omega)).mono ?_
    rintro e w9 ⟨y, y0, y1, rfl, h9⟩
    obtain ⟨j, rfl⟩ := Int.eq_ofNat_of_zero_le y0
    have hj : j < n - 1 := by omega
    obtain ⟨qq, tt, r0, r1, hS9⟩ := h9
    have hsl := rslIII_hi (hS9.rd 1 (e := 26) (v := v6) (us := ws) rfl) (j + 1) (by rw [Hl7.out.2]; omega)
    rw [show ((j + 1 : Nat) : Int) = (j : Int) + 1 from rfl] at hsl
    have hS10 := hS9.shrink 1 (e := 26) (v := v6) (us := ws) rfl (j + 1) (by rw [Hl7.out.2]; omega)
    simp only [List.set_cons_succ, own3, List.cons_append, List.set_cons_zero] at hS10
    have hS11 := hS10.sub (L' := box 95 g [cv, .int .i64 qq, .int .u64 tt] :: (own3 (rsl v6 0 (j + 1)) (ws.take (j + 1)) (wss.take (j + 1)) (Y.take (j + 1)) ++ L)) (((((rows3_take hF7.out.1 hF7.out.2.1 (j + 1)).append_right _).cons_cons _).cons_cons _))
    have HQ := Lib.hid (And.intro r0 r1)
    clear hS9 hS10 y0 y1 r0 r1 h8
    go_wp2_with fail
    go_ret
    exact ⟨_, _, _, _, rfl, hM7.out (j + 1) (by omega) (by omega), by rw [x3at, List.getD, List.getElem?_take, if_pos (by omega)]; exact hx7.out 0 (by omega), by rw [List.length_take, Hl7.out.1]; omega, hF7.out.take (j + 1), qq, tt, HQ.out.1, by have := HQ.out.2; omega, hS11⟩
end Go.Proofs.YtdgmaodnkbgolaaGreat
end

section
/- Walks: lists of squares and arrays that the reference draws. -/
namespace Go.Proofs.YtdgmaodnkbgolaaGreat
set_option linter.unusedSimpArgs false
set_option linter.unusedVariables false
open Go.RowKit
attribute [local go_sem ↓] Go.wp_at_zero Go.wp_at_succ


theorem mkq_of {q : Nat} (h : mkOk (q : Int) = true) : MK q := by
  obtain ⟨m, e, _, _, hm⟩ := mkOk_t h
  have : q = m := by omega
  rw [this]; exact hm
theorem mk_small {q : Nat} (h : q = 2 ∨ q = 3 ∨ q = 4 ∨ q = 5 ∨ q = 7 ∨ q = 8 ∨ q = 9) : MK q := by
  refine mkq_of ?_
  rcases h with rfl | rfl | rfl | rfl | rfl | rfl | rfl <;> decide +kernel
theorem Mols.sml {X : List (List (List Int))} (h : Mols X) : Sml X := fun k hk x hx => by
  rw [(h.lat k hk).len x hx]; have := (h.lat k hk).le; omega
def XR (w0 : World) (cv : Value) (g K : Nat) (L : List Ent) (v : Value) (w' : World) : Prop := ∃ vs uss X, Hid (Sml X ∧ X.length ≤ 12 ∧ Fit3 vs uss X) ∧ Src w0 w' cv g K (own3 v vs uss X ++ L)
/-- some list of squares -/
def MakesXS (w : World) (e : Ending) (w' : World) : Prop := ∃ v vs uss X, e = .returned v ∧ Sml X ∧ RIII w' v vs uss X ∧ St w.heap.size w w' []
end Go.Proofs.YtdgmaodnkbgolaaGreat
end

section
/- Walks: lists of squares that the reference draws for planes. -/
namespace Go.Proofs.YtdgmaodnkbgolaaGreat
set_option linter.unusedSimpArgs false
set_option linter.unusedVariables false
open Go.RowKit
attribute [local go_sem ↓] Go.wp_at_zero Go.wp_at_succ

theorem vat_setS {us : List Value} {j : Nat} {u : Value} (h : j < us.length) : vat (us.set j u) j = u := by
  unfold vat; rw [List.getD_eq_getElem?_getD, List.getElem?_set_self h]; rfl
theorem vsat_setS {us : List (List Value)} {j : Nat} {u : List Value} (h : j < us.length) : vsat (us.set j u) j = u := by
  unfold vsat; rw [List.getD_eq_getElem?_getD, List.getElem?_set_self h]; rfl
theorem own3_putN {v u : Value} {vs us : List Value} {uss : List (List Value)} {X : List (List (List Int))} {A : List (List Int)} {j : Nat} (h1 : vs.length = X.length) (h2 : uss.length = X.length) (hj : j < X.length) :
    (row 26 v (vs.set j u) :: (rows3 vs uss X ++ own2 u us A)).Perm (own3 v (vs.set j u) (uss.set j us) (X.set j A) ++ own2 (vat vs j) (vsat uss j) (x3at X j)) := by
  have p1 := rows3_out h1 h2 hj
  have p2 := rows3_out (vs := vs.set j u) (uss := uss.set j us) (X := X.set j A) (j := j) (by simpa using h1) (by simpa using h2) (by simpa using hj)
  rw [vat_setS (by rw [h1]; exact hj), vsat_setS (by rw [h2]; exact hj), x3at_set hj, if_pos rfl, List.eraseIdx_set_eq, List.eraseIdx_set_eq, List.eraseIdx_set_eq] at p2
  rw [own3, List.cons_append]
  refine List.Perm.cons _ ?_
  refine ((p1.append_right _).trans ?_).trans (p2.symm.append_right _)
  rw [List.append_assoc]
  exact (List.perm_append_comm).trans ((List.perm_append_comm).append_right _)
theorem Fit3.setN {vs : List Value} {uss : List (List Value)} {X : List (List (List Int))} (h : Fit3 vs uss X) {j : Nat} (hj : j < X.length) (u : Value) {us : List Value} {A : List (List Int)} (hl : us.length = A.length) : Fit3 (vs.set j u) (uss.set j us) (X.set j A) := by
  obtain ⟨h1, h2, h3⟩ := h
  refine ⟨by simpa using h1, by simpa using h2, fun k hk => ?_⟩
  rw [List.length_set] at hk
  rw [x3at_set hj]
  by_cases e : j = k
  · subst e
    rw [if_pos rfl, vsat_setS (by rw [h2]; exact hj)]; exact hl
  · rw [if_neg e, ← h3 k hk]
    unfold vsat
    rw [List.getD_eq_getElem?_getD, List.getElem?_set_ne e, ← List.getD_eq_getElem?_getD]
theorem Sml.setN {X : List (List (List Int))} (h : Sml X) {j : Nat} (hj : j < X.length) {A : List (List Int)} (hA : ∀ x, x < A.length → (xat A x).length ≤ 1048576) : Sml (X.set j A) := fun k hk x hx => by
  rw [List.length_set] at hk
  rw [x3at_set hj] at hx ⊢
  by_cases e : j = k
  · rw [if_pos e] at hx ⊢; exact hA x hx
  · rw [if_neg e] at hx ⊢; exact h k hk x hx
set_option maxHeartbeats 16000000 in
set_option maxRecDepth 100000 in
theorem DrawPlaneOfMols_c (w : World) (cv : Value) (bs : List UInt8) (hb : RdB w cv bs) : Calls Tryz.prog 6 #[cv] w (MakesXS w) := by
  go_enter Tryz.func6, Tryz.ntmps6
  go_wp2_with fail
  refine (l00From_c w cv bs hb).mono ?_
  rintro e w1 ⟨rfl, h1⟩
  go_wp2_with fail
  refine (among_lit [2, 3, 4, 5, 7] w _ cv bs _ _ _ hb h1 (by simp) (by omega)).mono ?_
  rintro e w2 ⟨z, hz, rfl, h2⟩
  have hz2 : ∃ q : Nat, z = q ∧ (q = 2 ∨ q = 3 ∨ q = 4 ∨ q = 5 ∨ q = 7 ∨ q = 8 ∨ q = 9) := by
    simp only [List.mem_cons, List.not_mem_nil, or_false] at hz
    refine ⟨z.toNat, by omega, by omega⟩
  obtain ⟨q, rfl, hq⟩ := hz2
  have hM := Lib.hid (mk_small hq)
  have q2 : 2 ≤ q := by omega
  have q10 : q ≤ 9 := by omega
  have hfv := hM.out.fv (by omega)
  have hpw : (((spl q).1 : Nat) : Int) ^ (spl q).2 = (q : Int) := by rw [← Int.natCast_pow, hM.out.pw]
  have HX0 := Lib.hid (fmL_mols hfv hpw q2 (by omega)).sml
  have KL := Lib.hid (l07Mols_c q w2 q2 (by omega) hM.out)
  have HL0 := Lib.hid (fmL_len ((spl q).1 : Nat) (spl q).2 (mkF q) q (q - 1))
  clear h1 hz hq hfv hpw
  generalize fmL ((spl q).1 : Nat) (spl q).2 (mkF q) q (q - 1) = X0 at *
  go_wp2_with fail
  refine KL.out.mono ?_
  clear KL
  rintro e w3 ⟨v, vs, uss, rfl, hf, h3⟩
  have h4 : Src w w3 cv w.heap.size _ (own3 v vs uss X0 ++ []) := h2.call h3 |>.perm (by rw [List.append_nil, List.nil_append])
  have HF := Lib.hid hf
  clear h2 h3 hf
  go_wp2_with fail
  refine (pick_c w _ cv bs _ _ _ 6 hb h4 (by omega)).mono ?_
  rintro e w4 ⟨z, z0, z1, rfl, h5⟩
  clear h4
  go_upto_block 0 with fail
  go_cut [5] from 17 to 28 (fun s5 w' => XR w cv w.heap.size 400 [] s5 w')
  case first =>
    by_cases hz0 : z = 0
    · subst hz0
      go_wp2_with fail
      refine (l07DrawMols_c w _ cv bs _ _ _ q hb h5 (by omega) q2 (by omega) hM.out).mono ?_
      rintro e w5 ⟨v5, vs5, uss5, X5, rfl, hX5, _, hl5, hf5, h6⟩
      have HX5 := Lib.hid (And.intro hX5.sml (And.intro (show X5.length ≤ 12 by have := hX5.le; omega) hf5))
      have h7 := (h6.sub (List.sublist_append_left _ _)).perm (L' := own3 v5 vs5 uss5 X5 ++ []) (by rw [List.append_nil])
      clear hX5 hf5 h5 h6
      go_wp2_with fail
      go_meet
      case rel => exact ⟨vs5, uss5, X5, HX5, h7.mono (by omega)⟩
    · by_cases hz1 : z = 1
      · subst hz1
        clear hz0
        go_wp2_with fail
        refine (l06Draw_c w _ cv bs _ _ _ hb h5 (by omega)).mono ?_
        rintro e w5 ⟨u, us, A, rfl, hA, hl, h6⟩
        obtain ⟨pp, ss, p0, p1, hS⟩ := h6
        obtain ⟨ua, uc, hue⟩ := (hS.rd 1 (e := 48) (v := u) (us := us) rfl).sl.sh
        subst hue
        have hS1 : St w.heap.size w w5 ((own3 v vs uss X0 ++ own2 (.slice ua us.length uc) us A) ++ [box 95 w.heap.size [cv, .int .i64 pp, .int .u64 ss]]) := hS.perm (by (try simp only [own2, List.cons_append, List.nil_append, List.append_nil]); classical exact List.perm_iff_count.2 (fun a => by simp only [List.cons_append, List.nil_append, List.append_nil, List.count_append, List.count_cons, List.count_nil] <;> omega))
        have HP := Lib.hid (And.intro p0 p1)
        have HA := Lib.hid (And.intro hA hl)
        have hvl : vs.length < 4294967296 := by rw [HF.out.1, HL0.out]; omega
        clear hS h5 p0 p1 hA hl
        go_wp2_with (at_builtin; refine appIII hS1 0 rfl hvl rfl _ _ rfl rfl _ rfl rfl ?_; intro v6 w6 hS6)
        simp only [own3, List.cons_append, List.set_cons_zero] at hS6
        have hS7 : St w.heap.size w w6 (box 95 w.heap.size [cv, .int .i64 pp, .int .u64 ss] :: (own3 v6 (vs ++ [.slice ua us.length uc]) (uss ++ [us]) (X0 ++ [A]) ++ [])) := by
          rw [own3, rows3_app _ _ _ HF.out.1 HF.out.2.1]
          exact hS6.perm (by (try simp only [own2, List.cons_append, List.nil_append, List.append_nil]); classical exact List.perm_iff_count.2 (fun a => by simp only [List.cons_append, List.nil_append, List.append_nil, List.count_append, List.count_cons, List.count_nil] <;> omega))
        clear hS6 hS1
        go_meet
        case rel =>
          refine ⟨_, _, _, ⟨fun k hk x hx => ?_, by have := HL0.out; simp; omega, HF.out.snoc _ HA.out.2⟩, pp, ss, HP.out.1, by have := HP.out.2; omega, hS7⟩
          by_cases e : k < X0.length
          · have e2 : x3at (X0 ++ [A]) k = x3at X0 k := by rw [x3at, x3at, List.getD, List.getD, List.getElem?_append_left e]
            rw [e2] at hx ⊢; exact HX0.out k e x hx
          · have hk' : k = X0.length := by simp at hk; omega
            have e2 : x3at (X0 ++ [A]) k = A := by rw [hk', x3at, List.getD, List.getElem?_append_right (by omega), Nat.sub_self]; rfl
            rw [e2] at hx ⊢; have := HA.out.1.row x hx; omega
      · go_wp2_with fail
        go_meet
        case rel => exact ⟨vs, uss, X0, ⟨HX0.out, by have := HL0.out; omega, HF.out⟩, h5.mono (by omega)⟩
  case rest =>
    clear h5 HX0 HL0 HF
    obtain ⟨vs, uss, X, HX, h6⟩ := hcut
    have hlX := (h6.st.riii HX.out.2.2).len
    have hX12 := HX.out.2.1
    by_cases hX0 : 0 < X.length
    · have hX0i : (0 : Int) < (X.length : Int) := by omega
      go_wp2_with fail
      refine (one_c w _ cv bs _ _ _ 2 hb h6 (by omega)).mono ?_
      rintro e w5 ⟨b, rfl, h7⟩
      clear h6
      cases b
      · go_wp2_with fail
        go_ret
        exact ⟨_, vs, uss, X, rfl, HX.out.1, h7.st.riii HX.out.2.2, h7.st.out⟩
      · obtain ⟨m, hm⟩ : ∃ m, X.length = m := ⟨_, rfl⟩
        have HX2 : Hid (Sml X ∧ X.length = m ∧ Fit3 vs uss X) := Lib.hid ⟨HX.out.1, hm, HX.out.2.2⟩
        have h8 : Src w w5 cv w.heap.size (402 + 30 * 0) (own3 u5 vs uss X ++ []) := h7
        have hixX := (h7.st.riii HX.out.2.2).ixe
        rw [hm] at hX0 hX0i hlX hX12 hixX
        clear HX h7 hm
        go_wp2_with fail
        go_loopw [6, 7] (fun ii _ wr => ∃ (i : Nat) (vs : List Value) (uss : List (List Value)) (X : List (List (List Int))), ii = .int .i64 i ∧ i ≤ m ∧ Hid (Sml X ∧ X.length = m ∧ Fit3 vs uss X) ∧ Src w wr cv w.heap.size (402 + 30 * i) (own3 u5 vs uss X ++ [])) (fun ii _ _ => m - (intOf ii).toNat)
        case atStart => exact ⟨0, vs, uss, X, rfl, by omega, HX2, h8⟩
        case round =>
          clear HX2 h8
          obtain ⟨i, vs, uss, X, rfl, hi, HX, h8⟩ := hrel
          by_cases him : i < m
          · have hii : (i : Int) < (m : Int) := by omega
            have hR := h8.st.riii HX.out.2.2
            have hiX := Lib.hid (show i < X.length by rw [HX.out.2.1]; exact him)
            have xi := hixX (i : Int) i rfl him
            have ci := hR.cell i hiX.out
            have ri := hR.row i hiX.out
            have hln := ri.len
            have KO := Lib.hid (l06Ok_c (vat vs i) (vsat uss i) (x3at X i) wr ri)
            clear hR ri
            by_cases hq : (x3at X i).length = q
            · have f1 : (((x3at X i).length : Int) == (q : Int)) = true := eq_t (by rw [hq])
              have Hq := Lib.hid hq
              clear hq
              cases hlat : latB (x3at X i)
              · rw [hlat] at KO
                clear hlat
                go_wp2_with fail
                refine KO.out.mono ?_
                clear KO
                rintro e w9 ⟨rfl, h9⟩
                have h10 := h8.call0 h9
                clear h8 h9
                go_wp2_with fail
                go_roundw
                case rel => exact ⟨i + 1, vs, uss, X, by go_num, by omega, HX, h10.mono (by omega)⟩
                case measure => simp [intOf]; omega
              · rw [hlat] at KO
                have HLat := Lib.hid (latB_t hlat).sq0
                rw [Hq.out] at HLat
                have K1 := Lib.hid (fun W => l04One_c q W (by omega))
                clear hlat
                go_wp2_with fail
                refine KO.out.mono ?_
                clear KO
                rintro e w9 ⟨rfl, h9⟩
                have h10 := h8.call0 h9
                clear h8 h9 ci
                go_wp2_with fail
                refine (K1.out _).mono ?_
                clear K1
                rintro e w11 ⟨vo, rfl, h11⟩
                have h12 := ((h10.call h11).perm (L' := own3 u5 vs uss X ++ [row 2 vo (iv (iot q))]) (by rw [List.append_nil])).drew
                have ci : w11.cell? (el u5 i) = some (vat vs i) := by
                  have hrd := h12.st.rd 0 (e := 26) (v := u5) (us := vs) rfl
                  exact hrd.cell (by rw [HX.out.2.2.1]; exact hiX.out)
                clear h10 h11
                go_wp2_with fail
                refine regionG (fun w' => w'.cell? (el u5 i) = some (vat vs i)) 11 (by kernel_rfl) (cell_dr ci) (fun hHeld => ?_)
                refine takeP (i := 0) (v := ?_) rfl (by kernel_rfl) (fun _ _ _ h => h) (by rfl) ?_ (by assumption) ?_
                case refine_2 => (intro w'; go_simp; first | done | with_reducible rfl)
                try simp only [Act.put, List.setIfInBounds_toArray, List.set_cons_zero, List.set_cons_succ]
                refine takeP (i := 1) (v := ?_) rfl (by kernel_rfl) (fun _ _ _ h => h) (by rfl) ?_ (by assumption) ?_
                case refine_2 => (intro w'; go_simp; first | done | with_reducible rfl)
                try simp only [Act.put, List.setIfInBounds_toArray, List.set_cons_zero, List.set_cons_succ]
                refine takeP (i := 2) (v := ?_) rfl (by kernel_rfl) (fun _ _ _ h => h) (by rfl) ?_ (by assumption) ?_
                case refine_2 => (intro w'; go_simp; first | done | with_reducible rfl)
                try simp only [Act.put, List.setIfInBounds_toArray, List.set_cons_zero, List.set_cons_succ]
                refine takeP (i := 3) (v := ?_) rfl (by kernel_rfl) (fun _ _ _ h => h) (by rfl) ?_ (by assumption) ?_
                case refine_2 => (intro w'; go_simp; first | done | with_reducible rfl)
                try simp only [Act.put, List.setIfInBounds_toArray, List.set_cons_zero, List.set_cons_succ]
                refine takeP (i := 4) (v := ?_) rfl (by kernel_rfl) (fun _ _ _ h => h) (by rfl) ?_ (by assumption) ?_
                case refine_2 => (intro w'; go_simp; first | done | with_reducible rfl)
                try simp only [Act.put, List.setIfInBounds_toArray, List.set_cons_zero, List.set_cons_succ]
                refine takeH (i := 5) [] (v := ?_) rfl (by kernel_rfl) (fun _ _ _ h => h) (by rfl) ?_ (by assumption) ?_
                case refine_2 => (intro w' hSw; (try dsimp only at hSw); go_simp; first | done | with_reducible rfl)
                try simp only [Act.put, List.setIfInBounds_toArray, List.set_cons_zero, List.set_cons_succ]
                refine takeP (i := 6) (v := ?_) rfl (by kernel_rfl) (fun _ _ _ h => h) (by rfl) ?_ (by assumption) ?_
                case refine_2 => (intro w'; go_simp; first | done | with_reducible rfl)
                try simp only [Act.put, List.setIfInBounds_toArray, List.set_cons_zero, List.set_cons_succ]
                refine takeP (i := 7) (v := ?_) rfl (by kernel_rfl) (fun _ _ _ h => h) (by rfl) ?_ (by assumption) ?_
                case refine_2 => (intro w'; go_simp; first | done | with_reducible rfl)
                try simp only [Act.put, List.setIfInBounds_toArray, List.set_cons_zero, List.set_cons_succ]
                refine takeP (i := 8) (v := ?_) rfl (by kernel_rfl) (fun _ _ _ h => h) (by rfl) ?_ (by assumption) ?_
                case refine_2 => (intro w'; go_simp; first | done | with_reducible rfl)
                try simp only [Act.put, List.setIfInBounds_toArray, List.set_cons_zero, List.set_cons_succ]
                refine takeP (i := 9) (v := ?_) rfl (by kernel_rfl) (fun _ _ _ h => h) (by rfl) ?_ (by assumption) ?_
                case refine_2 => (intro w'; go_simp; first | done | with_reducible rfl)
                try simp only [Act.put, List.setIfInBounds_toArray, List.set_cons_zero, List.set_cons_succ]
                refine readyG (rs := [10]) (by kernel_rfl) (by simp) ?_
                refine AllG.cons rfl (fun K hK => ?_) AllG.nil
                go_simp
                refine (l04DrawPerm_c w _ cv bs _ _ _ q hb h12 (by omega) (by omega)).mono ?_
                rintro e w13 ⟨vp, xs, rfl, hxl, hxp, h13⟩
                have c13 : w13.cell? (el u5 i) = some (vat vs i) := by
                  have hrd := h13.st.rd 1 (e := 26) (v := u5) (us := vs) rfl
                  exact hrd.cell (by rw [HX.out.2.2.1]; exact hiX.out)
                refine hK.out _ _ c13 (fun hHeld => ?_)
                clear hK K
                try simp only [Act.put, List.setIfInBounds_toArray, List.set_cons_zero, List.set_cons_succ]
                have rA := (h13.st.sub (L' := own3 u5 vs uss X ++ []) (by rw [List.append_nil]; exact (List.sublist_append_left _ _).trans (List.sublist_cons_self _ _))).riii HX.out.2.2 |>.row i hiX.out
                have ro : RdI w13 vo (iot q) := (h13.st.sub (L' := [row 2 vo (iv (iot q))]) ((List.sublist_append_right _ _).trans (List.sublist_cons_self _ _))).rdI 0 rfl
                have rp := h13.st.rdI 0 rfl
                refine readyG (rs := [11]) (by kernel_rfl) (by simp) ?_
                refine AllG.last rfl (by kernel_rfl) (fun K hK => ?_) AllG.nil
                go_simp
                refine (sIsotope_c (vat vs i) vo vo vp (vsat uss i) (x3at X i) (iot q) (iot q) xs w13 q rA ro ro rp HLat.out (iot_isP q) (iot_isP q) hxp (iot_len q) (iot_len q) hxl (by omega)).mono ?_
                rintro e w14 ⟨u, us6, A6, rfl, hA6, hl6, h14⟩
                obtain ⟨ua, ub, hsh⟩ := (h14.rd 0 (e := 48) (v := u) (us := us6) rfl).sl.sh
                rw [hl6] at hsh
                subst hsh
                have h15 := h13.call h14
                refine hK.out _ _ ?_
                clear hK K
                try simp only [Act.put, List.setIfInBounds_toArray, List.set_cons_zero, List.set_cons_succ]
                obtain ⟨pp, ss, p0, p1, hS⟩ := h15
                have hS15 : St w.heap.size w w14 (box 95 w.heap.size [cv, .int .i64 pp, .int .u64 ss] :: row 2 vp (iv xs) :: row 26 u5 vs :: (rows3 vs uss X ++ [row 2 vo (iv (iot q))] ++ own2 (.slice ua q ub) us6 A6)) := hS
                have hjl : i < vs.length := by rw [HX.out.2.2.1]; exact hiX.out
                have u1 := hS15.unfrozen 2 (e := 26) (v := u5) (us := vs) rfl hjl
                have co1 : w14.cell? (el u5 i) = some (vat vs i) := (hS15.rd 2 (e := 26) (v := u5) (us := vs) rfl).cell hjl
                refine readyG (rs := [12]) (by kernel_rfl) (by simp) ?_
                refine AllG.last rfl (by kernel_rfl) (fun K hK => ?_) AllG.nil
                go_simp
                refine hK.out _ _ ?_
                clear hK K
                try simp only [Act.put, List.setIfInBounds_toArray, List.set_cons_zero, List.set_cons_succ]
                refine readyG (rs := [13]) (by kernel_rfl) (by simp) ?_
                refine AllG.last rfl (by kernel_rfl) (fun K hK => ?_) AllG.nil
                go_simp
                refine hK.out _ _ ?_
                clear hK K
                try simp only [Act.put, List.setIfInBounds_toArray, List.set_cons_zero, List.set_cons_succ]
                refine doneG (by kernel_rfl) ?_ _
                refine NoPanic.normal ?_
                have hS16 := hS15.store 2 (e := 26) (v := u5) (us := vs) rfl hjl (.slice ua q ub)
                have hS17 : St w.heap.size w _ (box 95 w.heap.size [cv, .int .i64 pp, .int .u64 ss] :: row 2 vp (iv xs) :: row 26 u5 (vs.set i (.slice ua q ub)) :: (rows3 vs uss X ++ [row 2 vo (iv (iot q))] ++ own2 (.slice ua q ub) us6 A6)) := hS16
                have hS18 := (hS17.perm (L' := row 2 vp (iv xs) :: row 2 vo (iv (iot q)) :: (box 95 w.heap.size [cv, .int .i64 pp, .int .u64 ss] :: (row 26 u5 (vs.set i (.slice ua q ub)) :: (rows3 vs uss X ++ own2 (.slice ua q ub) us6 A6)))) (by (try simp only [own2, List.cons_append, List.nil_append, List.append_nil]); classical exact List.perm_iff_count.2 (fun a => by simp only [List.cons_append, List.nil_append, List.append_nil, List.count_append, List.count_cons, List.count_nil] <;> omega))).sub ((List.sublist_cons_self _ _).trans (List.sublist_cons_self _ _))
                have hS19 := (hS18.perm ((own3_putN HX.out.2.2.1 HX.out.2.2.2.1 hiX.out).cons _)).sub (L' := box 95 w.heap.size [cv, .int .i64 pp, .int .u64 ss] :: (own3 u5 (vs.set i (.slice ua q ub)) (uss.set i us6) (X.set i A6) ++ [])) (by rw [List.append_nil]; exact (List.sublist_append_left _ _).cons_cons _)
                have HX9 : Hid (Sml (X.set i A6) ∧ (X.set i A6).length = m ∧ Fit3 (vs.set i (.slice ua q ub)) (uss.set i us6) (X.set i A6)) := Lib.hid ⟨HX.out.1.setN hiX.out (fun x hx => by rw [hA6.row x (by rw [← hA6.len]; exact hx)]; omega), by rw [List.length_set]; exact HX.out.2.1, HX.out.2.2.setN hiX.out _ (by rw [hl6, hA6.len])⟩
                have HP := Lib.hid (And.intro p0 p1)
                clear hS hS15 hS16 hS17 hS18 u1 co1 h13 h14 rA ro rp p0 p1 hjl c13
                go_wp2_with fail
                go_roundw
                case rel => exact ⟨i + 1, _, _, _, by go_num, by omega, HX9, pp, ss, HP.out.1, by have := HP.out.2; omega, hS19⟩
                case measure => simp [intOf]; omega
            · have f1 : (((x3at X i).length : Int) == (q : Int)) = false := eq_f (by omega)
              have f2 : ¬ ((x3at X i).length : Int) = (q : Int) := by omega
              clear KO
              go_wp2_with fail
              go_roundw
              case rel => exact ⟨i + 1, vs, uss, X, by go_num, by omega, HX, h8.mono (by omega)⟩
              case measure => simp [intOf]; omega
          · obtain rfl : m = i := by omega
            go_wp2_with fail
            go_ret
            exact ⟨_, vs, uss, X, rfl, HX.out.1, h8.st.riii HX.out.2.2, h8.st.out⟩
    · have hX0i : ¬ (0 : Int) < (X.length : Int) := by omega
      go_wp2_with fail
      go_ret
      exact ⟨_, vs, uss, X, rfl, HX.out.1, h6.st.riii HX.out.2.2, h6.st.out⟩
end Go.Proofs.YtdgmaodnkbgolaaGreat
end

section
/- Plain: the planes of the squares of fields (by kernel check for the orders 2 to 5). -/
namespace Go.Proofs.YtdgmaodnkbgolaaGreat
set_option linter.unusedSimpArgs false
set_option linter.unusedVariables false

set_option maxRecDepth 1000000 in
theorem ps_pl2 : ntA (ntY 2 (fmL (mkfP 2) (mkfD 2).toNat (mkfL 2) 2 1)) 2 = apD 2 := by decide +kernel
set_option maxRecDepth 1000000 in
theorem ps_pl3 : ntA (ntY 3 (fmL (mkfP 3) (mkfD 3).toNat (mkfL 3) 3 2)) 3 = apD 3 := by decide +kernel
set_option maxRecDepth 1000000 in
theorem ps_pl4 : ntA (ntY 4 (fmL (mkfP 4) (mkfD 4).toNat (mkfL 4) 4 3)) 4 = apD 4 := by decide +kernel
set_option maxRecDepth 1000000 in
theorem ps_pl5 : ntA (ntY 5 (fmL (mkfP 5) (mkfD 5).toNat (mkfL 5) 5 4)) 5 = apD 5 := by decide +kernel
end Go.Proofs.YtdgmaodnkbgolaaGreat
end

section
/- Walks: products of matrices. Walks: MatrixMul of both sides. -/
namespace Go.Proofs.YtdgmaodnkbgolaaGreat
set_option linter.unusedSimpArgs false
set_option linter.unusedVariables false
open Go.RowKit
attribute [local go_sem ↓] Go.wp_at_zero Go.wp_at_succ
section
variable {ops : Array Oper} {o : Oper} {a : Act} {K : Act → World → Prop} {Q : Exit → Act → World → Prop} {E : Prop} {B : Nat} {w0 w : World} {L : List Ent}
/-- append of one integer to an owned row of integers, as a step -/
theorem stepI1 (hS : St B w0 w L) (i : Nat) {v : Value} {xs : List Int} (hi : L[i]? = some (row 2 v (iv xs))) (hN : xs.length < 4294967296) (hg : o.guard = none) (s x : Operand)
    (hop : o.op = .call { callee := .builtin .append, args := #[s, x], argTypes := #[48, 48] }) (hs : a.eval s = v) (n : Int) (hx : a.eval x = .slice (some ⟨w.heap.size, 0, none⟩) 1 1)
    (hK : ∀ v' w', St B w0 w' (L.set i (row 2 v' (iv (xs ++ [n])))) → K (a.put o.dst v') w') :
    if Region.wanted o (yielded ops a.tmps) = true then Oper.wp Tryz.prog o a (w.alloc (.cells #[.int .i64 n] 2)) K Q else E :=
  step_st_app1 hg s x 48 hop 2 (.int .i64 0) 8 Tryz.und_is Tryz.info_i rfl hS i hi hs (.int .i64 n) hx rfl (by omega) (by rw [iv_len]; exact hN)
    (fun v' w' h => hK v' w' (by rw [iv_app, iv_one]; exact h))
end
end Go.Proofs.YtdgmaodnkbgolaaGreat
end

section
/- Walk: the affine plane of a field, of the program. -/
namespace Go.Proofs.YtdgmaodnkbgolaaGreat
set_option linter.unusedSimpArgs false
set_option linter.unusedVariables false
open Go.RowKit
attribute [local go_sem ↓] Go.wp_at_zero Go.wp_at_succ

def apQ (q m : Nat) : List (List Int) := (List.range m).flatMap fun m => lnV q m :: (List.range q).map (lnS q m)
def apR (q m b : Nat) : List (List Int) := apQ q m ++ (lnV q m :: (List.range b).map (lnS q m))
theorem apR_0 (q m : Nat) : apR q m 0 = apQ q m ++ [lnV q m] := by simp [apR]
theorem apR_succ (q m b : Nat) : apR q m (b + 1) = apR q m b ++ [lnS q m b] := by
  rw [apR, apR, List.range_succ, List.map_append, ← List.cons_append, ← List.append_assoc]; rfl
theorem apQ_succ (q m : Nat) : apQ q (m + 1) = apR q m q := by rw [apQ, List.range_succ, List.flatMap_append, apR, apQ]; simp
theorem apQ_end (q : Nat) : apQ q q = apU q := rfl
def lvP (q m x : Nat) : List Int := (List.range x).map fun x : Nat => (q : Int) * m + x
def lsP (q m b x : Nat) : List Int := (List.range x).map fun x : Nat => (q : Int) * x + fsum (mkfP q) (mkfD q).toNat (fmul (mkfP q) (mkfD q).toNat (mkfL q) m x) b 1
theorem lvP_succ (q m x : Nat) : lvP q m (x + 1) = lvP q m x ++ [(q : Int) * m + x] := by rw [lvP, lvP, List.range_succ, List.map_append]; rfl
theorem lsP_succ (q m b x : Nat) : lsP q m b (x + 1) = lsP q m b x ++ [(q : Int) * x + fsum (mkfP q) (mkfD q).toNat (fmul (mkfP q) (mkfD q).toNat (mkfL q) m x) b 1] := by rw [lsP, lsP, List.range_succ, List.map_append]; rfl
theorem apR_len (q m b : Nat) : (apR q m b).length = m * (q + 1) + 1 + b := by
  have h1 : ∀ m, (apQ q m).length = m * (q + 1) := fun m => by
    induction m with
    | zero => simp [apQ]
    | succ m ih => rw [apQ, List.range_succ, List.flatMap_append, List.length_append, ← apQ, ih, Nat.add_mul]; simp
  rw [apR, List.length_append, h1]; simp; omega
set_option maxHeartbeats 16000000 in
set_option maxRecDepth 100000 in
theorem AffinePlane_c (q : Nat) (w : World) (hm : mkOk q = true) (q2 : 2 ≤ q) (q5 : q ≤ 5) (hlu : (apU q).length ≤ 128) : Calls Tryz.prog 13 #[.int .i64 q] w (MakesD w (q * q : Nat) (apB q) 0) := by
  obtain ⟨n, p, D, fs, hn, hf, h1, h2, h3, h4⟩ := mk_fq hm (by omega)
  obtain rfl : n = q := by omega
  have hS0 := (St.refl w).newboxF 28 #[.int .i64 0, .slice none 0 0]
  have HM := Lib.hid (MakeField_c n (w.alloc (.cells #[.int .i64 0, .slice none 0 0] 28)))
  rw [h1, h2, h3, h4] at HM
  have HS := fun m b x => Lib.hid (lsP_succ n m b x)
  rw [h1, h2, h3, Int.toNat_natCast] at HS
  have HVs := fun m x => Lib.hid (lvP_succ n m x)
  have HE := fun (a b : Int) => Lib.hid (fsum_el (D := D) (show 0 < p by have := hf.fv.p2; omega) a b 1)
  have HX := fun (a b : Int) => Lib.hid ((fmul_el (p := p) (D := D) hf.fv.fa a b).lim hf.fv)
  have Hpw := Lib.hid hf.pow
  have Hfv := Lib.hid hf.fv
  have KPr := fun v W a b (hW : RdI W v fs) a0 a1 b0 b1 => Lib.hid (product_c p D v fs a b W hW hf.fv a0 a1 b0 b1)
  have KCo := fun v W a b (hW : RdI W v fs) a0 a1 b0 b1 => Lib.hid (combine_c p D v fs a b 1 W hW hf.fv a0 a1 b0 b1 (.inl rfl))
  have R0 := fun m => Lib.hid (apR_0 n m)
  have R1 := fun m b => Lib.hid (apR_succ n m b)
  have R2 := fun m => Lib.hid (apQ_succ n m)
  have RL := fun m b (h : m < n) (hb : b ≤ n) => Lib.hid (show (apR n m b).length ≤ 1000 by
    rw [apR_len]
    have : m * (n + 1) ≤ 5 * 6 := Nat.mul_le_mul (by omega) (by omega)
    omega)
  have hqq : (n : Int) * n ≤ 25 ∧ 0 ≤ (n : Int) * n := by
    have : n * n ≤ 5 * 5 := Nat.mul_le_mul q5 q5
    omega
  have wqq : IntKind.i64.wrap ((n : Int) * n) = (n : Int) * n := IntWalk.i64_in _ (by omega)
  have hq32 : ¬ (32 : Int) < (n : Int) * n := by omega
  have Hrows := Lib.hid (fun xs (hx : xs ∈ apU n) => (show xs.length ≤ 1048576 by
    obtain ⟨m, _, hx⟩ := List.mem_flatMap.1 hx
    rcases List.mem_cons.1 hx with rfl | hx
    · simp [lnV]; omega
    · obtain ⟨b, _, rfl⟩ := List.mem_map.1 hx
      simp [lnS]; omega))
  clear hf h1 h2 h3 h4 hm hn
  go_enter Tryz.func13, Tryz.ntmps13
  go_wp2_with (go_at_call 50; refine HM.out.mono ?_; rintro e2 w2 ⟨v2, rfl, h2⟩; obtain ⟨va, vc, hvs⟩ := (h2.rdI 0 rfl).sl.sh; rw [iv_len] at hvs; subst hvs; unfold fv; have hB := (hS0.call h2).newboxF 73 #[.int .i64 p, .int .i64 D, .slice va fs.length vc])
  clear HM hS0 h2
  obtain ⟨LB, hLB⟩ : ∃ LB : List Ent, LB = [box 73 w2.heap.size [.int .i64 p, .int .i64 D, .slice va fs.length vc], box 28 w.heap.size [.int .i64 0, .slice none 0 0], row 2 (.slice va fs.length vc) (iv fs)] := ⟨_, rfl⟩
  have hS1 := (hB.newnil 48).perm (L' := own2 (.slice none 0 0) [] (apQ n 0) ++ LB) (by rw [hLB, show apQ n 0 = [] from rfl, own2_nil']; exact List.perm_append_comm)
  have hbx : Hid (LB[0]? = some (box 73 w2.heap.size [.int .i64 p, .int .i64 D, .slice va fs.length vc])) := Lib.hid (by rw [hLB]; rfl)
  have hrw : Hid (LB[2]? = some (row 2 (.slice va fs.length vc) (iv fs))) := Lib.hid (by rw [hLB]; rfl)
  have HLB := Lib.hid hLB
  clear hB hLB
  unfold fv at KPr KCo
  go_loopw [28, 6, 7, 8, 9, 10, 11, 12] (fun i o _ _ _ _ _ _ wr => ∃ (m : Nat) (v2 : Value) (us : List Value), v2 = o ∧ m ≤ n ∧ i = .int .i64 m ∧ Hid (us.length = (apQ n m).length) ∧ St w.heap.size w wr (own2 v2 us (apQ n m) ++ LB)) (fun i _ _ _ _ _ _ _ _ => n - (intOf i).toNat)
  case atStart => exact ⟨0, _, [], rfl, by omega, rfl, rfl, hS1⟩
  case round =>
    clear hS1
    obtain ⟨m, v2, us, rfl, hmn, rfl, hlu2, hS⟩ := hrel
    by_cases hmt : m < n
    · have R0 := R0 m
      have R2 := R2 m
      have hS' := (hS.newnil 2).perm (L' := row 2 (.slice none 0 0) (iv (lvP n m 0)) :: (own2 v2 us (apQ n m) ++ LB)) List.perm_append_comm
      have hqm : (n : Int) * m ≤ 25 ∧ 0 ≤ (n : Int) * m := by
        have : n * m ≤ 5 * 5 := Nat.mul_le_mul q5 (by omega)
        omega
      have wqm : IntKind.i64.wrap ((n : Int) * m) = (n : Int) * m := IntWalk.i64_in _ (by omega)
      obtain ⟨nm, hnm⟩ : ∃ nm, (n : Int) * m = nm := ⟨_, rfl⟩
      have HVs := HVs m
      rw [hnm] at HVs
      have Hnm := Lib.hid hnm
      go_wp2_with fail
      go_loopw [32, 8, 9] (fun i o _ wr => ∃ (x : Nat) (v3 : Value), v3 = o ∧ x ≤ n ∧ i = .int .i64 x ∧ St w.heap.size w wr (row 2 v3 (iv (lvP n m x)) :: (own2 v2 us (apQ n m) ++ LB))) (fun i _ _ _ => n - (intOf i).toNat)
      case atStart => exact ⟨0, _, rfl, by omega, rfl, hS'⟩
      case round =>
        clear hS hS'
        obtain ⟨x, v3, rfl, hx, rfl, hS⟩ := hrel
        by_cases hxt : x < n
        · have HV := HVs x
          have hN := Lib.hid (show (lvP n m x).length < 4294967296 by simp [lvP]; omega)
          rw [hnm] at wqm hqm
          have w5 : IntKind.i64.wrap (nm + (x : Int)) = nm + (x : Int) := IntWalk.i64_in _ (by omega)
          go_wp2_with (at_builtin; refine appI hS 0 rfl hN.out rfl _ _ rfl rfl _ (by first | rfl | simp [Act.eval, Act.put]) ?_; intro v5 w5 hS5; simp only [List.set_cons_zero] at hS5)
          rw [← HV.out] at hS5
          go_roundw
          case rel => exact ⟨x + 1, _, rfl, by omega, by go_num, hS5⟩
          case measure => simp [intOf]; omega
        · obtain rfl : x = n := by omega
          obtain ⟨qa, qc, hq⟩ := (hS.rdI 0 rfl).sl.sh
          rw [iv_len, show (lvP x m x).length = x by simp [lvP]] at hq
          subst hq
          have hS7 := hS.perm (L' := own2 v2 us (apQ x m) ++ LB ++ [row 2 (.slice qa x qc) (iv (lvP x m x))]) (List.perm_append_singleton _ _).symm
          have hN := Lib.hid (show us.length < 4294967296 by
            have h1 := congrArg List.length R0.out
            have h2 := (RL m 0 hmt (by omega)).out
            rw [List.length_append] at h1
            rw [hlu2.out]; omega)
          go_wp2_with (at_builtin; refine appII hS7 0 rfl hN.out rfl _ _ rfl rfl _ rfl rfl ?_; intro v5 w5 hS5)
          have hS8 := own2_snocL hlu2.out hS5
          rw [show lvP x m x = lnV x m from rfl, ← R0.out] at hS8
          have hu3 : Hid ((us ++ [Value.slice qa x qc]).length = (apR x m 0).length) := Lib.hid (by rw [R0.out]; simp [hlu2.out])
          clear hS hS7 hS5 hN
          go_loopw [49, 6, 10, 11, 12] (fun i o _ _ _ wr => ∃ (b : Nat) (v2 : Value) (us : List Value), v2 = o ∧ b ≤ x ∧ i = .int .i64 b ∧ Hid (us.length = (apR x m b).length) ∧ St w.heap.size w wr (own2 v2 us (apR x m b) ++ LB)) (fun i _ _ _ _ _ => x - (intOf i).toNat)
          case atStart => exact ⟨0, _, _, rfl, by omega, rfl, hu3, hS8⟩
          case round =>
            clear hS8 hu3
            obtain ⟨b, v2, us, rfl, hb, rfl, hlu2, hS⟩ := hrel
            by_cases hbt : b < x
            · have R1 := R1 m b
              have HS := HS m b
              have hS' := (hS.newnil 2).perm (L' := row 2 (.slice none 0 0) (iv (lsP x m b 0)) :: (own2 v2 us (apR x m b) ++ LB)) List.perm_append_comm
              go_wp2_with fail
              go_loopw [53, 11, 12] (fun i o _ wr => ∃ (y : Nat) (v3 : Value), v3 = o ∧ y ≤ x ∧ i = .int .i64 y ∧ St w.heap.size w wr (row 2 v3 (iv (lsP x m b y)) :: (own2 v2 us (apR x m b) ++ LB))) (fun i _ _ _ => x - (intOf i).toNat)
              case atStart => exact ⟨0, _, rfl, by omega, rfl, hS'⟩
              case round =>
                clear hS hS'
                obtain ⟨y, v3, rfl, hy, rfl, hS⟩ := hrel
                by_cases hyt : y < x
                · have HSy := HS y
                  have hN := Lib.hid (show (lsP x m b y).length < 4294967296 by simp [lsP]; omega)
                  have k0 := hS.bcell _ (at_cons (at_app hbx.out)) 0 rfl
                  have k1 := hS.bcell _ (at_cons (at_app hbx.out)) 1 rfl
                  have k2 := hS.bcell _ (at_cons (at_app hbx.out)) 2 rfl
                  have hfr := hS.drew.rdI _ (at_cons (at_app hrw.out))
                  have hE := (HE (fmul p D fs m y) b).out
                  have hX := (HX m y).out
                  have KP1 := fun W hW => KPr (.slice va fs.length vc) W (m : Int) (y : Int) hW (by omega) (by omega) (by omega) (by omega)
                  have KC1 := fun W hW => KCo (.slice va fs.length vc) W (fmul p D fs m y) (b : Int) hW hX.1 hX.2 (by omega) (by omega)
                  have hxy : (x : Int) * y ≤ 25 ∧ 0 ≤ (x : Int) * y := by
                    have : x * y ≤ 5 * 5 := Nat.mul_le_mul q5 (by omega)
                    omega
                  have wxy : IntKind.i64.wrap ((x : Int) * y) = (x : Int) * y := IntWalk.i64_in _ (by omega)
                  have hEb : 0 ≤ fsum p D (fmul p D fs m y) b 1 ∧ fsum p D (fmul p D fs m y) b 1 ≤ 5 := by
                    have h1 := hE.1
                    have h2 := hE.2
                    rw [Hpw.out] at h2
                    omega
                  clear hE hX
                  generalize fsum p D (fmul p D fs m y) b 1 = sm at *
                  generalize fmul p D fs m y = ml at *
                  obtain ⟨xy, hxye⟩ : ∃ xy, (x : Int) * y = xy := ⟨_, rfl⟩
                  rw [hxye] at hxy wxy HSy
                  have w5 : IntKind.i64.wrap (xy + sm) = xy + sm := IntWalk.i64_in _ (by omega)
                  have hSd := hS.drew
                  go_wp2_with fail
                  refine regionG (fun w' => w'.cell? ⟨w2.heap.size, 0, none⟩ = some (.int .i64 p) ∧ w'.cell? ⟨w2.heap.size, 1, none⟩ = some (.int .i64 D) ∧ w'.cell? ⟨w2.heap.size, 2, none⟩ = some (.slice va fs.length vc)) 13 (by kernel_rfl) ⟨cell_dr k0, cell_dr k1, cell_dr k2⟩ (fun hHeld => ?_)
                  refine takeP (i := 0) (v := ?_) rfl (by kernel_rfl) (fun _ _ _ h => h) (by rfl) ?_ (by assumption) ?_
                  case refine_2 => (intro w'; go_simp; first | done | with_reducible rfl)
                  try simp only [Act.put, List.setIfInBounds_toArray, List.set_cons_zero, List.set_cons_succ]
                  refine takeP (i := 1) (v := ?_) rfl (by kernel_rfl) (fun _ _ _ h => h) (by rfl) ?_ (by assumption) ?_
                  case refine_2 => (intro w'; go_simp; first | done | with_reducible rfl)
                  try simp only [Act.put, List.setIfInBounds_toArray, List.set_cons_zero, List.set_cons_succ]
                  refine takeP (i := 2) (v := ?_) rfl (by kernel_rfl) (fun _ _ _ h => h) (by rfl) ?_ (by assumption) ?_
                  case refine_2 => (intro w'; go_simp; first | done | with_reducible rfl)
                  try simp only [Act.put, List.setIfInBounds_toArray, List.set_cons_zero, List.set_cons_succ]
                  refine takeP (i := 3) (v := ?_) rfl (by kernel_rfl) (fun _ _ _ h => h) (by rfl) ?_ (by assumption) ?_
                  case refine_2 => (intro w'; go_simp; first | done | with_reducible rfl)
                  try simp only [Act.put, List.setIfInBounds_toArray, List.set_cons_zero, List.set_cons_succ]
                  refine takeH (i := 4) [10, 11, 12] (v := ?_) rfl (by kernel_rfl) (fun _ _ _ h => h) (by rfl) ?_ (by assumption) ?_
                  case refine_2 => (intro w' hSw; (try dsimp only at hSw); go_simp; first | done | with_reducible rfl)
                  try simp only [Act.put, List.setIfInBounds_toArray, List.set_cons_zero, List.set_cons_succ]
                  refine takeH (i := 5) [8, 10, 11, 12] (v := ?_) rfl (by kernel_rfl) (fun _ _ _ h => h) (by rfl) ?_ (by assumption) ?_
                  case refine_2 => (intro w' hSw; (try dsimp only at hSw); go_simp; first | done | with_reducible rfl)
                  try simp only [Act.put, List.setIfInBounds_toArray, List.set_cons_zero, List.set_cons_succ]
                  refine takeP (i := 6) (v := ?_) rfl (by kernel_rfl) (fun _ _ _ h => h) (by rfl) ?_ (by assumption) ?_
                  case refine_2 => (intro w'; go_simp; first | done | with_reducible rfl)
                  try simp only [Act.put, List.setIfInBounds_toArray, List.set_cons_zero, List.set_cons_succ]
                  refine takeP (i := 7) (v := ?_) rfl (by kernel_rfl) (fun _ _ _ h => h) (by rfl) ?_ (by assumption) ?_
                  case refine_2 => (intro w'; go_simp; first | done | with_reducible rfl)
                  try simp only [Act.put, List.setIfInBounds_toArray, List.set_cons_zero, List.set_cons_succ]
                  refine takeP (i := 9) (v := ?_) rfl (by kernel_rfl) (fun _ _ _ h => h) (by rfl) ?_ (by assumption) ?_
                  case refine_2 => (intro w'; go_simp; first | done | with_reducible rfl)
                  try simp only [Act.put, List.setIfInBounds_toArray, List.set_cons_zero, List.set_cons_succ]
                  refine readyG (rs := [8]) (by kernel_rfl) (by simp) ?_
                  refine AllG.cons rfl (fun K hK => ?_) AllG.nil
                  go_simp
                  refine (KP1 _ hfr).out.mono ?_
                  rintro e w6 ⟨rfl, h6⟩
                  have hS2 := hSd.call0 h6
                  have d0 := hS2.bcell _ (at_cons (at_app hbx.out)) 0 rfl
                  have d1 := hS2.bcell _ (at_cons (at_app hbx.out)) 1 rfl
                  have d2 := hS2.bcell _ (at_cons (at_app hbx.out)) 2 rfl
                  refine hK.out _ _ ⟨d0, d1, d2⟩ (fun hHeld => ?_)
                  clear hK K h6 d0 d1 d2
                  try simp only [Act.put, List.setIfInBounds_toArray, List.set_cons_zero, List.set_cons_succ]
                  refine readyG (rs := [10]) (by kernel_rfl) (by simp) ?_
                  refine AllG.cons rfl (fun K hK => ?_) AllG.nil
                  go_simp
                  refine (KC1 _ (hS2.rdI _ (at_cons (at_app hrw.out)))).out.mono ?_
                  rintro e w7 ⟨rfl, h7⟩
                  have hS3 := hS2.call0 h7
                  have d0 := hS3.bcell _ (at_cons (at_app hbx.out)) 0 rfl
                  have d1 := hS3.bcell _ (at_cons (at_app hbx.out)) 1 rfl
                  have d2 := hS3.bcell _ (at_cons (at_app hbx.out)) 2 rfl
                  refine hK.out _ _ ⟨d0, d1, d2⟩ (fun hHeld => ?_)
                  clear hK K h7
                  try simp only [Act.put, List.setIfInBounds_toArray, List.set_cons_zero, List.set_cons_succ]
                  refine takeP (i := 11) (v := ?_) rfl (by kernel_rfl) (fun _ _ _ h => h) (by rfl) ?_ (by assumption) ?_
                  case refine_2 => (intro w'; go_simp; first | done | with_reducible rfl)
                  try simp only [Act.put, List.setIfInBounds_toArray, List.set_cons_zero, List.set_cons_succ]
                  refine readyG (rs := [12]) (by kernel_rfl) (by simp) ?_
                  refine AllG.cons rfl (fun K hK => ?_) AllG.nil
                  go_simp
                  refine hK.out _ _ ⟨cell_al d0, cell_al d1, cell_al d2⟩ (fun hHeld => ?_)
                  clear hK K d0 d1 d2
                  try simp only [Act.put, List.setIfInBounds_toArray, List.set_cons_zero, List.set_cons_succ]
                  refine readyG (rs := [13]) (by kernel_rfl) (by simp) ?_
                  refine AllG.last rfl (by kernel_rfl) (fun K hK => ?_) AllG.nil
                  refine stepI1 hS3 0 rfl hN.out rfl (.tmp 56) (.tmp 68) rfl (by first | rfl | simp [Act.eval, Act.put]) _ (by first | rfl | simp [Act.eval, Act.put]) ?_
                  intro v5 w9 hS5
                  refine hK.out _ _ ?_
                  clear hK K
                  try simp only [Act.put, List.setIfInBounds_toArray, List.set_cons_zero, List.set_cons_succ]
                  refine readyG (rs := [14]) (by kernel_rfl) (by simp) ?_
                  refine AllG.last rfl (by kernel_rfl) (fun K hK => ?_) AllG.nil
                  go_simp
                  refine hK.out _ _ ?_
                  clear hK K
                  try simp only [Act.put, List.setIfInBounds_toArray, List.set_cons_zero, List.set_cons_succ]
                  refine doneG (by kernel_rfl) ?_ _
                  refine NoPanic.normal ?_
                  simp only [List.set_cons_zero] at hS5
                  try rw [w5] at hS5
                  go_wp2_with fail
                  go_roundw
                  case rel => exact ⟨y + 1, _, rfl, by omega, by go_num, by rw [HSy.out]; exact hS5⟩
                  case measure => simp [intOf]; omega
                · obtain rfl : y = x := by omega
                  obtain ⟨qa, qc, hq⟩ := (hS.rdI 0 rfl).sl.sh
                  rw [iv_len, show (lsP y m b y).length = y by simp [lsP]] at hq
                  subst hq
                  have hS7 := hS.perm (L' := own2 v2 us (apR y m b) ++ LB ++ [row 2 (.slice qa y qc) (iv (lsP y m b y))]) (List.perm_append_singleton _ _).symm
                  have hN := Lib.hid (show us.length < 4294967296 by have h2 := (RL m b hmt hb).out; rw [hlu2.out]; omega)
                  go_wp2_with (at_builtin; refine appII hS7 0 rfl hN.out rfl _ _ rfl rfl _ rfl rfl ?_; intro v5 w5 hS5)
                  have hS8 := own2_snocL hlu2.out hS5
                  rw [show lsP y m b y = lnS y m b from rfl, ← R1.out] at hS8
                  have hu3 : Hid ((us ++ [Value.slice qa y qc]).length = (apR y m (b + 1)).length) := Lib.hid (by rw [R1.out]; simp [hlu2.out])
                  go_roundw
                  case rel => exact ⟨b + 1, _, _, rfl, by omega, by go_num, hu3, hS8⟩
                  case measure => simp [intOf]; omega
            · obtain rfl : b = x := by omega
              rw [← R2.out] at hS hlu2
              go_wp2_with fail
              go_roundw
              case rel => exact ⟨m + 1, _, us, rfl, by omega, by go_num, hlu2, hS⟩
              case measure => simp [intOf]; omega
    · obtain rfl : m = n := by omega
      rw [apQ_end] at hS hlu2
      have rR := (hS.sub (List.sublist_append_left _ _)).rii hlu2.out
      rw [HLB.out] at hS
      have hSb := hS.sub (L' := [box 28 w.heap.size [.int .i64 0, .slice none 0 0]]) (((List.Sublist.refl _).cons_cons _ |>.trans (.cons_cons _ (List.nil_sublist [row 2 (.slice va fs.length vc) (iv fs)])) |>.cons _).trans (List.sublist_append_right _ _))
      have KS := Lib.hid (sorted_c ((m : Int) * m) v2 us _ _ rR hlu Hrows.out)
      rw [show srtL (apU m) = apB m from rfl] at KS
      have hmm : ((m * m : Nat) : Int) = (m : Int) * m := by omega
      rw [hmm]
      clear rR hS
      go_wp2_with (go_at_call 36; refine KS.out.mono ?_; rintro e4 w4 ⟨v4, us4, rfl, hl4, h4⟩; obtain ⟨a4, c4, hv4⟩ := (h4.rd 0 (e := 48) (v := v4) (us := us4) rfl).sl.sh; rw [hl4] at hv4; subst hv4; unfold dv; have hB := hSb.call h4; have e0 := hB.bcell 0 rfl 0 rfl; have e1 := hB.bcell 0 rfl 1 rfl; have f0 := hB.bfree 0 rfl; have h6 := (hB.bstore 0 rfl 0 (.int .i64 ((m : Int) * m))).bstore 0 rfl 1 (.slice a4 (apB m).length c4); have g0 := h6.bcell 0 rfl 0 rfl; have g1 := h6.bcell 0 rfl 1 rfl)
      refine bodyPost_ret (v := .tuple #[.agg #[.int .i64 ((m : Int) * m), .slice a4 (apB m).length c4], .int .i64 0]) (by simp [results, Tryz.results13, go_sem, g0, g1]) rfl ?_
      exact ⟨_, us4, rfl, hl4, h6.sub (.cons _ (.refl _))⟩
end Go.Proofs.YtdgmaodnkbgolaaGreat
end

section
/- The law FnPlaneSquares, walked. -/
namespace Go.Proofs.YtdgmaodnkbgolaaGreat
set_option linter.unusedSimpArgs false
set_option linter.unusedVariables false
open Go.RowKit
attribute [local go_sem ↓] Go.wp_at_zero Go.wp_at_succ

theorem Cls.w {n : Nat} {Y : List (List (List Int))} {C : List (List Int)} (hc : Cls Y n C) (h : Net n Y) (h5 : n ≤ 5) : ClsW n (ntA Y n) C where
  len := hc.len
  row := hc.row
  el a ha z hz := by
    obtain ⟨j, hj, e, _⟩ := hc.i.mem a (by rw [hc.len]; exact ha) z hz
    exact ⟨j, e, hj⟩
  meet x y hx hy := hc.bqP_len h h5 hx hy
/-- a plane that leads back to squares -/
structure Good (P : Int) (A : List (List Int)) (n N : Nat) (Z : List (List (List Int))) : Prop where
  p : P = (N : Int)
  n2 : 2 ≤ n
  n5 : n ≤ 5
  le : N ≤ 25
  sq : (n : Int) * (n : Int) = (N : Int)
  len : Z.length = n - 1
  mols : Mols Z
  ord : ∀ W u us, RII W u us A → Calls Tryz.prog 8 #[dv P u] W (GivesI W (n : Int))
  back : ∀ W u us, RII W u us A → Calls Tryz.prog 9 #[dv P u] W (IIIK W Z 0)
def PlB (w : World) (e : Ending) (w' : World) : Prop := ∃ (P : Int) (v : Value) (us : List Value) (A : List (List Int)) (c : Int), e = .returned (.tuple #[dv P v, .int .i64 c]) ∧ RII w' v us A ∧ St w.heap.size w w' [] ∧ (c ≠ 0 ∧ A = [] ∨ c = 0 ∧ ∃ n N Z, Good P A n N Z)
theorem PlaneOfMols_b (v : Value) (vs : List Value) (uss : List (List Value)) (X : List (List (List Int))) (w : World) (hv : RIII w v vs uss X) (hs : Sml X) :
    Calls Tryz.prog 7 #[v] w (PlB w) := by
  by_cases hM : Mols X ∧ (x3at X 0).length ≤ 5 ∧ X.length + 1 = (x3at X 0).length
  · obtain ⟨n, hn⟩ : ∃ n, (x3at X 0).length = n := ⟨_, rfl⟩
    have hM2 := hM
    rw [hn] at hM2
    obtain ⟨hmo, h5, hl⟩ := hM2
    have hnet := hmo.net hn hl
    have hcls := hnet.classes h5
    have hor := hnet.ord h5
    have hdo := hnet.dok h5
    have h2 := hnet.two
    refine (PlaneOfMols_yes n v vs uss X w hv hmo hn hl h5).mono ?_
    rintro e w' ⟨vA, uA, he, hlA, hh⟩
    refine ⟨_, vA, uA, _, 0, he, hh.rii hlA, hh.out, .inr ⟨rfl, n, n * n, bqX (ntA (ntY n X) n) (pcK (ntA (ntY n X) n) (ntA (ntY n X) n).length) n (n - 1), rfl, h2, h5, Nat.mul_le_mul h5 h5, rfl, bqX_len _ _ _ _, hcls.mols hnet h5, fun W u us h => ?_, fun W u us h => ?_⟩⟩
    · have := AffineOrder_c (n * n) u us (ntA (ntY n X) n) W h hdo
      rwa [show ordP afV afK (n * n) (ntA (ntY n X) n) = n from hor] at this
    · exact MolsOfPlane_c n (n * n) u us (ntA (ntY n X) n) W h hdo (by rw [show ordP afV afK (n * n) (ntA (ntY n X) n) = n from hor]; omega) h2 h5 (hcls.w hnet h5)
  · refine (PlaneOfMols_no v vs uss X w hv hs hM).mono ?_
    rintro e w' ⟨c, hc, he, hh⟩
    exact ⟨0, _, [], [], c, he, ⟨Rd.nil _, rfl, fun j hj => by simp at hj⟩, hh, .inl ⟨hc, rfl⟩⟩
set_option maxHeartbeats 32000000 in
set_option maxRecDepth 100000 in
theorem FnPlaneSquares_law (w : World) (cv : Value) (bs : List UInt8) (cm : Value) (ms : List UInt8) (hb : RdB w cv bs) (hm : RdB w cm ms) :
    Calls Tryz.prog 3 #[cv, cm] w (GivesB w true) := by
  by_cases hlong : 1048576 < bs.length ∨ 1048576 < ms.length
  · by_cases h1 : 1048576 < bs.length
    · have hl' : decide (1048576 < bs.length) = true := by simpa using h1
      go_enter Tryz.func3, Tryz.ntmps3
      go_wp2_with fail
      refine (b10Long_c w cv bs hb).mono ?_
      rw [hl']
      rintro e w1 ⟨rfl, rfl⟩
      go_wp2_with fail
      go_ret
      exact ⟨rfl, St.refl _⟩
    · have hl' : decide (1048576 < bs.length) = false := by simpa using h1
      have hl2 : decide (1048576 < ms.length) = true := by simp; omega
      go_enter Tryz.func3, Tryz.ntmps3
      go_wp2_with fail
      refine (b10Long_c w cv bs hb).mono ?_
      rw [hl']
      rintro e w1 ⟨rfl, rfl⟩
      go_wp2_with (go_at_call 5; refine (b10Long_c w cm ms hm).mono ?_; rw [hl2]; rintro e w1 ⟨rfl, rfl⟩)
      go_ret
      exact ⟨rfl, St.refl _⟩
  · have hl' : decide (1048576 < bs.length) = false := by simp; omega
    have hl2 : decide (1048576 < ms.length) = false := by simp; omega
    go_enter Tryz.func3, Tryz.ntmps3
    go_wp2_with fail
    refine (b10Long_c w cv bs hb).mono ?_
    rw [hl']
    rintro e w1 ⟨rfl, rfl⟩
    go_wp2_with (go_at_call 5; refine (b10Long_c w cm ms hm).mono ?_; rw [hl2]; rintro e w1 ⟨rfl, rfl⟩)
    refine (DrawPlaneOfMols_c w cv bs hb).mono ?_
    clear hlong hl' hl2
    rintro e w1 ⟨v, vs, uss, X, rfl, hX, rX, h1⟩
    have KP := Lib.hid (PlaneOfMols_b v vs uss X w1 rX hX)
    clear hX rX
    go_wp2_with fail
    refine KP.out.mono ?_
    clear KP
    rintro e w2 ⟨P, vA, uA, A, c, rfl, rA, hh, hcase⟩
    obtain ⟨aa, ac, hsh⟩ := rA.1.sl.sh
    rw [rA.2.1] at hsh
    subst hsh
    have hX2 := (St.refl w2).newboxF 28 #[.int .i64 P, .slice aa A.length ac]
    have b0 := hX2.bcell 0 rfl 0 rfl
    have b1 := hX2.bcell 0 rfl 1 rfl
    have HW := Lib.hid ((h1.call0 hh).call0 hX2.out)
    have Hm := Lib.hid (HW.out.oldB hm)
    have RA := Lib.hid (hX2.oldII rA)
    have hZ := St.refl (w2.alloc (.cells #[.int .i64 P, .slice aa A.length ac] 28))
    have Hcase := Lib.hid hcase
    clear h1 hh hX2 rA hm hcase
    unfold dv
    go_upto_if 32 with fail
    generalize w2.alloc (.cells #[.int .i64 P, .slice aa A.length ac] 28) = wB at *
    generalize w2.heap.size = gB at *
    go_cut [8, 9, 10] from 33 to 69 (fun _ _ _ w' => St wB.heap.size wB w' [])
    case first =>
      rcases Hcase.out with ⟨hc, hA⟩ | ⟨hc, n, N, Z, hG⟩
      · subst hA
        clear Hcase
        have f1 : (c == 0) = false := eq_f hc
        go_wp2_with fail
        go_meet
        case rel => exact hZ
      · subst hc
        clear Hcase
        obtain ⟨hp, n2, n5, le, sq, len, mols, ord, back⟩ := hG
        subst hp
        have K1 := Lib.hid (ord wB _ uA RA.out)
        have K2 := Lib.hid (fun W (h : St wB.heap.size wB W []) => back W _ uA (h.oldII RA.out))
        have HM := Lib.hid mols
        have wN : IntKind.i64.wrap ((n : Int) * (n : Int)) = (N : Int) := by rw [sq]; exact IntWalk.i64_in _ (by omega)
        have wn : IntKind.i64.wrap ((n : Int) - 1) = (n : Int) - 1 := IntWalk.i64_in _ (by omega)
        have f1 : ((N : Int) != (N : Int)) = false := ne_f rfl
        have f2 : ¬ (n : Int) < 2 := by omega
        have f3 : ((Z.length : Int) != ((n : Int) - 1)) = false := ne_f (by omega)
        have B0 := Lib.hid b0
        have B1 := Lib.hid b1
        unfold dv at K1 K2
        clear mols ord back sq len
        go_wp2_with fail
        refine K1.out.mono ?_
        clear K1
        rintro e w3 ⟨rfl, h3⟩
        have hS3 := hZ.call0 h3
        have b0 := cell_keepS hS3.below B0.out
        have b1 := cell_keepS hS3.below B1.out
        clear hZ h3
        go_wp2_with fail
        refine (K2.out _ hS3).mono ?_
        clear K2
        rintro e w4 ⟨vZ, vsZ, ussZ, rfl, hfZ, h4⟩
        have hS4 := hS3.call0 h4.out
        have b0 := cell_keepS hS4.below B0.out
        have b1 := cell_keepS hS4.below B1.out
        have rZ := IIIK.riii hfZ h4
        have hlnZ := rZ.len
        have KV := Lib.hid (ValidMols_c vZ vsZ ussZ Z w4 rZ HM.out.sml)
        rw [molB_yes HM.out] at KV
        clear hS3 h4 rZ hfZ
        go_wp2_with fail
        refine KV.out.mono ?_
        clear KV
        rintro e w5 ⟨rfl, h5⟩
        have hS5 := hS4.call0 h5
        clear hS4 h5
        go_wp2_with fail
        go_meet
        case rel => exact hS5
    case rest =>
      have hS := hcut
      clear hcut hZ b0 b1 RA Hcase
      have hWc := HW.out.call0 hS
      have hms := hS.oldB Hm.out
      clear hS HW Hm
      go_wp2_with fail
      refine (b10At_c _ cm ms 0 4 hms (by omega) (by omega) (by omega)).mono ?_
      rintro e w6 ⟨z, rfl, z0, z1, hw⟩
      subst hw
      obtain ⟨q, hq⟩ : ∃ q : Nat, (q : Int) = 2 + z := ⟨(2 + z).toNat, by omega⟩
      have hq4 : q = 2 ∨ q = 3 ∨ q = 4 ∨ q = 5 := by omega
      have w2z : IntKind.i64.wrap (2 + z) = (q : Int) := by rw [IntWalk.i64_in _ (by omega), hq]
      have hmem : q ∈ [2, 3, 4, 5] := by
        rcases hq4 with rfl | rfl | rfl | rfl <;> decide
      obtain ⟨hmk, hap⟩ := ap_lit q hmem
      have hpl : ntA (ntY q (fmL (mkfP q) (mkfD q).toNat (mkfL q) q (q - 1))) q = apD q := by
        rcases hq4 with rfl | rfl | rfl | rfl
        · exact ps_pl2
        · exact ps_pl3
        · exact ps_pl4
        · exact ps_pl5
      obtain ⟨q', p, D, fs, hq', hf, e1, e2, e3, e4⟩ := mk_fq hmk (by omega)
      obtain rfl : q = q' := by omega
      have hmo := fmL_mols hf.fv hf.pow (show 2 ≤ q by omega) (show q ≤ 10 by omega)
      have KF := Lib.hid (fun W => FieldMols_c q p D fs W hf e1 e2 e3 e4)
      rw [e1, e2, e3, Int.toNat_natCast] at hpl
      have hl0 : (x3at (fmL p D fs q (q - 1)) 0).length = q := by
        rw [fmL_at (by omega), fsq, sqF_len]
      have hll := fmL_len p D fs q (q - 1)
      generalize fmL p D fs q (q - 1) = X2 at *
      have KP := Lib.hid (fun W v vs uss (h : RIII W v vs uss X2) => PlaneOfMols_yes q v vs uss X2 W h hmo hl0 (by omega) (by omega))
      rw [hpl] at KP
      have KA := Lib.hid (fun W => AffinePlane_c q W hmk (by omega) (by omega) (ap_few q hmem))
      rw [hap] at KA
      have KS := Lib.hid (fun W va vb us ws (h1 : RII W va us (apD q)) (h2 : RII W vb ws (apD q)) => SameDesignI_c ((q * q : Nat) : Int) va vb us ws (apD q) (apD q) W h1 h2)
      rw [decide_eq_true rfl] at KS
      generalize apD q = T at *
      generalize ((q * q : Nat) : Int) = Q at *
      clear hq z0 z1 hq4 hmem hmk hap hpl hf e1 e2 e3 e4 hmo hl0 hll hq'
      unfold dv at KS
      go_wp2_with fail
      refine (KF.out _).mono ?_
      clear KF
      rintro e w7 ⟨vF, vsF, ussF, rfl, hfF, h7⟩
      have rF := IIIK.riii hfF h7
      have hW7 := hWc.call0 h7.out
      clear hfF h7 hWc
      go_wp2_with fail
      refine (KP.out _ _ _ _ rF).mono ?_
      clear KP rF
      rintro e w8 ⟨v8, us8, rfl, hl8, h8⟩
      obtain ⟨a8, c8, hsh⟩ := (h8.rd 0 (e := 48) (v := v8) (us := us8) rfl).sl.sh
      rw [hl8] at hsh
      subst hsh
      have hX8 := h8.newboxF 28 #[.int .i64 Q, .slice a8 T.length c8]
      have b0 := hX8.bcell 0 rfl 0 rfl
      have b1 := hX8.bcell 0 rfl 1 rfl
      have r8 := (hX8.sub (List.sublist_cons_self _ _)).rii hl8
      have hW8 := hW7.call0 hX8.out
      have B0 := Lib.hid b0
      have B1 := Lib.hid b1
      have R8 := Lib.hid r8
      clear h8 hl8 hX8 r8 hW7
      unfold dv
      go_wp2_with fail
      refine (KA.out _).mono ?_
      clear KA b0 b1
      generalize w8.alloc (.cells #[.int .i64 Q, .slice a8 T.length c8] 28) = wC at *
      rintro e w9 ⟨v9, us9, rfl, hl9, h9⟩
      obtain ⟨a9, c9, hsh⟩ := (h9.rd 0 (e := 48) (v := v9) (us := us9) rfl).sl.sh
      rw [hl9] at hsh
      subst hsh
      have hX9 := h9.newboxF 28 #[.int .i64 Q, .slice a9 T.length c9]
      have d0 := hX9.bcell 0 rfl 0 rfl
      have d1 := hX9.bcell 0 rfl 1 rfl
      have r9 := (hX9.sub (List.sublist_cons_self _ _)).rii hl9
      have b0 := cell_keepS hX9.below B0.out
      have b1 := cell_keepS hX9.below B1.out
      have hW9 := hW8.call0 hX9.out
      have KS2 := Lib.hid (KS.out _ _ _ _ _ (hX9.oldII R8.out) r9)
      clear h9 hl9 hX9 r9 hW8 KS
      unfold dv
      go_wp2_with fail
      refine KS2.out.mono ?_
      clear KS2
      rintro e w10 ⟨rfl, h10⟩
      have hW10 := hW9.call0 h10
      go_wp2_with fail
      go_ret
      exact ⟨rfl, hW10⟩
end Go.Proofs.YtdgmaodnkbgolaaGreat
end

section
/- How arguments that come in read. How bytes that come in read. -/
namespace Go.Proofs.YtdgmaodnkbgolaaGreat
set_option linter.unusedSimpArgs false
set_option linter.unusedVariables false
open Go.RowKit


/-- what came in as a slice of integers: nothing, or a row of numbers that fit -/
def IsRow (k : IntKind) (w : World) (a : Option Addr) (len cap : Nat) (zs : List Int) : Prop :=
  (a = none ∧ len = 0 ∧ cap = 0 ∧ zs = []) ∨
  ∃ x, a = some x ∧ len ≤ cap ∧ cap ≤ maxLen ∧ zs.length = cap ∧ (∀ i, i < zs.length → w.cell? (x.add i) = some (.int k (zs.getD i 0))) ∧ ∀ n ∈ zs, (Lit.int k n).wf = true

theorem IsRow.rd {k : IntKind} {w : World} {a : Option Addr} {len cap : Nat} {zs : List Int} (h : IsRow k w a len cap zs) : Rd w (.slice a len cap) ((zs.take len).map (Value.int k)) := by
  rcases h with ⟨rfl, rfl, rfl, rfl⟩ | ⟨x, rfl, h1, h2, h3, h4, h5⟩
  · exact Rd.nil w
  · have hl : ((zs.take len).map (Value.int k)).length = len := by simp; omega
    refine ⟨⟨some x, cap, by rw [hl], by omega, h2, .inr (by simp)⟩, ?_⟩
    intro i u hu
    have hi : i < len := by have := (List.getElem?_eq_some_iff.1 hu).1; omega
    have := h4 i (by omega)
    simp only [List.getElem?_map, List.getElem?_take, hi, if_true] at hu
    rw [List.getElem?_eq_getElem (by omega)] at hu
    simp at hu
    simp only [el]
    rw [this, ← hu]
    simp [List.getD, List.getElem?_eq_getElem (show i < zs.length by omega)]


theorem IsRow.rdB {w : World} {a : Option Addr} {len cap : Nat} {zs : List Int} (h : IsRow .u8 w a len cap zs) : ∃ bs, RdB w (.slice a len cap) bs := by
  refine ⟨(zs.take len).map fun n => UInt8.ofNat n.toNat, ?_⟩
  have h1 := h.rd
  have hw : ∀ n ∈ zs, 0 ≤ n ∧ n ≤ 255 := by
    rcases h with ⟨_, _, _, rfl⟩ | ⟨_, _, _, _, _, _, h5⟩
    · simp
    · intro n hn; have := h5 n hn; simpa [Lit.wf, IntKind.min, IntKind.max, IntKind.signed, IntKind.bits] using this
  unfold RdB bv
  rw [List.map_map]
  rw [List.map_congr_left (g := Value.int .u8)]
  · exact h1
  · intro n hn
    have := hw n (List.mem_of_mem_take hn)
    simp only [Function.comp]
    congr 1
    rw [UInt8.toNat_ofNat']
    omega

end Go.Proofs.YtdgmaodnkbgolaaGreat
end

section
/- FnPlaneSquares holds: for every input the call returns true and leaves its arguments as they are. No condition. -/
namespace Go.Proofs.YtdgmaodnkbgolaaGreat.fnPlaneSquares
set_option linter.unusedSimpArgs false
set_option linter.unusedVariables false
open Go.ChangeShapes Go.WideShapes Go.ChangeAt Go.RowKit
set_option linter.unusedVariables false

theorem own : ownKnob Tryz.prog.godebug = none := by kernel_rfl
theorem laidOut : laidOutB Tryz.prog = true := by kernel_rfl

set_option maxRecDepth 100000 in
theorem lifted (os : Os) (started : os.Started) (H : Type) (enc : TypeId × Value → H) :
    ReturnsInHanded {} Tryz.checked os 3 .any (Rows.fnPlaneSquaresSpec.pre6 enc Tryz.prog Tryz.f3 Rows.fnPlaneSquaresRow.domain false) (Rows.fnPlaneSquaresSpec.post enc Tryz.prog Tryz.f3 false true false false) := by
  refine returnsInHanded_of_change (C := Tryz.checked) own started (by kernel_rfl) Tryz.func3
    (ChangeSpec.witness6 (enc := enc) (C := Tryz.checked) false ⟨#[], #[.slice none 0 0, .slice none 0 0], []⟩ 8 (by kernel_rfl) (by kernel_rfl) (by kernel_rfl) (by kernel_rfl)) ?_
  intro W base args ds gs before hval0 hW hcnd _
  have hval : ∀ (j : Nat) t v, Tryz.f3.params[j]? = some t → args[j]? = some v → Value.okWide Tryz.prog W .any base t v := hval0
  have hW' := hW
  obtain ⟨p, q, hA0, hV, rfl, hfz, hnd⟩ := hW
  have hA : DataW.TrodAll enc Tryz.prog W 0 (fun _ => true) true Tryz.f3.params.toList args.toList ds p := hA0
  rw [Tryz.params3] at hA hval
  obtain ⟨v0, vs0, d0, ds0, p0, q0, hargs, rfl, rfl, h0, r0⟩ := trodAll_cons hA
  obtain ⟨v1, vs1, d1, ds1, p1, q1, rfl, rfl, rfl, h1, r1⟩ := trodAll_cons r0
  obtain ⟨rfl, rfl, rfl⟩ := trodAll_nil r1
  obtain rfl : args = #[v0, v1] := by cases args; simp_all
  obtain ⟨rfl, rfl⟩ := trodVars_none hV
  obtain ⟨a0, len0, cap0, rfl⟩ := okWide_slice Tryz.underlying22 (hval 0 22 v0 rfl rfl)
  have k0 := h0
  have lt0 : ∀ x ∈ p0, x.block < W.heap.size := by obtain ⟨m, hm⟩ := k0; exact DataW.trod_lt m _ _ _ hm
  obtain ⟨bs0, rd0⟩ : ∃ bs, RdB W (.slice a0 len0 cap0) bs := by
    obtain ⟨fuel, hf⟩ := h0
    rcases open_ints Tryz.underlying22 Tryz.underlying5 (by kernel_rfl) hf with ⟨hcs, _⟩ | ⟨x, l, c, zs, hcs, _, hl, hm, hz, _, hcell, hwz⟩
    · simp [Value.cells] at hcs
      obtain ⟨rfl, rfl, rfl⟩ := hcs
      exact IsRow.rdB (zs := []) (.inl ⟨rfl, rfl, rfl, rfl⟩)
    · simp [Value.cells] at hcs
      obtain ⟨rfl, rfl, rfl⟩ := hcs
      exact IsRow.rdB (zs := zs) (.inr ⟨_, rfl, hl, hm, by simpa using hz, hcell, hwz⟩)
  obtain ⟨a1, len1, cap1, rfl⟩ := okWide_slice Tryz.underlying22 (hval 1 22 v1 rfl rfl)
  have k1 := h1
  have lt1 : ∀ x ∈ p1, x.block < W.heap.size := by obtain ⟨m, hm⟩ := k1; exact DataW.trod_lt m _ _ _ hm
  obtain ⟨bs1, rd1⟩ : ∃ bs, RdB W (.slice a1 len1 cap1) bs := by
    obtain ⟨fuel, hf⟩ := h1
    rcases open_ints Tryz.underlying22 Tryz.underlying5 (by kernel_rfl) hf with ⟨hcs, _⟩ | ⟨x, l, c, zs, hcs, _, hl, hm, hz, _, hcell, hwz⟩
    · simp [Value.cells] at hcs
      obtain ⟨rfl, rfl, rfl⟩ := hcs
      exact IsRow.rdB (zs := []) (.inl ⟨rfl, rfl, rfl, rfl⟩)
    · simp [Value.cells] at hcs
      obtain ⟨rfl, rfl, rfl⟩ := hcs
      exact IsRow.rdB (zs := zs) (.inr ⟨_, rfl, hl, hm, by simpa using hz, hcell, hwz⟩)
  clear hA0 hval0
  refine (FnPlaneSquares_law W _ bs0 _ bs1 rd0 rd1).mono fun e W' ⟨he, hst⟩ => ?_
  have bel := hst.below
  subst he
  exact ⟨_, rfl, _, _, _, [], _, [], hW', trodAll_mk1 (shut_bool Tryz.underlying4 _), (trodAll_cons_mk (Below.trod laidOut (by kernel_rfl) (of_decide_eq_true (by kernel_rfl)) k0 bel lt0) (trodAll_cons_mk (Below.trod laidOut (by kernel_rfl) (of_decide_eq_true (by kernel_rfl)) k1 bel lt1) trodAll_mk0)), rfl, bel.frame _, fun h => by cases h⟩

theorem over : Rows.fnPlaneSquaresRow.holds Tryz.pinned (OpenSpec.ofChange Rows.fnPlaneSquaresSpec) :=
  OpenClaim.holds_of_wide 3 Tryz.f3 rfl rfl rfl rfl rfl rfl rfl ⟨rfl, rfl, rfl, rfl, rfl⟩ rfl rfl rfl rfl rfl (by kernel_rfl) Tryz.func3 (by kernel_rfl)
    (of_decide_eq_true (by kernel_rfl)) (by unfold Func.isWrapper; first | (rw [if_pos (by decide +kernel)]; kernel_rfl) | (rw [if_neg (by decide +kernel)]; exact ⟨rfl, rfl⟩))
    (fun os started H enc _ => lifted os started H enc)

theorem proved : Rows.FnPlaneSquaresSaid := over
#print axioms proved
end Go.Proofs.YtdgmaodnkbgolaaGreat.fnPlaneSquares
end
