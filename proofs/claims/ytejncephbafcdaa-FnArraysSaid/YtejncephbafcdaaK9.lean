/- The texts of this claim, run 9: Ar1 Ar2 Arr2 Full2 Ml6 Poly. -/
import Derived.Test.YtejncephbafcdaaK3
import Derived.Test.YtejncephbafcdaaK4
import Derived.Test.YtejncephbafcdaaK5
import Derived.Test.YtejncephbafcdaaK6
import Derived.Test.YtejncephbafcdaaK7
import Derived.Test.YtejncephbafcdaaK8
import Derived.Deep.Cut
section
/- Walks: the reference's squares of a field, lists of them that are drawn. -/
namespace Go.Proofs.Ytejncephbafcdaa
set_option linter.unusedSimpArgs false
set_option linter.unusedVariables false
open Go.RowKit
attribute [local go_sem ↓] Go.wp_at_zero Go.wp_at_succ


set_option maxHeartbeats 8000000 in
set_option maxRecDepth 100000 in
theorem l07Square_c (n m : Nat) (w : World) (h2 : 2 ≤ n) (h10 : n ≤ 10) (hmk : MK n) (hm : m < n) :
    Calls Try.prog 126 #[.int .i64 n, .int .i64 m] w (MakesII w (fsq ((spl n).1 : Nat) (spl n).2 (mkF n) n m)) := by
  have HM := fun W => Lib.hid (l03Make_c n W h2 (by omega) hmk)
  have hfv := hmk.fv (by omega)
  have hpw : (((spl n).1 : Nat) : Int) ^ (spl n).2 = (n : Int) := by rw [← Int.natCast_pow, hmk.pw]
  have hel := fun (j : Nat) (hj : j < n) => (show El ((spl n).1 : Nat) (spl n).2 (j : Int) from ⟨by omega, by rw [hpw]; omega⟩)
  rw [fsq]
  clear hmk
  generalize (spl n).1 = P at *
  generalize (spl n).2 = D at *
  generalize mkF n = F at *
  have p2 := hfv.p2
  have p64 := hfv.p64
  have HZ := fun W => Lib.hid (l06Zero_c n W (by omega))
  have HU := fun g v (b : Nat) W hr hb (hbn : b < n) => Lib.hid (l03Mul_c P D g v F m b W hr hb hfv (show (0 : Int) ≤ m by omega) (by omega) (show (0 : Int) ≤ b by omega) (by omega))
  have HS := fun g v (a : Int) (b : Nat) W hb a0 a1 (hbn : b < n) => Lib.hid (l03Sum_c P D g v F a b 1 W hb hfv a0 a1 (show (0 : Int) ≤ b by omega) (by omega) (by omega) (by omega))
  have HL := Lib.hid (fun x : Nat => (fmul_el hfv.fa (m : Int) (x : Int)).lim hfv)
  have hS0 := St.refl w
  clear hfv hpw hel
  go_enter Try.func126, Try.ntmps126
  go_wp2_with fail
  refine (HM _).out.mono ?_
  rintro e w1 ⟨v1, rfl, h1⟩
  obtain ⟨a1, c1, he1⟩ := (h1.rdI 0 rfl).shp'
  subst he1
  have hS2 := h1.newboxF 138 #[.int .i64 P, .int .i64 D, .slice a1 F.length c1]
  have hr := Lib.hid (hS2.rdI 1 rfl)
  have hb : BoxF (w1.alloc (.cells #[.int .i64 P, .int .i64 D, .slice a1 F.length c1] 138)) w1.heap.size P D (.slice a1 F.length c1) := ⟨hS2.bcell 0 rfl 0 rfl, hS2.bcell 0 rfl 1 rfl, hS2.bcell 0 rfl 2 rfl⟩
  have Hb := Lib.hid hb
  have HW := Lib.hid hS2
  unfold fv
  clear hS0 h1 HM hS2
  go_wp2_with fail
  clear hb
  generalize hw2 : w1.alloc (.cells #[.int .i64 P, .int .i64 D, .slice a1 F.length c1] 138) = w2 at *
  clear hw2
  refine (HZ _).out.mono ?_
  rintro e w3 ⟨o, uo, rfl, hl, hS3⟩
  rw [sqF_len] at hl
  have Hl := Lib.hid hl
  have hS4 : St w2.heap.size w2 w3 (own2 o uo (sqF n fun _ _ => 0) ++ []) := by rw [List.append_nil]; exact hS3
  clear hS3 hl
  go_wp2_with fail
  go_loopw [7, 8, 9] (fun i _ _ wr => ∃ (k : Nat) (S : List (List Int)), k ≤ n ∧ i = .int .i64 k ∧ Hid (FilQ n (fun x y => fsum P D (fmul P D F m x) y 1) k 0 S) ∧ St w2.heap.size w2 wr (own2 o uo S ++ [])) (fun i _ _ _ => n - (intOf i).toNat)
  case atStart => exact ⟨0, _, by omega, rfl, FilQ.start, hS4⟩
  case round =>
    clear hS4
    obtain ⟨k, S, hk, rfl, hI, hS⟩ := hrel
    by_cases hlt : k < n
    · go_wp2_with fail
      refine (HU _ _ k _ (hS.oldI hr.out) (hS.oldF Hb.out) hlt).out.mono ?_
      rintro e w5 ⟨rfl, h5⟩
      have hS5 := hS.call0 h5
      clear hS h5
      go_wp2_with fail
      go_loopw [9] (fun j wr' => ∃ (y : Nat) (S : List (List Int)), y ≤ n ∧ j = .int .i64 y ∧ Hid (FilQ n (fun x y => fsum P D (fmul P D F m x) y 1) k y S) ∧ St w2.heap.size w2 wr' (own2 o uo S ++ [])) (fun j _ => n - (intOf j).toNat)
      case atStart => exact ⟨0, S, by omega, rfl, hI.out, hS5⟩
      case round =>
        clear hI hS5
        obtain ⟨y, S, hy, rfl, hI, hS⟩ := hrel
        by_cases hly : y < n
        · have hsl : S.length = n := hI.out.sqr.len
          have hsa : (xat S k).length = n := hI.out.sqr.row k hlt
          have hlS : uo.length = S.length := by rw [Hl.out, hsl]
          have hR := rii2 hS hlS
          have z0 := hR.cell k (by rw [hsl]; exact hlt)
          have xo := hR.ixe (k : Int) k rfl (by rw [hsl]; exact hlt)
          have xb := (hR.row k (by rw [hsl]; exact hlt)).ixe (y : Int) y rfl (by rw [hsa]; exact hly)
          have hF := HL.out k
          have Hst2 := Lib.hid (hI.out.step hlt hly)
          have Hsl := Lib.hid (And.intro hsl (And.intro hsa hlS))
          clear hR hsl hsa hlS
          go_wp2_with fail
          refine regionG (fun w' => w'.cell? (el o k) = some (vat uo k)) 9 (by kernel_rfl) (cell_dr z0) (fun hHeld => ?_)
          refine takeP (i := 0) (v := ?_) rfl (by kernel_rfl) (fun _ _ _ h => h) (by rfl) ?_ (by assumption) ?_
          case refine_2 => (intro w'; go_simp; first | done | with_reducible rfl)
          try simp only [Act.put, List.setIfInBounds_toArray, List.set_cons_zero, List.set_cons_succ]
          refine takeP (i := 1) (v := ?_) rfl (by kernel_rfl) (fun _ _ _ h => h) (by rfl) ?_ (by assumption) ?_
          case refine_2 => (intro w'; go_simp; first | done | with_reducible rfl)
          try simp only [Act.put, List.setIfInBounds_toArray, List.set_cons_zero, List.set_cons_succ]
          refine takeP (i := 2) (v := ?_) rfl (by kernel_rfl) (fun _ _ _ h => h) (by rfl) ?_ (by assumption) ?_
          case refine_2 => (intro w'; go_simp; first | done | with_reducible rfl)
          try simp only [Act.put, List.setIfInBounds_toArray, List.set_cons_zero, List.set_cons_succ]
          refine takeH (i := 3) [8] (v := ?_) rfl (by kernel_rfl) (fun _ _ _ h => h) (by rfl) ?_ (by assumption) ?_
          case refine_2 => (intro w' hSw; (try dsimp only at hSw); go_simp; first | done | with_reducible rfl)
          try simp only [Act.put, List.setIfInBounds_toArray, List.set_cons_zero, List.set_cons_succ]
          refine takeP (i := 4) (v := ?_) rfl (by kernel_rfl) (fun _ _ _ h => h) (by rfl) ?_ (by assumption) ?_
          case refine_2 => (intro w'; go_simp; first | done | with_reducible rfl)
          try simp only [Act.put, List.setIfInBounds_toArray, List.set_cons_zero, List.set_cons_succ]
          refine takeP (i := 5) (v := ?_) rfl (by kernel_rfl) (fun _ _ _ h => h) (by rfl) ?_ (by assumption) ?_
          case refine_2 => (intro w'; go_simp; first | done | with_reducible rfl)
          try simp only [Act.put, List.setIfInBounds_toArray, List.set_cons_zero, List.set_cons_succ]
          refine takeP (i := 6) (v := ?_) rfl (by kernel_rfl) (fun _ _ _ h => h) (by rfl) ?_ (by assumption) ?_
          case refine_2 => (intro w'; go_simp; first | done | with_reducible rfl)
          try simp only [Act.put, List.setIfInBounds_toArray, List.set_cons_zero, List.set_cons_succ]
          refine readyG (rs := [7]) (by kernel_rfl) (by simp) ?_
          refine AllG.cons rfl (fun K hK => ?_) AllG.nil
          go_simp
          go_at_call 136
          refine (HS _ _ _ y _ (hS.drew.oldF Hb.out) hF.1 hF.2 hly).out.mono ?_
          rintro e w8 ⟨rfl, h8⟩
          have hS8 := hS.drew.call0 h8
          have c3 := (rii2 hS8 Hsl.out.2.2).cell k (by rw [Hsl.out.1]; exact hlt)
          refine hK.out _ _ c3 (fun hHeld => ?_)
          clear hK K h8
          try simp only [Act.put, List.setIfInBounds_toArray, List.set_cons_zero, List.set_cons_succ]
          refine takeP (i := 8) (v := ?_) rfl (by kernel_rfl) (fun _ _ _ h => h) (by rfl) ?_ (by assumption) ?_
          case refine_2 => (intro w'; go_simp; first | done | with_reducible rfl)
          try simp only [Act.put, List.setIfInBounds_toArray, List.set_cons_zero, List.set_cons_succ]
          have hat := hS8.at_row Hsl.out.2.2 (j := k) (by rw [Hsl.out.1]; exact hlt)
          have u1 := hS8.unfrozen (k + 1) hat (j := y) (by rw [iv_len, Hsl.out.2.1]; exact hly)
          have co1 := (hS8.rdI (k + 1) hat).cell y (by rw [Hsl.out.2.1]; exact hly)
          refine readyG (rs := [9]) (by kernel_rfl) (by simp) ?_
          refine AllG.last rfl (by kernel_rfl) (fun K hK => ?_) AllG.nil
          go_simp
          refine hK.out _ _ ?_
          clear hK K
          try simp only [Act.put, List.setIfInBounds_toArray, List.set_cons_zero, List.set_cons_succ]
          refine doneG (by kernel_rfl) ?_ _
          refine NoPanic.normal ?_
          have hS9 := hS8.store (k + 1) hat (j := y) (by rw [iv_len, Hsl.out.2.1]; exact hly) (.int .i64 (fsum P D (fmul P D F m k) y 1))
          rw [iv_set, own2_set Hsl.out.2.2 (by rw [Hsl.out.1]; exact hlt)] at hS9
          clear hS8 hat u1 co1 c3 z0 hS
          go_wp2_with fail
          go_roundw
          case rel => exact ⟨y + 1, _, by omega, by go_num, Hst2.out, hS9⟩
          case measure => simp [intOf]; omega
        · obtain rfl : y = n := by omega
          go_wp2_with fail
          go_roundw
          case rel => exact ⟨k + 1, S, by omega, by go_num, hI.out.next, hS⟩
          case measure => simp [intOf]; omega
    · obtain rfl : k = n := by omega
      rw [List.append_nil, hI.out.done] at hS
      go_wp2_with fail
      go_ret
      exact ⟨o, uo, rfl, by rw [Hl.out]; exact (sqF_len _ _).symm, HW.out.trans hS⟩
/-- a list of squares, in memory of its own -/
def MakesX (w : World) (X : List (List (List Int))) (e : Ending) (w' : World) : Prop := ∃ v vs uss, e = .returned v ∧ Fit3 vs uss X ∧ St w.heap.size w w' (own3 v vs uss X)
theorem fit3_0 : Fit3 [] [] [] := ⟨rfl, rfl, fun k hk => absurd hk (by simp)⟩
set_option maxHeartbeats 4000000 in
set_option maxRecDepth 100000 in
theorem l07Mols_c (n : Nat) (w : World) (h2 : 2 ≤ n) (h10 : n ≤ 10) (hmk : MK n) :
    Calls Try.prog 83 #[.int .i64 n] w (MakesX w (fmL ((spl n).1 : Nat) (spl n).2 (mkF n) n (n - 1))) := by
  have HF := fun (m : Nat) W (h1 : m < n) => Lib.hid (l07Square_c n m W h2 h10 hmk h1)
  generalize (((spl n).1 : Nat) : Int) = p at *
  generalize (spl n).2 = D at *
  generalize mkF n = fs at *
  have HL := fun k => Lib.hid (fmL_len p D fs n k)
  have HS := fun k => Lib.hid (fmL_succ p D fs n k)
  clear hmk
  have hS1 := (St.refl w).new 26 #[] (by simp)
  go_enter Try.func83, Try.ntmps83
  go_wp2_with fail
  go_loopw [3, 4] (fun o m wr => ∃ (k : Nat) (vs : List Value) (uss : List (List Value)), k ≤ n - 1 ∧ m = .int .i64 ((k : Int) + 1) ∧ Hid (Fit3 vs uss (fmL p D fs n k)) ∧ St w.heap.size w wr (own3 o vs uss (fmL p D fs n k))) (fun _ m _ => n - (intOf m).toNat)
  case atStart => exact ⟨0, [], [], by omega, rfl, fit3_0, hS1⟩
  case round =>
    clear hS1
    obtain ⟨k, vs, uss, hk, rfl, hf, hS⟩ := hrel
    by_cases hlt : (k : Int) + 1 < n
    · have hkn : k < n - 1 := by omega
      have Hvl := Lib.hid (show vs.length < 4294967296 by rw [hf.out.1, (HL k).out]; omega)
      have Hs := HS k
      have HFk := fun W => HF (k + 1) W (by omega)
      rw [show ((k + 1 : Nat) : Int) = (k : Int) + 1 from rfl] at HFk
      go_wp2_with fail
      refine (HFk _).out.mono ?_
      rintro e w2 ⟨u, us2, rfl, hl2, h2⟩
      obtain ⟨ua, uc, rfl⟩ := (h2.rd 0 rfl).sl.sh
      have hS2 := hS.call h2
      have Hl2 := Lib.hid hl2
      clear hS h2 hl2
      go_wp2_with (at_builtin; refine appIII hS2 0 rfl Hvl.out rfl _ _ rfl rfl _ rfl rfl ?_; intro v5 w5 hS5)
      have hf5 := Lib.hid (hf.out.snoc (.slice ua us2.length uc) Hl2.out)
      have hS6 := own3_snoc hf.out.1 hf.out.2.1 hS5
      rw [← Hs.out] at hf5 hS6
      go_roundw
      case rel => exact ⟨k + 1, _, _, by omega, by go_num, hf5.out, hS6⟩
      case measure => simp [intOf]; omega
    · obtain rfl : k = n - 1 := by omega
      go_wp2_with fail
      go_ret
      exact ⟨_, vs, uss, rfl, hf.out, hS⟩
/-! ### lists of squares in another order -/
theorem Mols.pick {X Y : List (List (List Int))} (h : Mols X) (s : Nat → Nat) (h1 : 1 ≤ Y.length) (h2 : Y.length ≤ 10) (hs : ∀ t, t < Y.length → s t < X.length ∧ x3at Y t = x3at X (s t)) (hi : ∀ t t', t < t' → t' < Y.length → s t ≠ s t') : Mols Y := by
  refine ⟨h1, h2, fun k hk => by rw [(hs k hk).2]; exact h.lat _ (hs k hk).1, fun k i hik hk => ?_⟩
  rw [(hs k hk).2, (hs i (by omega)).2]
  have hne := hi i k hik hk
  rcases Nat.lt_or_gt_of_ne hne with h' | h'
  · exact h.ort _ _ h' (hs k hk).1
  · rw [orB_symm]; exact h.ort _ _ h' (hs i (by omega)).1
theorem Mols.rot {X : List (List (List Int))} (h : Mols X) {k j : Nat} (hk : k ≤ X.length) (hj : 1 ≤ j) (hj2 : j ≤ X.length) : Mols ((X.drop k ++ X.take k).take j) := by
  have hl : ((X.drop k ++ X.take k).take j).length = j := by simp; omega
  refine h.pick (fun t => if t < X.length - k then k + t else t - (X.length - k)) (by omega) (by have := h.le; omega) (fun t ht => ?_) (fun t t' htt ht' => ?_)
  · rw [hl] at ht
    by_cases e : t < X.length - k
    · rw [if_pos e]
      refine ⟨by omega, ?_⟩
      rw [x3at, x3at, List.getD, List.getD, List.getElem?_take, if_pos ht, List.getElem?_append_left (by simp; omega), List.getElem?_drop]
    · rw [if_neg e]
      refine ⟨by omega, ?_⟩
      rw [x3at, x3at, List.getD, List.getD, List.getElem?_take, if_pos ht, List.getElem?_append_right (by simp; omega), List.getElem?_take, List.length_drop, if_pos (by omega)]
  · rw [hl] at ht'
    intro e
    split at e <;> split at e <;> omega
theorem rows3_append : ∀ {vs : List Value} {uss : List (List Value)} {X : List (List (List Int))} (vs' : List Value) (uss' : List (List Value)) (X' : List (List (List Int))), vs.length = X.length → uss.length = X.length → rows3 (vs ++ vs') (uss ++ uss') (X ++ X') = rows3 vs uss X ++ rows3 vs' uss' X'
  | [], [], [], _, _, _, _, _ => rfl
  | [], _ :: _, [], _, _, _, _, h2 => by simp at h2
  | _ :: _, [], _ :: _, _, _, _, _, h2 => by simp at h2
  | a :: vs, b :: uss, c :: X, vs', uss', X', h1, h2 => by
    simp only [List.cons_append, rows3]
    rw [rows3_append vs' uss' X' (by simpa using h1) (by simpa using h2), List.append_assoc]
theorem rows3_cut {vs : List Value} {uss : List (List Value)} {X : List (List (List Int))} (h1 : vs.length = X.length) (h2 : uss.length = X.length) (k : Nat) : rows3 vs uss X = rows3 (vs.take k) (uss.take k) (X.take k) ++ rows3 (vs.drop k) (uss.drop k) (X.drop k) := by
  rw [← rows3_append _ _ _ (by simp [h1]) (by simp [h2]), List.take_append_drop, List.take_append_drop, List.take_append_drop]
theorem rows3_rot {vs : List Value} {uss : List (List Value)} {X : List (List (List Int))} (h1 : vs.length = X.length) (h2 : uss.length = X.length) (k : Nat) : (rows3 vs uss X).Perm (rows3 (vs.drop k ++ vs.take k) (uss.drop k ++ uss.take k) (X.drop k ++ X.take k)) := by
  rw [rows3_cut h1 h2 k, rows3_append _ _ _ (by simp [h1]) (by simp [h2])]
  exact List.perm_append_comm
theorem rows3_take {vs : List Value} {uss : List (List Value)} {X : List (List (List Int))} (h1 : vs.length = X.length) (h2 : uss.length = X.length) (k : Nat) : (rows3 (vs.take k) (uss.take k) (X.take k)).Sublist (rows3 vs uss X) := by
  rw [rows3_cut h1 h2 k]; exact List.sublist_append_left _ _
theorem vsat_app {α : Type} (d : α) (A B : List α) (k : Nat) : (A ++ B).getD k d = if k < A.length then A.getD k d else B.getD (k - A.length) d := by
  rw [List.getD, List.getD, List.getD]
  split
  · rw [List.getElem?_append_left (by assumption)]
  · rw [List.getElem?_append_right (by omega)]
theorem Fit3.rot {vs : List Value} {uss : List (List Value)} {X : List (List (List Int))} (h : Fit3 vs uss X) {k : Nat} (hk : k ≤ X.length) : Fit3 (vs.drop k ++ vs.take k) (uss.drop k ++ uss.take k) (X.drop k ++ X.take k) := by
  obtain ⟨h1, h2, h3⟩ := h
  refine ⟨by simp [h1], by simp [h2], fun t ht => ?_⟩
  simp only [List.length_append, List.length_drop, List.length_take] at ht
  unfold vsat x3at
  rw [vsat_app, vsat_app, List.length_drop, List.length_drop, h2]
  by_cases e : t < X.length - k
  · rw [if_pos e, if_pos e]
    have := h3 (k + t) (by omega)
    unfold vsat x3at at this
    simp only [List.getD, List.getElem?_drop] at this ⊢
    exact this
  · rw [if_neg e, if_neg e]
    have := h3 (t - (X.length - k)) (by omega)
    unfold vsat x3at at this
    simp only [List.getD, List.getElem?_take, if_pos (show t - (X.length - k) < k by omega)] at this ⊢
    exact this
theorem Fit3.take {vs : List Value} {uss : List (List Value)} {X : List (List (List Int))} (h : Fit3 vs uss X) (k : Nat) : Fit3 (vs.take k) (uss.take k) (X.take k) := by
  obtain ⟨h1, h2, h3⟩ := h
  refine ⟨by simp [h1], by simp [h2], fun t ht => ?_⟩
  rw [List.length_take] at ht
  have := h3 t (by omega)
  unfold vsat x3at at this ⊢
  simp only [List.getD, List.getElem?_take, if_pos (show t < k by omega)] at this ⊢
  exact this
theorem rslIII_lo {w : World} {v : Value} {us : List Value} (h : Rd w v us) (lo : Nat) (h2 : lo ≤ us.length) (W : World) :
    (Instr.slice 24 v (some (.int .i64 (lo : Int))) none none).run Try.prog W = .ok (rsl v lo us.length) W := by
  obtain ⟨⟨a, cap, rfl, hc1, hc2, ha⟩, hcell⟩ := h
  obtain ⟨inf, hinf, hs⟩ := Option.map_eq_some_iff.1 elem_size_a3
  rw [run_slice_l W 24 a _ cap und_elem_a3 .i64 lo (by omega) (by omega)]
  simp [sizeOf, typeInfo, hinf, hs]
  rfl
/-- the squares that are drawn: orthogonal ones -/
def MolsS (w0 : World) (cv : Value) (g K n : Nat) (L : List Ent) (e : Ending) (w' : World) : Prop := ∃ v vs uss X, e = .returned v ∧ Mols X ∧ (x3at X 0).length = n ∧ X.length ≤ n - 1 ∧ Fit3 vs uss X ∧ Src w0 w' cv g K (own3 v vs uss X ++ L)
section
variable {ops : Array Oper} {o : Oper} {a : Act} {K : Act → World → Prop} {Q : Exit → Act → World → Prop} {E : Prop} {B : Nat} {w0 w : World} {L : List Ent}
/-- append of the squares of a slice to an owned row of squares, as a step -/
theorem stepsIII (hS : St B w0 w L) (i : Nat) {v : Value} {us : List Value} (hi : L[i]? = some (row 26 v us)) (vx : Value) (ws : List Value) (hr : Rd w vx ws) (h1 : ∀ u ∈ ws, u.oneCell' = true) (hN : us.length + ws.length ≤ 4294967296) (hg : o.guard = none) (s x : Operand)
    (hop : o.op = .call { callee := .builtin .append, args := #[s, x], argTypes := #[24, 24] }) (hs : a.eval s = v) (hx : a.eval x = vx)
    (hK : ∀ v' w', St B w0 w' (L.set i (row 26 v' (us ++ ws))) → K (a.put o.dst v') w') :
    if Region.wanted o (yielded ops a.tmps) = true then Oper.wp Try.prog o a w K Q else E :=
  step_st_apps hg s x 24 hop 26 (.slice none 0 0) 24 Try.und_isss Try.info_iss rfl hS i hi hs vx hx ws hr h1 (by omega) hN hK
end
set_option maxHeartbeats 8000000 in
set_option maxRecDepth 100000 in
theorem l07DrawMols_c (w0 w : World) (cv : Value) (bs : List UInt8) (g K : Nat) (L : List Ent) (n : Nat) (hb : RdB w0 cv bs) (h : Src w0 w cv g K L) (hK : K < 10000000000) (h2 : 2 ≤ n) (h10 : n ≤ 10) (hmk : MK n) :
    Calls Try.prog 37 #[.pointer (some ⟨g, 0, none⟩), .int .i64 n] w (MolsS w0 cv g (K + 4) n L) := by
  have hfv := hmk.fv (by omega)
  have hpw : (((spl n).1 : Nat) : Int) ^ (spl n).2 = (n : Int) := by rw [← Int.natCast_pow, hmk.pw]
  have HM := Lib.hid (fmL_mols hfv hpw h2 h10)
  have HL := Lib.hid (fmL_len ((spl n).1 : Nat) (spl n).2 (mkF n) n (n - 1))
  have H0 := Lib.hid (fun t (ht : t < n - 1) => (show (x3at (fmL ((spl n).1 : Nat) (spl n).2 (mkF n) n (n - 1)) t).length = n by rw [fmL_at ht, fsq, sqF_len]))
  have HC := Lib.hid (l07Mols_c n w h2 h10 hmk)
  clear hfv hpw hmk
  generalize fmL ((spl n).1 : Nat) (spl n).2 (mkF n) n (n - 1) = X at *
  go_enter Try.func37, Try.ntmps37
  go_wp2_with fail
  refine HC.out.mono ?_
  rintro e w1 ⟨o, vs, uss, rfl, hf, h1⟩
  have h3 : Src w0 w1 cv g K (own3 o vs uss X ++ L) := (h.call h1).perm List.perm_append_comm
  have hln := (h3.st.riii hf).len
  rw [HL.out] at hln
  have Hf := Lib.hid hf
  clear h h1 HC hf
  go_wp2_with fail
  refine (pick_c w0 _ cv bs g _ _ _ hb h3 (by omega)).mono ?_
  rintro e w2 ⟨x, x0, x1, rfl, h4⟩
  obtain ⟨k, rfl⟩ := Int.eq_ofNat_of_zero_le x0
  have hk : k < n - 1 := by omega
  obtain ⟨pp, ss, p0, p1, hS⟩ := h4
  have hR := h3.st.riii Hf.out
  have hlv : vs.length = n - 1 := by rw [Hf.out.1, HL.out]
  have hrd := hS.rd 1 (e := 26) (v := o) (us := vs) rfl
  have i1 := rslIII_lo hrd k (by omega)
  have i2 := rslIII_hi hrd k (by omega)
  have Hone := Lib.hid (fun u (hu : u ∈ vs) => (show u.oneCell' = true by
    obtain ⟨j, hj, rfl⟩ := List.getElem_of_mem hu
    rw [← vat_eq hj]
    exact (hR.row j (by rw [← Hf.out.1]; exact hj)).1.sl.one))
  have z0 : w2.cell? (el o 0) = some (vat vs 0) := Rd.cell hrd (by omega)
  have hS1 := (hS.drew.new 26 #[] (by simp)).perm List.perm_append_comm
  simp only [List.cons_append, List.nil_append] at hS1
  have Hlv := Lib.hid hlv
  have HP := Lib.hid (And.intro p0 p1)
  clear x0 x1 h3 hS p0 p1 hlv hR
  go_wp2_with fail
  go_region_held3 (fun w' => w'.cell? (el o 0) = some (vat vs 0)) (((try dsimp only); (repeat' apply And.intro); all_goals (repeat (first | assumption | exact cell_dr (by assumption) | refine cell_dr ?_ | refine cell_al ?_ | refine cell_sc (by assumption) ?_))))
    (first
    | (refine stepsIII hS1 0 rfl (rsl o k vs.length) ((vs.take vs.length).drop k) (rsl_Rd (hS1.rd 2 (e := 26) (v := o) (us := vs) rfl) (by rw [Hlv.out]; omega) (Nat.le_refl _)) (fun u hu => Hone.out u (List.mem_of_mem_take (List.mem_of_mem_drop hu))) (by simp [Hlv.out]; omega) rfl (.tmp 13) (.tmp 16) rfl (by first | rfl | simp [Act.eval, Act.put]) (by first | rfl | simp [Act.eval, Act.put]) ?_; intro v5 w5 hS5; have d5 : w5.cell? (el o 0) = some (vat vs 0) := Rd.cell (hS5.rd 2 (e := 26) (v := o) (us := vs) rfl) (by rw [Hlv.out]; omega))
    | (refine stepsIII hS5 0 rfl (rsl o 0 k) ((vs.take k).drop 0) (rsl_Rd (hS5.rd 2 (e := 26) (v := o) (us := vs) rfl) (by omega) (by rw [Hlv.out]; omega)) (fun u hu => Hone.out u (List.mem_of_mem_take (List.mem_of_mem_drop hu))) (by simp [Hlv.out]; omega) rfl (.tmp 17) (.tmp 20) rfl (by first | rfl | simp [Act.eval, Act.put]) (by first | rfl | simp [Act.eval, Act.put]) ?_; intro v6 w6 hS6; have d6 : w6.cell? (el o 0) = some (vat vs 0) := Rd.cell (hS6.rd 2 (e := 26) (v := o) (us := vs) rfl) (by rw [Hlv.out]; omega)))
  all_goals
    simp only [List.set_cons_zero, List.nil_append, List.take_length, List.drop_zero] at hS6
    have hS7 : St w0.heap.size w0 w6 (box 101 g [cv, .int .i64 pp, .int .u64 ss] :: (own3 v6 (vs.drop k ++ vs.take k) (uss.drop k ++ uss.take k) (X.drop k ++ X.take k) ++ L)) := by
      have hp := rows3_rot Hf.out.1 Hf.out.2.1 k
      have h1 : (row 26 v6 (vs.drop k ++ vs.take k) :: box 101 g [cv, .int .i64 pp, .int .u64 ss] :: (rows3 vs uss X ++ L)).Sublist (row 26 v6 (vs.drop k ++ vs.take k) :: box 101 g [cv, .int .i64 pp, .int .u64 ss] :: (row 26 o vs :: (rows3 vs uss X ++ L))) := ((List.sublist_cons_self _ _).cons_cons _).cons_cons _
      refine (hS6.sub h1).perm ((List.Perm.swap _ _ _).trans ?_)
      exact (((hp.append_right L).cons _).cons _)
    clear hS6 hS5 hS1 d5 d6 z0
    have hF7 := Lib.hid (Hf.out.rot (k := k) (by rw [HL.out]; omega))
    have hl7 : (X.drop k ++ X.take k).length = n - 1 := by simp [HL.out]; omega
    have hv7 : (vs.drop k ++ vs.take k).length = n - 1 := by rw [hF7.out.1, hl7]
    have hM7 := Lib.hid (fun j (h1 : 1 ≤ j) (h2 : j ≤ n - 1) => HM.out.rot (k := k) (j := j) (by rw [HL.out]; omega) h1 (by rw [HL.out]; exact h2))
    have hx7 := Lib.hid (fun t (ht : t < n - 1) => (show (x3at (X.drop k ++ X.take k) t).length = n by
      by_cases e : t < n - 1 - k
      · rw [x3at, List.getD, List.getElem?_append_left (by simp [HL.out]; omega), List.getElem?_drop]; exact H0.out (k + t) (by omega)
      · rw [x3at, List.getD, List.getElem?_append_right (by simp [HL.out]; omega), List.getElem?_take, List.length_drop, HL.out, if_pos (by omega)]; exact H0.out (t - (n - 1 - k)) (by omega)))
    generalize X.drop k ++ X.take k = Y at *
    generalize vs.drop k ++ vs.take k = ws at *
    generalize uss.drop k ++ uss.take k = wss at *
    have h8 : Src w0 w6 cv g (K + 2) (own3 v6 ws wss Y ++ L) := ⟨pp, ss, HP.out.1, HP.out.2, hS7⟩
    have hR7 := h8.st.riii hF7.out
    have hln7 := hR7.len
    rw [hl7] at hln7
    have Hl7 := Lib.hid (And.intro hl7 hv7)
    clear hS7 hl7 hv7 hR7 hln
    go_wp2_with fail
    refine (pick_c w0 _ cv bs g _ _ _ hb h8 (by omega)).mono ?_
    rintro e w9 ⟨y, y0, y1, rfl, h9⟩
    obtain ⟨j, rfl⟩ := Int.eq_ofNat_of_zero_le y0
    have hj : j < n - 1 := by omega
    obtain ⟨qq, tt, r0, r1, hS9⟩ := h9
    have hsl := rslIII_hi (hS9.rd 1 (e := 26) (v := v6) (us := ws) rfl) (j + 1) (by rw [Hl7.out.2]; omega)
    rw [show ((j + 1 : Nat) : Int) = (j : Int) + 1 from rfl] at hsl
    have hS10 := hS9.shrink 1 (e := 26) (v := v6) (us := ws) rfl (j + 1) (by rw [Hl7.out.2]; omega)
    simp only [List.set_cons_succ, own3, List.cons_append, List.set_cons_zero] at hS10
    have hS11 := hS10.sub (L' := box 101 g [cv, .int .i64 qq, .int .u64 tt] :: (own3 (rsl v6 0 (j + 1)) (ws.take (j + 1)) (wss.take (j + 1)) (Y.take (j + 1)) ++ L)) (((((rows3_take hF7.out.1 hF7.out.2.1 (j + 1)).append_right _).cons_cons _).cons_cons _))
    have HQ := Lib.hid (And.intro r0 r1)
    clear hS9 hS10 y0 y1 r0 r1 h8
    go_wp2_with fail
    go_ret
    exact ⟨_, _, _, _, rfl, hM7.out (j + 1) (by omega) (by omega), by rw [x3at, List.getD, List.getElem?_take, if_pos (by omega)]; exact hx7.out 0 (by omega), by rw [List.length_take, Hl7.out.1]; omega, hF7.out.take (j + 1), qq, tt, HQ.out.1, by have := HQ.out.2; omega, hS11⟩
end Go.Proofs.Ytejncephbafcdaa
end

section
/- Walks: lists of squares and arrays that the reference draws. -/
namespace Go.Proofs.Ytejncephbafcdaa
set_option linter.unusedSimpArgs false
set_option linter.unusedVariables false
open Go.RowKit
attribute [local go_sem ↓] Go.wp_at_zero Go.wp_at_succ


theorem mkq_of {q : Nat} (h : mkOk (q : Int) = true) : MK q := by
  obtain ⟨m, e, _, _, hm⟩ := mkOk_t h
  have : q = m := by omega
  rw [this]; exact hm
theorem mk_small {q : Nat} (h : q = 2 ∨ q = 3 ∨ q = 4 ∨ q = 5 ∨ q = 7 ∨ q = 8 ∨ q = 9) : MK q := by
  refine mkq_of ?_
  rcases h with rfl | rfl | rfl | rfl | rfl | rfl | rfl <;> decide +kernel
theorem Mols.sml {X : List (List (List Int))} (h : Mols X) : Sml X := fun k hk x hx => by
  rw [(h.lat k hk).len x hx]; have := (h.lat k hk).le; omega
def XR (w0 : World) (cv : Value) (g K : Nat) (L : List Ent) (v : Value) (w' : World) : Prop := ∃ vs uss X, Hid (Sml X ∧ X.length ≤ 12 ∧ Fit3 vs uss X) ∧ Src w0 w' cv g K (own3 v vs uss X ++ L)
/-- some list of squares -/
def MakesXS (w : World) (e : Ending) (w' : World) : Prop := ∃ v vs uss X, e = .returned v ∧ Sml X ∧ RIII w' v vs uss X ∧ St w.heap.size w w' []
theorem lit000 (w : World) : ∃ vs uss, Fit3 vs uss [[[0]]] ∧ St w.heap.size w (((w.alloc (.cells #[.int .i64 0] 2)).alloc (.cells #[.slice (some ⟨w.heap.size, 0, none⟩) 1 1] 52)).alloc (.cells #[.slice (some ⟨w.heap.size + 1, 0, none⟩) 1 1] 26)) (own3 (.slice (some ⟨w.heap.size + 1 + 1, 0, none⟩) 1 1) vs uss [[[0]]]) := by
  have t1 := (St.refl w).new 2 #[.int .i64 0] (by simp [maxLen])
  have t2 := t1.new 52 #[.slice (some ⟨w.heap.size, 0, none⟩) 1 1] (by simp [maxLen])
  have t3 := t2.new 26 #[.slice (some ⟨w.heap.size + 1, 0, none⟩) 1 1] (by simp [maxLen])
  have e1 : (w.alloc (.cells #[.int .i64 0] 2)).heap.size = w.heap.size + 1 := Array.size_push ..
  have e2 : ((w.alloc (.cells #[.int .i64 0] 2)).alloc (.cells #[.slice (some ⟨w.heap.size, 0, none⟩) 1 1] 52)).heap.size = w.heap.size + 1 + 1 := by rw [← e1]; exact Array.size_push ..
  rw [e2, e1] at t3
  refine ⟨[.slice (some ⟨w.heap.size + 1, 0, none⟩) 1 1], [[.slice (some ⟨w.heap.size, 0, none⟩) 1 1]], ⟨rfl, rfl, fun k hk => ?_⟩, t3.perm ?_⟩
  · match k, hk with
    | 0, _ => rfl
  · exact (List.reverse_perm [_, _, _]).symm
set_option maxHeartbeats 8000000 in
set_option maxRecDepth 100000 in
theorem DrawArrayOfMols_c (w : World) (cv : Value) (bs : List UInt8) (hb : RdB w cv bs) : Calls Try.prog 8 #[cv] w (MakesXS w) := by
  go_enter Try.func8, Try.ntmps8
  go_wp2_with fail
  refine (l00From_c w cv bs hb).mono ?_
  rintro e w1 ⟨rfl, h1⟩
  go_wp2_with fail
  refine (among_lit [2, 3, 4, 5, 7, 8, 9] w _ cv bs _ _ _ hb h1 (by simp) (by omega)).mono ?_
  rintro e w2 ⟨z, hz, rfl, h2⟩
  have hz2 : ∃ q : Nat, z = q ∧ (q = 2 ∨ q = 3 ∨ q = 4 ∨ q = 5 ∨ q = 7 ∨ q = 8 ∨ q = 9) := by
    simp only [List.mem_cons, List.not_mem_nil, or_false] at hz
    refine ⟨z.toNat, by omega, by omega⟩
  obtain ⟨q, rfl, hq⟩ := hz2
  have hM := Lib.hid (mk_small hq)
  have q2 : 2 ≤ q := by omega
  have q10 : q ≤ 9 := by omega
  clear h1 hz hq
  go_wp2_with fail
  refine (l07DrawMols_c w _ cv bs _ _ _ q hb h2 (by omega) q2 (by omega) hM.out).mono ?_
  rintro e w3 ⟨v, vs, uss, X, rfl, hX, _, _, hf, h3⟩
  have HX := Lib.hid (And.intro hX.sml (And.intro (show X.length ≤ 10 from hX.le) hf))
  clear h2 hX hf
  go_wp2_with fail
  refine (one_c w _ cv bs _ _ _ 6 hb h3 (by omega)).mono ?_
  rintro e w4 ⟨b, rfl, h4⟩
  clear h3
  go_upto_if 13 with fail
  go_cut [4] from 5 (fun s4 w' => XR w cv w.heap.size 400 [] s4 w')
  case first =>
    cases b
    · go_wp2_with fail
      go_meet
      case rel => exact ⟨vs, uss, X, ⟨HX.out.1, by have := HX.out.2.1; omega, HX.out.2.2⟩, h4.mono (by omega)⟩
    · go_wp2_with fail
      refine (l06Draw_c w _ cv bs _ _ _ hb h4 (by omega)).mono ?_
      rintro e w5 ⟨u, us, A, rfl, hA, hl, h5⟩
      obtain ⟨pp, ss, p0, p1, hS⟩ := h5
      obtain ⟨ua, uc, hue⟩ := (hS.rd 1 (e := 52) (v := u) (us := us) rfl).sl.sh
      subst hue
      have hS1 : St w.heap.size w w5 ((own3 v vs uss X ++ own2 (.slice ua us.length uc) us A) ++ [box 101 w.heap.size [cv, .int .i64 pp, .int .u64 ss]]) := hS.perm (by (try simp only [own2, List.cons_append, List.nil_append, List.append_nil]); classical exact List.perm_iff_count.2 (fun a => by simp only [List.cons_append, List.nil_append, List.append_nil, List.count_append, List.count_cons, List.count_nil] <;> omega))
      have HP := Lib.hid (And.intro p0 p1)
      have HA := Lib.hid (And.intro hA hl)
      have hvl : vs.length < 4294967296 := by rw [HX.out.2.2.1]; have := HX.out.2.1; omega
      clear hS h4 p0 p1 hA hl
      go_wp2_with (at_builtin; refine appIII hS1 0 rfl hvl rfl _ _ rfl rfl _ rfl rfl ?_; intro v6 w6 hS6)
      simp only [own3, List.cons_append, List.set_cons_zero] at hS6
      have hS7 : St w.heap.size w w6 (box 101 w.heap.size [cv, .int .i64 pp, .int .u64 ss] :: (own3 v6 (vs ++ [.slice ua us.length uc]) (uss ++ [us]) (X ++ [A]) ++ [])) := by
        rw [own3, rows3_app _ _ _ HX.out.2.2.1 HX.out.2.2.2.1]
        exact hS6.perm (by (try simp only [own2, List.cons_append, List.nil_append, List.append_nil]); classical exact List.perm_iff_count.2 (fun a => by simp only [List.cons_append, List.nil_append, List.append_nil, List.count_append, List.count_cons, List.count_nil] <;> omega))
      clear hS6 hS1
      go_meet
      case rel =>
        refine ⟨_, _, _, ⟨fun k hk x hx => ?_, by have := HX.out.2.1; simp; omega, HX.out.2.2.snoc _ HA.out.2⟩, pp, ss, HP.out.1, by have := HP.out.2; omega, hS7⟩
        by_cases e : k < X.length
        · have e2 : x3at (X ++ [A]) k = x3at X k := by rw [x3at, x3at, List.getD, List.getD, List.getElem?_append_left e]
          rw [e2] at hx ⊢; exact HX.out.1 k e x hx
        · have hk' : k = X.length := by simp at hk; omega
          have e2 : x3at (X ++ [A]) k = A := by rw [hk', x3at, List.getD, List.getElem?_append_right (by omega), Nat.sub_self]; rfl
          rw [e2] at hx ⊢; have := HA.out.1.row x hx; omega
  case rest =>
    obtain ⟨vs, uss, X, HX, h5⟩ := hcut
    clear h4
    go_wp2_with fail
    refine (one_c w _ cv bs _ _ _ 9 hb h5 (by omega)).mono ?_
    rintro e w5 ⟨b, rfl, h6⟩
    clear h5
    cases b
    · go_wp2_with fail
      go_ret
      exact ⟨_, vs, uss, X, rfl, HX.out.1, h6.st.riii HX.out.2.2, h6.st.out⟩
    · obtain ⟨ws, wss, hf, hl⟩ := lit000 w5
      have Hf := Lib.hid hf
      have HL := Lib.hid hl
      clear hf hl
      go_wp2_with fail
      go_ret
      refine ⟨_, ws, wss, [[[0]]], rfl, fun k hk x hx => ?_, ?_, (h6.call HL.out).st.out⟩
      · match k, hk with
        | 0, _ =>
          match x, hx with
          | 0, _ => decide
      · have := HL.out
        rw [← List.append_nil (own3 _ _ _ _)] at this
        exact this.riii Hf.out
end Go.Proofs.Ytejncephbafcdaa
end

section
/- Walks: arrays by value. Walks: valid arrays, equal arrays. -/
namespace Go.Proofs.Ytejncephbafcdaa
set_option linter.unusedSimpArgs false
set_option linter.unusedVariables false
open Go.RowKit


/-- an array as a value -/
def av (lv co : Int) (v : Value) : Value := .agg #[.int .i64 lv, .int .i64 co, v]

def shapeB (lv co : Int) : Bool := inB lv 2 16 && inB co 1 8
def rowOk (lv co : Int) (xs : List Int) : Bool := decide ((xs.length : Int) = co) && !anyP (fun x => !inB x 0 (lv - 1)) xs
def okA (lv co : Int) (xss : List (List Int)) : Bool := shapeB lv co && decide (xss.length ≤ 256) && xss.all (rowOk lv co)

theorem isShape_c (lv co : Int) (w : World) : Calls Try.prog 45 #[.int .i64 lv, .int .i64 co] w fun e w' => e = .returned (.bool (shapeB lv co)) ∧ w = w' := by
  unfold shapeB
  cases h1 : inB lv 2 16
  · go_enter Try.func45, Try.ntmps45
    go_wp2_with fail
    refine (within_c _ _ _ _).mono ?_
    rintro e w1 ⟨rfl, rfl⟩
    go_wp2_with fail
    go_ret
    exact ⟨rfl, rfl⟩
  · go_enter Try.func45, Try.ntmps45
    go_wp2_with (go_at_call 43; refine (within_c _ _ _ _).mono ?_; rintro e w1 ⟨rfl, rfl⟩)
    go_ret
    exact ⟨ret_bool (by simp), rfl⟩
theorem l16Shape_c (lv co : Int) (w : World) : Calls Try.prog 138 #[.int .i64 lv, .int .i64 co] w fun e w' => e = .returned (.bool (shapeB lv co)) ∧ w = w' := by
  unfold shapeB
  cases h1 : inB lv 2 16
  · go_enter Try.func138, Try.ntmps138
    go_wp2_with fail
    refine (l00In_c _ _ _ _).mono ?_
    rintro e w1 ⟨rfl, rfl⟩
    go_wp2_with fail
    go_ret
    exact ⟨rfl, rfl⟩
  · go_enter Try.func138, Try.ntmps138
    go_wp2_with (go_at_call 68; refine (l00In_c _ _ _ _).mono ?_; rintro e w1 ⟨rfl, rfl⟩)
    go_ret
    exact ⟨ret_bool (by simp), rfl⟩

/-- a block that holds an array -/
def BoxA (w : World) (g : Nat) (lv co : Int) (v : Value) : Prop :=
  w.cell? ⟨g, 0, none⟩ = some (.int .i64 lv) ∧ w.cell? ⟨g, 1, none⟩ = some (.int .i64 co) ∧ w.cell? ⟨g, 2, none⟩ = some v
theorem cell_keep {w w' : World} (hb : Below w.heap.size w w') {p : Addr} {u : Value} (h : w.cell? p = some u) : w'.cell? p = some u := by
  rw [hb.cell (World.block_lt_of_cell? _ _ h)]; exact h
theorem BoxA.keep {w w' : World} {g : Nat} {lv co : Int} {v : Value} (h : BoxA w g lv co v) (hb : Below w.heap.size w w') : BoxA w' g lv co v :=
  ⟨cell_keep hb h.1, cell_keep hb h.2.1, cell_keep hb h.2.2⟩
theorem St.oldBox {w0 w : World} {L : List Ent} {g : Nat} {lv co : Int} {v : Value} (h : St w0.heap.size w0 w L) (hr : BoxA w0 g lv co v) : BoxA w g lv co v := hr.keep h.below

theorem valid1_c (x lv co : Int) (g : Nat) (v : Value) (w : World) (hb : BoxA w g lv co v) (hl : inB lv 2 16 = true) :
    Calls Try.prog 48 #[.int .i64 x, .pointer (some ⟨g, 0, none⟩)] w (GivesB w (!inB x 0 (lv - 1))) := by
  have hb0 := hb.1
  have hl2 : 2 ≤ lv ∧ lv ≤ 16 := by simpa [inB] using hl
  obtain ⟨l1, l2⟩ := hl2
  go_enter Try.func48, Try.ntmps48
  go_wp2_with fail
  refine (within_c _ _ _ _).mono ?_
  rintro e w1 ⟨rfl, rfl⟩
  go_wp2_with fail
  go_ret
  exact ⟨rfl, St.refl w⟩

theorem all_drop {xss : List (List Int)} {k : Nat} (hk : k < xss.length) (f : List Int → Bool) : (xss.drop k).all f = (f (xat xss k) && (xss.drop (k + 1)).all f) := by
  rw [drop_xat hk]; rfl

set_option maxHeartbeats 2000000 in
set_option maxRecDepth 100000 in
theorem ValidArray_c (lv co : Int) (v : Value) (us : List Value) (xss : List (List Int)) (w : World) (hv : RII w v us xss) :
    Calls Try.prog 11 #[av lv co v] w (GivesB w (okA lv co xss)) := by
  have hS1 := (St.refl w).newbox 28 #[.int .i64 lv, .int .i64 co, v]
  have hln := hv.len
  have hix := hv.ix
  unfold av
  cases hsh : shapeB lv co
  · go_enter Try.func11, Try.ntmps11
    go_wp2_with fail
    refine (isShape_c _ _ _).mono ?_
    rw [hsh]
    rintro e w1 ⟨rfl, rfl⟩
    go_wp2_with fail
    go_ret
    exact ⟨ret_bool (by simp [okA, hsh]), hS1.out⟩
  · have Hsh := Lib.hid hsh
    clear hsh
    by_cases hlen : xss.length ≤ 256
    · go_enter Try.func11, Try.ntmps11
      go_wp2_with fail
      refine (isShape_c _ _ _).mono ?_
      rw [Hsh.out]
      rintro e w1 ⟨rfl, rfl⟩
      have hcf := callFunc_go Try.func48 (by kernel_rfl) (by kernel_rfl)
      have hlv : inB lv 2 16 = true := by have := Hsh.out; unfold shapeB at this; revert this; cases inB lv 2 16 <;> simp
      have H0 := Lib.hid (show okA lv co xss = xss.all (rowOk lv co) by rw [okA, Hsh.out, decide_eq_true hlen]; rfl)
      have hco := Lib.hid hlv
      clear hlv
      have Hcf := Lib.hid hcf
      clear hcf
      go_wp2_with fail
      go_loopw [4, 20] (fun _ i wr => ∃ k : Nat, k ≤ xss.length ∧ i = .int .i64 k ∧ Hid (okA lv co xss = (xss.drop k).all (rowOk lv co)) ∧ St w.heap.size w wr [box 28 w.heap.size [.int .i64 lv, .int .i64 co, v]]) (fun _ i _ => xss.length - (intOf i).toNat)
      case atStart => exact ⟨0, by omega, rfl, H0, hS1⟩
      case round =>
        obtain ⟨k, hk, rfl, hI, hS⟩ := hrel
        by_cases hlt : k < xss.length
        · have hck := (hS.oldII hv).cell k hlt
          have hd := Lib.hid (all_drop hlt (rowOk lv co))
          have hq1 := fun s : SS w.heap.size w [box 28 w.heap.size [.int .i64 lv, .int .i64 co, v]] => s.st.bcell 0 rfl 1 rfl
          have hmf : ∀ (fn : Fn) (first cap : Array Value) (w : World), (Instr.makeFunc fn first cap).run Try.prog w = .ok (.func fn first cap) w := fun _ _ _ _ => rfl
          have hsz : ∀ s : SS w.heap.size w [box 28 w.heap.size [.int .i64 lv, .int .i64 co, v]], RdI s.w (vat us k) (xat xss k) := fun s => (s.st.oldII hv).row k hlt
          have Hsz := Lib.hid hsz
          clear hsz
          have hcall : ∀ s : SS w.heap.size w [box 28 w.heap.size [.int .i64 lv, .int .i64 co, v]], Calls Try.prog 47 #[vat us k, .func (.func 48) #[] #[.pointer (some ⟨w.heap.size, 0, none⟩)]] s.w (GivesB s.w (anyP (fun x => !inB x 0 (lv - 1)) (xat xss k))) := fun s =>
            ContainsFunc_c _ #[.pointer (some ⟨w.heap.size, 0, none⟩)] (fun x => !inB x 0 (lv - 1)) _ _ _ (Hsz.out s) Hcf.out (fun x W hW _ =>
              valid1_c x lv co w.heap.size v W (hW.oldBox ⟨s.st.bcell 0 rfl 0 rfl, s.st.bcell 0 rfl 1 rfl, s.st.bcell 0 rfl 2 rfl⟩) hco.out)
          have Hcall := Lib.hid hcall
          clear hcall
          by_cases h1 : ((xat xss k).length : Int) = co
          · have f1 := ne_f h1
            have H1 := Lib.hid h1; clear h1
            cases h2 : anyP (fun x => !inB x 0 (lv - 1)) (xat xss k)
            · have H2 := Lib.hid h2
              go_wp2_with fail
              have hne : Nonempty (SS _ _ _) := ⟨⟨_, hS⟩⟩
              refine wp_region_st (by kernel_rfl) (by kernel_rfl) hS ?_
              repeat (go_big_quiet_step ((first | (go_at_call 46; exact st_quiet0 (size_c _ _ _ (Hsz.out _))) | (go_at_call 47; exact st_quiet (Hcall.out _)))))
              refine wpQuiet_nil ?_
              rintro _ ⟨s2, rfl⟩
              have hS2 := s2.st
              generalize s2.w = w2 at hS2 ⊢
              rw [h2]
              clear h2
              go_wp2_with fail
              go_roundw
              case rel => exact ⟨k + 1, by omega, by go_num, by rw [Hid, hI.out, hd.out, rowOk, H2.out, decide_eq_true H1.out]; simp, hS2⟩
              case measure => simp [intOf]; omega
            · have H2 := Lib.hid h2
              go_wp2_with fail
              have hne : Nonempty (SS _ _ _) := ⟨⟨_, hS⟩⟩
              refine wp_region_st (by kernel_rfl) (by kernel_rfl) hS ?_
              repeat (go_big_quiet_step ((first | (go_at_call 46; exact st_quiet0 (size_c _ _ _ (Hsz.out _))) | (go_at_call 47; exact st_quiet (Hcall.out _)))))
              refine wpQuiet_nil ?_
              rintro _ ⟨s2, rfl⟩
              have hS2 := s2.st
              generalize s2.w = w2 at hS2 ⊢
              rw [h2]
              clear h2
              go_wp2_with fail
              go_ret
              exact ⟨ret_bool (by rw [hI.out, hd.out, rowOk, H2.out]; simp), hS2.out⟩
          · have f1 := ne_t h1
            have H1 := Lib.hid h1; clear h1
            go_wp2_with fail
            have hne : Nonempty (SS _ _ _) := ⟨⟨_, hS⟩⟩
            refine wp_region_st (by kernel_rfl) (by kernel_rfl) hS ?_
            repeat (go_big_quiet_step ((first | (go_at_call 46; exact st_quiet0 (size_c _ _ _ (Hsz.out _))) | (go_at_call 47; exact st_quiet (Hcall.out _)))))
            refine wpQuiet_nil ?_
            rintro _ ⟨s2, rfl⟩
            have hS2 := s2.st
            generalize s2.w = w2 at hS2 ⊢
            go_wp2_with fail
            go_ret
            exact ⟨ret_bool (by rw [hI.out, hd.out, rowOk, decide_eq_false H1.out]; simp), hS2.out⟩
        · go_wp2_with fail
          go_ret
          exact ⟨ret_bool (by rw [hI.out, List.drop_of_length_le (by omega)]; rfl), hS.out⟩
    · go_enter Try.func11, Try.ntmps11
      go_wp2_with fail
      refine (isShape_c _ _ _).mono ?_
      rw [Hsh.out]
      rintro e w1 ⟨rfl, rfl⟩
      have hlen' : 256 < xss.length := by omega
      go_wp2_with fail
      go_ret
      exact ⟨ret_bool (by rw [okA, decide_eq_false (by omega)]; simp), hS1.out⟩

end Go.Proofs.Ytejncephbafcdaa
end

section
/- Walks: all rows. Walks: FullArray of both sides. -/
namespace Go.Proofs.Ytejncephbafcdaa
set_option linter.unusedSimpArgs false
set_option linter.unusedVariables false
open Go.RowKit


set_option maxHeartbeats 1000000 in
set_option maxRecDepth 100000 in
theorem l16Count_c (base e : Int) (w : World) (hb : 2 ≤ base) (hb2 : base ≤ 65536) (he : 0 ≤ e) (he2 : e ≤ 1073741824) :
    Calls Try.prog 96 #[.int .i64 base, .int .i64 e] w fun r w' => r = .returned (.int .i64 (cnt base e.toNat 1)) ∧ w = w' := by
  go_enter Try.func96, Try.ntmps96
  go_wp2_with fail
  go_loopw [5, 6] (fun pp ii wr => ∃ (k : Nat) (p : Int), ii = .int .i64 k ∧ (k : Int) ≤ e ∧ pp = .int .i64 p ∧ 1 ≤ p ∧ p ≤ 256 ∧ Hid (cnt base e.toNat 1 = cnt base (e.toNat - k) p) ∧ wr = w) (fun _ ii _ => (e - intOf ii).toNat)
  case atStart => exact ⟨0, 1, rfl, by omega, rfl, by omega, by omega, rfl, rfl⟩
  case round =>
    obtain ⟨k, p, rfl, hk, rfl, hp, hp2, hI, rfl⟩ := hrel
    by_cases h1 : (k : Int) < e
    · have hm1 : p * base ≤ 256 * 65536 := Int.mul_le_mul hp2 hb2 (by omega) (by omega)
      have hm0 : 1 ≤ p * base := by have := Int.mul_le_mul hp (show (1 : Int) ≤ base by omega) (by omega) (by omega); omega
      have hst := Lib.hid (show e.toNat - k = (e.toNat - (k + 1)) + 1 by omega)
      by_cases h2 : p * base > 256
      · go_wp2_with fail
        go_ret
        exact ⟨ret_i64 (by rw [hI.out, hst.out]; simp only [cnt, if_pos h2]), rfl⟩
      · go_wp2_with fail
        go_roundw
        case rel =>
          refine ⟨k + 1, p * base, by go_num, by omega, rfl, hm0, by omega, ?_, by first | rfl | trivial⟩
          unfold Hid
          rw [hI.out, hst.out]
          simp only [cnt, if_neg h2]
        case measure => simp [intOf]; omega
    · go_wp2_with fail
      go_ret
      exact ⟨ret_i64 (by rw [hI.out, show e.toNat - k = 0 by omega]; rfl), rfl⟩

/-- what FullArray gives -/
structure AV where
  lv : Int
  co : Int
  rows : List (List Int)
def noA : AV := ⟨0, 0, []⟩
/-- it hands over an array of its own, and a code -/
def MakesA (w : World) (A : AV) (c : Int) (e : Ending) (w' : World) : Prop := ∃ v us, e = .returned (.tuple #[av A.lv A.co v, .int .i64 c]) ∧ us.length = A.rows.length ∧ St w.heap.size w w' (own2 v us A.rows)
def fullRows (lv : Int) (m : Nat) (n : Nat) : List (List Int) := (List.range n).map fun (k : Nat) => digs lv m k
def fullA (lv co : Int) : AV := if shapeB lv co = true then (if pu lv 256 co.toNat 1 > 256 then noA else ⟨lv, co, fullRows lv co.toNat (pu lv 256 co.toNat 1).toNat⟩) else noA
def fullC (lv co : Int) : Int := if shapeB lv co = true then (if pu lv 256 co.toNat 1 > 256 then 5 else 0) else 2
theorem shapeB_t {lv co : Int} (h : shapeB lv co = true) : 2 ≤ lv ∧ lv ≤ 16 ∧ 1 ≤ co ∧ co ≤ 8 := by
  simp [shapeB, inB] at h; omega
theorem St.nilrow {B : Nat} {w0 w : World} {L : List Ent} (h : St B w0 w L) (e : TypeId) : St B w0 w (L ++ [row e (.slice none 0 0) []]) :=
  h.add ⟨rfl, rfl, rfl, Nat.le_refl _, fun _ _ _ => rfl⟩ _ (.inr (.inl ⟨rfl, rfl, rfl⟩)) (fun k hk => by simp [bk, row] at hk)
theorem fullRows_succ (lv : Int) (m n : Nat) : fullRows lv m (n + 1) = fullRows lv m n ++ [digs lv m n] := by simp [fullRows, List.range_succ]
theorem fullRows_len (lv : Int) (m n : Nat) : (fullRows lv m n).length = n := by simp [fullRows]


theorem MakesA.no {w w' : World} {A : AV} {c c' : Int} {L : List Ent} (hA : A = noA) (hc : c = c') (h : St w.heap.size w w' L) :
    MakesA w A c (.returned (.tuple #[.agg #[.int .i64 0, .int .i64 0, .slice none 0 0], .int .i64 c'])) w' := by
  subst hA; subst hc
  exact ⟨.slice none 0 0, [], rfl, rfl, (h.out).nilrow _⟩
theorem MakesA.yes {w w' : World} {A : AV} {c c' : Int} {lv co : Int} {v : Value} {us : List Value} {xss : List (List Int)} {L : List Ent} (hA : A = ⟨lv, co, xss⟩) (hc : c = c') (hl : us.length = xss.length) (hs : (own2 v us xss).Sublist L) (h : St w.heap.size w w' L) :
    MakesA w A c (.returned (.tuple #[.agg #[.int .i64 lv, .int .i64 co, v], .int .i64 c'])) w' := by
  subst hA; subst hc
  exact ⟨v, us, rfl, hl, h.sub hs⟩

set_option maxHeartbeats 4000000 in
set_option maxRecDepth 100000 in
theorem sFullArray_c (lv co : Int) (w : World) : Calls Try.prog 97 #[.int .i64 lv, .int .i64 co] w (MakesA w (fullA lv co) (fullC lv co)) := by
  have hS0 := (St.refl w).newboxF 28 #[.int .i64 0, .int .i64 0, .slice none 0 0]
  have b0 := hS0.bcell 0 rfl 0 rfl
  have b1 := hS0.bcell 0 rfl 1 rfl
  have b2 := hS0.bcell 0 rfl 2 rfl
  by_cases hs : shapeB lv co = true
  · obtain ⟨h1, h2, h3, h4⟩ := shapeB_t hs
    have Hs := Lib.hid hs; clear hs
    by_cases hp : pu lv 256 co.toNat 1 > 256
    · go_enter Try.func97, Try.ntmps97
      go_wp2_with fail
      refine (l16Shape_c lv co _).mono ?_
      rw [Hs.out]
      rintro e w1 ⟨rfl, rfl⟩
      go_wp2_with fail
      refine (l16Count_c lv co _ h1 (by omega) (by omega) (by omega)).mono ?_
      rw [cnt_pu _ _ (by omega), if_pos hp]
      rintro e w1 ⟨rfl, rfl⟩
      go_wp2_with fail
      refine bodyPost_ret (v := .tuple #[.agg #[.int .i64 0, .int .i64 0, .slice none 0 0], .int .i64 5]) (by simp [results, Try.results97, go_sem, b0, b1, b2]) rfl ?_
      exact MakesA.no (by rw [fullA, if_pos Hs.out, if_pos hp]) (by rw [fullC, if_pos Hs.out, if_pos hp]) hS0
    · have hp0 : 0 ≤ pu lv 256 co.toNat 1 := by
        have := pu_pos (base := lv) (lim := 256) (by omega) co.toNat (p := 1) (by omega); omega
      obtain ⟨n, hn⟩ : ∃ n : Nat, pu lv 256 co.toNat 1 = n := ⟨(pu lv 256 co.toNat 1).toNat, by omega⟩
      have Hn := Lib.hid hn
      have hn2 : n ≤ 256 := by omega
      obtain ⟨m, rfl⟩ : ∃ m : Nat, co = m := ⟨co.toNat, by omega⟩
      have Hp := Lib.hid hp; clear hp hp0 hn
      go_enter Try.func97, Try.ntmps97
      go_wp2_with fail
      refine (l16Shape_c lv m _).mono ?_
      rw [Hs.out]
      rintro e w1 ⟨rfl, rfl⟩
      go_wp2_with fail
      refine (l16Count_c lv m _ h1 (by omega) (by omega) (by omega)).mono ?_
      rw [cnt_pu _ _ (by omega), if_neg (by have := Hp.out; omega), Hn.out]
      rintro e w1 ⟨rfl, rfl⟩
      have hS1 := (hS0.new 52 #[] (by simp)).newboxF 28 #[.int .i64 lv, .int .i64 m, .slice (some ⟨w.heap.size + 1, 0, none⟩) 0 0]
      simp only [World.size_alloc, List.cons_append, List.nil_append] at hS1
      clear b0 b1 b2
      go_wp2_with fail
      go_loopw [8] (fun i wr => ∃ (k : Nat) (a : Option Addr) (c : Nat) (us : List Value), k ≤ n ∧ i = .int .i64 k ∧ Hid (us.length = k) ∧ St w.heap.size w wr (box 28 (w.heap.size + 2) [.int .i64 lv, .int .i64 m, .slice a k c] :: box 28 w.heap.size [.int .i64 0, .int .i64 0, .slice none 0 0] :: own2 (.slice a k c) us (fullRows lv m k))) (fun i _ => n - (intOf i).toNat)
      case atStart => exact ⟨0, _, 0, [], by omega, rfl, rfl, hS1⟩
      case round =>
        obtain ⟨k, a, c, us, hk, rfl, hl, hS⟩ := hrel
        by_cases hlt : k < n
        · have b2 := hS.bcell 0 rfl 2 rfl
          have b2' := hS.drew.bcell 0 rfl 2 rfl
          go_wp2_with fail
          go_region_law (first
            | (refine stepII hS3 2 rfl (by rw [hl.out]; omega) rfl (.tmp 30) (.tmp 35) rfl (by simp [Act.eval, Act.put]) _ hsl.one (by simp [Act.eval, Act.put]) ?_; intro v' w4 hS4; obtain ⟨va, vc, hv'⟩ := (hS4.rd 2 rfl).sl.sh; rw [List.length_append, hl.out, List.length_singleton] at hv'; subst hv'; have d2 := hS4.bcell 0 rfl 2 rfl; have f2 := hS4.bfree 0 rfl 2)
            | (go_simp; go_at_call 135; refine (l16Digits_c k lv m _ (by omega) (by omega) (by omega) (by omega) (by omega)).mono ?_; rintro e w3 ⟨u, rfl, h3⟩; have hsl := (h3.rdI 0 rfl).sl; obtain ⟨ua, uc, hu⟩ := hsl.sh; rw [iv_len, digs_len] at hu; subst hu; have hS3 := hS.drew.call h3; have b3 := hS3.bcell 0 rfl 2 rfl; have d3 := (hS3.alloc' (.cells #[.slice ua m uc] 52)).bcell 0 rfl 2 rfl))
          all_goals
            go_wp2_with fail
            go_roundw
            case rel =>
              refine ⟨k + 1, va, vc, us ++ [.slice ua m uc], by omega, by go_num, by simp [Hid, hl.out], ?_⟩
              rw [fullRows_succ, own2, rowsI_app (by rw [hl.out, fullRows_len])]
              exact hS4.bstore 0 rfl 2 _
            case measure => simp [intOf]; omega
        · obtain rfl : k = n := by omega
          have b0 := hS.bcell 0 rfl 0 rfl
          have b1 := hS.bcell 0 rfl 1 rfl
          have b2 := hS.bcell 0 rfl 2 rfl
          have c0 := hS.bcell 1 rfl 0 rfl
          have c1 := hS.bcell 1 rfl 1 rfl
          have c2 := hS.bcell 1 rfl 2 rfl
          have f1 := hS.bfree 1 rfl
          go_wp2_with fail
          have hS9 := ((hS.bstore 1 rfl 0 (.int .i64 lv)).bstore 1 rfl 1 (.int .i64 m)).bstore 1 rfl 2 (.slice a k c)
          refine bodyPost_ret (v := .tuple #[.agg #[.int .i64 lv, .int .i64 m, .slice a k c], .int .i64 0]) (by simp [results, Try.results97, go_sem, c0, c1, c2]) rfl ?_
          have hp := Hp.out
          rw [Hn.out] at hp
          exact MakesA.yes (by rw [fullA, if_pos Hs.out, Hn.out, if_neg (by omega)]; simp) (by rw [fullC, if_pos Hs.out, Hn.out, if_neg (by omega)]) (by rw [hl.out, fullRows_len]) (((List.Sublist.refl _).cons _).cons _) hS9
  · have Hs := Lib.hid (show shapeB lv co = false by simpa using hs); clear hs
    go_enter Try.func97, Try.ntmps97
    go_wp2_with fail
    refine (l16Shape_c lv co _).mono ?_
    rw [Hs.out]
    rintro e w1 ⟨rfl, rfl⟩
    go_wp2_with fail
    refine bodyPost_ret (v := .tuple #[.agg #[.int .i64 0, .int .i64 0, .slice none 0 0], .int .i64 2]) (by simp [results, Try.results97, go_sem, b0, b1, b2]) rfl ?_
    exact MakesA.no (by rw [fullA, if_neg (by rw [Hs.out]; simp)]) (by rw [fullC, if_neg (by rw [Hs.out]; simp)]) hS0

end Go.Proofs.Ytejncephbafcdaa
end

section
/- Walks: the array of a list of orthogonal squares, of the program. Walks: the array of a list of orthogonal squares, of the reference. Walks: sizes and copies of slices of slices of slices; the law FnExactArrayOfMols. -/
namespace Go.Proofs.Ytejncephbafcdaa
set_option linter.unusedSimpArgs false
set_option linter.unusedVariables false
open Go.RowKit
attribute [local go_sem ↓] Go.wp_at_zero Go.wp_at_succ


/-- the row of a place -/
def amRow (X : List (List (List Int))) (x y : Nat) : List Int := [(x : Int), (y : Int)] ++ X.map fun A => at2 A x y
/-- the rows of the first m places -/
def amL (n : Nat) (X : List (List (List Int))) (m : Nat) : List (List Int) := (List.range m).map fun c => amRow X (c / n) (c % n)
theorem amL_len (n : Nat) (X : List (List (List Int))) (m : Nat) : (amL n X m).length = m := by simp [amL]
theorem amL_succ {n x y m : Nat} {X : List (List (List Int))} (hy : y < n) (hm : m = x * n + y) : amL n X (m + 1) = amL n X m ++ [amRow X x y] := by
  have e1 : m / n = x := by rw [hm, Nat.mul_comm, Nat.mul_add_div (by omega), Nat.div_eq_of_lt hy]; omega
  have e2 : m % n = y := by rw [hm, Nat.mul_comm, Nat.mul_add_mod, Nat.mod_eq_of_lt hy]
  simp [amL, List.range_succ, e1, e2]
/-- a row as far as the square m -/
def amR (X : List (List (List Int))) (x y m : Nat) : List Int := [(x : Int), (y : Int)] ++ (X.take m).map fun A => at2 A x y
theorem amR_0 (X : List (List (List Int))) (x y : Nat) : amR X x y 0 = [(x : Int), (y : Int)] := rfl
theorem amR_all (X : List (List (List Int))) (x y : Nat) : amR X x y X.length = amRow X x y := by unfold amR amRow; rw [List.take_length]
theorem amR_succ {X : List (List (List Int))} {x y m : Nat} (h : m < X.length) : amR X x y (m + 1) = amR X x y m ++ [at2 (x3at X m) x y] := by
  unfold amR; rw [take_x3at h]; simp
theorem amR_len {X : List (List (List Int))} {x y m : Nat} (h : m ≤ X.length) : (amR X x y m).length = m + 2 := by unfold amR; simp; omega
def amBad (X : List (List (List Int))) : Prop := (x3at X 0).length < 2 ∨ 8 < X.length + 2
open Classical in
noncomputable def molA (X : List (List (List Int))) : AV := if molB X = true then (if amBad X then noA else ⟨(x3at X 0).length, (X.length : Int) + 2, amL (x3at X 0).length X ((x3at X 0).length * (x3at X 0).length)⟩) else noA
open Classical in
noncomputable def molAC (X : List (List (List Int))) : Int := if molB X = true then (if amBad X then 2 else 0) else 1
theorem molA_1 {X : List (List (List Int))} (h : molB X = false) : molA X = noA ∧ molAC X = 1 := by
  unfold molA molAC; rw [if_neg (by rw [h]; decide), if_neg (by rw [h]; decide)]; exact ⟨rfl, rfl⟩
theorem molA_2 {X : List (List (List Int))} (h : molB X = true) (hb : amBad X) : molA X = noA ∧ molAC X = 2 := by
  unfold molA molAC; rw [if_pos h, if_pos h, if_pos hb, if_pos hb]; exact ⟨rfl, rfl⟩
theorem molA_0 {X : List (List (List Int))} (h : molB X = true) (hb : ¬ amBad X) : molA X = ⟨(x3at X 0).length, (X.length : Int) + 2, amL (x3at X 0).length X ((x3at X 0).length * (x3at X 0).length)⟩ ∧ molAC X = 0 := by
  unfold molA molAC; rw [if_pos h, if_pos h, if_neg hb, if_neg hb]; exact ⟨rfl, rfl⟩
set_option maxHeartbeats 8000000 in
set_option maxRecDepth 100000 in
theorem ArrayOfMols_c (v : Value) (vs : List Value) (uss : List (List Value)) (X : List (List (List Int))) (w : World) (hv : RIII w v vs uss X) (hN : Sml X) :
    Calls Try.prog 9 #[v] w (MakesA w (molA X) (molAC X)) := by
  have hS0 := (St.refl w).newboxF 28 #[.int .i64 0, .int .i64 0, .slice none 0 0]
  have HV := Lib.hid (ValidMols_c v vs uss X _ (hS0.oldIII hv) hN)
  have hln := hv.len
  have hix := hv.ixe
  have HZ := fun W a => Lib.hid (szIII_c v vs uss X W a)
  have Hv := Lib.hid hv
  clear hv
  cases hb : molB X
  · rw [hb] at HV
    rw [(molA_1 hb).1, (molA_1 hb).2]
    clear hb
    go_enter Try.func9, Try.ntmps9
    go_wp2_with fail
    refine HV.out.mono ?_
    rintro e w1 ⟨rfl, h1⟩
    have hS1 := hS0.call0 h1
    have b0 := hS1.bcell 0 rfl 0 rfl
    have b1 := hS1.bcell 0 rfl 1 rfl
    have b2 := hS1.bcell 0 rfl 2 rfl
    have f1 := hS1.bfree 0 rfl
    clear hS0 h1
    go_wp2_with fail
    have hS9 := ((hS1.bstore 0 rfl 0 (.int .i64 0)).bstore 0 rfl 1 (.int .i64 0)).bstore 0 rfl 2 (.slice none 0 0)
    refine bodyPost_ret (v := .tuple #[.agg #[.int .i64 0, .int .i64 0, .slice none 0 0], .int .i64 1]) (by simp [results, Try.results9, go_sem, b0, b1, b2]) rfl ?_
    exact MakesA.no rfl rfl hS9
  · have HM := Lib.hid (molB_t hb)
    have hl0 := HM.out.pos
    have hl10 := HM.out.le
    have hlat := HM.out.lat 0 (by omega)
    have hn1 := hlat.pos
    have hn10 := hlat.le
    have hx0 := hix 0 0 rfl (by omega)
    have HZ2 := fun W a => Lib.hid (szII_c (vat vs 0) (vsat uss 0) (x3at X 0) W a)
    have HX := Lib.hid (show ∀ j, j < X.length → Sq0 (x3at X 0).length (x3at X j) from fun j hj => by rw [← HM.out.len hj]; exact (HM.out.lat j hj).sq0)
    rw [hb] at HV
    by_cases hbad : amBad X
    · rw [(molA_2 hb hbad).1, (molA_2 hb hbad).2]
      by_cases hn : (x3at X 0).length = 1
      · have g1 : (((x3at X 0).length : Int) == 1) = true := eq_t (by omega)
        clear hbad hb hn HX hlat
        go_enter Try.func9, Try.ntmps9
        go_wp2_with fail
        refine HV.out.mono ?_
        rintro e w1 ⟨rfl, h1⟩
        have hS1 := hS0.call0 h1
        have b0 := hS1.bcell 0 rfl 0 rfl
        have b1 := hS1.bcell 0 rfl 1 rfl
        have b2 := hS1.bcell 0 rfl 2 rfl
        have f1 := hS1.bfree 0 rfl
        have hR := hS1.oldIII Hv.out
        have c0 := hR.cell 0 (by omega)
        have hR0 := hR.row 0 (by omega)
        clear hS0 h1 hR
        go_wp2_with (go_at_call 41; refine (HZ2 _ hR0).out.mono ?_; rintro e w2 ⟨rfl, rfl⟩)
        have hS9 := ((hS1.bstore 0 rfl 0 (.int .i64 0)).bstore 0 rfl 1 (.int .i64 0)).bstore 0 rfl 2 (.slice none 0 0)
        refine bodyPost_ret (v := .tuple #[.agg #[.int .i64 0, .int .i64 0, .slice none 0 0], .int .i64 2]) (by simp [results, Try.results9, go_sem, b0, b1, b2]) rfl ?_
        exact MakesA.no rfl rfl hS9
      · have g1 : (((x3at X 0).length : Int) == 1) = false := eq_f (by omega)
        have g2 : 8 < (X.length : Int) + 2 := by rcases hbad with h | h <;> omega
        clear hbad hb hn HX hlat
        go_enter Try.func9, Try.ntmps9
        go_wp2_with fail
        refine HV.out.mono ?_
        rintro e w1 ⟨rfl, h1⟩
        have hS1 := hS0.call0 h1
        have b0 := hS1.bcell 0 rfl 0 rfl
        have b1 := hS1.bcell 0 rfl 1 rfl
        have b2 := hS1.bcell 0 rfl 2 rfl
        have f1 := hS1.bfree 0 rfl
        have hR := hS1.oldIII Hv.out
        have c0 := hR.cell 0 (by omega)
        have hR0 := hR.row 0 (by omega)
        clear hS0 h1
        go_wp2_with (first
          | (go_at_call 41; refine (HZ2 _ hR0).out.mono ?_; rintro e w2 ⟨rfl, rfl⟩)
          | (go_at_call 42; refine (HZ _ hR).out.mono ?_; rintro e w3 ⟨rfl, rfl⟩))
        have hS9 := ((hS1.bstore 0 rfl 0 (.int .i64 0)).bstore 0 rfl 1 (.int .i64 0)).bstore 0 rfl 2 (.slice none 0 0)
        refine bodyPost_ret (v := .tuple #[.agg #[.int .i64 0, .int .i64 0, .slice none 0 0], .int .i64 2]) (by simp [results, Try.results9, go_sem, b0, b1, b2]) rfl ?_
        exact MakesA.no rfl rfl hS9
    · have hA := molA_0 hb hbad
      have g1 : (((x3at X 0).length : Int) == 1) = false := eq_f (by unfold amBad at hbad; omega)
      have g2 : ¬ 8 < (X.length : Int) + 2 := by unfold amBad at hbad; omega
      rw [hA.1, hA.2]
      have HL := fun m => Lib.hid (amL_len (x3at X 0).length X m)
      have HS := fun x y m (hy : y < (x3at X 0).length) (hm : m = x * (x3at X 0).length + y) => Lib.hid (amL_succ (X := X) hy hm)
      have HR0 := fun x y => Lib.hid (amR_0 X x y)
      have HRa := fun x y => Lib.hid (amR_all X x y)
      have HRs := fun x y m (h : m < X.length) => Lib.hid (amR_succ (x := x) (y := y) h)
      have HRl := fun x y m (h : m ≤ X.length) => Lib.hid (amR_len (x := x) (y := y) h)
      have HL0 := Lib.hid (show amL (x3at X 0).length X 0 = [] from rfl)
      obtain ⟨n, hn⟩ : ∃ n, n = (x3at X 0).length := ⟨_, rfl⟩
      rw [← hn] at g1 HZ2 HX HL HS HL0 hn1 hn10
      rw [← hn]
      obtain ⟨N, hN⟩ : ∃ N, N = n * n := ⟨_, rfl⟩
      rw [← hN]
      have Hb1 := Lib.hid (show ∀ x y, x < n → y ≤ n → x * n + y ≤ 100 from fun x y hx hy => by
        have h1 : x * n + n ≤ n * n := by rw [← Nat.succ_mul]; exact Nat.mul_le_mul_right _ (by omega)
        have h2 : n * n ≤ 10 * 10 := Nat.mul_le_mul (by omega) (by omega)
        omega)
      have HNn := Lib.hid hN
      have hX8 : X.length ≤ 10 := by omega
      clear hbad hb hA hlat hn hN
      go_enter Try.func9, Try.ntmps9
      go_wp2_with fail
      refine HV.out.mono ?_
      rintro e w1 ⟨rfl, h1⟩
      have hS1 := hS0.call0 h1
      have hR := hS1.oldIII Hv.out
      have c0 := hR.cell 0 (by omega)
      have hR0 := hR.row 0 (by omega)
      have hS2 := (hS1.newboxF 28 #[.int .i64 n, .int .i64 ((X.length : Int) + 2), .slice none 0 0]).nilrow 52
      simp only [List.cons_append, List.nil_append] at hS2
      clear hS0 h1
      go_wp2_with (first
        | (go_at_call 41; refine (HZ2 _ hR0).out.mono ?_; rintro e w2 ⟨rfl, rfl⟩)
        | (go_at_call 42; refine (HZ _ hR).out.mono ?_; rintro e w3 ⟨rfl, rfl⟩))
      generalize hg : w1.heap.size = g at *
      clear c0 hR hR0 hg
      go_loopw [6, 7, 8, 10, 34, 38, 46] (fun _ _ _ _ i _ _ wr => ∃ (k m : Nat) (a : Option Addr) (c : Nat) (us : List Value), k ≤ n ∧ i = .int .i64 k ∧ Hid (m = k * n) ∧ Hid (us.length = m) ∧ St w.heap.size w wr (box 28 g [.int .i64 n, .int .i64 ((X.length : Int) + 2), .slice a m c] :: box 28 w.heap.size [.int .i64 0, .int .i64 0, .slice none 0 0] :: own2 (.slice a m c) us (amL n X m))) (fun _ _ _ _ i _ _ _ => n - (intOf i).toNat)
      case atStart => exact ⟨0, 0, none, 0, [], by omega, rfl, by unfold Hid; omega, rfl, by rw [HL0.out]; exact hS2⟩
      case round =>
        clear hS1 hS2
        obtain ⟨k, m, a, c, us, hk, rfl, hm, hl, hS⟩ := hrel
        by_cases hlt : k < n
        · go_wp2_with fail
          go_loopw [7, 8, 10, 38, 46] (fun _ _ _ j _ wr' => ∃ (y m : Nat) (a : Option Addr) (c : Nat) (us : List Value), y ≤ n ∧ j = .int .i64 y ∧ Hid (m = k * n + y) ∧ Hid (us.length = m) ∧ St w.heap.size w wr' (box 28 g [.int .i64 n, .int .i64 ((X.length : Int) + 2), .slice a m c] :: box 28 w.heap.size [.int .i64 0, .int .i64 0, .slice none 0 0] :: own2 (.slice a m c) us (amL n X m))) (fun _ _ _ j _ _ => n - (intOf j).toNat)
          case atStart => exact ⟨0, m, a, c, us, by omega, rfl, hm.out, hl.out, hS⟩
          case round =>
            clear hS hm hl
            obtain ⟨y, m, a, c, us, hy, rfl, hm, hl, hS⟩ := hrel
            by_cases hly : y < n
            · have hm100 := Hb1.out k y hlt (by omega)
              rw [← hm.out] at hm100
              have hS1 : St w.heap.size w (wr.alloc (.cells #[.int .i64 (k : Int), .int .i64 (y : Int)] 2)) (row 2 (.slice (some ⟨wr.heap.size, 0, none⟩) 2 2) (iv (amR X k y 0)) :: box 28 g [.int .i64 n, .int .i64 ((X.length : Int) + 2), .slice a m c] :: box 28 w.heap.size [.int .i64 0, .int .i64 0, .slice none 0 0] :: own2 (.slice a m c) us (amL n X m)) :=
                (hS.new 2 #[.int .i64 (k : Int), .int .i64 (y : Int)] (by simp [maxLen])).perm List.perm_append_comm
              go_wp2_with fail
              clear hS
              go_loopw [8, 10, 46] (fun r _ j wz => ∃ q : Nat, q ≤ X.length ∧ j = .int .i64 q ∧ St w.heap.size w wz (row 2 r (iv (amR X k y q)) :: box 28 g [.int .i64 n, .int .i64 ((X.length : Int) + 2), .slice a m c] :: box 28 w.heap.size [.int .i64 0, .int .i64 0, .slice none 0 0] :: own2 (.slice a m c) us (amL n X m))) (fun _ _ j _ => X.length - (intOf j).toNat)
              case atStart => exact ⟨0, by omega, rfl, hS1⟩
              case round =>
                clear hS1
                obtain ⟨q, hq, rfl, hS⟩ := hrel
                by_cases hlq : q < X.length
                · have hR := hS.oldIII Hv.out
                  have cq := hR.cell q hlq
                  have hxq := hix (q : Int) q rfl hlq
                  have hAq := HX.out q hlq
                  have hRq := hR.row q hlq
                  have ck := hRq.cell k (by rw [hAq.len]; exact hlt)
                  have ik := hRq.ixe (k : Int) k rfl (by rw [hAq.len]; exact hlt)
                  have iy := (hRq.row k (by rw [hAq.len]; exact hlt)).ixe (y : Int) y rfl (by rw [hAq.row k hlt]; exact hly)
                  have cy : wr.cell? (el (vat (vsat uss q) k) y) = some (.int .i64 (at2 (x3at X q) k y)) := (hRq.row k (by rw [hAq.len]; exact hlt)).cell y (by rw [hAq.row k hlt]; exact hly)
                  have Hs := HRs k y q hlq
                  have Hl := Lib.hid (show (amR X k y q).length < 4294967296 by rw [(HRl k y q (by omega)).out]; omega)
                  clear hR hRq hAq
                  generalize at2 (x3at X q) k y = z at *
                  go_wp2_with (at_builtin; refine appI hS 0 rfl Hl.out rfl _ _ rfl rfl _ rfl ?_; intro v' w2 hS2)
                  simp only [List.set_cons_zero] at hS2
                  rw [← Hs.out] at hS2
                  go_roundw
                  case rel => exact ⟨q + 1, by omega, by go_num, hS2⟩
                  case measure => simp [intOf]; omega
                · obtain rfl : q = X.length := by omega
                  rw [(HRa k y).out] at hS
                  obtain ⟨ra, rc, hre⟩ := (hS.rdI 0 rfl).shq
                  subst hre
                  have b2 := hS.bcell 1 rfl 2 rfl
                  have Hsu := HS k y m hly hm.out
                  have HLm := HL m
                  go_wp2_with (at_builtin; refine appII hS 3 rfl (by rw [hl.out]; omega) rfl _ _ rfl rfl _ rfl rfl ?_; intro v' w4 hS4; obtain ⟨va, vc, hv'⟩ := (hS4.rd 3 rfl).sl.sh; rw [List.length_append, hl.out, List.length_singleton] at hv'; subst hv'; have d2 := hS4.bcell 1 rfl 2 rfl; have f2 := hS4.bfree 1 rfl 2)
                  have hS5 := hS4.bstore 1 rfl 2 (.slice va (m + 1) vc)
                  simp only [own2, List.set_cons_zero, List.set_cons_succ] at hS5
                  go_roundw
                  case rel =>
                    refine ⟨y + 1, m + 1, va, vc, us ++ [.slice ra (amRow X k y).length rc], by omega, by go_num, by unfold Hid; rw [hm.out]; omega, by simp [Hid, hl.out], ?_⟩
                    rw [Hsu.out, own2, rowsI_app (by rw [hl.out, HLm.out])]
                    exact hS5.perm (by (try simp only [own2, List.cons_append, List.nil_append, List.append_nil]); classical exact List.perm_iff_count.2 (fun a => by simp only [List.cons_append, List.nil_append, List.append_nil, List.count_append, List.count_cons, List.count_nil] <;> omega))
                  case measure => simp [intOf]; omega
            · obtain rfl : y = n := by omega
              go_wp2_with fail
              go_roundw
              case rel => exact ⟨k + 1, m, a, c, us, by omega, by go_num, by unfold Hid; rw [hm.out, Nat.succ_mul], hl.out, hS⟩
              case measure => simp [intOf]; omega
        · obtain rfl : k = n := by omega
          have hmN : m = N := by rw [hm.out, HNn.out]
          have b0 := hS.bcell 0 rfl 0 rfl
          have b1 := hS.bcell 0 rfl 1 rfl
          have b2 := hS.bcell 0 rfl 2 rfl
          have c0 := hS.bcell 1 rfl 0 rfl
          have c1 := hS.bcell 1 rfl 1 rfl
          have c2 := hS.bcell 1 rfl 2 rfl
          have f1 := hS.bfree 1 rfl
          have HmN := Lib.hid hmN
          clear hmN
          go_wp2_with fail
          have hS9 := ((hS.bstore 1 rfl 0 (.int .i64 k)).bstore 1 rfl 1 (.int .i64 ((X.length : Int) + 2))).bstore 1 rfl 2 (.slice a m c)
          refine bodyPost_ret (v := .tuple #[.agg #[.int .i64 k, .int .i64 ((X.length : Int) + 2), .slice a m c], .int .i64 0]) (by simp [results, Try.results9, go_sem, c0, c1, c2]) rfl ?_
          rw [HmN.out] at hS9 hl ⊢
          exact MakesA.yes rfl rfl (by rw [hl.out, (HL N).out]) (((List.Sublist.refl _).cons _).cons _) hS9


section
variable {ops : Array Oper} {o : Oper} {a : Act} {K : Act → World → Prop} {Q : Exit → Act → World → Prop} {E : Prop} {B : Nat} {w0 w : World} {L : List Ent}
/-- append of one number to an owned row, as a step -/
theorem stepA1 (hS : St B w0 w L) (i : Nat) {v : Value} {xs : List Int} (hi : L[i]? = some (row 2 v (iv xs))) (hN : xs.length < 4294967296) (hg : o.guard = none) (s x : Operand)
    (hop : o.op = .call { callee := .builtin .append, args := #[s, x], argTypes := #[52, 52] }) (hs : a.eval s = v) (n : Int) (hx : a.eval x = .slice (some ⟨w.heap.size, 0, none⟩) 1 1)
    (hK : ∀ v' w', St B w0 w' (L.set i (row 2 v' (iv (xs ++ [n])))) → K (a.put o.dst v') w') :
    if Region.wanted o (yielded ops a.tmps) = true then Oper.wp Try.prog o a (w.alloc (.cells #[.int .i64 n] 2)) K Q else E :=
  step_st_app1 hg s x 52 hop 2 (.int .i64 0) 8 Try.und_is Try.info_i rfl hS i hi hs (.int .i64 n) hx rfl (by omega) (by rw [iv_len]; exact hN)
    (fun v' w' h => hK v' w' (by rw [iv_app, iv_one]; exact h))
end
/-- an array of its own -/
def MakesAr (w : World) (lv co : Int) (R : List (List Int)) (e : Ending) (w' : World) : Prop := ∃ v us, e = .returned (av lv co v) ∧ us.length = R.length ∧ St w.heap.size w w' (own2 v us R)
set_option maxHeartbeats 8000000 in
set_option maxRecDepth 100000 in
theorem l16OfMols_c (v : Value) (vs : List Value) (uss : List (List Value)) (X : List (List (List Int))) (w : World) (n : Nat) (hv : RIII w v vs uss X) (hM : Mols X) (hn : n = (x3at X 0).length) :
    Calls Try.prog 95 #[v] w (MakesAr w n ((X.length : Int) + 2) (amL n X (n * n))) := by
  have hS0 := (St.refl w).newboxF 28 #[.int .i64 0, .int .i64 0, .slice none 0 0]
  have hln := hv.len
  have hix := hv.ixe
  have Hv := Lib.hid hv
  have hl0 := hM.pos
  have hl10 := hM.le
  have hn1 : 1 ≤ n := by rw [hn]; exact (hM.lat 0 (by omega)).pos
  have hn10 : n ≤ 10 := by rw [hn]; exact (hM.lat 0 (by omega)).le
  have hx0 := hix 0 0 rfl (by omega)
  have HX := Lib.hid (show ∀ j, j < X.length → Sq0 n (x3at X j) from fun j hj => by rw [hn, ← hM.len hj]; exact (hM.lat j hj).sq0)
  have c0 := (hS0.oldIII hv).cell 0 (by omega)
  have hl00 := (hv.row 0 (by omega)).len
  rw [← hn] at hl00
  have HL := fun m => Lib.hid (amL_len n X m)
  have HS := fun x y m (hy : y < n) (hm : m = x * n + y) => Lib.hid (amL_succ (X := X) hy hm)
  have HR0 := fun x y => Lib.hid (amR_0 X x y)
  have HRa := fun x y => Lib.hid (amR_all X x y)
  have HRs := fun x y m (h : m < X.length) => Lib.hid (amR_succ (x := x) (y := y) h)
  have HRl := fun x y m (h : m ≤ X.length) => Lib.hid (amR_len (x := x) (y := y) h)
  have HL0 := Lib.hid (show amL n X 0 = [] from rfl)
  obtain ⟨N, hN⟩ : ∃ N, N = n * n := ⟨_, rfl⟩
  rw [← hN]
  have hN100 : N ≤ 100 := by rw [hN]; exact Nat.mul_le_mul hn10 hn10
  have hmul : (n : Int) * (n : Int) = (N : Int) := by rw [hN]; rfl
  have HNn := Lib.hid hN
  clear hN hv hM hn
  have hS2 := (hS0.new 52 #[] (by simp)).newboxF 28 #[.int .i64 n, .int .i64 ((X.length : Int) + 2), .slice (some ⟨w.heap.size + 1, 0, none⟩) 0 0]
  simp only [World.size_alloc, List.cons_append, List.nil_append] at hS2
  go_enter Try.func95, Try.ntmps95
  go_wp2_with fail
  clear c0
  go_loopw [5, 6, 7] (fun i _ _ wr => ∃ (m : Nat) (a : Option Addr) (c : Nat) (us : List Value), m ≤ N ∧ i = .int .i64 m ∧ Hid (us.length = m) ∧ St w.heap.size w wr (box 28 (w.heap.size + 2) [.int .i64 n, .int .i64 ((X.length : Int) + 2), .slice a m c] :: box 28 w.heap.size [.int .i64 0, .int .i64 0, .slice none 0 0] :: own2 (.slice a m c) us (amL n X m))) (fun i _ _ _ => N - (intOf i).toNat)
  case atStart => exact ⟨0, _, 0, [], by omega, rfl, rfl, by rw [HL0.out]; exact hS2⟩
  case round =>
    clear hS0 hS2
    obtain ⟨m, a, c, us, hm, rfl, hl, hS⟩ := hrel
    by_cases hlt : m < N
    · obtain ⟨x, hx⟩ : ∃ x, x = m / n := ⟨_, rfl⟩
      obtain ⟨y, hy⟩ : ∃ y, y = m % n := ⟨_, rfl⟩
      have hxn : x < n := by rw [hx]; exact Nat.div_lt_of_lt_mul (by rw [← HNn.out]; exact hlt)
      have hyn : y < n := by rw [hy]; exact Nat.mod_lt _ (by omega)
      have q1 : (m : Int).tdiv n = (x : Int) := by rw [hx, Int.tdiv_eq_ediv_of_nonneg (by omega)]; rfl
      have q2 : (m : Int).tmod n = (y : Int) := by rw [hy, Int.tmod_eq_emod_of_nonneg (by omega)]; rfl
      have q3 : IntKind.i64.wrap (x : Int) = (x : Int) := IntWalk.i64_in _ (by omega)
      have hxy : m = x * n + y := by rw [hx, hy, Nat.mul_comm]; exact (Nat.div_add_mod m n).symm
      have f0 : ((n : Int) == 0) = false := eq_f (by omega)
      have f1 : ¬ (n : Int) = 0 := by omega
      have f2 : ¬ n = 0 := by omega
      have Hxy := Lib.hid hxy
      clear hx hy hxy
      have hS1 : St w.heap.size w (wr.drew.alloc (.cells #[.int .i64 (x : Int), .int .i64 (y : Int)] 2)) (row 2 (.slice (some ⟨wr.heap.size, 0, none⟩) 2 2) (iv (amR X x y 0)) :: box 28 (w.heap.size + 2) [.int .i64 n, .int .i64 ((X.length : Int) + 2), .slice a m c] :: box 28 w.heap.size [.int .i64 0, .int .i64 0, .slice none 0 0] :: own2 (.slice a m c) us (amL n X m)) :=
        (hS.drew.new 2 #[.int .i64 (x : Int), .int .i64 (y : Int)] (by simp [maxLen])).perm List.perm_append_comm
      go_wp2_with fail
      go_region_held3 (fun _ => True) (((try dsimp only); (repeat' apply And.intro); all_goals (repeat (first | assumption | exact cell_dr (by assumption) | refine cell_dr ?_ | refine cell_al ?_ | refine cell_sc (by assumption) ?_)))) (fail)
      go_wp2_with fail
      clear hS
      go_loopw [6, 7] (fun r j wz => ∃ q : Nat, q ≤ X.length ∧ j = .int .i64 q ∧ St w.heap.size w wz (row 2 r (iv (amR X x y q)) :: box 28 (w.heap.size + 2) [.int .i64 n, .int .i64 ((X.length : Int) + 2), .slice a m c] :: box 28 w.heap.size [.int .i64 0, .int .i64 0, .slice none 0 0] :: own2 (.slice a m c) us (amL n X m))) (fun _ j _ => X.length - (intOf j).toNat)
      case atStart => exact ⟨0, by omega, rfl, hS1⟩
      case round =>
        clear hS1
        obtain ⟨q, hq, rfl, hS⟩ := hrel
        by_cases hlq : q < X.length
        · have hR := hS.oldIII Hv.out
          have cq := hR.cell q hlq
          have hxq := hix (q : Int) q rfl hlq
          have hAq := HX.out q hlq
          have hRq := hR.row q hlq
          have ck := hRq.cell x (by rw [hAq.len]; exact hxn)
          have ik := hRq.ixe (x : Int) x rfl (by rw [hAq.len]; exact hxn)
          have iy := (hRq.row x (by rw [hAq.len]; exact hxn)).ixe (y : Int) y rfl (by rw [hAq.row x hxn]; exact hyn)
          have cy : wr.cell? (el (vat (vsat uss q) x) y) = some (.int .i64 (at2 (x3at X q) x y)) := (hRq.row x (by rw [hAq.len]; exact hxn)).cell y (by rw [hAq.row x hxn]; exact hyn)
          have HC := Lib.hid (show ∀ W, RIII W v vs uss X → W.cell? (el v q) = some (vat vs q) ∧ W.cell? (el (vat vs q) x) = some (vat (vsat uss q) x) ∧ W.cell? (el (vat (vsat uss q) x) y) = some (.int .i64 (at2 (x3at X q) x y)) from fun W hW =>
            ⟨hW.cell q hlq, (hW.row q hlq).cell x (by rw [hAq.len]; exact hxn), ((hW.row q hlq).row x (by rw [hAq.len]; exact hxn)).cell y (by rw [hAq.row x hxn]; exact hyn)⟩)
          have Hs := HRs x y q hlq
          have Hl := Lib.hid (show (amR X x y q).length < 4294967296 by rw [(HRl x y q (by omega)).out]; omega)
          clear hR hRq hAq
          generalize at2 (x3at X q) x y = z at *
          go_wp2_with fail
          go_region_held3 (fun w' => w'.cell? (el v q) = some (vat vs q) ∧ w'.cell? (el (vat vs q) x) = some (vat (vsat uss q) x) ∧ w'.cell? (el (vat (vsat uss q) x) y) = some (.int .i64 z)) (((try dsimp only); (repeat' apply And.intro); all_goals (repeat (first | assumption | exact cell_dr (by assumption) | refine cell_dr ?_ | refine cell_al ?_ | refine cell_sc (by assumption) ?_))))
            (first
            | (refine stepA1 hS.drew 0 rfl Hl.out rfl (.tmp 38) (.tmp 53) rfl (by first | rfl | simp [Act.eval, Act.put]) _ (by first | rfl | simp [Act.eval, Act.put]) ?_; intro v5 w5 hS5; obtain ⟨k1, k2, k3⟩ := HC.out _ (hS5.oldIII Hv.out)))
          all_goals
            go_wp2_with fail
            simp only [List.set_cons_zero] at hS5
            rw [← Hs.out] at hS5
            go_roundw
            case rel => exact ⟨q + 1, by omega, by go_num, hS5⟩
            case measure => simp [intOf]; omega
        · obtain rfl : q = X.length := by omega
          rw [(HRa x y).out] at hS
          obtain ⟨ra, rc, hre⟩ := (hS.rdI 0 rfl).shq
          subst hre
          have b2 := hS.bcell 1 rfl 2 rfl
          have Hsu := HS x y m hyn Hxy.out
          have HLm := HL m
          go_wp2_with (at_builtin; refine appII hS 3 rfl (by rw [hl.out]; omega) rfl _ _ rfl rfl _ rfl rfl ?_; intro v' w4 hS4; obtain ⟨va, vc, hv'⟩ := (hS4.rd 3 rfl).sl.sh; rw [List.length_append, hl.out, List.length_singleton] at hv'; subst hv'; have d2 := hS4.bcell 1 rfl 2 rfl; have f2 := hS4.bfree 1 rfl 2)
          have hS5 := hS4.bstore 1 rfl 2 (.slice va (m + 1) vc)
          simp only [own2, List.set_cons_zero, List.set_cons_succ] at hS5
          go_roundw
          case rel =>
            refine ⟨m + 1, va, vc, us ++ [.slice ra (amRow X x y).length rc], by omega, by go_num, by simp [Hid, hl.out], ?_⟩
            rw [Hsu.out, own2, rowsI_app (by rw [hl.out, HLm.out])]
            exact hS5.perm (by (try simp only [own2, List.cons_append, List.nil_append, List.append_nil]); classical exact List.perm_iff_count.2 (fun a => by simp only [List.cons_append, List.nil_append, List.append_nil, List.count_append, List.count_cons, List.count_nil] <;> omega))
          case measure => simp [intOf]; omega
    · obtain rfl : m = N := by omega
      have b0 := hS.bcell 0 rfl 0 rfl
      have b1 := hS.bcell 0 rfl 1 rfl
      have b2 := hS.bcell 0 rfl 2 rfl
      have c0 := hS.bcell 1 rfl 0 rfl
      have c1 := hS.bcell 1 rfl 1 rfl
      have c2 := hS.bcell 1 rfl 2 rfl
      have f1 := hS.bfree 1 rfl
      go_wp2_with fail
      have hS9 := ((hS.bstore 1 rfl 0 (.int .i64 n)).bstore 1 rfl 1 (.int .i64 ((X.length : Int) + 2))).bstore 1 rfl 2 (.slice a m c)
      refine bodyPost_ret (v := .agg #[.int .i64 n, .int .i64 ((X.length : Int) + 2), .slice a m c]) (by simp [results, Try.results95, go_sem, c0, c1, c2]) rfl ?_
      exact ⟨_, us, rfl, by rw [hl.out, (HL m).out], hS9.sub (((List.Sublist.refl _).cons _).cons _)⟩
section
variable {ops : Array Oper} {rest : List Oper} {o : Oper} {a : Act} {Q : Exit → Act → World → Prop} {B : Nat} {w0 w : World} {L : List Ent}
end
end Go.Proofs.Ytejncephbafcdaa
end

section
/- Walks: PolynomialArray of both sides. -/
namespace Go.Proofs.Ytejncephbafcdaa
set_option linter.unusedSimpArgs false
set_option linter.unusedVariables false
open Go.RowKit
attribute [local go_sem ↓] Go.wp_at_zero Go.wp_at_succ
def polyRow (q : Nat) (cs : List Int) (m : Nat) : List Int := (List.range m).map fun j : Nat => if j = q then nth cs 0 else hor ((spl q).1 : Nat) (spl q).2 (mkF q) j cs
def polyRows (q : Nat) (t m n : Nat) : List (List Int) := (List.range n).map fun k : Nat => polyRow q (digs q t k) m
theorem polyRow_succ (q : Nat) (cs : List Int) (j : Nat) : polyRow q cs (j + 1) = polyRow q cs j ++ [if j = q then nth cs 0 else hor ((spl q).1 : Nat) (spl q).2 (mkF q) j cs] := by simp [polyRow, List.range_succ]
theorem polyRow_len (q : Nat) (cs : List Int) (m : Nat) : (polyRow q cs m).length = m := by simp [polyRow]
theorem polyRows_succ (q t m n : Nat) : polyRows q t m (n + 1) = polyRows q t m n ++ [polyRow q (digs q t n) m] := by simp [polyRows, List.range_succ]
theorem polyRows_len (q t m n : Nat) : (polyRows q t m n).length = n := by simp [polyRows]
theorem digs_el {q t : Nat} {k : Nat} (h2 : 2 ≤ q) (hmk : MK q) : ∀ c ∈ digs q t k, El ((spl q).1 : Nat) (spl q).2 c := fun c hc => by
  unfold digs at hc
  rw [lows_dgt] at hc
  have h := dgt_in (base := q) (by omega) t k c (List.mem_reverse.1 hc)
  refine ⟨h.1, ?_⟩
  rw [← Int.natCast_pow, hmk.pw]; exact h.2

end Go.Proofs.Ytejncephbafcdaa
end
