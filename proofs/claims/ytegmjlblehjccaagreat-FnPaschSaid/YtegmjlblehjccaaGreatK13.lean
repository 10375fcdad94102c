/- The texts of this claim, run 13: Tr14 Tr20 Tr21 V8l SetN. -/
import Derived.Test.YtegmjlblehjccaaGreatK5
import Derived.Test.YtegmjlblehjccaaGreatK6
import Derived.Test.YtegmjlblehjccaaGreatK7
import Derived.Test.YtegmjlblehjccaaGreatK8
import Derived.Test.YtegmjlblehjccaaGreatK12
import Derived.Deep.CutRange
section
/- Walks: the construction of Skolem of the reference. -/
namespace Go.Proofs.YtegmjlblehjccaaGreat
set_option linter.unusedSimpArgs false
set_option linter.unusedVariables false
open Go.RowKit
attribute [local go_sem ↓] Go.wp_at_zero Go.wp_at_succ

theorem skoL_succ (t k : Nat) : skoL t (k + 1) = skoL t k ++ skoX t k := by
  unfold skoL; rw [List.range_succ, List.flatMap_append]; simp
theorem skoL_len (t : Nat) : ∀ k, (skoL t k).length ≤ k * 4
  | 0 => Nat.zero_le _
  | k + 1 => by
    rw [skoL_succ, List.length_append, Nat.succ_mul k]
    have h1 := skoL_len t k
    unfold skoX
    rw [List.length_cons, List.length_map, List.length_range]
    omega
theorem skoL_small {t k i : Nat} (hk : k ≤ 4) (hi : i ≤ 3) (g : Nat → List Int) (D : List Int) : (skoL t k ++ [D] ++ (List.range i).map g).length ≤ 1000 := by
  have h1 := skoL_len t k
  simp only [List.length_append, List.length_map, List.length_range, List.length_cons, List.length_nil]
  omega
theorem mxS_small {t n : Nat} (ht : t ≤ 4) (hn : n ≤ 9) (f : Nat → Nat) {k x j i : Nat} (hk : k ≤ n) (hj : j ≤ n) (hi : i ≤ 3) (g : Nat → List Int) : (skoL t t ++ mxL n f k ++ mxX n f x j ++ (List.range i).map g).length ≤ 1000 := by
  have h0 := skoL_len t t
  have h1 := mxL_len n f k
  have h2 := mxX_len n f x j
  have h3 : k * (3 * n) ≤ 9 * 27 := Nat.mul_le_mul (by omega) (by omega)
  simp only [List.length_append, List.length_map, List.length_range]
  omega
set_option maxHeartbeats 16000000 in
set_option maxRecDepth 100000 in
theorem l11Skolem_c (t : Nat) (w : World) (h4 : t ≤ 4) : Calls Tryz.prog 151 #[.int .i64 t] w (MakesII w (skoL t t ++ mxL (2 * t) (skoF t) (2 * t))) := by
  have hS0 : St w.heap.size w _ [row 30 (.slice (some ⟨w.heap.size, 0, none⟩) 0 0) []] := (St.refl w).new 30 #[] (by simp)
  have hS1 : St w.heap.size w _ (own2 _ [] (skoL t 0)) := hS0
  clear hS0
  obtain ⟨n, hn⟩ : ∃ n, 2 * t = n := ⟨_, rfl⟩
  have Q1 := fun k => Lib.hid (skoL_succ t k)
  have Q2 := fun k i hk hi g D => Lib.hid (skoL_small (t := t) (k := k) (i := i) hk hi g D)
  have Q3 := fun k x j i hk hj hi g => Lib.hid (mxS_small h4 (n := n) (by omega) (skoF t) (k := k) (x := x) (j := j) (i := i) hk hj hi g)
  have Q4 := fun k => Lib.hid (show skoX t k = strT n k :: (List.range 3).map (skoT t k) by rw [skoX, hn])
  have Q5 := fun x i => Lib.hid (show skoT t x i = trp (3 * n) (x + t + n * i) (x + n * ((i + 1) % 3)) by rw [skoT, hn])
  rw [hn]
  have q0 : 2 * (t : Int) = (n : Int) := by omega
  have v1 : IntKind.i64.wrap (2 * (t : Int)) = (n : Int) := by rw [IntWalk.i64_in _ (by omega)]; omega
  have v1' : IntKind.i64.wrap (n : Int) = (n : Int) := IntWalk.i64_in _ (by omega)
  have n8 : n ≤ 8 := by omega
  have tn : t ≤ n := by omega
  have Hn := Lib.hid hn
  clear hn
  go_enter Tryz.func151, Tryz.ntmps151
  go_wp2_with fail
  go_loopw [4, 5, 6] (fun o xi _ wr => ∃ (x : Nat) (uo : List Value), x ≤ t ∧ xi = .int .i64 x ∧ Hid (uo.length = (skoL t x).length) ∧ St w.heap.size w wr (own2 o uo (skoL t x))) (fun _ xi _ _ => t - (intOf xi).toNat)
  case atStart => exact ⟨0, [], by omega, rfl, rfl, hS1⟩
  case round =>
    clear hS1
    obtain ⟨x, uo, hx, rfl, hlo, hS⟩ := hrel
    by_cases hxn : x < t
    · have hxi : (x : Int) < (t : Int) := by omega
      have HE := Q1 x
      have H4 := Q4 x
      have hD : Hid (strT n x = trp x (x + n) (x + 2 * n)) := Lib.hid rfl
      have KT := fun W => Lib.hid (l11Block_c x (x + n) (x + 2 * n) W)
      rw [← hD.out] at KT
      have w1 : IntKind.i64.wrap ((x : Int) + (n : Int)) = (x : Int) + (n : Int) := IntWalk.i64_in _ (by omega)
      have w2 : IntKind.i64.wrap (2 * (n : Int)) = 2 * (n : Int) := IntWalk.i64_in _ (by omega)
      have w3 : IntKind.i64.wrap ((x : Int) + 2 * (n : Int)) = (x : Int) + 2 * (n : Int) := IntWalk.i64_in _ (by omega)
      have hul := Lib.hid (show uo.length < 4294967296 by
        have := (Q2 x 0 (by omega) (by omega) (fun _ => []) []).out
        simp only [List.length_append] at this
        rw [hlo.out]; omega)
      clear hD
      generalize strT n x = D at *
      simp only [Int.natCast_add, Int.natCast_mul] at KT
      go_wp2_with fail
      refine (KT _).out.mono ?_
      rintro e w5 ⟨u, rfl, h5⟩
      obtain ⟨ua, uc, hu⟩ := (h5.rdI 0 rfl).sl.sh
      generalize (iv D).length = dl at hu
      subst hu
      have hS4 := hS.call h5
      have hS5 : St w.heap.size w w5 (own2 u4 uo (skoL t x) ++ [] ++ [row 2 (.slice ua dl uc) (iv D)]) := by rw [List.append_nil]; exact hS4
      clear h5 hS hS4 KT
      go_wp2_with (at_builtin; refine appII hS5 0 rfl hul.out rfl _ _ rfl rfl _ rfl (by first | rfl | simp [Act.eval, World.size_alloc]) ?_; intro v8 w8 hS8)
      have hS9 := own2_snocP hlo.out hS8
      rw [List.append_nil] at hS9
      have hS10 : St w.heap.size w w8 (own2 v8 (uo ++ [Value.slice ua dl uc]) (skoL t x ++ [D] ++ (List.range 0).map (skoT t x))) := by rw [List.range_zero, List.map_nil, List.append_nil]; exact hS9
      have hlo2 : Hid ((uo ++ [Value.slice ua dl uc]).length = (skoL t x ++ [D] ++ (List.range 0).map (skoT t x)).length) := Lib.hid (by rw [List.range_zero, List.map_nil, List.append_nil, List.length_append, List.length_append, hlo.out]; rfl)
      have HEn := Lib.hid (show skoL t x ++ [D] ++ (List.range 3).map (skoT t x) = skoL t (x + 1) by rw [HE.out, H4.out, List.append_assoc]; rfl)
      have HB := fun i (hi : i ≤ 3) => Q2 x i (by omega) hi (skoT t x) D
      have Q5 := Q5 x
      clear hS5 hS8 hlo hS9 HE H4 Q1 Q2
      generalize skoL t x ++ [D] = X at *
      go_wp2_with fail
      go_loopw [4, 6] (fun o ii wr => ∃ (i : Nat) (uo : List Value), i ≤ 3 ∧ ii = .int .i64 i ∧ Hid (uo.length = (X ++ (List.range i).map (skoT t x)).length) ∧ St w.heap.size w wr (own2 o uo (X ++ (List.range i).map (skoT t x)))) (fun _ ii _ => 3 - (intOf ii).toNat)
      case atStart => exact ⟨0, _, by omega, rfl, hlo2, hS10⟩
      case round =>
        clear hS10 hlo2
        obtain ⟨i, uo, hi, rfl, hlo, hS⟩ := hrel
        by_cases hi3 : i < 3
        · have hii : (i : Int) < 3 := by omega
          have hul := Lib.hid (show uo.length < 4294967296 by rw [hlo.out]; have := (HB i hi).out; omega)
          have Hst := Lib.hid (show X ++ (List.range (i + 1)).map (skoT t x) = X ++ (List.range i).map (skoT t x) ++ [skoT t x i] by rw [rg_succ, List.append_assoc])
          obtain ⟨r, hr⟩ : ∃ r, (i + 1) % 3 = r := ⟨_, rfl⟩
          obtain ⟨p, hp⟩ : ∃ p, n * i = p := ⟨_, rfl⟩
          obtain ⟨s, hs⟩ : ∃ s, n * r = s := ⟨_, rfl⟩
          have hpb : p ≤ 8 * 3 := by rw [← hp]; exact Nat.mul_le_mul n8 (by omega)
          have hsb : s ≤ 8 * 3 := by rw [← hs]; exact Nat.mul_le_mul n8 (by omega)
          have hT := Lib.hid (show skoT t x i = trp (3 * n) (x + t + p) (x + s) by rw [(Q5 i).out, hr, hp, hs])
          have KT := fun W => Lib.hid (l11Block_c (3 * n) (x + t + p) (x + s) W)
          rw [← hT.out] at KT
          have q1 : (n : Int) * (i : Int) = (p : Int) := by rw [← hp]; simp
          have q2 : (n : Int) * (r : Int) = (s : Int) := by rw [← hs]; simp
          have q4 : ((i : Int) + 1).tmod 3 = (r : Int) := by
            rw [show (i : Int) + 1 = ((i + 1 : Nat) : Int) by omega, Int.tmod_eq_emod_of_nonneg (by omega), ← hr]; rfl
          have v1 : IntKind.i64.wrap (p : Int) = (p : Int) := IntWalk.i64_in _ (by omega)
          have v2 : IntKind.i64.wrap (s : Int) = (s : Int) := IntWalk.i64_in _ (by omega)
          have v4 : IntKind.i64.wrap (r : Int) = (r : Int) := IntWalk.i64_in _ (by omega)
          have v5 : IntKind.i64.wrap ((x : Int) + (t : Int)) = (x : Int) + (t : Int) := IntWalk.i64_in _ (by omega)
          have v6 : IntKind.i64.wrap ((x : Int) + (t : Int) + (p : Int)) = (x : Int) + (t : Int) + (p : Int) := IntWalk.i64_in _ (by omega)
          have v7 : IntKind.i64.wrap ((x : Int) + (s : Int)) = (x : Int) + (s : Int) := IntWalk.i64_in _ (by omega)
          have v8 : IntKind.i64.wrap (3 * (n : Int)) = 3 * (n : Int) := IntWalk.i64_in _ (by omega)
          have v9 : IntKind.i64.wrap ((i : Int) + 1) = (i : Int) + 1 := IntWalk.i64_in _ (by omega)
          clear hr hp hs hT HEn Q5 hpb hsb
          generalize skoT t x i = D at *
          simp only [Int.natCast_add, Int.natCast_mul] at KT
          go_wp2_with fail
          refine (KT _).out.mono ?_
          rintro e w4 ⟨u, rfl, h4⟩
          obtain ⟨ua, uc, hu⟩ := (h4.rdI 0 rfl).sl.sh
          generalize (iv D).length = dl at hu
          subst hu
          have hS4 := hS.call h4
          have hS5 : St w.heap.size w w4 (own2 u4 uo (X ++ (List.range i).map (skoT t x)) ++ [] ++ [row 2 (.slice ua dl uc) (iv D)]) := by rw [List.append_nil]; exact hS4
          clear h4 hS hS4
          go_wp2_with (at_builtin; refine appII hS5 0 rfl hul.out rfl _ _ rfl rfl _ rfl (by first | rfl | simp [Act.eval, World.size_alloc]) ?_; intro v8 w8 hS8)
          have hS9 := own2_snocP hlo.out hS8
          rw [List.append_nil, ← Hst.out] at hS9
          go_roundw
          case rel => exact ⟨i + 1, _, by omega, by go_num, by rw [Hid, Hst.out, List.length_append, List.length_append, hlo.out]; rfl, hS9⟩
          case measure => simp [intOf]; omega
        · obtain rfl : i = 3 := by omega
          go_wp2_with fail
          go_roundw
          case rel => exact ⟨x + 1, uo, by omega, by go_num, by rw [← HEn.out]; exact hlo, by rw [← HEn.out]; exact hS⟩
          case measure => simp [intOf]; omega
    · obtain rfl : x = t := by omega
      have hS2 : St w.heap.size w wr (own2 u4 uo (skoL x x ++ mxL n (skoF x) 0)) := by rw [show mxL n (skoF x) 0 = [] from rfl, List.append_nil]; exact hS
      have hlo2 : Hid (uo.length = (skoL x x ++ mxL n (skoF x) 0).length) := by rw [show mxL n (skoF x) 0 = [] from rfl, List.append_nil]; exact hlo
      clear hS hlo Q1 Q2 Q4 Q5
      generalize x = t at *
      go_wp2_with fail
      go_loopw [4, 7, 8, 9, 10, 11] (fun o xi _ _ _ _ wr => ∃ (x : Nat) (uo : List Value), x ≤ n ∧ xi = .int .i64 x ∧ Hid (uo.length = (skoL t t ++ mxL n (skoF t) x).length) ∧ St w.heap.size w wr (own2 o uo (skoL t t ++ mxL n (skoF t) x))) (fun _ xi _ _ _ _ _ => n - (intOf xi).toNat)
      case atStart => exact ⟨0, _, by omega, rfl, hlo2, hS2⟩
      case round =>
        clear hS2 hlo2
        obtain ⟨x, uo, hx, rfl, hlo, hS⟩ := hrel
        by_cases hxn : x < n
        · have hxi : (x : Int) < (n : Int) := by omega
          have w4 : IntKind.i64.wrap ((x : Int) + 1) = (x : Int) + 1 := IntWalk.i64_in _ (by omega)
          have HE := Lib.hid (show skoL t t ++ mxL n (skoF t) (x + 1) = skoL t t ++ mxL n (skoF t) x ++ mxX n (skoF t) x n by rw [mxL_succ, List.append_assoc])
          have hS2 : St w.heap.size w wr (own2 u4 uo (skoL t t ++ mxL n (skoF t) x ++ mxX n (skoF t) x (x + 1))) := by rw [mxX_lo _ (Nat.le_refl _), List.append_nil]; exact hS
          have hlo2 : Hid (uo.length = (skoL t t ++ mxL n (skoF t) x ++ mxX n (skoF t) x (x + 1)).length) := by rw [mxX_lo _ (Nat.le_refl _), List.append_nil]; exact hlo
          clear hS hlo
          go_wp2_with fail
          go_loopw [4, 8, 9, 10, 11] (fun o yi _ _ _ wr => ∃ (y : Nat) (uo : List Value), x + 1 ≤ y ∧ y ≤ n ∧ yi = .int .i64 y ∧ Hid (uo.length = (skoL t t ++ mxL n (skoF t) x ++ mxX n (skoF t) x y).length) ∧ St w.heap.size w wr (own2 o uo (skoL t t ++ mxL n (skoF t) x ++ mxX n (skoF t) x y))) (fun _ yi _ _ _ _ => n - (intOf yi).toNat)
          case atStart => exact ⟨x + 1, _, by omega, by omega, by first | rfl | go_num, hlo2, hS2⟩
          case round =>
            clear hS2 hlo2
            obtain ⟨y, uo, hy1, hy2, rfl, hlo, hS⟩ := hrel
            by_cases hyn : y < n
            · have hyi : (y : Int) < (n : Int) := by omega
              have hS2 : St w.heap.size w wr (own2 u4 uo (skoL t t ++ mxL n (skoF t) x ++ mxX n (skoF t) x y ++ (List.range 0).map (mxT n (skoF t) x y))) := by rw [List.range_zero, List.map_nil, List.append_nil]; exact hS
              have hlo2 : Hid (uo.length = (skoL t t ++ mxL n (skoF t) x ++ mxX n (skoF t) x y ++ (List.range 0).map (mxT n (skoF t) x y)).length) := by rw [List.range_zero, List.map_nil, List.append_nil]; exact hlo
              have HE2 := Lib.hid (show skoL t t ++ mxL n (skoF t) x ++ mxX n (skoF t) x (y + 1) = skoL t t ++ mxL n (skoF t) x ++ mxX n (skoF t) x y ++ (List.range 3).map (mxT n (skoF t) x y) by rw [mxX_succ, mxY, if_pos (by omega), ← List.append_assoc])
              have HB := fun i (hi : i ≤ 3) => Lib.hid (Q3 x x y i (by omega) (by omega) hi (mxT n (skoF t) x y)).out
              obtain ⟨sm, hsm⟩ : ∃ sm, (x + y) % n = sm := ⟨_, rfl⟩
              have hsn : sm < n := by rw [← hsm]; exact Nat.mod_lt _ (by omega)
              have q1 : ((x : Int) + (y : Int)).tmod (n : Int) = (sm : Int) := by
                rw [show (x : Int) + (y : Int) = ((x + y : Nat) : Int) by omega, Int.tmod_eq_emod_of_nonneg (by omega), ← hsm]; rfl
              have q2 : (sm : Int).tdiv 2 = ((sm / 2 : Nat) : Int) := by rw [Int.tdiv_eq_ediv_of_nonneg (by omega)]; rfl
              have q3 : (sm : Int).tmod 2 = ((sm % 2 : Nat) : Int) := by rw [Int.tmod_eq_emod_of_nonneg (by omega)]; rfl
              obtain ⟨h2, hh2⟩ : ∃ h2, sm / 2 = h2 := ⟨_, rfl⟩
              rw [hh2] at q2
              have w1 : IntKind.i64.wrap ((x : Int) + (y : Int)) = (x : Int) + (y : Int) := IntWalk.i64_in _ (by omega)
              have w2 : IntKind.i64.wrap (sm : Int) = (sm : Int) := IntWalk.i64_in _ (by omega)
              have w3 : IntKind.i64.wrap (h2 : Int) = (h2 : Int) := IntWalk.i64_in _ (by omega)
              have w5 : IntKind.i64.wrap ((h2 : Int) + (t : Int)) = (h2 : Int) + (t : Int) := IntWalk.i64_in _ (by omega)
              have qm : ((n : Int) == 0) = false := eq_f (by omega)
              have qn : ¬ (n : Int) = 0 := by omega
              have qo : ¬ n = 0 := by omega
              have hh3 : h2 ≤ 8 := by omega
              obtain ⟨z, hz, hz2⟩ : ∃ z, z = h2 + sm % 2 * t ∧ z ≤ 100 := by
                refine ⟨_, rfl, ?_⟩
                have : sm % 2 * t ≤ 1 * 4 := Nat.mul_le_mul (by omega) h4
                omega
              have HZ := Lib.hid (show skoF t ((x + y) % n) = z by rw [hsm, skoF, hh2, hz])
              have hr : sm % 2 = 0 ∨ sm % 2 = 1 := by omega
              clear hS hlo hsm hh2
              generalize skoL t t ++ mxL n (skoF t) x ++ mxX n (skoF t) x y = X at *
              rcases hr with e | e
              all_goals
                rw [e] at q3 hz
              · simp only [Nat.zero_mul, Nat.add_zero] at hz
                subst hz
                clear e
                go_wp2_with fail
                clear q1 q2 q3 w2 qm qn qo
                go_loopw [4, 11] (fun o ii wr => ∃ (i : Nat) (uo : List Value), i ≤ 3 ∧ ii = .int .i64 i ∧ Hid (uo.length = (X ++ (List.range i).map (mxT n (skoF t) x y)).length) ∧ St w.heap.size w wr (own2 o uo (X ++ (List.range i).map (mxT n (skoF t) x y)))) (fun _ ii _ => 3 - (intOf ii).toNat)
                case atStart => exact ⟨0, uo, by omega, rfl, hlo2, hS2⟩
                case round =>
                  clear hS2 hlo2
                  obtain ⟨i, uo, hi, rfl, hlo, hS⟩ := hrel
                  by_cases hi3 : i < 3
                  · have hii : (i : Int) < 3 := by omega
                    have hul := Lib.hid (show uo.length < 4294967296 by rw [hlo.out]; have := (HB i hi).out; omega)
                    have Hst := Lib.hid (show X ++ (List.range (i + 1)).map (mxT n (skoF t) x y) = X ++ (List.range i).map (mxT n (skoF t) x y) ++ [mxT n (skoF t) x y i] by rw [rg_succ, List.append_assoc])
                    obtain ⟨r, hr⟩ : ∃ r, (i + 1) % 3 = r := ⟨_, rfl⟩
                    obtain ⟨p, hp⟩ : ∃ p, n * i = p := ⟨_, rfl⟩
                    obtain ⟨s, hs⟩ : ∃ s, n * r = s := ⟨_, rfl⟩
                    have hcase : (p = 0 ∧ s = n) ∨ (p = n ∧ s = 2 * n) ∨ (p = 2 * n ∧ s = 0) := by
                      rcases (show i = 0 ∨ i = 1 ∨ i = 2 by omega) with e | e | e
                      · subst e; subst hr; subst hp; subst hs; simp
                      · subst e; subst hr; subst hp; subst hs; right; left; simp; omega
                      · subst e; subst hr; subst hp; subst hs; right; right; simp; omega
                    have hT := Lib.hid (show mxT n (skoF t) x y i = trp (x + p) (y + p) (z + s) by rw [mxT, HZ.out, hr, hp, hs])
                    have KT := fun W => Lib.hid (l11Block_c (x + p) (y + p) (z + s) W)
                    rw [← hT.out] at KT
                    have q1 : (n : Int) * (i : Int) = (p : Int) := by rw [← hp]; simp
                    have q2 : (n : Int) * (r : Int) = (s : Int) := by rw [← hs]; simp
                    have q4 : ((i : Int) + 1).tmod 3 = (r : Int) := by
                      rw [show (i : Int) + 1 = ((i + 1 : Nat) : Int) by omega, Int.tmod_eq_emod_of_nonneg (by omega), ← hr]; rfl
                    have v1 : IntKind.i64.wrap (p : Int) = (p : Int) := IntWalk.i64_in _ (by omega)
                    have v2 : IntKind.i64.wrap (s : Int) = (s : Int) := IntWalk.i64_in _ (by omega)
                    have v4 : IntKind.i64.wrap (r : Int) = (r : Int) := IntWalk.i64_in _ (by omega)
                    have v5 : IntKind.i64.wrap ((x : Int) + (p : Int)) = (x : Int) + (p : Int) := IntWalk.i64_in _ (by omega)
                    have v6 : IntKind.i64.wrap ((y : Int) + (p : Int)) = (y : Int) + (p : Int) := IntWalk.i64_in _ (by omega)
                    have v7 : IntKind.i64.wrap ((z : Int) + (s : Int)) = (z : Int) + (s : Int) := IntWalk.i64_in _ (by omega)
                    have v9 : IntKind.i64.wrap ((i : Int) + 1) = (i : Int) + 1 := IntWalk.i64_in _ (by omega)
                    clear hr hp hs hT hcase HE HE2 HZ
                    generalize mxT n (skoF t) x y i = D at *
                    simp only [Int.natCast_add] at KT
                    go_wp2_with fail
                    refine (KT _).out.mono ?_
                    rintro e w4 ⟨u, rfl, h4⟩
                    obtain ⟨ua, uc, hu⟩ := (h4.rdI 0 rfl).sl.sh
                    generalize (iv D).length = dl at hu
                    subst hu
                    have hS4 := hS.call h4
                    have hS5 : St w.heap.size w w4 (own2 u4 uo (X ++ (List.range i).map (mxT n (skoF t) x y)) ++ [] ++ [row 2 (.slice ua dl uc) (iv D)]) := by rw [List.append_nil]; exact hS4
                    clear h4 hS hS4
                    go_wp2_with (at_builtin; refine appII hS5 0 rfl hul.out rfl _ _ rfl rfl _ rfl (by first | rfl | simp [Act.eval, World.size_alloc]) ?_; intro v8 w8 hS8)
                    have hS9 := own2_snocP hlo.out hS8
                    rw [List.append_nil, ← Hst.out] at hS9
                    go_roundw
                    case rel => exact ⟨i + 1, _, by omega, by go_num, by rw [Hid, Hst.out, List.length_append, List.length_append, hlo.out]; rfl, hS9⟩
                    case measure => simp [intOf]; omega
                  · obtain rfl : i = 3 := by omega
                    go_wp2_with fail
                    go_roundw
                    case rel => exact ⟨y + 1, uo, by omega, by omega, by go_num, by rw [HE2.out]; exact hlo, by rw [HE2.out]; exact hS⟩
                    case measure => simp [intOf]; omega
              · simp only [Nat.one_mul] at hz
                have hzi : (h2 : Int) + (t : Int) = (z : Int) := by omega
                have w6 : IntKind.i64.wrap (z : Int) = (z : Int) := IntWalk.i64_in _ (by omega)
                clear e hz w5
                go_wp2_with fail
                clear q1 q2 q3 w2 qm qn qo hzi
                go_loopw [4, 11] (fun o ii wr => ∃ (i : Nat) (uo : List Value), i ≤ 3 ∧ ii = .int .i64 i ∧ Hid (uo.length = (X ++ (List.range i).map (mxT n (skoF t) x y)).length) ∧ St w.heap.size w wr (own2 o uo (X ++ (List.range i).map (mxT n (skoF t) x y)))) (fun _ ii _ => 3 - (intOf ii).toNat)
                case atStart => exact ⟨0, uo, by omega, rfl, hlo2, hS2⟩
                case round =>
                  clear hS2 hlo2
                  obtain ⟨i, uo, hi, rfl, hlo, hS⟩ := hrel
                  by_cases hi3 : i < 3
                  · have hii : (i : Int) < 3 := by omega
                    have hul := Lib.hid (show uo.length < 4294967296 by rw [hlo.out]; have := (HB i hi).out; omega)
                    have Hst := Lib.hid (show X ++ (List.range (i + 1)).map (mxT n (skoF t) x y) = X ++ (List.range i).map (mxT n (skoF t) x y) ++ [mxT n (skoF t) x y i] by rw [rg_succ, List.append_assoc])
                    obtain ⟨r, hr⟩ : ∃ r, (i + 1) % 3 = r := ⟨_, rfl⟩
                    obtain ⟨p, hp⟩ : ∃ p, n * i = p := ⟨_, rfl⟩
                    obtain ⟨s, hs⟩ : ∃ s, n * r = s := ⟨_, rfl⟩
                    have hcase : (p = 0 ∧ s = n) ∨ (p = n ∧ s = 2 * n) ∨ (p = 2 * n ∧ s = 0) := by
                      rcases (show i = 0 ∨ i = 1 ∨ i = 2 by omega) with e | e | e
                      · subst e; subst hr; subst hp; subst hs; simp
                      · subst e; subst hr; subst hp; subst hs; right; left; simp; omega
                      · subst e; subst hr; subst hp; subst hs; right; right; simp; omega
                    have hT := Lib.hid (show mxT n (skoF t) x y i = trp (x + p) (y + p) (z + s) by rw [mxT, HZ.out, hr, hp, hs])
                    have KT := fun W => Lib.hid (l11Block_c (x + p) (y + p) (z + s) W)
                    rw [← hT.out] at KT
                    have q1 : (n : Int) * (i : Int) = (p : Int) := by rw [← hp]; simp
                    have q2 : (n : Int) * (r : Int) = (s : Int) := by rw [← hs]; simp
                    have q4 : ((i : Int) + 1).tmod 3 = (r : Int) := by
                      rw [show (i : Int) + 1 = ((i + 1 : Nat) : Int) by omega, Int.tmod_eq_emod_of_nonneg (by omega), ← hr]; rfl
                    have v1 : IntKind.i64.wrap (p : Int) = (p : Int) := IntWalk.i64_in _ (by omega)
                    have v2 : IntKind.i64.wrap (s : Int) = (s : Int) := IntWalk.i64_in _ (by omega)
                    have v4 : IntKind.i64.wrap (r : Int) = (r : Int) := IntWalk.i64_in _ (by omega)
                    have v5 : IntKind.i64.wrap ((x : Int) + (p : Int)) = (x : Int) + (p : Int) := IntWalk.i64_in _ (by omega)
                    have v6 : IntKind.i64.wrap ((y : Int) + (p : Int)) = (y : Int) + (p : Int) := IntWalk.i64_in _ (by omega)
                    have v7 : IntKind.i64.wrap ((z : Int) + (s : Int)) = (z : Int) + (s : Int) := IntWalk.i64_in _ (by omega)
                    have v9 : IntKind.i64.wrap ((i : Int) + 1) = (i : Int) + 1 := IntWalk.i64_in _ (by omega)
                    clear hr hp hs hT hcase HE HE2 HZ
                    generalize mxT n (skoF t) x y i = D at *
                    simp only [Int.natCast_add] at KT
                    go_wp2_with fail
                    refine (KT _).out.mono ?_
                    rintro e w4 ⟨u, rfl, h4⟩
                    obtain ⟨ua, uc, hu⟩ := (h4.rdI 0 rfl).sl.sh
                    generalize (iv D).length = dl at hu
                    subst hu
                    have hS4 := hS.call h4
                    have hS5 : St w.heap.size w w4 (own2 u4 uo (X ++ (List.range i).map (mxT n (skoF t) x y)) ++ [] ++ [row 2 (.slice ua dl uc) (iv D)]) := by rw [List.append_nil]; exact hS4
                    clear h4 hS hS4
                    go_wp2_with (at_builtin; refine appII hS5 0 rfl hul.out rfl _ _ rfl rfl _ rfl (by first | rfl | simp [Act.eval, World.size_alloc]) ?_; intro v8 w8 hS8)
                    have hS9 := own2_snocP hlo.out hS8
                    rw [List.append_nil, ← Hst.out] at hS9
                    go_roundw
                    case rel => exact ⟨i + 1, _, by omega, by go_num, by rw [Hid, Hst.out, List.length_append, List.length_append, hlo.out]; rfl, hS9⟩
                    case measure => simp [intOf]; omega
                  · obtain rfl : i = 3 := by omega
                    go_wp2_with fail
                    go_roundw
                    case rel => exact ⟨y + 1, uo, by omega, by omega, by go_num, by rw [HE2.out]; exact hlo, by rw [HE2.out]; exact hS⟩
                    case measure => simp [intOf]; omega
            · obtain rfl : y = n := by omega
              go_wp2_with fail
              go_roundw
              case rel => exact ⟨x + 1, uo, by omega, by go_num, by rw [HE.out]; exact hlo, by rw [HE.out]; exact hS⟩
              case measure => simp [intOf]; omega
        · obtain rfl : x = n := by omega
          go_wp2_with fail
          go_ret
          exact ⟨_, uo, rfl, hlo.out, hS⟩
end Go.Proofs.YtegmjlblehjccaaGreat
end

section
/- Walks: the triple systems that the reference makes. -/
namespace Go.Proofs.YtegmjlblehjccaaGreat
set_option linter.unusedSimpArgs false
set_option linter.unusedVariables false
open Go.RowKit
attribute [local go_sem ↓] Go.wp_at_zero Go.wp_at_succ

theorem mkTS_ts {v : Nat} (hv : v ∈ ([3, 7, 9, 13, 15, 19] : List Nat)) : TS v (srtL (mkTS v)) := tsOk_ts (mkTS_ok v hv)
set_option maxHeartbeats 8000000 in
set_option maxRecDepth 100000 in
theorem l11Make_c (v : Nat) (w : World) (hv : v ∈ ([3, 7, 9, 13, 15, 19] : List Nat)) : Calls Tryz.prog 93 #[.int .i64 v] w (MakesDV w v (srtL (mkTS v))) := by
  have hT := mkTS_ts hv
  have hD := dOk_t hT.ok
  have hlen := hD.len
  rw [srtL_len] at hlen
  have HRw := Lib.hid (show ∀ xs ∈ mkTS v, xs.length ≤ 1048576 from fun xs hx => by rw [hT.three xs ((srtL_perm _).mem_iff.2 hx)]; decide)
  have hS0 := (St.refl w).newboxF 26 #[.int .i64 0, .slice none 0 0]
  have hv' : v = 3 ∨ v = 7 ∨ v = 9 ∨ v = 13 ∨ v = 15 ∨ v = 19 := by simpa using hv
  have K3 := Lib.hid (fun W us vo (h : RII W vo us (mkTS v)) => l10Sort_c vo us (mkTS v) W h (by omega) HRw.out)
  obtain ⟨t, ht⟩ : ∃ t, v / 6 = t := ⟨_, rfl⟩
  by_cases h3 : v % 6 = 3
  · have HM := Lib.hid (show mkTS v = bosL t (2 * t + 1) by unfold mkTS; rw [if_pos h3, ht])
    have K1 := Lib.hid (l11Bose_c t (w.alloc (.cells #[.int .i64 0, .slice none 0 0] 26)) (by omega))
    rw [← HM.out] at K1
    have q1 : (v : Int).tmod 6 = 3 := by rw [Int.tmod_eq_emod_of_nonneg (by omega)]; omega
    have q2 : ((v : Int) - 3).tdiv 6 = (t : Int) := by rw [Int.tdiv_eq_ediv_of_nonneg (by omega)]; omega
    have w1 : IntKind.i64.wrap ((v : Int) - 3) = (v : Int) - 3 := IntWalk.i64_in _ (by omega)
    have w2 : IntKind.i64.wrap (t : Int) = (t : Int) := IntWalk.i64_in _ (by omega)
    clear HM hT hD hlen hv hv' h3 ht HRw
    generalize mkTS v = M at *
    go_enter Tryz.func93, Tryz.ntmps93
    go_wp2_with fail
    refine K1.out.mono ?_
    rintro e w3 ⟨v3, us3, rfl, hl3, h3⟩
    have hS3 := hS0.call h3
    have K := Lib.hid (K3.out _ _ _ (h3.rii hl3))
    clear K1 K3 hS0
    go_wp2_with fail
    refine K.out.mono ?_
    rintro e w4 ⟨v4, us4, rfl, hl4, h4⟩
    obtain ⟨a4, c4, hv4⟩ := (h4.rd 0 (e := 30) (v := v4) (us := us4) rfl).sl.sh
    rw [hl4] at hv4
    subst hv4
    have hS4 := (hS3.sub (L' := [box 26 w.heap.size [.int .i64 0, .slice none 0 0]]) ((List.nil_sublist _).cons_cons _)).call h4
    have e0 := hS4.bcell 0 rfl 0 rfl
    have e1 := hS4.bcell 0 rfl 1 rfl
    have f0 := hS4.bfree 0 rfl
    have h6 := (hS4.bstore 0 rfl 0 (.int .i64 (v : Int))).bstore 0 rfl 1 (.slice a4 (srtL M).length c4)
    have g0 := h6.bcell 0 rfl 0 rfl
    have g1 := h6.bcell 0 rfl 1 rfl
    clear hS3 hS4 h4 h3 K
    go_wp2_with fail
    refine bodyPost_ret (v := .agg #[.int .i64 (v : Int), .slice a4 (srtL M).length c4]) (by simp [results, Tryz.results93, go_sem, g0, g1]) rfl ?_
    exact ⟨_, us4, rfl, hl4, h6.sub (.cons _ (.refl _))⟩
  · have HM := Lib.hid (show mkTS v = skoL t t ++ mxL (2 * t) (skoF t) (2 * t) by unfold mkTS; rw [if_neg h3, ht])
    have K1 := Lib.hid (l11Skolem_c t (w.alloc (.cells #[.int .i64 0, .slice none 0 0] 26)) (by omega))
    rw [← HM.out] at K1
    have q1 : (v : Int).tmod 6 = 1 := by rw [Int.tmod_eq_emod_of_nonneg (by omega)]; omega
    have q2 : ((v : Int) - 1).tdiv 6 = (t : Int) := by rw [Int.tdiv_eq_ediv_of_nonneg (by omega)]; omega
    have w1 : IntKind.i64.wrap ((v : Int) - 1) = (v : Int) - 1 := IntWalk.i64_in _ (by omega)
    have w2 : IntKind.i64.wrap (t : Int) = (t : Int) := IntWalk.i64_in _ (by omega)
    clear HM hT hD hlen hv hv' h3 ht HRw
    generalize mkTS v = M at *
    go_enter Tryz.func93, Tryz.ntmps93
    go_wp2_with fail
    refine K1.out.mono ?_
    rintro e w3 ⟨v3, us3, rfl, hl3, h3⟩
    have hS3 := hS0.call h3
    have K := Lib.hid (K3.out _ _ _ (h3.rii hl3))
    clear K1 K3 hS0
    go_wp2_with fail
    refine K.out.mono ?_
    rintro e w4 ⟨v4, us4, rfl, hl4, h4⟩
    obtain ⟨a4, c4, hv4⟩ := (h4.rd 0 (e := 30) (v := v4) (us := us4) rfl).sl.sh
    rw [hl4] at hv4
    subst hv4
    have hS4 := (hS3.sub (L' := [box 26 w.heap.size [.int .i64 0, .slice none 0 0]]) ((List.nil_sublist _).cons_cons _)).call h4
    have e0 := hS4.bcell 0 rfl 0 rfl
    have e1 := hS4.bcell 0 rfl 1 rfl
    have f0 := hS4.bfree 0 rfl
    have h6 := (hS4.bstore 0 rfl 0 (.int .i64 (v : Int))).bstore 0 rfl 1 (.slice a4 (srtL M).length c4)
    have g0 := h6.bcell 0 rfl 0 rfl
    have g1 := h6.bcell 0 rfl 1 rfl
    clear hS3 hS4 h4 h3 K
    go_wp2_with fail
    refine bodyPost_ret (v := .agg #[.int .i64 (v : Int), .slice a4 (srtL M).length c4]) (by simp [results, Tryz.results93, go_sem, g0, g1]) rfl ?_
    exact ⟨_, us4, rfl, hl4, h6.sub (.cons _ (.refl _))⟩
end Go.Proofs.YtegmjlblehjccaaGreat
end

section
/- Walks: the triple systems that the reference draws. -/
namespace Go.Proofs.YtegmjlblehjccaaGreat
set_option linter.unusedSimpArgs false
set_option linter.unusedVariables false
open Go.RowKit
attribute [local go_sem ↓] Go.wp_at_zero Go.wp_at_succ

/-- the orders that are drawn -/
def trO : List Nat := [3, 7, 9, 13, 15, 19]
def MakesTr (w0 : World) (cv : Value) (g K : Nat) (L : List Ent) (e : Ending) (w' : World) : Prop := ∃ (P : Nat) (A : List (List Int)) (v : Value) (us : List Value), P ∈ trO ∧ TS P A ∧ e = .returned (dv P v) ∧ us.length = A.length ∧ Src w0 w' cv g K (own2 v us A ++ L)
theorem MakesSw.one {w w' : World} {P : Nat} {e : Ending} (h : MakesSw w P e w') : ∃ (P' : Nat) (A' : List (List Int)) (c' : Int) (v' : Value) (us' : List Value), e = .returned (.tuple #[dv P' v', .int .i64 c']) ∧ (c' = 0 ∨ c' = 6) ∧ (c' = 0 → P' = P ∧ TS P A') ∧ us'.length = A'.length ∧ St w.heap.size w w' (own2 v' us' A') := by
  rcases h with ⟨A', hT, v, us, rfl, hl, hS⟩ | ⟨v, us, rfl, hl, hS⟩
  · exact ⟨P, A', 0, v, us, rfl, .inl rfl, fun _ => ⟨rfl, hT⟩, hl, hS⟩
  · exact ⟨0, [], 6, v, us, rfl, .inr rfl, (fun h => by cases h), hl, hS⟩
/-- behind a switch: a design in a box of its own, and a code -/
def CutT (w0 : World) (cv : Value) (g K P : Nat) (LL : List Ent) (s6 s7 : Value) (w' : World) : Prop := ∃ (g6 P' : Nat) (A' : List (List Int)) (a' : Option Addr) (c'' : Nat) (us' : List Value) (c' : Int), s6 = .pointer (some ⟨g6, 0, none⟩) ∧ s7 = .int .i64 c' ∧ (c' = 0 ∨ c' = 6) ∧ (c' = 0 → P' = P ∧ TS P A') ∧ us'.length = A'.length ∧ Src w0 w' cv g K (box 26 g6 [.int .i64 P', .slice a' A'.length c''] :: (LL ++ own2 (.slice a' A'.length c'') us' A'))
set_option maxHeartbeats 16000000 in
set_option maxRecDepth 100000 in
theorem l11Draw_c (w0 w : World) (cv : Value) (bs : List UInt8) (g K : Nat) (L : List Ent) (hb : RdB w0 cv bs) (h : Src w0 w cv g K L) (hK : K < 100000000) :
    Calls Tryz.prog 31 #[.pointer (some ⟨g, 0, none⟩)] w (MakesTr w0 cv g (K + 1000) L) := by
  have h1 := h.newboxF 26 #[.int .i64 0, .slice none 0 0]
  have h2 : Src w0 ((w.alloc (.cells #[.int .i64 0, .slice none 0 0] 26)).alloc (.cells #[.int .i64 3, .int .i64 7, .int .i64 7, .int .i64 9, .int .i64 9, .int .i64 13, .int .i64 15, .int .i64 19] 2)) cv g K (row 2 (.slice (some ⟨w.heap.size + 1, 0, none⟩) 8 8) (iv [3, 7, 7, 9, 9, 13, 15, 19]) :: box 26 w.heap.size [.int .i64 0, .slice none 0 0] :: L) := by
    have h3 := h1.lit [3, 7, 7, 9, 9, 13, 15, 19] (by simp)
    simp only [World.size_alloc] at h3
    exact h3
  clear h
  go_enter Tryz.func31, Tryz.ntmps31
  go_wp2_with fail
  refine (among_c w0 _ cv bs g _ _ _ _ hb h2 (by simp) (by omega)).mono ?_
  rintro e w1 ⟨x, hx, rfl, h3⟩
  obtain ⟨P, rfl, hP⟩ : ∃ P : Nat, x = P ∧ P ∈ trO := by
    simp only [List.mem_cons, List.not_mem_nil, or_false] at hx
    rcases hx with rfl | rfl | rfl | rfl | rfl | rfl | rfl | rfl
    · exact ⟨3, rfl, by decide⟩
    · exact ⟨7, rfl, by decide⟩
    · exact ⟨7, rfl, by decide⟩
    · exact ⟨9, rfl, by decide⟩
    · exact ⟨9, rfl, by decide⟩
    · exact ⟨13, rfl, by decide⟩
    · exact ⟨15, rfl, by decide⟩
    · exact ⟨19, rfl, by decide⟩
  have hA := Lib.hid (mkTS_ts hP)
  have hP' := Lib.hid hP
  have KM := Lib.hid (l11Make_c P w1 hP)
  have hP32 : P ≤ 32 := hA.out.p32
  clear hx h1 h2 hP
  go_wp2_with fail
  refine KM.out.mono ?_
  rintro e w2 ⟨v, us, rfl, hl, h4⟩
  generalize srtL (mkTS P) = A at *
  obtain ⟨a, c, hv⟩ := (h4.rd 0 (e := 30) (v := v) (us := us) rfl).sl.sh
  rw [hl] at hv
  subst hv
  have h5 := (h3.call h4).newboxF 26 #[.int .i64 P, .slice a A.length c]
  have h6 := h5.perm (L' := box 26 w2.heap.size [.int .i64 P, .slice a A.length c] :: box 26 w.heap.size [.int .i64 0, .slice none 0 0] :: (own2 (.slice a A.length c) us A ++ L)) (by
    refine List.Perm.cons _ (List.Perm.cons _ ?_)
    exact List.perm_append_comm)
  clear h3 h4 h5 KM
  unfold dv
  have Hl := Lib.hid hl
  clear hl
  go_wp2_with fail
  refine (pick_c w0 _ cv bs g _ _ 3 hb h6 (by omega)).mono ?_
  rintro e w3 ⟨k, k0, k1, rfl, h7⟩
  obtain ⟨kk, rfl⟩ := Int.eq_ofNat_of_zero_le k0
  have hkk : kk ≤ 2 := by omega
  clear h6 k0 k1
  go_wp2_with fail
  go_loopw [4, 5, 6, 7] (fun ki _ _ _ wr => ∃ (m : Nat) (A : List (List Int)) (a : Option Addr) (c : Nat) (us : List Value), ki = .int .i64 m ∧ m ≤ 2 ∧ Hid (TS P A ∧ us.length = A.length) ∧ Src w0 wr cv g (K + 100 - 10 * m) (box 26 w2.heap.size [.int .i64 P, .slice a A.length c] :: box 26 w.heap.size [.int .i64 0, .slice none 0 0] :: (own2 (.slice a A.length c) us A ++ L))) (fun ki _ _ _ _ => (intOf ki).toNat)
  case atStart => exact ⟨kk, A, a, c, us, rfl, hkk, ⟨hA.out, Hl.out⟩, h7.mono (by omega)⟩
  case round =>
    clear h7 hA Hl
    obtain ⟨m, A, a, c, us, rfl, hm, hI, hS⟩ := hrel
    by_cases hm0 : 0 < m
    · have hmi : (0 : Int) < (m : Int) := by omega
      have w1 : IntKind.i64.wrap ((m : Int) - 1) = (m : Int) - 1 := IntWalk.i64_in _ (by omega)
      have hbx : BoxD wr w2.heap.size P (.slice a A.length c) := ⟨hS.box 0 rfl 0 rfl, hS.box 0 rfl 1 rfl⟩
      have hrr := hS.riiS (v := .slice a A.length c) (us := us) (A := A) ((List.sublist_append_left _ _).trans ((List.sublist_cons_self _ _).trans (List.sublist_cons_self _ _))) hI.out.2
      have KQ := Lib.hid (l11PaschsO_c P w2.heap.size (.slice a A.length c) us A wr hrr hbx hI.out.1)
      clear hbx hrr
      go_wp2_with fail
      refine KQ.out.mono ?_
      rintro e4 w4 ⟨vR, uR, R, rfl, eR, lR, pR, h8⟩
      have hS4 := hS.call h8
      have rR := h8.rii eR
      have lnR := rR.len
      clear KQ hS
      by_cases hR0 : R.length = 0
      · have f1 : ((R.length : Int) == 0) = true := eq_t (by omega)
        have hS := hS4.sub (L' := box 26 w2.heap.size [.int .i64 P, .slice a A.length c] :: box 26 w.heap.size [.int .i64 0, .slice none 0 0] :: (own2 (.slice a A.length c) us A ++ L)) (List.sublist_append_left _ _)
        clear hS4 h8 rR
        go_wp2_with fail
        refine (one_c w0 _ cv bs g _ _ 2 hb hS (by omega)).mono ?_
        rintro e5 w5 ⟨b, rfl, hT⟩
        clear hS
        cases b
        · have b0 := hT.box 0 (e := 26) rfl 0 rfl
          have b1 := hT.box 0 (e := 26) rfl 1 rfl
          have c0 := hT.box 1 (e := 26) rfl 0 rfl
          have c1 := hT.box 1 (e := 26) rfl 1 rfl
          have f0 := hT.bfree 1 (e := 26) rfl 0
          have f1 := hT.bfree 1 (e := 26) rfl 1
          have h9 := (hT.bstore 1 (e := 26) rfl 0 (.int .i64 P)).bstore 1 (e := 26) rfl 1 (.slice a A.length c)
          simp only [List.set_cons_zero, List.set_cons_succ] at h9
          have d0 := h9.box 1 (e := 26) rfl 0 rfl
          have d1 := h9.box 1 (e := 26) rfl 1 rfl
          have h10 := h9.sub (L' := own2 (.slice a A.length c) us A ++ L) ((List.sublist_cons_self _ _).trans (List.sublist_cons_self _ _))
          clear hT h9
          go_wp2_with fail
          refine bodyPost_ret (v := .agg #[.int .i64 P, .slice a A.length c]) (by simp [results, Tryz.results31, go_sem, d0, d1]) rfl ?_
          exact ⟨P, A, _, us, hP'.out, hI.out.1, rfl, hI.out.2, h10.mono (by omega)⟩
        · have b0 := hT.box 0 (e := 26) rfl 0 rfl
          go_wp2_with fail
          refine (l04DrawPerm_c w0 _ cv bs g _ _ P hb hT (by omega) (by omega)).mono ?_
          rintro e6 w6 ⟨vp, p, rfl, hpl, hpp, h2⟩
          have Hp := Lib.hid (And.intro hpl hpp)
          have hbx : BoxD w6 w2.heap.size P (.slice a A.length c) := ⟨h2.box 1 (e := 26) rfl 0 rfl, h2.box 1 (e := 26) rfl 1 rfl⟩
          have hrr := h2.riiS (v := .slice a A.length c) (us := us) (A := A) ((List.sublist_append_left _ _).trans ((List.sublist_cons_self _ _).trans ((List.sublist_cons_self _ _).trans (List.sublist_cons_self _ _)))) hI.out.2
          have HK := Lib.hid (l10Image_c P w2.heap.size (.slice a A.length c) us A vp p w6 hrr hbx (h2.rdI 0 rfl) hI.out.1.ok hpl)
          have HT := Lib.hid (hI.out.1.img hpp hpl)
          clear b0 hT hpl hpp hbx hrr
          go_wp2_with fail
          refine HK.out.mono ?_
          clear HK
          rintro e7 w7 ⟨v5, us5, rfl, hl5, h5⟩
          obtain ⟨ua, uc, hv5⟩ := (h5.rd 0 (e := 30) (v := v5) (us := us5) rfl).sl.sh
          rw [hl5] at hv5
          generalize srtL (imgL p A) = S at *
          subst hv5
          have h6 := h2.call h5
          have c0 := h6.box 2 (e := 26) rfl 0 rfl
          have c1 := h6.box 2 (e := 26) rfl 1 rfl
          have f0 := h6.bfree 2 (e := 26) rfl 0
          have f1 := h6.bfree 2 (e := 26) rfl 1
          have h9 := (h6.bstore 2 (e := 26) rfl 0 (.int .i64 P)).bstore 2 (e := 26) rfl 1 (.slice ua S.length uc)
          simp only [List.cons_append, List.set_cons_zero, List.set_cons_succ] at h9
          have d0 := h9.box 2 (e := 26) rfl 0 rfl
          have d1 := h9.box 2 (e := 26) rfl 1 rfl
          have h10 := (h9.sub (L' := L ++ own2 (.slice ua S.length uc) us5 S) (by
            refine .cons _ (.cons _ (.cons _ ?_))
            rw [List.append_assoc]
            exact List.sublist_append_right _ _)).perm (L' := own2 (.slice ua S.length uc) us5 S ++ L) List.perm_append_comm
          unfold dv
          clear h2 h5 h6 h9
          go_wp2_with fail
          refine bodyPost_ret (v := .agg #[.int .i64 P, .slice ua S.length uc]) (by simp [results, Tryz.results31, go_sem, d0, d1]) rfl ?_
          exact ⟨P, S, _, us5, hP'.out, HT.out, rfl, hl5, h10.mono (by omega)⟩
      · have f1 : ((R.length : Int) == 0) = false := eq_f (by omega)
        have pR := Lib.hid pR
        have ixR := rR.ixe
        obtain ⟨LL, hLL⟩ : ∃ LL : List Ent, LL = box 26 w2.heap.size [.int .i64 P, .slice a A.length c] :: box 26 w.heap.size [.int .i64 0, .slice none 0 0] :: (own2 (.slice a A.length c) us A ++ L) ++ own2 vR uR R := ⟨_, rfl⟩
        rw [← hLL] at hS4
        have hsA : (own2 (.slice a A.length c) us A).Sublist LL := by
          rw [hLL]
          exact ((List.sublist_append_left _ L).trans ((List.sublist_cons_self _ _).trans (List.sublist_cons_self _ _))).trans (List.sublist_append_left _ _)
        have hsR : (own2 vR uR R).Sublist LL := by rw [hLL]; exact List.sublist_append_right _ _
        have HA := Lib.hid (fun W K' (X : List Ent) (hW : Src w0 W cv g K' (X ++ LL)) => hW.riiS (v := .slice a A.length c) (us := us) (A := A) (hsA.trans (List.sublist_append_right _ _)) hI.out.2)
        have HR := Lib.hid (fun W K' (X : List Ent) (hW : Src w0 W cv g K' (X ++ LL)) => hW.riiS (v := vR) (us := uR) (A := R) (hsR.trans (List.sublist_append_right _ _)) eR)
        have HQ := Lib.hid (fun W K' (X : List Ent) j (hj : j < R.length) (hW : Src w0 W cv g K' (X ++ LL)) => (HR.out W K' X hW).row j hj)
        have HS := Lib.hid (fun W K' (X : List Ent) (hW : Src w0 W cv g K' (X ++ LL)) => (show W.cell? ⟨w2.heap.size, 0, none⟩ = some (.int .i64 P) ∧ W.cell? ⟨w2.heap.size, 1, none⟩ = some (.slice a A.length c) ∧ ∀ j, j < R.length → W.cell? (el vR j) = some (vat uR j) from by
          have h' := hW.sub (L' := LL) (List.sublist_append_right _ _)
          refine ⟨?_, ?_, fun j hj => (HR.out W K' X hW).cell j hj⟩
          · rw [hLL] at h'; exact h'.box 0 rfl 0 rfl
          · rw [hLL] at h'; exact h'.box 0 rfl 1 rfl))
        have HS2 := Lib.hid (fun W K' (X Y : List Ent) (hW : Src w0 W cv g K' (X ++ LL ++ Y)) => HS.out W K' X (hW.sub (List.sublist_append_left _ _)))
        have HLL := Lib.hid hLL
        clear hsA hsR rR eR lR h8 hLL
        go_wp2_with fail
        go_cut [6, 7] from 22 to 34 (fun s6 s7 w' => CutT w0 cv g (K + 110 - 10 * m) P LL s6 s7 w')
        case first =>
          refine regionG (fun w' => w'.cell? ⟨w2.heap.size, 0, none⟩ = some (.int .i64 P) ∧ w'.cell? ⟨w2.heap.size, 1, none⟩ = some (.slice a A.length c) ∧ ∀ j, j < R.length → w'.cell? (el vR j) = some (vat uR j)) 13 (by kernel_rfl) (HS.out _ _ [] hS4.drew) (fun hHeld => ?_)
          have hS5 := hS4.drew
          refine takeH (i := 0) [8] (v := ?_) rfl (by kernel_rfl) (fun _ _ _ h => h) (by rfl) ?_ (by assumption) ?_
          case refine_2 => (intro w' hSw; (try dsimp only at hSw); have hc0 := hSw.1; have hc1 := hSw.2.1; go_simp; first | done | with_reducible rfl)
          try simp only [Act.put, List.setIfInBounds_toArray, List.set_cons_zero, List.set_cons_succ]
          refine takeP (i := 1) (v := ?_) rfl (by kernel_rfl) (fun _ _ _ h => h) (by rfl) ?_ (by assumption) ?_
          case refine_2 => (intro w'; go_simp; first | done | with_reducible rfl)
          try simp only [Act.put, List.setIfInBounds_toArray, List.set_cons_zero, List.set_cons_succ]
          refine takeP (i := 2) (v := ?_) rfl (by kernel_rfl) (fun _ _ _ h => h) (by rfl) ?_ (by assumption) ?_
          case refine_2 => (intro w'; go_simp; first | done | with_reducible rfl)
          try simp only [Act.put, List.setIfInBounds_toArray, List.set_cons_zero, List.set_cons_succ]
          refine takeP (i := 3) (v := ?_) rfl (by kernel_rfl) (fun _ _ _ h => h) (by rfl) ?_ (by assumption) ?_
          case refine_2 => (intro w'; go_simp; first | done | with_reducible rfl)
          try simp only [Act.put, List.setIfInBounds_toArray, List.set_cons_zero, List.set_cons_succ]
          refine takeP (i := 4) (v := ?_) rfl (by kernel_rfl) (fun _ _ _ h => h) (by rfl) ?_ (by assumption) ?_
          case refine_2 => (intro w'; go_simp; first | done | with_reducible rfl)
          try simp only [Act.put, List.setIfInBounds_toArray, List.set_cons_zero, List.set_cons_succ]
          refine readyG (rs := [5, 12]) (by kernel_rfl) (by simp) ?_
          refine AllG.cons rfl (fun K hK => ?_) (AllG.cons rfl (fun K hK => ?_) AllG.nil)
          · go_simp
            refine (pick_c w0 _ cv bs g _ _ R.length hb hS5 (by omega)).mono ?_
            rintro e5 w5 ⟨z, z0, z1, rfl, hP⟩
            obtain ⟨j, rfl⟩ := Int.eq_ofNat_of_zero_le z0
            have hjR : j < R.length := by omega
            have xj := ixR (j : Int) j rfl hjR
            have hSS := HS.out w5 _ [] hP
            refine hK.out _ _ hSS (fun hHeld => ?_)
            clear hK K hS5
            try simp only [Act.put, List.setIfInBounds_toArray, List.set_cons_zero, List.set_cons_succ]
            refine takeP (i := 6) (v := ?_) rfl (by kernel_rfl) (fun _ _ _ h => h) (by rfl) ?_ (by assumption) ?_
            case refine_2 => (intro w'; go_simp; first | done | with_reducible rfl)
            try simp only [Act.put, List.setIfInBounds_toArray, List.set_cons_zero, List.set_cons_succ]
            refine takeH (i := 7) [8] (v := ?_) rfl (by kernel_rfl) (fun _ _ _ h => h) (by rfl) ?_ (by assumption) ?_
            case refine_2 => (intro w' hSw; (try dsimp only at hSw); have hcj := hSw.2.2 j hjR; go_simp; first | done | with_reducible rfl)
            try simp only [Act.put, List.setIfInBounds_toArray, List.set_cons_zero, List.set_cons_succ]
            refine readyG (rs := [8, 12]) (by kernel_rfl) (by simp) ?_
            refine AllG.cons rfl (fun K hK => ?_) (AllG.cons rfl (fun K hK => ?_) AllG.nil)
            · go_simp
              have hA5 := HA.out _ _ [] hP
              have hq5 := HQ.out _ _ [] j hjR hP
              have hp5 := pR.out _ (xat_mem hjR)
              refine (sSwitchPasch_c P (.slice a A.length c) (vat uR j) us A (xat R j) _ hA5 hq5 hI.out.1 hp5).mono ?_
              intro e6 w6 h6
              obtain ⟨P', A', c', v', us', rfl, hc6, hT6, hl6, h7⟩ := h6.one
              obtain ⟨a', c'', hv'⟩ := (h7.rd 0 (e := 30) (v := v') (us := us') rfl).sl.sh
              rw [hl6] at hv'
              subst hv'
              unfold dv
              have hV0 := hP.call h7
              refine hK.out _ _ (HS2.out _ _ [] _ hV0) (fun hHeld => ?_)
              clear hK K hA5 hq5 hp5 h6 h7 hP
              try simp only [Act.put, List.setIfInBounds_toArray, List.set_cons_zero, List.set_cons_succ]
              refine takeP (i := 9) (v := ?_) rfl (by kernel_rfl) (fun _ _ _ h => h) (by rfl) ?_ (by assumption) ?_
              case refine_2 => (intro w'; go_simp; first | done | with_reducible rfl)
              try simp only [Act.put, List.setIfInBounds_toArray, List.set_cons_zero, List.set_cons_succ]
              refine takeP (i := 10) (v := ?_) rfl (by kernel_rfl) (fun _ _ _ h => h) (by rfl) ?_ (by assumption) ?_
              case refine_2 => (intro w'; go_simp; first | done | with_reducible rfl)
              try simp only [Act.put, List.setIfInBounds_toArray, List.set_cons_zero, List.set_cons_succ]
              refine takeP (i := 11) (v := ?_) rfl (by kernel_rfl) (fun _ _ _ h => h) (by rfl) ?_ (by assumption) ?_
              case refine_2 => (intro w'; go_simp; first | done | with_reducible rfl)
              try simp only [Act.put, List.setIfInBounds_toArray, List.set_cons_zero, List.set_cons_succ]
              refine readyG (rs := [12]) (by kernel_rfl) (by simp) ?_
              refine AllG.cons rfl (fun K hK => ?_) AllG.nil
              go_simp
              have hV := hV0.newboxF 26 #[.int .i64 0, .slice none 0 0]
              refine hK.out _ _ (HS2.out _ _ [_] _ hV) (fun hHeld => ?_)
              clear hK K
              try simp only [Act.put, List.setIfInBounds_toArray, List.set_cons_zero, List.set_cons_succ]
              have y0 := hV.bfree 0 rfl 0
              have y1 := hV.box 0 rfl 0 rfl
              have y2 := hV.box 0 rfl 1 rfl
              have y3 := hV.bfree 0 rfl 1
              refine readyG (rs := [13]) (by kernel_rfl) (by simp) ?_
              refine AllG.last rfl (by kernel_rfl) (fun K hK => ?_) AllG.nil
              go_simp
              refine hK.out _ _ ?_
              clear hK K
              try simp only [Act.put, List.setIfInBounds_toArray, List.set_cons_zero, List.set_cons_succ]
              refine readyG (rs := [14]) (by kernel_rfl) (by simp) ?_
              refine AllG.last rfl (by kernel_rfl) (fun K hK => ?_) AllG.nil
              go_simp
              refine hK.out _ _ ?_
              clear hK K
              try simp only [Act.put, List.setIfInBounds_toArray, List.set_cons_zero, List.set_cons_succ]
              refine doneG (by kernel_rfl) ?_ _
              refine NoPanic.normal ?_
              have h9 := hV0.newboxF 26 #[.int .i64 P', .slice a' A'.length c'']
              clear y0 y1 y2 y3
              go_wp2_with fail
              go_meet
              case rel => exact ⟨_, P', A', a', c'', us', c', rfl, rfl, hc6, hT6, hl6, h9.mono (by omega)⟩
            · go_simp
              have hPa := hP.newboxF 26 #[.int .i64 0, .slice none 0 0]
              refine hK.out _ _ (HS.out _ _ [_] hPa) (fun hHeld => ?_)
              clear hK K
              try simp only [Act.put, List.setIfInBounds_toArray, List.set_cons_zero, List.set_cons_succ]
              refine readyG (rs := [8]) (by kernel_rfl) (by simp) ?_
              refine AllG.cons rfl (fun K hK => ?_) AllG.nil
              go_simp
              have hA5 := HA.out _ _ [_] hPa
              have hq5 := HQ.out _ _ [_] j hjR hPa
              have hp5 := pR.out _ (xat_mem hjR)
              refine (sSwitchPasch_c P (.slice a A.length c) (vat uR j) us A (xat R j) _ hA5 hq5 hI.out.1 hp5).mono ?_
              intro e6 w6 h6
              obtain ⟨P', A', c', v', us', rfl, hc6, hT6, hl6, h7⟩ := h6.one
              obtain ⟨a', c'', hv'⟩ := (h7.rd 0 (e := 30) (v := v') (us := us') rfl).sl.sh
              rw [hl6] at hv'
              subst hv'
              unfold dv
              have hV := hPa.call h7
              refine hK.out _ _ (HS2.out _ _ [_] _ hV) (fun hHeld => ?_)
              clear hK K hA5 hq5 hp5 h6 h7 hPa
              try simp only [Act.put, List.setIfInBounds_toArray, List.set_cons_zero, List.set_cons_succ]
              refine takeP (i := 9) (v := ?_) rfl (by kernel_rfl) (fun _ _ _ h => h) (by rfl) ?_ (by assumption) ?_
              case refine_2 => (intro w'; go_simp; first | done | with_reducible rfl)
              try simp only [Act.put, List.setIfInBounds_toArray, List.set_cons_zero, List.set_cons_succ]
              refine takeP (i := 10) (v := ?_) rfl (by kernel_rfl) (fun _ _ _ h => h) (by rfl) ?_ (by assumption) ?_
              case refine_2 => (intro w'; go_simp; first | done | with_reducible rfl)
              try simp only [Act.put, List.setIfInBounds_toArray, List.set_cons_zero, List.set_cons_succ]
              refine takeP (i := 11) (v := ?_) rfl (by kernel_rfl) (fun _ _ _ h => h) (by rfl) ?_ (by assumption) ?_
              case refine_2 => (intro w'; go_simp; first | done | with_reducible rfl)
              try simp only [Act.put, List.setIfInBounds_toArray, List.set_cons_zero, List.set_cons_succ]
              have y0 := hV.bfree 0 rfl 0
              have y1 := hV.box 0 rfl 0 rfl
              have y2 := hV.box 0 rfl 1 rfl
              have y3 := hV.bfree 0 rfl 1
              refine readyG (rs := [13]) (by kernel_rfl) (by simp) ?_
              refine AllG.last rfl (by kernel_rfl) (fun K hK => ?_) AllG.nil
              go_simp
              refine hK.out _ _ ?_
              clear hK K
              try simp only [Act.put, List.setIfInBounds_toArray, List.set_cons_zero, List.set_cons_succ]
              refine readyG (rs := [14]) (by kernel_rfl) (by simp) ?_
              refine AllG.last rfl (by kernel_rfl) (fun K hK => ?_) AllG.nil
              go_simp
              refine hK.out _ _ ?_
              clear hK K
              try simp only [Act.put, List.setIfInBounds_toArray, List.set_cons_zero, List.set_cons_succ]
              refine doneG (by kernel_rfl) ?_ _
              refine NoPanic.normal ?_
              have h9 := (hV.bstore 0 rfl 0 (.int .i64 P')).bstore 0 rfl 1 (.slice a' A'.length c'')
              clear y0 y1 y2 y3
              go_wp2_with fail
              go_meet
              case rel => exact ⟨_, P', A', a', c'', us', c', rfl, rfl, hc6, hT6, hl6, h9.mono (by omega)⟩
          · go_simp
            have hSa : Src w0 _ cv g _ (box 26 w4.heap.size [.int .i64 0, .slice none 0 0] :: LL) := hS5.newboxF 26 #[.int .i64 0, .slice none 0 0]
            refine hK.out _ _ (HS.out _ _ [_] hSa) (fun hHeld => ?_)
            clear hK K
            try simp only [Act.put, List.setIfInBounds_toArray, List.set_cons_zero, List.set_cons_succ]
            refine readyG (rs := [5]) (by kernel_rfl) (by simp) ?_
            refine AllG.cons rfl (fun K hK => ?_) AllG.nil
            go_simp
            refine (pick_c w0 _ cv bs g _ _ R.length hb hSa (by omega)).mono ?_
            rintro e5 w5 ⟨z, z0, z1, rfl, hP⟩
            obtain ⟨j, rfl⟩ := Int.eq_ofNat_of_zero_le z0
            have hjR : j < R.length := by omega
            have xj := ixR (j : Int) j rfl hjR
            have hSS := HS.out w5 _ [_] hP
            refine hK.out _ _ hSS (fun hHeld => ?_)
            clear hK K hSa
            try simp only [Act.put, List.setIfInBounds_toArray, List.set_cons_zero, List.set_cons_succ]
            refine takeP (i := 6) (v := ?_) rfl (by kernel_rfl) (fun _ _ _ h => h) (by rfl) ?_ (by assumption) ?_
            case refine_2 => (intro w'; go_simp; first | done | with_reducible rfl)
            try simp only [Act.put, List.setIfInBounds_toArray, List.set_cons_zero, List.set_cons_succ]
            refine takeH (i := 7) [8] (v := ?_) rfl (by kernel_rfl) (fun _ _ _ h => h) (by rfl) ?_ (by assumption) ?_
            case refine_2 => (intro w' hSw; (try dsimp only at hSw); have hcj := hSw.2.2 j hjR; go_simp; first | done | with_reducible rfl)
            try simp only [Act.put, List.setIfInBounds_toArray, List.set_cons_zero, List.set_cons_succ]
            refine readyG (rs := [8]) (by kernel_rfl) (by simp) ?_
            refine AllG.cons rfl (fun K hK => ?_) AllG.nil
            go_simp
            have hA5 := HA.out _ _ [_] hP
            have hq5 := HQ.out _ _ [_] j hjR hP
            have hp5 := pR.out _ (xat_mem hjR)
            refine (sSwitchPasch_c P (.slice a A.length c) (vat uR j) us A (xat R j) _ hA5 hq5 hI.out.1 hp5).mono ?_
            intro e6 w6 h6
            obtain ⟨P', A', c', v', us', rfl, hc6, hT6, hl6, h7⟩ := h6.one
            obtain ⟨a', c'', hv'⟩ := (h7.rd 0 (e := 30) (v := v') (us := us') rfl).sl.sh
            rw [hl6] at hv'
            subst hv'
            unfold dv
            have hV := hP.call h7
            refine hK.out _ _ (HS2.out _ _ [_] _ hV) (fun hHeld => ?_)
            clear hK K hA5 hq5 hp5 h6 h7 hP
            try simp only [Act.put, List.setIfInBounds_toArray, List.set_cons_zero, List.set_cons_succ]
            refine takeP (i := 9) (v := ?_) rfl (by kernel_rfl) (fun _ _ _ h => h) (by rfl) ?_ (by assumption) ?_
            case refine_2 => (intro w'; go_simp; first | done | with_reducible rfl)
            try simp only [Act.put, List.setIfInBounds_toArray, List.set_cons_zero, List.set_cons_succ]
            refine takeP (i := 10) (v := ?_) rfl (by kernel_rfl) (fun _ _ _ h => h) (by rfl) ?_ (by assumption) ?_
            case refine_2 => (intro w'; go_simp; first | done | with_reducible rfl)
            try simp only [Act.put, List.setIfInBounds_toArray, List.set_cons_zero, List.set_cons_succ]
            refine takeP (i := 11) (v := ?_) rfl (by kernel_rfl) (fun _ _ _ h => h) (by rfl) ?_ (by assumption) ?_
            case refine_2 => (intro w'; go_simp; first | done | with_reducible rfl)
            try simp only [Act.put, List.setIfInBounds_toArray, List.set_cons_zero, List.set_cons_succ]
            have y0 := hV.bfree 0 rfl 0
            have y1 := hV.box 0 rfl 0 rfl
            have y2 := hV.box 0 rfl 1 rfl
            have y3 := hV.bfree 0 rfl 1
            refine readyG (rs := [13]) (by kernel_rfl) (by simp) ?_
            refine AllG.last rfl (by kernel_rfl) (fun K hK => ?_) AllG.nil
            go_simp
            refine hK.out _ _ ?_
            clear hK K
            try simp only [Act.put, List.setIfInBounds_toArray, List.set_cons_zero, List.set_cons_succ]
            refine readyG (rs := [14]) (by kernel_rfl) (by simp) ?_
            refine AllG.last rfl (by kernel_rfl) (fun K hK => ?_) AllG.nil
            go_simp
            refine hK.out _ _ ?_
            clear hK K
            try simp only [Act.put, List.setIfInBounds_toArray, List.set_cons_zero, List.set_cons_succ]
            refine doneG (by kernel_rfl) ?_ _
            refine NoPanic.normal ?_
            have h9 := (hV.bstore 0 rfl 0 (.int .i64 P')).bstore 0 rfl 1 (.slice a' A'.length c'')
            clear y0 y1 y2 y3
            go_wp2_with fail
            go_meet
            case rel => exact ⟨_, P', A', a', c'', us', c', rfl, rfl, hc6, hT6, hl6, h9.mono (by omega)⟩
        case rest =>
          obtain ⟨g6, P', A', a', c'', us', c', rfl, rfl, hc6, hT6, hl6, hV⟩ := hcut
          have y0 := hV.box 0 (e := 26) rfl 0 rfl
          have y1 := hV.box 0 (e := 26) rfl 1 rfl
          rw [HLL.out] at hV
          have hV1 := hV.perm (L' := box 26 w2.heap.size [.int .i64 P, .slice a A.length c] :: box 26 w.heap.size [.int .i64 0, .slice none 0 0] :: (box 26 g6 [.int .i64 P', .slice a' A'.length c''] :: ((own2 (.slice a A.length c) us A ++ L ++ own2 vR uR R) ++ own2 (.slice a' A'.length c'') us' A'))) (by
            refine (List.Perm.swap _ _ _).trans (List.Perm.cons _ ?_)
            exact List.Perm.swap _ _ _)
          clear hV
          rcases hc6 with rfl | rfl
          · obtain ⟨rfl, hT6⟩ := hT6 rfl
            have z0 := hV1.box 0 (e := 26) rfl 0 rfl
            have z1 := hV1.box 0 (e := 26) rfl 1 rfl
            have f0 := hV1.bfree 0 (e := 26) rfl 0
            have f1 := hV1.bfree 0 (e := 26) rfl 1
            have h9 := (hV1.bstore 0 (e := 26) rfl 0 (.int .i64 P')).bstore 0 (e := 26) rfl 1 (.slice a' A'.length c'')
            simp only [List.set_cons_zero, List.set_cons_succ] at h9
            have h10 := (h9.sub (L' := box 26 w2.heap.size [.int .i64 P', .slice a' A'.length c''] :: box 26 w.heap.size [.int .i64 0, .slice none 0 0] :: (L ++ own2 (.slice a' A'.length c'') us' A')) (by
              refine .cons_cons _ (.cons_cons _ (.cons _ ?_))
              exact List.Sublist.append_right ((List.sublist_append_right _ _).trans (List.sublist_append_left _ _)) _)).perm (L' := box 26 w2.heap.size [.int .i64 P', .slice a' A'.length c''] :: box 26 w.heap.size [.int .i64 0, .slice none 0 0] :: (own2 (.slice a' A'.length c'') us' A' ++ L)) (List.Perm.cons _ (List.Perm.cons _ List.perm_append_comm))
            have HT6 := Lib.hid (And.intro hT6 hl6)
            clear hV1 h9 hT6 hl6
            go_wp2_with fail
            go_roundw
            case rel => exact ⟨m - 1, A', a', c'', us', by go_num, by omega, HT6.out, h10.mono (by omega)⟩
            case measure => simp [intOf]; omega
          · have h10 := hV1.sub (L' := box 26 w2.heap.size [.int .i64 P, .slice a A.length c] :: box 26 w.heap.size [.int .i64 0, .slice none 0 0] :: (own2 (.slice a A.length c) us A ++ L)) (by
              refine .cons_cons _ (.cons_cons _ (.cons _ ?_))
              exact (List.sublist_append_left _ _).trans (List.sublist_append_left _ _))
            clear hV1 hT6 hl6
            go_wp2_with fail
            go_roundw
            case rel => exact ⟨m - 1, A, a, c, us, by go_num, by omega, hI, h10.mono (by omega)⟩
            case measure => simp [intOf]; omega
    · obtain rfl : m = 0 := by omega
      go_wp2_with fail
      refine (one_c w0 _ cv bs g _ _ 2 hb hS (by omega)).mono ?_
      rintro e5 w5 ⟨b, rfl, hT⟩
      clear hS
      cases b
      · have b0 := hT.box 0 (e := 26) rfl 0 rfl
        have b1 := hT.box 0 (e := 26) rfl 1 rfl
        have c0 := hT.box 1 (e := 26) rfl 0 rfl
        have c1 := hT.box 1 (e := 26) rfl 1 rfl
        have f0 := hT.bfree 1 (e := 26) rfl 0
        have f1 := hT.bfree 1 (e := 26) rfl 1
        have h9 := (hT.bstore 1 (e := 26) rfl 0 (.int .i64 P)).bstore 1 (e := 26) rfl 1 (.slice a A.length c)
        simp only [List.set_cons_zero, List.set_cons_succ] at h9
        have d0 := h9.box 1 (e := 26) rfl 0 rfl
        have d1 := h9.box 1 (e := 26) rfl 1 rfl
        have h10 := h9.sub (L' := own2 (.slice a A.length c) us A ++ L) ((List.sublist_cons_self _ _).trans (List.sublist_cons_self _ _))
        clear hT h9
        go_wp2_with fail
        refine bodyPost_ret (v := .agg #[.int .i64 P, .slice a A.length c]) (by simp [results, Tryz.results31, go_sem, d0, d1]) rfl ?_
        exact ⟨P, A, _, us, hP'.out, hI.out.1, rfl, hI.out.2, h10.mono (by omega)⟩
      · have b0 := hT.box 0 (e := 26) rfl 0 rfl
        go_wp2_with fail
        refine (l04DrawPerm_c w0 _ cv bs g _ _ P hb hT (by omega) (by omega)).mono ?_
        rintro e6 w6 ⟨vp, p, rfl, hpl, hpp, h2⟩
        have Hp := Lib.hid (And.intro hpl hpp)
        have hbx : BoxD w6 w2.heap.size P (.slice a A.length c) := ⟨h2.box 1 (e := 26) rfl 0 rfl, h2.box 1 (e := 26) rfl 1 rfl⟩
        have hrr := h2.riiS (v := .slice a A.length c) (us := us) (A := A) ((List.sublist_append_left _ _).trans ((List.sublist_cons_self _ _).trans ((List.sublist_cons_self _ _).trans (List.sublist_cons_self _ _)))) hI.out.2
        have HK := Lib.hid (l10Image_c P w2.heap.size (.slice a A.length c) us A vp p w6 hrr hbx (h2.rdI 0 rfl) hI.out.1.ok hpl)
        have HT := Lib.hid (hI.out.1.img hpp hpl)
        clear b0 hT hpl hpp hbx hrr
        go_wp2_with fail
        refine HK.out.mono ?_
        clear HK
        rintro e7 w7 ⟨v5, us5, rfl, hl5, h5⟩
        obtain ⟨ua, uc, hv5⟩ := (h5.rd 0 (e := 30) (v := v5) (us := us5) rfl).sl.sh
        rw [hl5] at hv5
        generalize srtL (imgL p A) = S at *
        subst hv5
        have h6 := h2.call h5
        have c0 := h6.box 2 (e := 26) rfl 0 rfl
        have c1 := h6.box 2 (e := 26) rfl 1 rfl
        have f0 := h6.bfree 2 (e := 26) rfl 0
        have f1 := h6.bfree 2 (e := 26) rfl 1
        have h9 := (h6.bstore 2 (e := 26) rfl 0 (.int .i64 P)).bstore 2 (e := 26) rfl 1 (.slice ua S.length uc)
        simp only [List.cons_append, List.set_cons_zero, List.set_cons_succ] at h9
        have d0 := h9.box 2 (e := 26) rfl 0 rfl
        have d1 := h9.box 2 (e := 26) rfl 1 rfl
        have h10 := (h9.sub (L' := L ++ own2 (.slice ua S.length uc) us5 S) (by
          refine .cons _ (.cons _ (.cons _ ?_))
          rw [List.append_assoc]
          exact List.sublist_append_right _ _)).perm (L' := own2 (.slice ua S.length uc) us5 S ++ L) List.perm_append_comm
        unfold dv
        clear h2 h5 h6 h9
        go_wp2_with fail
        refine bodyPost_ret (v := .agg #[.int .i64 P, .slice ua S.length uc]) (by simp [results, Tryz.results31, go_sem, d0, d1]) rfl ?_
        exact ⟨P, S, _, us5, hP'.out, HT.out, rfl, hl5, h10.mono (by omega)⟩
def MakesTR (w : World) (e : Ending) (w' : World) : Prop := ∃ (P : Nat) (A : List (List Int)) (v : Value) (us : List Value), P ∈ trO ∧ TS P A ∧ e = .returned (dv P v) ∧ RII w' v us A ∧ St w.heap.size w w' []
set_option maxHeartbeats 4000000 in
set_option maxRecDepth 100000 in
theorem V8Triples_c (w : World) (cv : Value) (bs : List UInt8) (hb : RdB w cv bs) : Calls Tryz.prog 7 #[cv] w (MakesTR w) := by
  have hS0 := (St.refl w).newboxF 26 #[.int .i64 0, .slice none 0 0]
  go_enter Tryz.func7, Tryz.ntmps7
  go_wp2_with fail
  refine (l00FromS w _ cv bs _ hb hS0).mono ?_
  rintro e w1 ⟨g, rfl, h1⟩
  clear hS0
  go_wp2_with fail
  refine (l11Draw_c w _ cv bs g _ _ hb h1 (by omega)).mono ?_
  rintro e w2 ⟨P, A, v, us, hP, hT, rfl, hl, h2⟩
  obtain ⟨a, c, hv⟩ := (h2.rd 0 (e := 30) (v := v) (us := us) rfl).sl.sh
  rw [hl] at hv
  subst hv
  have h3 := h2.perm (L' := box 26 w.heap.size [.int .i64 0, .slice none 0 0] :: own2 (.slice a A.length c) us A) List.perm_append_comm
  have c0 := h3.box 0 (e := 26) rfl 0 rfl
  have c1 := h3.box 0 (e := 26) rfl 1 rfl
  have f0 := h3.bfree 0 (e := 26) rfl 0
  have f1 := h3.bfree 0 (e := 26) rfl 1
  have h9 := (h3.bstore 0 (e := 26) rfl 0 (.int .i64 P)).bstore 0 (e := 26) rfl 1 (.slice a A.length c)
  simp only [List.set_cons_zero, List.set_cons_succ] at h9
  have d0 := h9.box 0 (e := 26) rfl 0 rfl
  have d1 := h9.box 0 (e := 26) rfl 1 rfl
  have hR := h9.riiS (v := .slice a A.length c) (us := us) (A := A) (List.sublist_cons_self _ _) hl
  have hX := h9.st.out
  have HR := Lib.hid (And.intro hT (And.intro hR hX))
  clear h1 h2 h3 h9 hR hX hT hl
  unfold dv
  go_wp2_with fail
  refine bodyPost_ret (v := .agg #[.int .i64 P, .slice a A.length c]) (by simp [results, Tryz.results7, go_sem, d0, d1]) rfl ?_
  exact ⟨P, A, _, us, hP, HR.out.1, rfl, HR.out.2.1, HR.out.2.2⟩
end Go.Proofs.YtegmjlblehjccaaGreat
end

section
/- Walks: v8Long, v8At of the laws. -/
namespace Go.Proofs.YtegmjlblehjccaaGreat
set_option linter.unusedSimpArgs false
set_option linter.unusedVariables false
open Go.RowKit

set_option maxHeartbeats 2000000 in
theorem v8Long_c (va vb : Value) (xs bs : List UInt8) (w : World) (ha : RdB w va xs) (hb : RdB w vb bs) :
    Calls Tryz.prog 6 #[va, vb] w fun e w' => e = .returned (.bool (decide (1048576 < (xs.length : Int)) || decide (1048576 < (bs.length : Int)))) ∧ w = w' := by
  have hla := ha.len
  have hlb := hb.len
  have hea := ha.le
  have heb := hb.le
  by_cases h1 : 1048576 < (xs.length : Int)
  · rw [decide_eq_true h1, Bool.true_or]
    go_enter Tryz.func6, Tryz.ntmps6
    go_wp2_with fail
    go_ret
    exact ⟨rfl, rfl⟩
  · rw [decide_eq_false h1, Bool.false_or]
    by_cases h2 : 1048576 < (bs.length : Int)
    · rw [decide_eq_true h2]
      go_enter Tryz.func6, Tryz.ntmps6
      go_wp2_with fail
      go_ret
      exact ⟨by simp [h1, h2], rfl⟩
    · rw [decide_eq_false h2]
      go_enter Tryz.func6, Tryz.ntmps6
      go_wp2_with fail
      go_ret
      exact ⟨by simp [h1, h2], rfl⟩
set_option maxHeartbeats 2000000 in
theorem v8At_c (v : Value) (bs : List UInt8) (k : Nat) (n : Int) (w : World) (hb : RdB w v bs) (hk : k ≤ 1000000) :
    Calls Tryz.prog 9 #[v, .int .i64 k, .int .i64 n] w (AnInt 0 (max (n - 1) 0) fun w' => w = w') := by
  have hln := hb.len
  have hle := hb.le
  by_cases h1 : n ≤ 1
  · go_enter Tryz.func9, Tryz.ntmps9
    go_wp2_with fail
    go_ret
    exact ⟨0, by omega, by omega, rfl, rfl⟩
  · by_cases h2 : k < bs.length
    · have hc := hb.cell k h2
      have hx := hb.ix .i64 (k : Int) (by omega) (by omega)
      rw [Int.toNat_natCast] at hx
      obtain ⟨b0, b1⟩ := bnth_bd bs k
      go_enter Tryz.func9, Tryz.ntmps9
      go_wp2_with fail
      go_ret
      have := Int.emod_nonneg (bnth bs k) (show n ≠ 0 by omega)
      have := Int.emod_lt_of_pos (bnth bs k) (show 0 < n by omega)
      exact ⟨_, by omega, by omega, rfl, rfl⟩
    · go_enter Tryz.func9, Tryz.ntmps9
      go_wp2_with fail
      go_ret
      exact ⟨0, by omega, by omega, rfl, rfl⟩
end Go.Proofs.YtegmjlblehjccaaGreat
end

section
/- Walks: ValidSet of the reference for sets of at most 32 points. -/
namespace Go.Proofs.YtegmjlblehjccaaGreat
set_option linter.unusedSimpArgs false
set_option linter.unusedVariables false
open Go.RowKit
set_option maxHeartbeats 2000000 in
set_option maxRecDepth 100000 in
theorem sValidSetM_c (v : Value) (xs : List Int) (n : Int) (w : World) (hv : RdI w v xs) (h0 : 0 ≤ n ∧ n ≤ 32) : Calls Tryz.prog 10 #[v, .int .i64 n] w (GivesB w (incB (-1) n xs)) := by
  have i1 := inB_true h0
  have H := l00Rises_c v xs 0 (n - 1) w hv
  rw [show (n - 1 + 1) = n by omega, show (0 : Int) - 1 = -1 from rfl] at H
  have H := Lib.hid H
  obtain ⟨n0, n1⟩ := h0
  go_enter Tryz.func10, Tryz.ntmps10
  go_wp2_with fail
  refine (l00In_c _ _ _ _).mono ?_
  rw [i1]
  rintro e w1 ⟨rfl, rfl⟩
  go_wp2_with fail
  refine H.out.mono ?_
  rintro e w1 ⟨rfl, h1⟩
  go_wp2_with fail
  go_ret
  exact ⟨rfl, h1⟩
end Go.Proofs.YtegmjlblehjccaaGreat
end
