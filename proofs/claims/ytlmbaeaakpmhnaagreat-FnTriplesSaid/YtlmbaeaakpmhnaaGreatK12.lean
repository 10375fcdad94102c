/- The texts of this claim, run 12: Tr14 Tr17 Tr20 Tr23 SetS Tr16. -/
import Derived.Test.YtlmbaeaakpmhnaaGreatK2
import Derived.Test.YtlmbaeaakpmhnaaGreatK4
import Derived.Test.YtlmbaeaakpmhnaaGreatK5
import Derived.Test.YtlmbaeaakpmhnaaGreatK6
import Derived.Test.YtlmbaeaakpmhnaaGreatK7
import Derived.Test.YtlmbaeaakpmhnaaGreatK9
import Derived.Test.YtlmbaeaakpmhnaaGreatK10
import Derived.Test.YtlmbaeaakpmhnaaGreatK11

section
/- Walks: the construction of Skolem of the reference. -/
namespace Go.Proofs.YtlmbaeaakpmhnaaGreat
set_option linter.unusedSimpArgs false
set_option linter.unusedVariables false
open Go.RowKit
attribute [local go_sem ↓] Go.wp_at_zero Go.wp_at_succ

theorem skoL_succ (t k : Nat) : skoL t (k + 1) = skoL t k ++ skoX t k := by
  unfold skoL; rw [List.range_succ, List.flatMap_append]; simp
theorem skoL_len (t : Nat) : ∀ k, (skoL t k).length ≤ k * 4
  | 0 => Nat.zero_le _
  | k + 1 => by
    rw [skoL_succ, List.length_append, Nat.succ_mul k]
    have h1 := skoL_len t k
    unfold skoX
    rw [List.length_cons, List.length_map, List.length_range]
    omega
theorem skoL_small {t k i : Nat} (hk : k ≤ 4) (hi : i ≤ 3) (g : Nat → List Int) (D : List Int) : (skoL t k ++ [D] ++ (List.range i).map g).length ≤ 1000 := by
  have h1 := skoL_len t k
  simp only [List.length_append, List.length_map, List.length_range, List.length_cons, List.length_nil]
  omega
theorem mxS_small {t n : Nat} (ht : t ≤ 4) (hn : n ≤ 9) (f : Nat → Nat) {k x j i : Nat} (hk : k ≤ n) (hj : j ≤ n) (hi : i ≤ 3) (g : Nat → List Int) : (skoL t t ++ mxL n f k ++ mxX n f x j ++ (List.range i).map g).length ≤ 1000 := by
  have h0 := skoL_len t t
  have h1 := mxL_len n f k
  have h2 := mxX_len n f x j
  have h3 : k * (3 * n) ≤ 9 * 27 := Nat.mul_le_mul (by omega) (by omega)
  simp only [List.length_append, List.length_map, List.length_range]
  omega
set_option maxHeartbeats 16000000 in
set_option maxRecDepth 100000 in
theorem l11Skolem_c (t : Nat) (w : World) (h4 : t ≤ 4) : Calls Tryz.prog 139 #[.int .i64 t] w (MakesII w (skoL t t ++ mxL (2 * t) (skoF t) (2 * t))) := by
  have hS0 : St w.heap.size w _ [row 24 (.slice (some ⟨w.heap.size, 0, none⟩) 0 0) []] := (St.refl w).new 24 #[] (by simp)
  have hS1 : St w.heap.size w _ (own2 _ [] (skoL t 0)) := hS0
  clear hS0
  obtain ⟨n, hn⟩ : ∃ n, 2 * t = n := ⟨_, rfl⟩
  have Q1 := fun k => Lib.hid (skoL_succ t k)
  have Q2 := fun k i hk hi g D => Lib.hid (skoL_small (t := t) (k := k) (i := i) hk hi g D)
  have Q3 := fun k x j i hk hj hi g => Lib.hid (mxS_small h4 (n := n) (by omega) (skoF t) (k := k) (x := x) (j := j) (i := i) hk hj hi g)
  have Q4 := fun k => Lib.hid (show skoX t k = strT n k :: (List.range 3).map (skoT t k) by rw [skoX, hn])
  have Q5 := fun x i => Lib.hid (show skoT t x i = trp (3 * n) (x + t + n * i) (x + n * ((i + 1) % 3)) by rw [skoT, hn])
  rw [hn]
  have q0 : 2 * (t : Int) = (n : Int) := by omega
  have v1 : IntKind.i64.wrap (2 * (t : Int)) = (n : Int) := by rw [IntWalk.i64_in _ (by omega)]; omega
  have v1' : IntKind.i64.wrap (n : Int) = (n : Int) := IntWalk.i64_in _ (by omega)
  have n8 : n ≤ 8 := by omega
  have tn : t ≤ n := by omega
  have Hn := Lib.hid hn
  clear hn
  go_enter Tryz.func139, Tryz.ntmps139
  go_wp2_with fail
  go_loopw [4, 5, 6] (fun o xi _ wr => ∃ (x : Nat) (uo : List Value), x ≤ t ∧ xi = .int .i64 x ∧ Hid (uo.length = (skoL t x).length) ∧ St w.heap.size w wr (own2 o uo (skoL t x))) (fun _ xi _ _ => t - (intOf xi).toNat)
  case atStart => exact ⟨0, [], by omega, rfl, rfl, hS1⟩
  case round =>
    clear hS1
    obtain ⟨x, uo, hx, rfl, hlo, hS⟩ := hrel
    by_cases hxn : x < t
    · have hxi : (x : Int) < (t : Int) := by omega
      have HE := Q1 x
      have H4 := Q4 x
      have hD : Hid (strT n x = trp x (x + n) (x + 2 * n)) := Lib.hid rfl
      have KT := fun W => Lib.hid (l11Block_c x (x + n) (x + 2 * n) W)
      rw [← hD.out] at KT
      have w1 : IntKind.i64.wrap ((x : Int) + (n : Int)) = (x : Int) + (n : Int) := IntWalk.i64_in _ (by omega)
      have w2 : IntKind.i64.wrap (2 * (n : Int)) = 2 * (n : Int) := IntWalk.i64_in _ (by omega)
      have w3 : IntKind.i64.wrap ((x : Int) + 2 * (n : Int)) = (x : Int) + 2 * (n : Int) := IntWalk.i64_in _ (by omega)
      have hul := Lib.hid (show uo.length < 4294967296 by
        have := (Q2 x 0 (by omega) (by omega) (fun _ => []) []).out
        simp only [List.length_append] at this
        rw [hlo.out]; omega)
      clear hD
      generalize strT n x = D at *
      simp only [Int.natCast_add, Int.natCast_mul] at KT
      go_wp2_with fail
      refine (KT _).out.mono ?_
      rintro e w5 ⟨u, rfl, h5⟩
      obtain ⟨ua, uc, hu⟩ := (h5.rdI 0 rfl).sl.sh
      generalize (iv D).length = dl at hu
      subst hu
      have hS4 := hS.call h5
      have hS5 : St w.heap.size w w5 (own2 u4 uo (skoL t x) ++ [] ++ [row 2 (.slice ua dl uc) (iv D)]) := by rw [List.append_nil]; exact hS4
      clear h5 hS hS4 KT
      go_wp2_with (at_builtin; refine appII hS5 0 rfl hul.out rfl _ _ rfl rfl _ rfl (by first | rfl | simp [Act.eval, World.size_alloc]) ?_; intro v8 w8 hS8)
      have hS9 := own2_snocP hlo.out hS8
      rw [List.append_nil] at hS9
      have hS10 : St w.heap.size w w8 (own2 v8 (uo ++ [Value.slice ua dl uc]) (skoL t x ++ [D] ++ (List.range 0).map (skoT t x))) := by rw [List.range_zero, List.map_nil, List.append_nil]; exact hS9
      have hlo2 : Hid ((uo ++ [Value.slice ua dl uc]).length = (skoL t x ++ [D] ++ (List.range 0).map (skoT t x)).length) := Lib.hid (by rw [List.range_zero, List.map_nil, List.append_nil, List.length_append, List.length_append, hlo.out]; rfl)
      have HEn := Lib.hid (show skoL t x ++ [D] ++ (List.range 3).map (skoT t x) = skoL t (x + 1) by rw [HE.out, H4.out, List.append_assoc]; rfl)
      have HB := fun i (hi : i ≤ 3) => Q2 x i (by omega) hi (skoT t x) D
      have Q5 := Q5 x
      clear hS5 hS8 hlo hS9 HE H4 Q1 Q2
      generalize skoL t x ++ [D] = X at *
      go_wp2_with fail
      go_loopw [4, 6] (fun o ii wr => ∃ (i : Nat) (uo : List Value), i ≤ 3 ∧ ii = .int .i64 i ∧ Hid (uo.length = (X ++ (List.range i).map (skoT t x)).length) ∧ St w.heap.size w wr (own2 o uo (X ++ (List.range i).map (skoT t x)))) (fun _ ii _ => 3 - (intOf ii).toNat)
      case atStart => exact ⟨0, _, by omega, rfl, hlo2, hS10⟩
      case round =>
        clear hS10 hlo2
        obtain ⟨i, uo, hi, rfl, hlo, hS⟩ := hrel
        by_cases hi3 : i < 3
        · have hii : (i : Int) < 3 := by omega
          have hul := Lib.hid (show uo.length < 4294967296 by rw [hlo.out]; have := (HB i hi).out; omega)
          have Hst := Lib.hid (show X ++ (List.range (i + 1)).map (skoT t x) = X ++ (List.range i).map (skoT t x) ++ [skoT t x i] by rw [rg_succ, List.append_assoc])
          obtain ⟨r, hr⟩ : ∃ r, (i + 1) % 3 = r := ⟨_, rfl⟩
          obtain ⟨p, hp⟩ : ∃ p, n * i = p := ⟨_, rfl⟩
          obtain ⟨s, hs⟩ : ∃ s, n * r = s := ⟨_, rfl⟩
          have hpb : p ≤ 8 * 3 := by rw [← hp]; exact Nat.mul_le_mul n8 (by omega)
          have hsb : s ≤ 8 * 3 := by rw [← hs]; exact Nat.mul_le_mul n8 (by omega)
          have hT := Lib.hid (show skoT t x i = trp (3 * n) (x + t + p) (x + s) by rw [(Q5 i).out, hr, hp, hs])
          have KT := fun W => Lib.hid (l11Block_c (3 * n) (x + t + p) (x + s) W)
          rw [← hT.out] at KT
          have q1 : (n : Int) * (i : Int) = (p : Int) := by rw [← hp]; simp
          have q2 : (n : Int) * (r : Int) = (s : Int) := by rw [← hs]; simp
          have q4 : ((i : Int) + 1).tmod 3 = (r : Int) := by
            rw [show (i : Int) + 1 = ((i + 1 : Nat) : Int) by omega, Int.tmod_eq_emod_of_nonneg (by omega), ← hr]; rfl
          have v1 : IntKind.i64.wrap (p : Int) = (p : Int) := IntWalk.i64_in _ (by omega)
          have v2 : IntKind.i64.wrap (s : Int) = (s : Int) := IntWalk.i64_in _ (by omega)
          have v4 : IntKind.i64.wrap (r : Int) = (r : Int) := IntWalk.i64_in _ (by omega)
          have v5 : IntKind.i64.wrap ((x : Int) + (t : Int)) = (x : Int) + (t : Int) := IntWalk.i64_in _ (by omega)
          have v6 : IntKind.i64.wrap ((x : Int) + (t : Int) + (p : Int)) = (x : Int) + (t : Int) + (p : Int) := IntWalk.i64_in _ (by omega)
          have v7 : IntKind.i64.wrap ((x : Int) + (s : Int)) = (x : Int) + (s : Int) := IntWalk.i64_in _ (by omega)
          have v8 : IntKind.i64.wrap (3 * (n : Int)) = 3 * (n : Int) := IntWalk.i64_in _ (by omega)
          have v9 : IntKind.i64.wrap ((i : Int) + 1) = (i : Int) + 1 := IntWalk.i64_in _ (by omega)
          clear hr hp hs hT HEn Q5 hpb hsb
          generalize skoT t x i = D at *
          simp only [Int.natCast_add, Int.natCast_mul] at KT
          go_wp2_with fail
          refine (KT _).out.mono ?_
          rintro e w4 ⟨u, rfl, h4⟩
          obtain ⟨ua, uc, hu⟩ := (h4.rdI 0 rfl).sl.sh
          generalize (iv D).length = dl at hu
          subst hu
          have hS4 := hS.call h4
          have hS5 : St w.heap.size w w4 (own2 u4 uo (X ++ (List.range i).map (skoT t x)) ++ [] ++ [row 2 (.slice ua dl uc) (iv D)]) := by rw [List.append_nil]; exact hS4
          clear h4 hS hS4
          go_wp2_with (at_builtin; refine appII hS5 0 rfl hul.out rfl _ _ rfl rfl _ rfl (by first | rfl | simp [Act.eval, World.size_alloc]) ?_; intro v8 w8 hS8)
          have hS9 := own2_snocP hlo.out hS8
          rw [List.append_nil, ← Hst.out] at hS9
          go_roundw
          case rel => exact ⟨i + 1, _, by omega, by go_num, by rw [Hid, Hst.out, List.length_append, List.length_append, hlo.out]; rfl, hS9⟩
          case measure => simp [intOf]; omega
        · obtain rfl : i = 3 := by omega
          go_wp2_with fail
          go_roundw
          case rel => exact ⟨x + 1, uo, by omega, by go_num, by rw [← HEn.out]; exact hlo, by rw [← HEn.out]; exact hS⟩
          case measure => simp [intOf]; omega
    · obtain rfl : x = t := by omega
      have hS2 : St w.heap.size w wr (own2 u4 uo (skoL x x ++ mxL n (skoF x) 0)) := by rw [show mxL n (skoF x) 0 = [] from rfl, List.append_nil]; exact hS
      have hlo2 : Hid (uo.length = (skoL x x ++ mxL n (skoF x) 0).length) := by rw [show mxL n (skoF x) 0 = [] from rfl, List.append_nil]; exact hlo
      clear hS hlo Q1 Q2 Q4 Q5
      generalize x = t at *
      go_wp2_with fail
      go_loopw [4, 7, 8, 9, 10, 11] (fun o xi _ _ _ _ wr => ∃ (x : Nat) (uo : List Value), x ≤ n ∧ xi = .int .i64 x ∧ Hid (uo.length = (skoL t t ++ mxL n (skoF t) x).length) ∧ St w.heap.size w wr (own2 o uo (skoL t t ++ mxL n (skoF t) x))) (fun _ xi _ _ _ _ _ => n - (intOf xi).toNat)
      case atStart => exact ⟨0, _, by omega, rfl, hlo2, hS2⟩
      case round =>
        clear hS2 hlo2
        obtain ⟨x, uo, hx, rfl, hlo, hS⟩ := hrel
        by_cases hxn : x < n
        · have hxi : (x : Int) < (n : Int) := by omega
          have w4 : IntKind.i64.wrap ((x : Int) + 1) = (x : Int) + 1 := IntWalk.i64_in _ (by omega)
          have HE := Lib.hid (show skoL t t ++ mxL n (skoF t) (x + 1) = skoL t t ++ mxL n (skoF t) x ++ mxX n (skoF t) x n by rw [mxL_succ, List.append_assoc])
          have hS2 : St w.heap.size w wr (own2 u4 uo (skoL t t ++ mxL n (skoF t) x ++ mxX n (skoF t) x (x + 1))) := by rw [mxX_lo _ (Nat.le_refl _), List.append_nil]; exact hS
          have hlo2 : Hid (uo.length = (skoL t t ++ mxL n (skoF t) x ++ mxX n (skoF t) x (x + 1)).length) := by rw [mxX_lo _ (Nat.le_refl _), List.append_nil]; exact hlo
          clear hS hlo
          go_wp2_with fail
          go_loopw [4, 8, 9, 10, 11] (fun o yi _ _ _ wr => ∃ (y : Nat) (uo : List Value), x + 1 ≤ y ∧ y ≤ n ∧ yi = .int .i64 y ∧ Hid (uo.length = (skoL t t ++ mxL n (skoF t) x ++ mxX n (skoF t) x y).length) ∧ St w.heap.size w wr (own2 o uo (skoL t t ++ mxL n (skoF t) x ++ mxX n (skoF t) x y))) (fun _ yi _ _ _ _ => n - (intOf yi).toNat)
          case atStart => exact ⟨x + 1, _, by omega, by omega, by first | rfl | go_num, hlo2, hS2⟩
          case round =>
            clear hS2 hlo2
            obtain ⟨y, uo, hy1, hy2, rfl, hlo, hS⟩ := hrel
            by_cases hyn : y < n
            · have hyi : (y : Int) < (n : Int) := by omega
              have hS2 : St w.heap.size w wr (own2 u4 uo (skoL t t ++ mxL n (skoF t) x ++ mxX n (skoF t) x y ++ (List.range 0).map (mxT n (skoF t) x y))) := by rw [List.range_zero, List.map_nil, List.append_nil]; exact hS
              have hlo2 : Hid (uo.length = (skoL t t ++ mxL n (skoF t) x ++ mxX n (skoF t) x y ++ (List.range 0).map (mxT n (skoF t) x y)).length) := by rw [List.range_zero, List.map_nil, List.append_nil]; exact hlo
              have HE2 := Lib.hid (show skoL t t ++ mxL n (skoF t) x ++ mxX n (skoF t) x (y + 1) = skoL t t ++ mxL n (skoF t) x ++ mxX n (skoF t) x y ++ (List.range 3).map (mxT n (skoF t) x y) by rw [mxX_succ, mxY, if_pos (by omega), ← List.append_assoc])
              have HB := fun i (hi : i ≤ 3) => Lib.hid (Q3 x x y i (by omega) (by omega) hi (mxT n (skoF t) x y)).out
              obtain ⟨sm, hsm⟩ : ∃ sm, (x + y) % n = sm := ⟨_, rfl⟩
              have hsn : sm < n := by rw [← hsm]; exact Nat.mod_lt _ (by omega)
              have q1 : ((x : Int) + (y : Int)).tmod (n : Int) = (sm : Int) := by
                rw [show (x : Int) + (y : Int) = ((x + y : Nat) : Int) by omega, Int.tmod_eq_emod_of_nonneg (by omega), ← hsm]; rfl
              have q2 : (sm : Int).tdiv 2 = ((sm / 2 : Nat) : Int) := by rw [Int.tdiv_eq_ediv_of_nonneg (by omega)]; rfl
              have q3 : (sm : Int).tmod 2 = ((sm % 2 : Nat) : Int) := by rw [Int.tmod_eq_emod_of_nonneg (by omega)]; rfl
              obtain ⟨h2, hh2⟩ : ∃ h2, sm / 2 = h2 := ⟨_, rfl⟩
              rw [hh2] at q2
              have w1 : IntKind.i64.wrap ((x : Int) + (y : Int)) = (x : Int) + (y : Int) := IntWalk.i64_in _ (by omega)
              have w2 : IntKind.i64.wrap (sm : Int) = (sm : Int) := IntWalk.i64_in _ (by omega)
              have w3 : IntKind.i64.wrap (h2 : Int) = (h2 : Int) := IntWalk.i64_in _ (by omega)
              have w5 : IntKind.i64.wrap ((h2 : Int) + (t : Int)) = (h2 : Int) + (t : Int) := IntWalk.i64_in _ (by omega)
              have qm : ((n : Int) == 0) = false := eq_f (by omega)
              have qn : ¬ (n : Int) = 0 := by omega
              have qo : ¬ n = 0 := by omega
              have hh3 : h2 ≤ 8 := by omega
              obtain ⟨z, hz, hz2⟩ : ∃ z, z = h2 + sm % 2 * t ∧ z ≤ 100 := by
                refine ⟨_, rfl, ?_⟩
                have : sm % 2 * t ≤ 1 * 4 := Nat.mul_le_mul (by omega) h4
                omega
              have HZ := Lib.hid (show skoF t ((x + y) % n) = z by rw [hsm, skoF, hh2, hz])
              have hr : sm % 2 = 0 ∨ sm % 2 = 1 := by omega
              clear hS hlo hsm hh2
              generalize skoL t t ++ mxL n (skoF t) x ++ mxX n (skoF t) x y = X at *
              rcases hr with e | e
              all_goals
                rw [e] at q3 hz
              · simp only [Nat.zero_mul, Nat.add_zero] at hz
                subst hz
                clear e
                go_wp2_with fail
                clear q1 q2 q3 w2 qm qn qo
                go_loopw [4, 11] (fun o ii wr => ∃ (i : Nat) (uo : List Value), i ≤ 3 ∧ ii = .int .i64 i ∧ Hid (uo.length = (X ++ (List.range i).map (mxT n (skoF t) x y)).length) ∧ St w.heap.size w wr (own2 o uo (X ++ (List.range i).map (mxT n (skoF t) x y)))) (fun _ ii _ => 3 - (intOf ii).toNat)
                case atStart => exact ⟨0, uo, by omega, rfl, hlo2, hS2⟩
                case round =>
                  clear hS2 hlo2
                  obtain ⟨i, uo, hi, rfl, hlo, hS⟩ := hrel
                  by_cases hi3 : i < 3
                  · have hii : (i : Int) < 3 := by omega
                    have hul := Lib.hid (show uo.length < 4294967296 by rw [hlo.out]; have := (HB i hi).out; omega)
                    have Hst := Lib.hid (show X ++ (List.range (i + 1)).map (mxT n (skoF t) x y) = X ++ (List.range i).map (mxT n (skoF t) x y) ++ [mxT n (skoF t) x y i] by rw [rg_succ, List.append_assoc])
                    obtain ⟨r, hr⟩ : ∃ r, (i + 1) % 3 = r := ⟨_, rfl⟩
                    obtain ⟨p, hp⟩ : ∃ p, n * i = p := ⟨_, rfl⟩
                    obtain ⟨s, hs⟩ : ∃ s, n * r = s := ⟨_, rfl⟩
                    have hcase : (p = 0 ∧ s = n) ∨ (p = n ∧ s = 2 * n) ∨ (p = 2 * n ∧ s = 0) := by
                      rcases (show i = 0 ∨ i = 1 ∨ i = 2 by omega) with e | e | e
                      · subst e; subst hr; subst hp; subst hs; simp
                      · subst e; subst hr; subst hp; subst hs; right; left; simp; omega
                      · subst e; subst hr; subst hp; subst hs; right; right; simp; omega
                    have hT := Lib.hid (show mxT n (skoF t) x y i = trp (x + p) (y + p) (z + s) by rw [mxT, HZ.out, hr, hp, hs])
                    have KT := fun W => Lib.hid (l11Block_c (x + p) (y + p) (z + s) W)
                    rw [← hT.out] at KT
                    have q1 : (n : Int) * (i : Int) = (p : Int) := by rw [← hp]; simp
                    have q2 : (n : Int) * (r : Int) = (s : Int) := by rw [← hs]; simp
                    have q4 : ((i : Int) + 1).tmod 3 = (r : Int) := by
                      rw [show (i : Int) + 1 = ((i + 1 : Nat) : Int) by omega, Int.tmod_eq_emod_of_nonneg (by omega), ← hr]; rfl
                    have v1 : IntKind.i64.wrap (p : Int) = (p : Int) := IntWalk.i64_in _ (by omega)
                    have v2 : IntKind.i64.wrap (s : Int) = (s : Int) := IntWalk.i64_in _ (by omega)
                    have v4 : IntKind.i64.wrap (r : Int) = (r : Int) := IntWalk.i64_in _ (by omega)
                    have v5 : IntKind.i64.wrap ((x : Int) + (p : Int)) = (x : Int) + (p : Int) := IntWalk.i64_in _ (by omega)
                    have v6 : IntKind.i64.wrap ((y : Int) + (p : Int)) = (y : Int) + (p : Int) := IntWalk.i64_in _ (by omega)
                    have v7 : IntKind.i64.wrap ((z : Int) + (s : Int)) = (z : Int) + (s : Int) := IntWalk.i64_in _ (by omega)
                    have v9 : IntKind.i64.wrap ((i : Int) + 1) = (i : Int) + 1 := IntWalk.i64_in _ (by omega)
                    clear hr hp hs hT hcase HE HE2 HZ
                    generalize mxT n (skoF t) x y i = D at *
                    simp only [Int.natCast_add] at KT
                    go_wp2_with fail
                    refine (KT _).out.mono ?_
                    rintro e w4 ⟨u, rfl, h4⟩
                    obtain ⟨ua, uc, hu⟩ := (h4.rdI 0 rfl).sl.sh
                    generalize (iv D).length = dl at hu
                    subst hu
                    have hS4 := hS.call h4
                    have hS5 : St w.heap.size w w4 (own2 u4 uo (X ++ (List.range i).map (mxT n (skoF t) x y)) ++ [] ++ [row 2 (.slice ua dl uc) (iv D)]) := by rw [List.append_nil]; exact hS4
                    clear h4 hS hS4
                    go_wp2_with (at_builtin; refine appII hS5 0 rfl hul.out rfl _ _ rfl rfl _ rfl (by first | rfl | simp [Act.eval, World.size_alloc]) ?_; intro v8 w8 hS8)
                    have hS9 := own2_snocP hlo.out hS8
                    rw [List.append_nil, ← Hst.out] at hS9
                    go_roundw
                    case rel => exact ⟨i + 1, _, by omega, by go_num, by rw [Hid, Hst.out, List.length_append, List.length_append, hlo.out]; rfl, hS9⟩
                    case measure => simp [intOf]; omega
                  · obtain rfl : i = 3 := by omega
                    go_wp2_with fail
                    go_roundw
                    case rel => exact ⟨y + 1, uo, by omega, by omega, by go_num, by rw [HE2.out]; exact hlo, by rw [HE2.out]; exact hS⟩
                    case measure => simp [intOf]; omega
              · simp only [Nat.one_mul] at hz
                have hzi : (h2 : Int) + (t : Int) = (z : Int) := by omega
                have w6 : IntKind.i64.wrap (z : Int) = (z : Int) := IntWalk.i64_in _ (by omega)
                clear e hz w5
                go_wp2_with fail
                clear q1 q2 q3 w2 qm qn qo hzi
                go_loopw [4, 11] (fun o ii wr => ∃ (i : Nat) (uo : List Value), i ≤ 3 ∧ ii = .int .i64 i ∧ Hid (uo.length = (X ++ (List.range i).map (mxT n (skoF t) x y)).length) ∧ St w.heap.size w wr (own2 o uo (X ++ (List.range i).map (mxT n (skoF t) x y)))) (fun _ ii _ => 3 - (intOf ii).toNat)
                case atStart => exact ⟨0, uo, by omega, rfl, hlo2, hS2⟩
                case round =>
                  clear hS2 hlo2
                  obtain ⟨i, uo, hi, rfl, hlo, hS⟩ := hrel
                  by_cases hi3 : i < 3
                  · have hii : (i : Int) < 3 := by omega
                    have hul := Lib.hid (show uo.length < 4294967296 by rw [hlo.out]; have := (HB i hi).out; omega)
                    have Hst := Lib.hid (show X ++ (List.range (i + 1)).map (mxT n (skoF t) x y) = X ++ (List.range i).map (mxT n (skoF t) x y) ++ [mxT n (skoF t) x y i] by rw [rg_succ, List.append_assoc])
                    obtain ⟨r, hr⟩ : ∃ r, (i + 1) % 3 = r := ⟨_, rfl⟩
                    obtain ⟨p, hp⟩ : ∃ p, n * i = p := ⟨_, rfl⟩
                    obtain ⟨s, hs⟩ : ∃ s, n * r = s := ⟨_, rfl⟩
                    have hcase : (p = 0 ∧ s = n) ∨ (p = n ∧ s = 2 * n) ∨ (p = 2 * n ∧ s = 0) := by
                      rcases (show i = 0 ∨ i = 1 ∨ i = 2 by omega) with e | e | e
                      · subst e; subst hr; subst hp; subst hs; simp
                      · subst e; subst hr; subst hp; subst hs; right; left; simp; omega
                      · subst e; subst hr; subst hp; subst hs; right; right; simp; omega
                    have hT := Lib.hid (show mxT n (skoF t) x y i = trp (x + p) (y + p) (z + s) by rw [mxT, HZ.out, hr, hp, hs])
                    have KT := fun W => Lib.hid (l11Block_c (x + p) (y + p) (z + s) W)
                    rw [← hT.out] at KT
                    have q1 : (n : Int) * (i : Int) = (p : Int) := by rw [← hp]; simp
                    have q2 : (n : Int) * (r : Int) = (s : Int) := by rw [← hs]; simp
                    have q4 : ((i : Int) + 1).tmod 3 = (r : Int) := by
                      rw [show (i : Int) + 1 = ((i + 1 : Nat) : Int) by omega, Int.tmod_eq_emod_of_nonneg (by omega), ← hr]; rfl
                    have v1 : IntKind.i64.wrap (p : Int) = (p : Int) := IntWalk.i64_in _ (by omega)
                    have v2 : IntKind.i64.wrap (s : Int) = (s : Int) := IntWalk.i64_in _ (by omega)
                    have v4 : IntKind.i64.wrap (r : Int) = (r : Int) := IntWalk.i64_in _ (by omega)
                    have v5 : IntKind.i64.wrap ((x : Int) + (p : Int)) = (x : Int) + (p : Int) := IntWalk.i64_in _ (by omega)
                    have v6 : IntKind.i64.wrap ((y : Int) + (p : Int)) = (y : Int) + (p : Int) := IntWalk.i64_in _ (by omega)
                    have v7 : IntKind.i64.wrap ((z : Int) + (s : Int)) = (z : Int) + (s : Int) := IntWalk.i64_in _ (by omega)
                    have v9 : IntKind.i64.wrap ((i : Int) + 1) = (i : Int) + 1 := IntWalk.i64_in _ (by omega)
                    clear hr hp hs hT hcase HE HE2 HZ
                    generalize mxT n (skoF t) x y i = D at *
                    simp only [Int.natCast_add] at KT
                    go_wp2_with fail
                    refine (KT _).out.mono ?_
                    rintro e w4 ⟨u, rfl, h4⟩
                    obtain ⟨ua, uc, hu⟩ := (h4.rdI 0 rfl).sl.sh
                    generalize (iv D).length = dl at hu
                    subst hu
                    have hS4 := hS.call h4
                    have hS5 : St w.heap.size w w4 (own2 u4 uo (X ++ (List.range i).map (mxT n (skoF t) x y)) ++ [] ++ [row 2 (.slice ua dl uc) (iv D)]) := by rw [List.append_nil]; exact hS4
                    clear h4 hS hS4
                    go_wp2_with (at_builtin; refine appII hS5 0 rfl hul.out rfl _ _ rfl rfl _ rfl (by first | rfl | simp [Act.eval, World.size_alloc]) ?_; intro v8 w8 hS8)
                    have hS9 := own2_snocP hlo.out hS8
                    rw [List.append_nil, ← Hst.out] at hS9
                    go_roundw
                    case rel => exact ⟨i + 1, _, by omega, by go_num, by rw [Hid, Hst.out, List.length_append, List.length_append, hlo.out]; rfl, hS9⟩
                    case measure => simp [intOf]; omega
                  · obtain rfl : i = 3 := by omega
                    go_wp2_with fail
                    go_roundw
                    case rel => exact ⟨y + 1, uo, by omega, by omega, by go_num, by rw [HE2.out]; exact hlo, by rw [HE2.out]; exact hS⟩
                    case measure => simp [intOf]; omega
            · obtain rfl : y = n := by omega
              go_wp2_with fail
              go_roundw
              case rel => exact ⟨x + 1, uo, by omega, by go_num, by rw [HE.out]; exact hlo, by rw [HE.out]; exact hS⟩
              case measure => simp [intOf]; omega
        · obtain rfl : x = n := by omega
          go_wp2_with fail
          go_ret
          exact ⟨_, uo, rfl, hlo.out, hS⟩
end Go.Proofs.YtlmbaeaakpmhnaaGreat
end

section
/- Walks: the construction of Skolem of the program. -/
namespace Go.Proofs.YtlmbaeaakpmhnaaGreat
set_option linter.unusedSimpArgs false
set_option linter.unusedVariables false
open Go.RowKit
attribute [local go_sem ↓] Go.wp_at_zero Go.wp_at_succ

theorem skoM_small {t n : Nat} (ht : t ≤ 4) (hn : n ≤ 9) (f : Nat → Nat) {k i : Nat} (hk : k ≤ t) (hi : i ≤ 3) (g : Nat → List Int) (D : List Int) : (mxL n f n ++ skoL t k ++ [D] ++ (List.range i).map g).length ≤ 1000 := by
  have h0 := skoL_len t k
  have h1 := mxL_len n f n
  have h3 : n * (3 * n) ≤ 9 * 27 := Nat.mul_le_mul (by omega) (by omega)
  simp only [List.length_append, List.length_map, List.length_range, List.length_cons, List.length_nil]
  omega
theorem skoF_lt {t s : Nat} (h : s < 2 * t) : skoF t s < 2 * t := by
  unfold skoF
  rcases (show s % 2 = 0 ∨ s % 2 = 1 by omega) with e | e
  · rw [e]; omega
  · rw [e, Nat.one_mul]; omega
set_option maxHeartbeats 16000000 in
set_option maxRecDepth 100000 in
theorem MakeTriplesS_c (v t : Nat) (w : World) (hv : v = 6 * t + 1) (ho : ordB v = true) (hok : TS v (srtL (mkTI v))) : Calls Tryz.prog 10 #[.int .i64 v] w (MakesD w v (srtL (mkTI v)) 0) := by
  have hov : v ≤ 27 ∧ 3 ≤ v := by simp only [ordB, Bool.and_eq_true, decide_eq_true_eq] at ho; omega
  have KO := Lib.hid (fun W => isTripleOrder_c v W (by omega))
  rw [ho] at KO
  obtain ⟨n, hn⟩ : ∃ n, n = 2 * t := ⟨_, rfl⟩
  have hmk : mkTI v = mxL n (skoF t) n ++ skoL t t := by
    unfold mkTI
    rw [if_neg (by omega), show v / 6 = t by omega, ← hn]
  have HM := Lib.hid hmk
  have hlen := (dOk_t hok.ok).len
  rw [srtL_len] at hlen
  have HLen := Lib.hid hlen
  have HRw := Lib.hid (show ∀ xs ∈ mkTI v, xs.length ≤ 1048576 from fun xs hx => by rw [hok.three xs ((srtL_perm _).mem_iff.2 hx)]; decide)
  have hS0 := (St.refl w).newboxF 29 #[.int .i64 0, .slice none 0 0]
  have q1 : (v : Int).tdiv 6 = (t : Int) := by rw [Int.tdiv_eq_ediv_of_nonneg (by omega)]; omega
  have q2 : (v : Int).tmod 6 = 1 := by rw [Int.tmod_eq_emod_of_nonneg (by omega)]; omega
  have q3 : 2 * (t : Int) = (n : Int) := by omega
  have v1 : IntKind.i64.wrap (t : Int) = (t : Int) := IntWalk.i64_in _ (by omega)
  have v2 : IntKind.i64.wrap (n : Int) = (n : Int) := IntWalk.i64_in _ (by omega)
  have hcf := callFunc_go Tryz.func46 (by kernel_rfl) (by kernel_rfl)
  have KX := Lib.hid (fun (W : World) (g4 : Nat) (h4 : W.cell? ⟨g4, 0, none⟩ = some (.int .i64 t)) =>
    mixed_c 46 #[.pointer (some ⟨g4, 0, none⟩)] (skoF t) n W (by omega) (by omega) (fun s hs => by rw [hn] at hs ⊢; exact skoF_lt hs) hcf
      (fun s W' hW hs => MakeTriples2_c t s g4 W' (by omega) (by omega) (by rw [hW.below.cell (World.block_lt_of_cell? _ _ h4)]; exact h4)))
  clear hcf
  have hmf : ∀ (fn : Fn) (first cap : Array Value) (w : World), (Instr.makeFunc fn first cap).run Tryz.prog w = .ok (.func fn first cap) w := fun _ _ _ _ => rfl
  have Q1 := fun k => Lib.hid (skoL_succ t k)
  have Q2 := fun k i hk hi g D => Lib.hid (skoM_small (t := t) (n := n) (by omega) (by omega) (skoF t) (k := k) (i := i) hk hi g D)
  have Q4 := fun k => Lib.hid (show skoX t k = strT n k :: (List.range 3).map (skoT t k) by rw [skoX, ← hn])
  have Q5 := fun x i => Lib.hid (show skoT t x i = trp (3 * n) (x + t + n * i) (x + n * ((i + 1) % 3)) by rw [skoT, ← hn])
  have n8 : n ≤ 8 := by omega
  have t1 : 1 ≤ t := by omega
  have tn : t < n := by omega
  have Hn := Lib.hid hn
  clear ho hok hmk hlen hn hv
  go_enter Tryz.func10, Tryz.ntmps10
  go_wp2_with fail
  refine (KO.out _).mono ?_
  rintro e w2 ⟨rfl, h2⟩
  have hS2 := (hS0.call0 h2).newboxF 2 #[.int .i64 t]
  clear h2 hS0 KO
  have b0 := hS2.bcell 0 rfl 0 rfl
  have K := Lib.hid (KX.out _ _ b0)
  clear KX
  go_wp2_with fail
  refine K.out.mono ?_
  rintro e w4 ⟨v4, us4, rfl, hl4, h4⟩
  have hS4 := hS2.call h4
  obtain ⟨LB, hLB⟩ : ∃ LB : List Ent, LB = [box 2 w2.heap.size [.int .i64 t], box 29 w.heap.size [.int .i64 0, .slice none 0 0]] := ⟨_, rfl⟩
  have HLB := Lib.hid hLB
  have hb0 : Hid (LB[0]? = some (box 2 w2.heap.size [.int .i64 t])) := Lib.hid (by rw [hLB]; rfl)
  have hS5 : St w.heap.size w w4 (own2 v4 us4 (mxL n (skoF t) n ++ skoL t 0) ++ LB) := hS4.perm (by
    rw [show skoL t 0 = [] from rfl, List.append_nil, hLB]
    exact List.perm_append_comm)
  have hlo0 : Hid (us4.length = (mxL n (skoF t) n ++ skoL t 0).length) := Lib.hid (by rw [show skoL t 0 = [] from rfl, List.append_nil]; exact hl4)
  clear hS2 hS4 h4 K b0 hLB hl4
  go_wp2_with fail
  go_loopw [5, 9, 10] (fun o xi _ wr => ∃ (x : Nat) (uo : List Value), x ≤ t ∧ xi = .int .i64 x ∧ Hid (uo.length = (mxL n (skoF t) n ++ skoL t x).length) ∧ St w.heap.size w wr (own2 o uo (mxL n (skoF t) n ++ skoL t x) ++ LB)) (fun _ xi _ _ => t - (intOf xi).toNat)
  case atStart => exact ⟨0, us4, by omega, rfl, hlo0, hS5⟩
  case round =>
    clear hS5 hlo0
    obtain ⟨x, uo, hx, rfl, hlo, hS⟩ := hrel
    have k0 := hS.bcell _ (at_app hb0.out) 0 rfl
    by_cases hxn : x < t
    · have hxi : (x : Int) < (t : Int) := by omega
      have HE := Q1 x
      have H4 := Q4 x
      have KT := fun W => Lib.hid (triple_n x (x + n) (x + 2 * n) W (by omega) (by omega) (by omega))
      rw [show trp x (x + n) (x + 2 * n) = strT n x from rfl] at KT
      have w1 : IntKind.i64.wrap ((x : Int) + (n : Int)) = (x : Int) + (n : Int) := IntWalk.i64_in _ (by omega)
      have w2 : IntKind.i64.wrap (2 * (n : Int)) = 2 * (n : Int) := IntWalk.i64_in _ (by omega)
      have w3 : IntKind.i64.wrap ((x : Int) + 2 * (n : Int)) = (x : Int) + 2 * (n : Int) := IntWalk.i64_in _ (by omega)
      have hul := Lib.hid (show uo.length < 4294967296 by
        have := (Q2 x 0 hx (by omega) (fun _ => []) []).out
        simp only [List.length_append] at this
        rw [hlo.out, List.length_append]; omega)
      generalize strT n x = D at *
      simp only [Int.natCast_add, Int.natCast_mul] at KT
      go_wp2_with fail
      refine (KT _).out.mono ?_
      rintro e w5 ⟨u, rfl, h5⟩
      obtain ⟨ua, uc, hu⟩ := (h5.rdI 0 rfl).sl.sh
      generalize (iv D).length = dl at hu
      subst hu
      have hS5 := hS.call h5
      clear h5 hS KT k0
      go_wp2_with (at_builtin; refine appII hS5 0 rfl hul.out rfl _ _ rfl rfl _ rfl (by first | rfl | simp [Act.eval, World.size_alloc]) ?_; intro v8 w8 hS8)
      have hS9 := own2_snocP hlo.out hS8
      have hS10 : St w.heap.size w w8 (own2 v8 (uo ++ [Value.slice ua dl uc]) (mxL n (skoF t) n ++ skoL t x ++ [D] ++ (List.range 0).map (skoT t x)) ++ LB) := by rw [List.range_zero, List.map_nil, List.append_nil]; exact hS9
      have hlo2 : Hid ((uo ++ [Value.slice ua dl uc]).length = (mxL n (skoF t) n ++ skoL t x ++ [D] ++ (List.range 0).map (skoT t x)).length) := Lib.hid (by rw [List.range_zero, List.map_nil, List.append_nil, List.length_append, List.length_append, hlo.out]; rfl)
      have HEn := Lib.hid (show mxL n (skoF t) n ++ skoL t x ++ [D] ++ (List.range 3).map (skoT t x) = mxL n (skoF t) n ++ skoL t (x + 1) by rw [HE.out, H4.out]; simp only [List.append_assoc, List.singleton_append])
      have HB := fun i (hi : i ≤ 3) => Q2 x i hx hi (skoT t x) D
      have Q5 := Q5 x
      clear hS5 hS8 hlo hS9 HE H4 Q1 Q2
      generalize mxL n (skoF t) n ++ skoL t x ++ [D] = X at *
      go_wp2_with fail
      go_loopw [5, 10] (fun o ii wr => ∃ (i : Nat) (uo : List Value), i ≤ 3 ∧ ii = .int .i64 i ∧ Hid (uo.length = (X ++ (List.range i).map (skoT t x)).length) ∧ St w.heap.size w wr (own2 o uo (X ++ (List.range i).map (skoT t x)) ++ LB)) (fun _ ii _ => 3 - (intOf ii).toNat)
      case atStart => exact ⟨0, _, by omega, rfl, hlo2, hS10⟩
      case round =>
        clear hS10 hlo2
        obtain ⟨i, uo, hi, rfl, hlo, hS⟩ := hrel
        by_cases hi3 : i < 3
        · have hii : (i : Int) < 3 := by omega
          have hul := Lib.hid (show uo.length < 4294967296 by rw [hlo.out]; have := (HB i hi).out; omega)
          have Hst := Lib.hid (show X ++ (List.range (i + 1)).map (skoT t x) = X ++ (List.range i).map (skoT t x) ++ [skoT t x i] by rw [rg_succ, List.append_assoc])
          obtain ⟨r, hr⟩ : ∃ r, (i + 1) % 3 = r := ⟨_, rfl⟩
          obtain ⟨p, hp⟩ : ∃ p, n * i = p := ⟨_, rfl⟩
          obtain ⟨s, hs⟩ : ∃ s, n * r = s := ⟨_, rfl⟩
          have hcase : (p = 0 ∧ s = n) ∨ (p = n ∧ s = 2 * n) ∨ (p = 2 * n ∧ s = 0) := by
            rcases (show i = 0 ∨ i = 1 ∨ i = 2 by omega) with e | e | e
            · subst e; subst hr; subst hp; subst hs; simp
            · subst e; subst hr; subst hp; subst hs; right; left; simp; omega
            · subst e; subst hr; subst hp; subst hs; right; right; simp; omega
          have htn := Hn.out
          have hpb : p ≤ 8 * 3 := by rw [← hp]; exact Nat.mul_le_mul n8 (by omega)
          have hsb : s ≤ 8 * 3 := by rw [← hs]; exact Nat.mul_le_mul n8 (by omega)
          have hT := Lib.hid (show skoT t x i = trp (3 * n) (x + t + p) (x + s) by rw [(Q5 i).out, hr, hp, hs])
          have KT := fun W => Lib.hid (triple_n (3 * n) (x + t + p) (x + s) W (by omega) (by omega) (by omega))
          rw [← hT.out] at KT
          have q1 : (n : Int) * (i : Int) = (p : Int) := by rw [← hp]; simp
          have q2 : (n : Int) * (r : Int) = (s : Int) := by rw [← hs]; simp
          have q4 : ((i : Int) + 1).tmod 3 = (r : Int) := by
            rw [show (i : Int) + 1 = ((i + 1 : Nat) : Int) by omega, Int.tmod_eq_emod_of_nonneg (by omega), ← hr]; rfl
          have v1 : IntKind.i64.wrap (p : Int) = (p : Int) := IntWalk.i64_in _ (by omega)
          have v2 : IntKind.i64.wrap (s : Int) = (s : Int) := IntWalk.i64_in _ (by omega)
          have v4 : IntKind.i64.wrap (r : Int) = (r : Int) := IntWalk.i64_in _ (by omega)
          have v5 : IntKind.i64.wrap ((x : Int) + (t : Int)) = (x : Int) + (t : Int) := IntWalk.i64_in _ (by omega)
          have v6 : IntKind.i64.wrap ((x : Int) + (t : Int) + (p : Int)) = (x : Int) + (t : Int) + (p : Int) := IntWalk.i64_in _ (by omega)
          have v7 : IntKind.i64.wrap ((x : Int) + (s : Int)) = (x : Int) + (s : Int) := IntWalk.i64_in _ (by omega)
          have v8 : IntKind.i64.wrap (3 * (n : Int)) = 3 * (n : Int) := IntWalk.i64_in _ (by omega)
          have v9 : IntKind.i64.wrap ((i : Int) + 1) = (i : Int) + 1 := IntWalk.i64_in _ (by omega)
          have k0 := hS.bcell _ (at_app hb0.out) 0 rfl
          clear hr hp hs hT HEn Q5 hpb hsb hcase htn
          generalize skoT t x i = D at *
          simp only [Int.natCast_add, Int.natCast_mul] at KT
          go_wp2_with fail
          refine (KT _).out.mono ?_
          rintro e w4 ⟨u, rfl, h4⟩
          obtain ⟨ua, uc, hu⟩ := (h4.rdI 0 rfl).sl.sh
          generalize (iv D).length = dl at hu
          subst hu
          have hS5 := hS.call h4
          clear h4 hS k0
          go_wp2_with (at_builtin; refine appII hS5 0 rfl hul.out rfl _ _ rfl rfl _ rfl (by first | rfl | simp [Act.eval, World.size_alloc]) ?_; intro v8 w8 hS8)
          have hS9 := own2_snocP hlo.out hS8
          rw [← Hst.out] at hS9
          go_roundw
          case rel => exact ⟨i + 1, _, by omega, by go_num, by rw [Hid, Hst.out, List.length_append, List.length_append, hlo.out]; rfl, hS9⟩
          case measure => simp [intOf]; omega
        · obtain rfl : i = 3 := by omega
          go_wp2_with fail
          go_roundw
          case rel => exact ⟨x + 1, uo, by omega, by go_num, by rw [← HEn.out]; exact hlo, by rw [← HEn.out]; exact hS⟩
          case measure => simp [intOf]; omega
    · obtain rfl : x = t := by omega
      rw [← HM.out] at hS hlo
      have rR := (hS.sub (List.sublist_append_left _ _)).rii hlo.out
      rw [HLB.out] at hS
      have hSb := hS.sub (L' := [box 29 w.heap.size [.int .i64 0, .slice none 0 0]]) ((List.sublist_cons_self _ _).trans (List.sublist_append_right _ _))
      have KS := Lib.hid (sorted_c (v : Int) u5 uo _ _ rR HLen.out HRw.out)
      generalize srtL (mkTI v) = A at *
      clear rR hS
      go_wp2_with (go_at_call 45; refine KS.out.mono ?_; rintro e4 w4 ⟨v4, us4, rfl, hl4, h4⟩; obtain ⟨a4, c4, hv4⟩ := (h4.rd 0 (e := 24) (v := v4) (us := us4) rfl).sl.sh; rw [hl4] at hv4; subst hv4; unfold dv; have hB := hSb.call h4; have e0 := hB.bcell 0 rfl 0 rfl; have e1 := hB.bcell 0 rfl 1 rfl; have f0 := hB.bfree 0 rfl; have h6 := (hB.bstore 0 rfl 0 (.int .i64 (v : Int))).bstore 0 rfl 1 (.slice a4 A.length c4); have g0 := h6.bcell 0 rfl 0 rfl; have g1 := h6.bcell 0 rfl 1 rfl)
      refine bodyPost_ret (v := .tuple #[.agg #[.int .i64 (v : Int), .slice a4 A.length c4], .int .i64 0]) (by simp [results, Tryz.results10, go_sem, g0, g1]) rfl ?_
      exact ⟨_, us4, rfl, hl4, h6.sub (.cons _ (.refl _))⟩
end Go.Proofs.YtlmbaeaakpmhnaaGreat
end

section
/- Walks: the triple systems that the reference makes. -/
namespace Go.Proofs.YtlmbaeaakpmhnaaGreat
set_option linter.unusedSimpArgs false
set_option linter.unusedVariables false
open Go.RowKit
attribute [local go_sem ↓] Go.wp_at_zero Go.wp_at_succ

theorem mkTS_ts {v : Nat} (hv : v ∈ ([3, 7, 9, 13, 15, 19] : List Nat)) : TS v (srtL (mkTS v)) := tsOk_ts (mkTS_ok v hv)
set_option maxHeartbeats 8000000 in
set_option maxRecDepth 100000 in
theorem l11Make_c (v : Nat) (w : World) (hv : v ∈ ([3, 7, 9, 13, 15, 19] : List Nat)) : Calls Tryz.prog 63 #[.int .i64 v] w (MakesDV w v (srtL (mkTS v))) := by
  have hT := mkTS_ts hv
  have hD := dOk_t hT.ok
  have hlen := hD.len
  rw [srtL_len] at hlen
  have HRw := Lib.hid (show ∀ xs ∈ mkTS v, xs.length ≤ 1048576 from fun xs hx => by rw [hT.three xs ((srtL_perm _).mem_iff.2 hx)]; decide)
  have hS0 := (St.refl w).newboxF 29 #[.int .i64 0, .slice none 0 0]
  have hv' : v = 3 ∨ v = 7 ∨ v = 9 ∨ v = 13 ∨ v = 15 ∨ v = 19 := by simpa using hv
  have K3 := Lib.hid (fun W us vo (h : RII W vo us (mkTS v)) => l10Sort_c vo us (mkTS v) W h (by omega) HRw.out)
  obtain ⟨t, ht⟩ : ∃ t, v / 6 = t := ⟨_, rfl⟩
  by_cases h3 : v % 6 = 3
  · have HM := Lib.hid (show mkTS v = bosL t (2 * t + 1) by unfold mkTS; rw [if_pos h3, ht])
    have K1 := Lib.hid (l11Bose_c t (w.alloc (.cells #[.int .i64 0, .slice none 0 0] 29)) (by omega))
    rw [← HM.out] at K1
    have q1 : (v : Int).tmod 6 = 3 := by rw [Int.tmod_eq_emod_of_nonneg (by omega)]; omega
    have q2 : ((v : Int) - 3).tdiv 6 = (t : Int) := by rw [Int.tdiv_eq_ediv_of_nonneg (by omega)]; omega
    have w1 : IntKind.i64.wrap ((v : Int) - 3) = (v : Int) - 3 := IntWalk.i64_in _ (by omega)
    have w2 : IntKind.i64.wrap (t : Int) = (t : Int) := IntWalk.i64_in _ (by omega)
    clear HM hT hD hlen hv hv' h3 ht HRw
    generalize mkTS v = M at *
    go_enter Tryz.func63, Tryz.ntmps63
    go_wp2_with fail
    refine K1.out.mono ?_
    rintro e w3 ⟨v3, us3, rfl, hl3, h3⟩
    have hS3 := hS0.call h3
    have K := Lib.hid (K3.out _ _ _ (h3.rii hl3))
    clear K1 K3 hS0
    go_wp2_with fail
    refine K.out.mono ?_
    rintro e w4 ⟨v4, us4, rfl, hl4, h4⟩
    obtain ⟨a4, c4, hv4⟩ := (h4.rd 0 (e := 24) (v := v4) (us := us4) rfl).sl.sh
    rw [hl4] at hv4
    subst hv4
    have hS4 := (hS3.sub (L' := [box 29 w.heap.size [.int .i64 0, .slice none 0 0]]) ((List.nil_sublist _).cons_cons _)).call h4
    have e0 := hS4.bcell 0 rfl 0 rfl
    have e1 := hS4.bcell 0 rfl 1 rfl
    have f0 := hS4.bfree 0 rfl
    have h6 := (hS4.bstore 0 rfl 0 (.int .i64 (v : Int))).bstore 0 rfl 1 (.slice a4 (srtL M).length c4)
    have g0 := h6.bcell 0 rfl 0 rfl
    have g1 := h6.bcell 0 rfl 1 rfl
    clear hS3 hS4 h4 h3 K
    go_wp2_with fail
    refine bodyPost_ret (v := .agg #[.int .i64 (v : Int), .slice a4 (srtL M).length c4]) (by simp [results, Tryz.results63, go_sem, g0, g1]) rfl ?_
    exact ⟨_, us4, rfl, hl4, h6.sub (.cons _ (.refl _))⟩
  · have HM := Lib.hid (show mkTS v = skoL t t ++ mxL (2 * t) (skoF t) (2 * t) by unfold mkTS; rw [if_neg h3, ht])
    have K1 := Lib.hid (l11Skolem_c t (w.alloc (.cells #[.int .i64 0, .slice none 0 0] 29)) (by omega))
    rw [← HM.out] at K1
    have q1 : (v : Int).tmod 6 = 1 := by rw [Int.tmod_eq_emod_of_nonneg (by omega)]; omega
    have q2 : ((v : Int) - 1).tdiv 6 = (t : Int) := by rw [Int.tdiv_eq_ediv_of_nonneg (by omega)]; omega
    have w1 : IntKind.i64.wrap ((v : Int) - 1) = (v : Int) - 1 := IntWalk.i64_in _ (by omega)
    have w2 : IntKind.i64.wrap (t : Int) = (t : Int) := IntWalk.i64_in _ (by omega)
    clear HM hT hD hlen hv hv' h3 ht HRw
    generalize mkTS v = M at *
    go_enter Tryz.func63, Tryz.ntmps63
    go_wp2_with fail
    refine K1.out.mono ?_
    rintro e w3 ⟨v3, us3, rfl, hl3, h3⟩
    have hS3 := hS0.call h3
    have K := Lib.hid (K3.out _ _ _ (h3.rii hl3))
    clear K1 K3 hS0
    go_wp2_with fail
    refine K.out.mono ?_
    rintro e w4 ⟨v4, us4, rfl, hl4, h4⟩
    obtain ⟨a4, c4, hv4⟩ := (h4.rd 0 (e := 24) (v := v4) (us := us4) rfl).sl.sh
    rw [hl4] at hv4
    subst hv4
    have hS4 := (hS3.sub (L' := [box 29 w.heap.size [.int .i64 0, .slice none 0 0]]) ((List.nil_sublist _).cons_cons _)).call h4
    have e0 := hS4.bcell 0 rfl 0 rfl
    have e1 := hS4.bcell 0 rfl 1 rfl
    have f0 := hS4.bfree 0 rfl
    have h6 := (hS4.bstore 0 rfl 0 (.int .i64 (v : Int))).bstore 0 rfl 1 (.slice a4 (srtL M).length c4)
    have g0 := h6.bcell 0 rfl 0 rfl
    have g1 := h6.bcell 0 rfl 1 rfl
    clear hS3 hS4 h4 h3 K
    go_wp2_with fail
    refine bodyPost_ret (v := .agg #[.int .i64 (v : Int), .slice a4 (srtL M).length c4]) (by simp [results, Tryz.results63, go_sem, g0, g1]) rfl ?_
    exact ⟨_, us4, rfl, hl4, h6.sub (.cons _ (.refl _))⟩
end Go.Proofs.YtlmbaeaakpmhnaaGreat
end

section
/- Walks: the triple system of order 3 of the reference; a product that is too large; constructions of all orders. -/
namespace Go.Proofs.YtlmbaeaakpmhnaaGreat
set_option linter.unusedSimpArgs false
set_option linter.unusedVariables false
open Go.RowKit
attribute [local go_sem ↓] Go.wp_at_zero Go.wp_at_succ

def trL9 : List Nat := [3, 7, 9, 13, 15, 19, 21, 25, 27]
theorem MakeTriples_c (v : Nat) (w : World) (hv : v ∈ trL9) : TS v (srtL (mkTI v)) ∧ Calls Tryz.prog 10 #[.int .i64 v] w (MakesD w v (srtL (mkTI v)) 0) := by
  have hT := tsOk_ts (mkTI_ok v hv)
  refine ⟨hT, ?_⟩
  have ho : ordB v = true := by
    have : ∀ v ∈ trL9, ordB v = true := by decide
    exact this v hv
  have hm : v % 6 = 3 ∨ v % 6 = 1 := by
    have : ∀ v ∈ trL9, v % 6 = 3 ∨ v % 6 = 1 := by decide
    exact this v hv
  rcases hm with e | e
  · exact MakeTriplesB_c v (v / 6) w (by omega) ho hT
  · exact MakeTriplesS_c v (v / 6) w (by omega) ho hT
theorem sTripleOrders_c (w : World) : Calls Tryz.prog 62 #[] w (MakesI w [3, 7, 9, 13, 15, 19, 21, 25, 27]) := by
  have hS0 : St w.heap.size w _ [row 2 (.slice (some ⟨w.heap.size, 0, none⟩) 9 9) (iv [3, 7, 9, 13, 15, 19, 21, 25, 27])] := (St.refl w).new 2 #[.int .i64 3, .int .i64 7, .int .i64 9, .int .i64 13, .int .i64 15, .int .i64 19, .int .i64 21, .int .i64 25, .int .i64 27] (by simp [maxLen])
  go_enter Tryz.func62, Tryz.ntmps62
  go_wp2_with fail
  go_ret
  exact ⟨_, rfl, hS0⟩
theorem mk3 : srtL (mkTS 3) = b3L := by decide
set_option maxHeartbeats 4000000 in
set_option maxRecDepth 100000 in
theorem sMakeTriples3_c (w : World) : Calls Tryz.prog 20 #[.int .i64 3] w (MakesD w 3 b3L 0) := by
  have hS0 := (St.refl w).newboxF 29 #[.int .i64 0, .slice none 0 0]
  have K1 := fun W => Lib.hid (sTripleOrders_c W)
  have K2 := fun W v h => Lib.hid (l00Has_c v [3, 7, 9, 13, 15, 19, 21, 25, 27] 3 W h)
  rw [decide_eq_true (by decide)] at K2
  have K3 := fun W => Lib.hid (l11Make_c 3 W (by decide))
  rw [mk3] at K3
  rw [show ((3 : Nat) : Int) = (3 : Int) from rfl] at K3
  have hb1 := Lib.hid (show b3L.length = 1 from rfl)
  generalize b3L = B at *
  generalize ([3, 7, 9, 13, 15, 19, 21, 25, 27] : List Int) = O at *
  go_enter Tryz.func20, Tryz.ntmps20
  go_wp2_with fail
  refine (K1 _).out.mono ?_
  rintro e w2 ⟨v2, rfl, h2⟩
  have hS2 := hS0.call h2
  have r2 := h2.rdI 0 rfl
  clear h2 hS0
  go_wp2_with fail
  refine (K2 _ _ r2).out.mono ?_
  rintro e w3 ⟨rfl, rfl⟩
  go_wp2_with fail
  refine (K3 _).out.mono ?_
  rintro e w4 ⟨v4, us4, rfl, hl4, h4⟩
  obtain ⟨a4, c4, hv4⟩ := (h4.rd 0 (e := 24) (v := v4) (us := us4) rfl).sl.sh
  rw [hl4, hb1.out] at hv4
  subst hv4
  unfold dv
  have hS4 := (hS2.sub (L' := [box 29 w.heap.size [.int .i64 0, .slice none 0 0]]) ((List.nil_sublist _).cons_cons _)).call h4
  have e0 := hS4.bcell 0 rfl 0 rfl
  have e1 := hS4.bcell 0 rfl 1 rfl
  have f0 := hS4.bfree 0 rfl
  have h6 := (hS4.bstore 0 rfl 0 (.int .i64 3)).bstore 0 rfl 1 (.slice a4 1 c4)
  have g0 := h6.bcell 0 rfl 0 rfl
  have g1 := h6.bcell 0 rfl 1 rfl
  clear hS2 hS4 h4 r2
  go_wp2_with fail
  refine bodyPost_ret (v := .tuple #[.agg #[.int .i64 3, .slice a4 1 c4], .int .i64 0]) (by simp [results, Tryz.results20, go_sem, g0, g1]) rfl ?_
  exact ⟨_, us4, rfl, hl4, h6.sub (.cons _ (.refl _))⟩
set_option maxHeartbeats 8000000 in
set_option maxRecDepth 100000 in
theorem ProductTriples_no (P : Nat) (va vb : Value) (ua ub : List Value) (A : List (List Int)) (w : World) (hv : RII w va ua A) (hb : RII w vb ub b3L) (hA : TS P A) (h11 : 11 ≤ P) :
    Calls Tryz.prog 21 #[dv P va, dv 3 vb] w (MakesD w 0 [] 5) := by
  obtain ⟨a1, c1, hsh⟩ := hv.1.sl.sh
  rw [hv.2.1] at hsh
  subst hsh
  obtain ⟨a2, c2, hsh⟩ := hb.1.sl.sh
  rw [hb.2.1, show b3L.length = 1 from rfl] at hsh
  subst hsh
  have hP32 := hA.p32
  have hS0 := (((St.refl w).newboxF 29 #[.int .i64 P, .slice a1 A.length c1]).newboxF 29 #[.int .i64 3, .slice a2 1 c2]).newboxF 29 #[.int .i64 0, .slice none 0 0]
  simp only [World.size_alloc] at hS0
  have KA := Lib.hid (fun W (h : RII W (.slice a1 A.length c1) ua A) => IsTripleSystem_c P (.slice a1 A.length c1) ua A W h hA)
  have KB := Lib.hid (fun W (h : RII W (.slice a2 1 c2) ub b3L) => IsTripleSystem_c 3 (.slice a2 1 c2) ub b3L W h b3_ts)
  have Hv := Lib.hid hv
  have Hb := Lib.hid hb
  have v0 : IntKind.i64.wrap ((P : Int) * 3) = (P : Int) * 3 := IntWalk.i64_in _ (by omega)
  have f0 : (32 : Int) < (P : Int) * 3 := by omega
  have z0 := hS0.bcell 2 rfl 0 rfl
  have z1 := hS0.bcell 2 rfl 1 rfl
  have z2 := hS0.bcell 1 rfl 0 rfl
  have z3 := hS0.bcell 1 rfl 1 rfl
  unfold dv at KA KB ⊢
  clear hA hv hb
  go_enter Tryz.func21, Tryz.ntmps21
  go_wp2_with fail
  refine (KA.out _ (hS0.oldII Hv.out)).mono ?_
  rintro e w1 ⟨rfl, h1⟩
  have hS1 := hS0.call0 h1
  clear h1 hS0 KA z0 z1 z2 z3
  have z2 := hS1.bcell 1 rfl 0 rfl
  have z3 := hS1.bcell 1 rfl 1 rfl
  go_wp2_with fail
  refine (KB.out _ (hS1.oldII Hb.out)).mono ?_
  rintro e w2 ⟨rfl, h2⟩
  have hS2 := hS1.call0 h2
  clear h2 hS1 KB z2 z3
  have z0 := hS2.bcell 2 rfl 0 rfl
  have z2 := hS2.bcell 1 rfl 0 rfl
  have y0 := hS2.bfree 0 rfl
  have y1 := hS2.bcell 0 rfl 0 rfl
  have y2 := hS2.bcell 0 rfl 1 rfl
  have h6 := (hS2.bstore 0 rfl 0 (.int .i64 0)).bstore 0 rfl 1 (.slice none 0 0)
  have d0 := h6.bcell 0 rfl 0 rfl
  have d1 := h6.bcell 0 rfl 1 rfl
  go_wp2_with fail
  refine bodyPost_ret (v := .tuple #[.agg #[.int .i64 0, .slice none 0 0], .int .i64 5]) (by simp [results, Tryz.results21, go_sem, d0, d1, y1, y2]) rfl ?_
  first | exact MakesD.no h6 | exact MakesD.no hS2
end Go.Proofs.YtlmbaeaakpmhnaaGreat
end

section
/- Walks: sets of the reference. -/
namespace Go.Proofs.YtlmbaeaakpmhnaaGreat
set_option linter.unusedSimpArgs false
set_option linter.unusedVariables false
open Go.RowKit

theorem l01Set_c (v : Value) (xs : List Int) (w : World) (hv : RdI w v xs) : Calls Tryz.prog 97 #[v] w (GivesB w (incB (-1) 32 xs)) := by
  have K := Lib.hid (l00Rises_c v xs 0 31 w hv)
  rw [show (0 : Int) - 1 = -1 from rfl, show (31 : Int) + 1 = 32 from rfl] at K
  generalize incB (-1) 32 xs = b at *
  go_enter Tryz.func97, Tryz.ntmps97
  go_wp2_with fail
  refine K.out.mono ?_
  rintro e w1 ⟨rfl, h1⟩
  go_wp2_with fail
  go_ret
  exact ⟨rfl, h1⟩
def bothL (xs ys : List Int) (b : Bool) : List Int := xs.filter fun x => decide (x ∈ ys) == b
theorem bothL_take {xs ys : List Int} {b : Bool} {k : Nat} (h : k < xs.length) : bothL (xs.take (k + 1)) ys b = bothL (xs.take k) ys b ++ if decide (nth xs k ∈ ys) = b then [nth xs k] else [] := by
  unfold bothL
  rw [take_nth h, List.filter_append]
  congr 1
  by_cases hc : decide (nth xs k ∈ ys) = b
  · rw [if_pos hc, List.filter_cons_of_pos (by rw [hc]; exact beq_self_eq_true b)]; rfl
  · rw [if_neg hc, List.filter_cons_of_neg (by rw [beq_iff_eq]; exact hc)]; rfl
theorem bothL_len (xs ys : List Int) (b : Bool) : (bothL xs ys b).length ≤ xs.length := List.length_filter_le _ _
theorem bothL_set {xs ys : List Int} {b : Bool} (h : incB (-1) 32 xs = true) : incB (-1) 32 (bothL xs ys b) = true :=
  incB_of (fun x hx => incB_gt h x ((List.mem_filter.1 hx).1)) ((incB_pw h).sublist List.filter_sublist)
set_option maxHeartbeats 4000000 in
set_option maxRecDepth 100000 in
theorem l01Both_c (va vb : Value) (xs ys : List Int) (b : Bool) (w : World) (ha : RdI w va xs) (hb : RdI w vb ys) (hx : incB (-1) 32 xs = true) (hy : incB (-1) 32 ys = true) :
    Calls Tryz.prog 244 #[va, vb, .bool b] w (MakesI w (bothL xs ys b)) := by
  have hln := ha.len
  have hix := ha.ixe
  have hlx : xs.length ≤ 33 := by have := inc_len hx (by omega); omega
  have hS0 := St.refl w
  have K1 := Lib.hid (l01Set_c va xs w ha)
  have K2 := fun W (h : St w.heap.size w W []) => Lib.hid (l01Set_c vb ys W (h.oldI hb))
  have KH := fun W (h : RdI W vb ys) x => Lib.hid (l00Has_c vb ys x W h)
  rw [hx] at K1
  rw [hy] at K2
  have Ha := Lib.hid ha
  have Hb := Lib.hid hb
  have HT := fun k (hk : k < xs.length) => Lib.hid (bothL_take (ys := ys) (b := b) hk)
  have HE := Lib.hid (show bothL (xs.take xs.length) ys b = bothL xs ys b by rw [List.take_length])
  have HL := fun k => Lib.hid (show (bothL (xs.take k) ys b).length ≤ 33 by have := bothL_len (xs.take k) ys b; rw [List.length_take] at this; omega)
  clear hx hy ha hb
  go_enter Tryz.func244, Tryz.ntmps244
  go_wp2_with fail
  refine K1.out.mono ?_
  rintro e w1 ⟨rfl, h1⟩
  have hS1 := hS0.call0 h1
  clear K1 h1 hS0
  go_wp2_with fail
  refine (K2 _ hS1).out.mono ?_
  rintro e w2 ⟨rfl, h2⟩
  have hS2 := hS1.call0 h2
  have hS3 : St w.heap.size w _ [row 2 (.slice (some ⟨w2.heap.size, 0, none⟩) 0 0) (iv (bothL (xs.take 0) ys b))] := hS2.new 2 #[] (by simp)
  clear K2 h2 hS1 hS2
  go_wp2_with fail
  go_loopw [7, 8] (fun o i wr => ∃ (k : Nat), k ≤ xs.length ∧ i = .int .i64 k ∧ St w.heap.size w wr [row 2 o (iv (bothL (xs.take k) ys b))]) (fun _ i _ => xs.length - (intOf i).toNat)
  case atStart => exact ⟨0, by omega, rfl, hS3⟩
  case round =>
    clear hS3
    obtain ⟨k, hk, rfl, hS⟩ := hrel
    by_cases hlt : k < xs.length
    · have x1 := hix (k : Int) k rfl hlt
      have c1 := (hS.oldI Ha.out).cell k hlt
      have K := KH _ (hS.oldI Hb.out) (nth xs k)
      have HTk := HT k hlt
      have HLk := HL k
      generalize nth xs k = x at *
      by_cases hc : decide (x ∈ ys) = b
      · have f1 : (decide (x ∈ ys) == b) = true := by rw [hc]; exact beq_self_eq_true b
        have H2 := Lib.hid (show bothL (xs.take (k + 1)) ys b = bothL (xs.take k) ys b ++ [x] by rw [HTk.out, if_pos hc])
        have hN := Lib.hid (show (bothL (xs.take k) ys b).length < 4294967296 by have := HLk.out; omega)
        clear hc HTk
        generalize decide (x ∈ ys) = d at *
        go_wp2_with fail
        refine K.out.mono ?_
        rintro e w4 ⟨rfl, rfl⟩
        go_wp2_with (at_builtin; refine appI hS 0 rfl hN.out rfl _ _ rfl rfl _ (by first | rfl | simp [Act.eval, Act.put]) ?_; intro v5 w5 hS5; simp only [List.set_cons_zero] at hS5)
        rw [← H2.out] at hS5
        go_roundw
        case rel => exact ⟨k + 1, by omega, by go_num, hS5⟩
        case measure => simp [intOf]; omega
      · have f1 : (decide (x ∈ ys) == b) = false := by
          cases h : decide (x ∈ ys) == b
          · rfl
          · exact absurd (beq_iff_eq.1 h) hc
        have H2 := Lib.hid (show bothL (xs.take (k + 1)) ys b = bothL (xs.take k) ys b by rw [HTk.out, if_neg hc, List.append_nil])
        clear hc HTk
        generalize decide (x ∈ ys) = d at *
        go_wp2_with fail
        refine K.out.mono ?_
        rintro e w4 ⟨rfl, rfl⟩
        rw [← H2.out] at hS
        go_wp2_with fail
        go_roundw
        case rel => exact ⟨k + 1, by omega, by go_num, hS⟩
        case measure => simp [intOf]; omega
    · obtain rfl : k = xs.length := by omega
      rw [HE.out] at hS
      go_wp2_with fail
      go_ret
      exact ⟨_, rfl, hS⟩
theorem sMinusSets_c (va vb : Value) (xs ys : List Int) (w : World) (ha : RdI w va xs) (hb : RdI w vb ys) (hx : incB (-1) 32 xs = true) (hy : incB (-1) 32 ys = true) :
    Calls Tryz.prog 193 #[va, vb] w (MakesI w (bothL xs ys false)) := by
  have K := Lib.hid (l01Both_c va vb xs ys false w ha hb hx hy)
  go_enter Tryz.func193, Tryz.ntmps193
  go_wp2_with fail
  refine K.out.mono ?_
  rintro e w1 ⟨v, rfl, h1⟩
  go_wp2_with fail
  go_ret
  exact ⟨v, rfl, h1⟩
theorem sMeetSets_c (va vb : Value) (xs ys : List Int) (w : World) (ha : RdI w va xs) (hb : RdI w vb ys) (hx : incB (-1) 32 xs = true) (hy : incB (-1) 32 ys = true) :
    Calls Tryz.prog 189 #[va, vb] w (MakesI w (bothL xs ys true)) := by
  have K := Lib.hid (l01Both_c va vb xs ys true w ha hb hx hy)
  go_enter Tryz.func189, Tryz.ntmps189
  go_wp2_with fail
  refine K.out.mono ?_
  rintro e w1 ⟨v, rfl, h1⟩
  go_wp2_with fail
  go_ret
  exact ⟨v, rfl, h1⟩
def uniL (xs ys : List Int) : List Int := ys.foldl putL xs
theorem uniL_take {xs ys : List Int} {k : Nat} (h : k < ys.length) : uniL xs (ys.take (k + 1)) = putL (uniL xs (ys.take k)) (nth ys k) := by
  unfold uniL; rw [take_nth h, List.foldl_append]; rfl
theorem uniL_len (xs : List Int) : ∀ ys : List Int, (uniL xs ys).length ≤ xs.length + ys.length := fun ys => by
  induction ys generalizing xs with
  | nil => exact Nat.le_refl _
  | cons y ys ih =>
    have h1 := ih (putL xs y)
    have h2 := putL_len xs y
    show (uniL (putL xs y) ys).length ≤ _
    rw [List.length_cons]; omega
set_option maxHeartbeats 4000000 in
set_option maxRecDepth 100000 in
theorem sUnionSets_c (va vb : Value) (xs ys : List Int) (w : World) (ha : RdI w va xs) (hb : RdI w vb ys) (hx : incB (-1) 32 xs = true) (hy : incB (-1) 32 ys = true) :
    Calls Tryz.prog 34 #[va, vb] w (MakesI w (uniL xs ys)) := by
  have hln := hb.len
  have hix := hb.ixe
  have hlx : xs.length ≤ 33 := by have := inc_len hx (by omega); omega
  have hly : ys.length ≤ 33 := by have := inc_len hy (by omega); omega
  have hS0 := St.refl w
  have K1 := Lib.hid (l01Set_c va xs w ha)
  have K2 := fun W (h : St w.heap.size w W []) => Lib.hid (l01Set_c vb ys W (h.oldI hb))
  have K3 := fun W (h : RdI W va xs) => Lib.hid (l00Own_c va xs W h (by omega))
  rw [hx] at K1
  rw [hy] at K2
  have Ha := Lib.hid ha
  have Hb := Lib.hid hb
  have HT := fun k (hk : k < ys.length) => Lib.hid (uniL_take (xs := xs) hk)
  have HE := Lib.hid (show uniL xs (ys.take ys.length) = uniL xs ys by rw [List.take_length])
  have HL := fun k => Lib.hid (show (uniL xs (ys.take k)).length ≤ 1000 by have := uniL_len xs (ys.take k); rw [List.length_take] at this; omega)
  have H0 := Lib.hid (show uniL xs (ys.take 0) = xs from rfl)
  clear hx hy ha hb
  go_enter Tryz.func34, Tryz.ntmps34
  go_wp2_with fail
  refine K1.out.mono ?_
  rintro e w1 ⟨rfl, h1⟩
  have hS1 := hS0.call0 h1
  clear K1 h1 hS0
  go_wp2_with fail
  refine (K2 _ hS1).out.mono ?_
  rintro e w2 ⟨rfl, h2⟩
  have hS2 := hS1.call0 h2
  clear K2 h2 hS1
  go_wp2_with fail
  refine (K3 _ (hS2.oldI Ha.out)).out.mono ?_
  rintro e w3 ⟨v3, rfl, h3⟩
  have hS3 : St w.heap.size w w3 [row 2 v3 (iv (uniL xs (ys.take 0)))] := hS2.call h3
  clear h3 hS2
  go_wp2_with fail
  go_loopw [5, 6] (fun o i wr => ∃ (k : Nat), k ≤ ys.length ∧ i = .int .i64 k ∧ St w.heap.size w wr [row 2 o (iv (uniL xs (ys.take k)))]) (fun _ i _ => ys.length - (intOf i).toNat)
  case atStart => exact ⟨0, by omega, rfl, hS3⟩
  case round =>
    clear hS3
    obtain ⟨k, hk, rfl, hS⟩ := hrel
    by_cases hlt : k < ys.length
    · have x1 := hix (k : Int) k rfl hlt
      have c1 := (hS.oldI Hb.out).cell k hlt
      have HTk := HT k hlt
      have HLk := HL k
      have K := Lib.hid (l00PutX_c u5 (uniL xs (ys.take k)) (nth ys k) wr (hS.rdI 0 rfl) (by have := HLk.out; omega))
      generalize nth ys k = x at *
      go_wp2_with fail
      refine K.out.mono ?_
      rintro e w4 ⟨v4, rfl, h4⟩
      have hS4 := (hS.call h4).sub (List.sublist_cons_self _ _)
      rw [← HTk.out] at hS4
      clear hS h4 K
      go_wp2_with fail
      go_roundw
      case rel => exact ⟨k + 1, by omega, by go_num, hS4⟩
      case measure => simp [intOf]; omega
    · obtain rfl : k = ys.length := by omega
      rw [HE.out] at hS
      go_wp2_with fail
      go_ret
      exact ⟨_, rfl, hS⟩
end Go.Proofs.YtlmbaeaakpmhnaaGreat
end

section
/- Walks: quadrilaterals of two blocks of the reference. -/
namespace Go.Proofs.YtlmbaeaakpmhnaaGreat
set_option linter.unusedSimpArgs false
set_option linter.unusedVariables false
open Go.RowKit
attribute [local go_sem ↓] Go.wp_at_zero Go.wp_at_succ

theorem inc_ext {xs ys : List Int} (h1 : xs.Pairwise (· < ·)) (h2 : ys.Pairwise (· < ·)) (h : ∀ z, z ∈ xs ↔ z ∈ ys) : xs = ys :=
  sorted_eq ((List.perm_ext_iff_of_nodup (h1.imp fun h => by omega) (h2.imp fun h => by omega)).2 h) (h1.imp fun h => by omega) (h2.imp fun h => by omega)
theorem both_bc {B : List Int} {a b c : Nat} (h : IsB B a b c) (hp : B.Pairwise (· < ·)) (hab : a ≠ b) (hac : a ≠ c) (hbc : b < c) : bothL B [(a : Int)] false = [(b : Int), (c : Int)] := by
  refine inc_ext (hp.sublist List.filter_sublist) (by simp; omega) fun z => ?_
  unfold bothL
  rw [List.mem_filter, h z]
  simp only [List.mem_cons, List.not_mem_nil, or_false, beq_iff_eq, decide_eq_false_iff_not]
  omega
/-- four blocks of a quadrilateral -/
def IsPas (A : List (List Int)) (q : List Int) : Prop := ∃ i j k l a b c d e f : Nat, Pas A q i j k l a b c d e f
def MakesPs (w : World) (A : List (List Int)) (n : Nat) (e : Ending) (w' : World) : Prop := ∃ v us R, e = .returned v ∧ RII w' v us R ∧ R.length ≤ n ∧ (∀ q ∈ R, IsPas A q) ∧ St w.heap.size w w' []
/-- the same, with lists of its own -/
def MakesPo (w : World) (A : List (List Int)) (n : Nat) (e : Ending) (w' : World) : Prop := ∃ v us R, e = .returned v ∧ us.length = R.length ∧ R.length ≤ n ∧ (∀ q ∈ R, IsPas A q) ∧ St w.heap.size w w' (own2 v us R)
theorem MakesPo.ps {w w' : World} {A : List (List Int)} {n : Nat} {e : Ending} (h : MakesPo w A n e w') : MakesPs w A n e w' := by
  obtain ⟨v, us, R, he, hl, hn, hq, hS⟩ := h
  exact ⟨v, us, R, he, hS.rii hl, hn, hq, hS.out⟩
/-- indices in their order -/
def q4s (i j k l : Nat) : List Int := putL (putL (putL [(i : Int)] j) k) l
theorem q4s_mem (i j k l : Nat) (z : Int) : z ∈ q4s i j k l ↔ z = i ∨ z = j ∨ z = k ∨ z = l := by
  unfold q4s
  rw [putL_mem, putL_mem, putL_mem, List.mem_singleton]; omega
theorem q4s_inc (i j k l : Nat) : (q4s i j k l).Pairwise (· < ·) := by
  have : incB (-1) ((i + j + k + l + 1 : Nat) : Int) (q4s i j k l) = true := by
    unfold q4s
    refine putL_incT (putL_incT (putL_incT ?_ (by omega) (by omega)) (by omega) (by omega)) (by omega) (by omega)
    rw [incB, if_neg (by omega)]; rfl
  exact incB_pw this
theorem nd5 {a b c s t : Nat} (h : [a, b, c, s, t].Nodup) : a ≠ b ∧ a ≠ c ∧ a ≠ s ∧ a ≠ t ∧ b ≠ c ∧ b ≠ s ∧ b ≠ t ∧ c ≠ s ∧ c ≠ t ∧ s ≠ t := by
  simpa [and_assoc] using h
theorem nd5_sw {a b c s t : Nat} (h : [a, b, c, s, t].Nodup) : [a, b, c, t, s].Nodup := (List.Perm.nodup_iff (by (try simp only [own2, List.cons_append, List.nil_append, List.append_nil]); classical exact List.perm_iff_count.2 (fun a => by simp only [List.cons_append, List.nil_append, List.append_nil, List.count_append, List.count_cons, List.count_nil] <;> omega))).1 h
section
variable {P : Nat} {A : List (List Int)}
theorem TS.lt (hT : TS P A) {B : List Int} (hB : B ∈ A) {x : Nat} (hx : (x : Int) ∈ B) : x < P := by
  have := incB_gt ((dOk_t hT.ok).inc _ hB) _ hx; omega
/-- the block of the third point -/
theorem TS.thB (hT : TS P A) {x y : Nat} (hx : x < P) (hy : y < P) (hxy : x ≠ y) : trp (thF A x y) x y ∈ A ∧ IsB (trp (thF A x y) x y) (thF A x y) x y := by
  obtain ⟨B, hB, h1, h2, h3, h4, h5, h6⟩ := hT.th hx hy hxy
  have hb := trp_B (thF A x y) x y
  refine ⟨?_, hb⟩
  obtain ⟨p, q, r, e1, e2, e3, rfl⟩ := three_of (hT.inc hB) (hT.three _ hB)
  have : [(p : Int), (q : Int), (r : Int)] = trp (thF A x y) x y := by
    obtain ⟨_, hi⟩ := trp_ok (P := P) h4 hx hy h5 h6 hxy
    refine inc_ext (by simp; omega) (incB_pw hi) fun z => ?_
    rw [hb z]
    simp only [List.mem_cons, List.not_mem_nil, or_false] at h1 h2 h3 ⊢
    omega
  rw [← this]; exact hB
theorem TS.quad (hT : TS P A) {i k a b c s t : Nat} (hi : i < A.length) (hk : k < A.length) (hB1 : IsB (xat A i) a b c) (hB2 : IsB (xat A k) a s t) (hn : [a, b, c, s, t].Nodup) (hf : thF A b s = thF A c t) :
    Pas A (q4s i k (A.idxOf (trp (thF A b s) b s)) (A.idxOf (trp (thF A b s) c t))) i k (A.idxOf (trp (thF A b s) b s)) (A.idxOf (trp (thF A b s) c t)) a b c s t (thF A b s) := by
  have m1 := xat_mem hi
  have m2 := xat_mem hk
  have hb := hT.lt m1 ((hB1 b).2 (by omega))
  have hc := hT.lt m1 ((hB1 c).2 (by omega))
  have hs := hT.lt m2 ((hB2 s).2 (by omega))
  have ht := hT.lt m2 ((hB2 t).2 (by omega))
  obtain ⟨nab, nac, nas, nat, nbc, nbs, nbt, ncs, nct, nst⟩ := nd5 hn
  obtain ⟨n1, i1⟩ := hT.thB hb hs nbs
  obtain ⟨n2, i2⟩ := hT.thB hc ht nct
  rw [← hf] at n2 i2
  obtain ⟨l1, e1⟩ := idx_mem n1
  obtain ⟨l2, e2⟩ := idx_mem n2
  obtain ⟨ne1, ne2⟩ := hT.th_ne hb hs nbs
  obtain ⟨ne3, ne4⟩ := hT.th_ne hc ht nct
  rw [← hf] at ne3 ne4
  have nea : thF A b s ≠ a := fun e => by
    rw [e] at n1 i1
    have hu := hT.uniq n1 m1 nab i1.m1 i1.m2 hB1.m1 hB1.m2
    exact hB1.no nas.symm nbs.symm ncs.symm (hu ▸ i1.m3)
  exact ⟨hi, hk, l1, l2, hB1, hB2, by rw [e1]; exact i1, by rw [e2]; exact i2, ⟨nab, nac, nas, nat, nea.symm, nbc, nbs, nbt, ne1.symm, ncs, nct, ne3.symm, nst, ne2.symm, ne4.symm⟩, q4s_inc _ _ _ _, q4s_mem _ _ _ _⟩
end
set_option maxHeartbeats 8000000 in
set_option maxRecDepth 100000 in
theorem l11Quads_c (P g i k a b c d e : Nat) (v : Value) (us : List Value) (A : List (List Int)) (w : World) (hv : RII w v us A) (hb : BoxD w g P v) (hA : TS P A) (hi : i < A.length) (hk : k < A.length)
    (hB1 : IsB (xat A i) a b c) (hB2 : IsB (xat A k) a d e) (hn : [a, b, c, d, e].Nodup) (hbc : b < c) (hde : d < e) :
    Calls Tryz.prog 190 #[.pointer (some ⟨g, 0, none⟩), .int .i64 i, .int .i64 k, .int .i64 a] w (MakesPo w A 2) := by
  have hAl := (dOk_t hA.ok).len
  have hP := hA.p32
  have m1 := xat_mem hi
  have m2 := xat_mem hk
  have ha := hA.lt m1 hB1.m1
  have hbP := hA.lt m1 hB1.m2
  have hcP := hA.lt m1 hB1.m3
  have hdP := hA.lt m2 hB2.m2
  have heP := hA.lt m2 hB2.m3
  obtain ⟨nab, nac, nad, nae, nbc, nbd, nbe, ncd, nce, nde⟩ := nd5 hn
  have hs32 : ∀ B ∈ A, incB (-1) 32 B = true := fun B hB => incB_of (fun t ht => by have := incB_gt ((dOk_t hA.ok).inc _ hB) t ht; omega) (incB_pw ((dOk_t hA.ok).inc _ hB))
  have ha32 : incB (-1) 32 [(a : Int)] = true := by rw [incB, if_neg (by omega)]; rfl
  have M1 := fun W vb (h : RdI W (vat us i) (xat A i)) (h2 : RdI W vb [(a : Int)]) => Lib.hid (sMinusSets_c (vat us i) vb (xat A i) [(a : Int)] W h h2 (hs32 _ m1) ha32)
  have M2 := fun W vb (h : RdI W (vat us k) (xat A k)) (h2 : RdI W vb [(a : Int)]) => Lib.hid (sMinusSets_c (vat us k) vb (xat A k) [(a : Int)] W h h2 (hs32 _ m2) ha32)
  rw [both_bc hB1 (incB_pw (hs32 _ m1)) nab nac hbc] at M1
  rw [both_bc hB2 (incB_pw (hs32 _ m2)) nad nae hde] at M2
  have KT := fun W x y (h : RII W v us A) (h2 : BoxD W g P v) (hx : x < P) (hy : y < P) (hxy : x ≠ y) => Lib.hid (l11Third_c P g x y v us A W h h2 hA hx hy hxy)
  have KI := fun W x y z (h : RII W v us A) (h2 : BoxD W g P v) (hm : trp x y z ∈ A) => Lib.hid (l11Index_c P g x y z v us A W h h2 hA hm)
  have KB := Lib.hid (fun x y (hx : x < P) (hy : y < P) (hxy : x ≠ y) => (hA.thB hx hy hxy).1)
  have KQ1 := Lib.hid (fun hf => hA.quad hi hk hB1 hB2 hn hf)
  have KQ2 := Lib.hid (fun hf => hA.quad (s := e) (t := d) hi hk hB1 (hB2.re fun z => by omega) (nd5_sw hn) hf)
  have HNe := Lib.hid (And.intro (And.intro nbd nce) (And.intro nbe ncd))
  clear nab nac nad nae nbc nbd nbe ncd nce nde
  have Hlt := Lib.hid (fun x y (hx : x < P) (hy : y < P) => hA.th_lt hx hy)
  have hS0 := St.refl w
  have hS1 : St w.heap.size w _ [row 2 (.slice (some ⟨w.heap.size, 0, none⟩) 1 1) (iv [(a : Int)])] := hS0.new 2 #[.int .i64 a] (by simp [maxLen])
  have c1 := hb.2
  have x1 := hv.ixe (i : Int) i rfl hi
  have x2 := hv.ixe (k : Int) k rfl hk
  have d1 := hv.cell i hi
  have Hb := Lib.hid hb
  have Hv := Lib.hid hv
  clear hA hv hb hB1 hB2 hn hs32 m1 m2 ha32
  go_enter Tryz.func190, Tryz.ntmps190
  go_wp2_with fail
  refine (M1 _ _ ((hS1.oldII Hv.out).row i hi) (hS1.rdI 0 rfl)).out.mono ?_
  rintro e1 w2 ⟨vx, rfl, h2⟩
  have hS2 := (hS1.call h2).sub (L' := [row 2 vx (iv [(b : Int), (c : Int)])]) (List.sublist_cons_self _ _)
  have c1 := (hS2.oldBoxD Hb.out).2
  have d1 := (hS2.oldII Hv.out).cell k hk
  clear hS1 hS0 h2 M1
  have hS3 : St w.heap.size w _ ([row 2 vx (iv [(b : Int), (c : Int)])] ++ [row 2 (.slice (some ⟨w2.heap.size, 0, none⟩) 1 1) (iv [(a : Int)])]) := hS2.new 2 #[.int .i64 a] (by simp [maxLen])
  clear hS2
  go_wp2_with fail
  refine (M2 _ _ ((hS3.oldII Hv.out).row k hk) (hS3.rdI 1 rfl)).out.mono ?_
  rintro e1 w3 ⟨vy, rfl, h3⟩
  have hS4 := (hS3.call h3).sub (L' := [row 2 vx (iv [(b : Int), (c : Int)]), row 2 vy (iv [(d : Int), (e : Int)])]) ((List.sublist_cons_self _ _).cons_cons _)
  clear hS3 h3 M2 c1 d1
  have hS5 : St w.heap.size w _ ([row 2 vx (iv [(b : Int), (c : Int)]), row 2 vy (iv [(d : Int), (e : Int)])] ++ [row 24 (.slice (some ⟨w3.heap.size, 0, none⟩) 0 0) []]) := hS4.new 24 #[] (by simp)
  have xx0 := (hS4.rdI 0 rfl).ixe 0 0 rfl (by simp)
  have xx1 := (hS4.rdI 0 rfl).ixe 1 1 rfl (by simp)
  have xy := fun (j : Int) (m : Nat) (e1 : j = (m : Int)) (hm : m < 2) => (hS4.rdI 1 rfl).ixe j m e1 (by simpa using hm)
  have HX := Lib.hid xy
  have hS6 := hS5.perm (L' := own2 (.slice (some ⟨w3.heap.size, 0, none⟩) 0 0) [] [] ++ [row 2 vx (iv [(b : Int), (c : Int)]), row 2 vy (iv [(d : Int), (e : Int)])]) (show List.Perm _ ([row 24 (.slice (some ⟨w3.heap.size, 0, none⟩) 0 0) []] ++ _) from List.perm_append_comm)
  clear hS4 hS5 xy
  go_wp2_with fail
  go_loopw [11, 12, 13, 14, 15, 16] (fun o ti _ _ _ _ wr => ∃ (t : Nat) (uo : List Value) (R : List (List Int)), t ≤ 2 ∧ ti = .int .i64 t ∧ Hid (R.length ≤ t ∧ uo.length = R.length ∧ ∀ q ∈ R, IsPas A q) ∧ St w.heap.size w wr (own2 o uo R ++ [row 2 vx (iv [(b : Int), (c : Int)]), row 2 vy (iv [(d : Int), (e : Int)])])) (fun _ ti _ _ _ _ _ => 2 - (intOf ti).toNat)
  case atStart => exact ⟨0, [], [], by omega, rfl, ⟨by simp, rfl, fun q hq => by cases hq⟩, hS6⟩
  case round =>
    clear hS6
    obtain ⟨t, uo, R, ht, rfl, hI, hS⟩ := hrel
    by_cases ht2 : t < 2
    · have hti : (t : Int) < 2 := by omega
      obtain ⟨y1, y2, hy1, hy2, hyP1, hyP2, hne, KQ⟩ : ∃ y1 y2 : Nat, nth [(d : Int), (e : Int)] t = y1 ∧ nth [(d : Int), (e : Int)] (1 - t) = y2 ∧ y1 < P ∧ y2 < P ∧ (b ≠ y1 ∧ c ≠ y2 ∧ b ≠ y2 ∧ c ≠ y1) ∧ (thF A b y1 = thF A c y2 → IsPas A (q4s i k (A.idxOf (trp (thF A b y1) b y1)) (A.idxOf (trp (thF A b y1) c y2)))) := by
        rcases (show t = 0 ∨ t = 1 by omega) with rfl | rfl
        · exact ⟨d, e, rfl, rfl, hdP, heP, ⟨HNe.out.1.1, HNe.out.1.2, HNe.out.2.1, HNe.out.2.2⟩, fun hf => ⟨_, _, _, _, _, _, _, _, _, _, KQ1.out hf⟩⟩
        · exact ⟨e, d, rfl, rfl, heP, hdP, ⟨HNe.out.2.1, HNe.out.2.2, HNe.out.1.1, HNe.out.1.2⟩, fun hf => ⟨_, _, _, _, _, _, _, _, _, _, KQ2.out hf⟩⟩
      have HQ := Lib.hid KQ
      have xy1 := HX.out (t : Int) t rfl ht2
      have xy2 := HX.out ((1 : Int) - (t : Int)) (1 - t) (by omega) (by omega)
      have w1 : IntKind.i64.wrap ((1 : Int) - (t : Int)) = (1 : Int) - (t : Int) := IntWalk.i64_in _ (by omega)
      obtain ⟨L, hL⟩ : ∃ L, L = own2 u11 uo R ++ [row 2 vx (iv [(b : Int), (c : Int)]), row 2 vy (iv [(d : Int), (e : Int)])] := ⟨_, rfl⟩
      rw [← hL] at hS
      have HLx : Hid (∀ W, St w.heap.size w W L → RdI W vx [(b : Int), (c : Int)] ∧ RdI W vy [(d : Int), (e : Int)]) := Lib.hid (fun W h => by
        subst hL
        have h' := h.sub (List.sublist_append_right _ _)
        exact ⟨h'.rdI 0 rfl, h'.rdI 1 rfl⟩)
      have k1 := fun q : SS w.heap.size w L => (HLx.out _ q.st).1.cell 0 (by simp)
      have k2 := fun q : SS w.heap.size w L => (HLx.out _ q.st).1.cell 1 (by simp)
      have k3 := fun q : SS w.heap.size w L => (HLx.out _ q.st).2.cell t (by simpa using ht2)
      have k4 := fun q : SS w.heap.size w L => (HLx.out _ q.st).2.cell (1 - t) (by simp; omega)
      rw [show nth [(b : Int), (c : Int)] 0 = (b : Int) from rfl] at k1
      rw [show nth [(b : Int), (c : Int)] 1 = (c : Int) from rfl] at k2
      rw [hy1] at k3
      rw [hy2] at k4
      have T1 := Lib.hid (fun q : SS w.heap.size w L => KT q.w b y1 (q.st.oldII Hv.out) (q.st.oldBoxD Hb.out) hbP hyP1 hne.1)
      have T2 := Lib.hid (fun q : SS w.heap.size w L => KT q.w c y2 (q.st.oldII Hv.out) (q.st.oldBoxD Hb.out) hcP hyP2 hne.2.1)
      have B1 := Lib.hid (KB.out b y1 hbP hyP1 hne.1)
      have B2 := Lib.hid (KB.out c y2 hcP hyP2 hne.2.1)
      have HLe := Lib.hid hL
      clear hL hy1 hy2 KQ
      by_cases hf : thF A b y1 = thF A c y2
      · have HQ := Lib.hid (HQ.out hf)
        rw [← hf] at T2 B2
        generalize thF A b y1 = f at *
        clear hf
        have J1 := Lib.hid (fun q : SS w.heap.size w L => KI q.w f b y1 (q.st.oldII Hv.out) (q.st.oldBoxD Hb.out) B1.out)
        have J2 := Lib.hid (fun q : SS w.heap.size w L => KI q.w f c y2 (q.st.oldII Hv.out) (q.st.oldBoxD Hb.out) B2.out)
        generalize A.idxOf (trp f b y1) = m1 at *
        generalize A.idxOf (trp f c y2) = m2 at *
        have f1 : ((f : Int) == (f : Int)) = true := eq_t rfl
        go_wp2_with fail
        have hne : Nonempty (SS _ _ _) := ⟨⟨_, hS⟩⟩
        refine wp_region_st (by kernel_rfl) (by kernel_rfl) hS ?_
        repeat (go_big_quiet_step ((go_at_call 245; exact st_quiet (T1.out _).out)))
        refine wpQuiet_nil ?_
        rintro _ ⟨s2, rfl⟩
        have hS4 := s2.st
        generalize s2.w = w4 at hS4 ⊢
        clear hS
        go_wp2_with fail
        have hne : Nonempty (SS _ _ _) := ⟨⟨_, hS4⟩⟩
        refine wp_region_st (by kernel_rfl) (by kernel_rfl) hS4 ?_
        repeat (go_big_quiet_step ((go_at_call 245; exact st_quiet (T2.out _).out)))
        refine wpQuiet_nil ?_
        rintro _ ⟨s2, rfl⟩
        have hS5 := s2.st
        generalize s2.w = w5 at hS5 ⊢
        clear hS4
        go_wp2_with fail
        have hne : Nonempty (SS _ _ _) := ⟨⟨_, hS5⟩⟩
        refine wp_region_st (by kernel_rfl) (by kernel_rfl) hS5 ?_
        repeat (go_big_quiet_step ((go_at_call 246; exact st_quiet (J1.out _).out)))
        refine wpQuiet_nil ?_
        rintro _ ⟨s2, rfl⟩
        have hS6 := s2.st
        generalize s2.w = w6 at hS6 ⊢
        clear hS5
        go_wp2_with fail
        have hne : Nonempty (SS _ _ _) := ⟨⟨_, hS6⟩⟩
        refine wp_region_st (by kernel_rfl) (by kernel_rfl) hS6 ?_
        repeat (go_big_quiet_step ((go_at_call 246; exact st_quiet (J2.out _).out)))
        refine wpQuiet_nil ?_
        rintro _ ⟨s2, rfl⟩
        have hS7 := s2.st
        generalize s2.w = w7 at hS7 ⊢
        clear hS6 k1 k2 k3 k4 T1 T2 J1 J2
        have hS8 : St w.heap.size w _ (L ++ [row 2 (.slice (some ⟨w7.heap.size, 0, none⟩) 1 1) (iv [(i : Int)])]) := hS7.new 2 #[.int .i64 i] (by simp [maxLen])
        have P1 := fun W vq (h : RdI W vq [(i : Int)]) => Lib.hid (l00PutX_c vq [(i : Int)] k W h (by simp))
        have P2 := fun W vq (h : RdI W vq (putL [(i : Int)] k)) => Lib.hid (l00PutX_c vq (putL [(i : Int)] k) m1 W h (by have := putL_len [(i : Int)] k; simp at this; omega))
        have P3 := fun W vq (h : RdI W vq (putL (putL [(i : Int)] k) m1)) => Lib.hid (l00PutX_c vq (putL (putL [(i : Int)] k) m1) m2 W h (by have := putL_len [(i : Int)] k; have := putL_len (putL [(i : Int)] k) m1; simp at *; omega))
        rw [show putL (putL (putL [(i : Int)] k) m1) m2 = q4s i k m1 m2 from rfl] at P3
        generalize q4s i k m1 m2 = D at *
        generalize putL (putL [(i : Int)] k) m1 = D2 at *
        generalize putL [(i : Int)] k = D1 at *
        have hul := Lib.hid (show uo.length < 4294967296 by rw [hI.out.2.1]; have := hI.out.1; omega)
        have R8 := (hS8.sub (List.sublist_append_right _ _)).rdI 0 rfl
        go_wp2_with fail
        refine (P1 _ _ R8).out.mono ?_
        rintro e8 w8 ⟨v8, rfl, h8⟩
        have hS9 := (hS8.sub (List.sublist_append_left _ _)).call h8
        clear hS8 R8 P1 hS7
        go_wp2_with fail
        refine (P2 _ _ (h8.rdI 0 rfl)).out.mono ?_
        rintro e9 w9 ⟨v9, rfl, h9⟩
        have hS10 := (hS9.sub (List.sublist_append_left _ _)).call h9
        clear hS9 P2 h8
        go_wp2_with fail
        refine (P3 _ _ (h9.rdI 0 rfl)).out.mono ?_
        rintro e10 w10 ⟨v10, rfl, h10⟩
        obtain ⟨ua, uc, hu⟩ := (h10.rdI 0 rfl).sl.sh
        generalize (iv D).length = dl at hu
        subst hu
        have hS11 := (hS10.sub (List.sublist_append_left _ _)).call h10
        clear hS10 P3 h9 h10
        rw [HLe.out] at hS11
        go_wp2_with (at_builtin; refine appII hS11 0 rfl hul.out rfl _ _ rfl rfl _ rfl (by first | rfl | simp [Act.eval, World.size_alloc]) ?_; intro v12 w12 hS12)
        have hS13 := own2_snocP hI.out.2.1 hS12
        go_roundw
        case rel => exact ⟨t + 1, _, _, by omega, by go_num, ⟨by rw [List.length_append]; have := hI.out.1; simp; omega, by rw [List.length_append, List.length_append, hI.out.2.1]; rfl, fun q hq => by
          rcases List.mem_append.1 hq with h | h
          · exact hI.out.2.2 q h
          · rw [List.mem_singleton.1 h]; exact HQ.out⟩, hS13⟩
        case measure => simp [intOf]; omega
      · have f1 : ((thF A b y1 : Int) == (thF A c y2 : Int)) = false := eq_f (by omega)
        clear hf HQ B1 B2
        generalize thF A b y1 = f at *
        generalize thF A c y2 = f' at *
        go_wp2_with fail
        have hne : Nonempty (SS _ _ _) := ⟨⟨_, hS⟩⟩
        refine wp_region_st (by kernel_rfl) (by kernel_rfl) hS ?_
        repeat (go_big_quiet_step ((go_at_call 245; exact st_quiet (T1.out _).out)))
        refine wpQuiet_nil ?_
        rintro _ ⟨s2, rfl⟩
        have hS4 := s2.st
        generalize s2.w = w4 at hS4 ⊢
        clear hS
        go_wp2_with fail
        have hne : Nonempty (SS _ _ _) := ⟨⟨_, hS4⟩⟩
        refine wp_region_st (by kernel_rfl) (by kernel_rfl) hS4 ?_
        repeat (go_big_quiet_step ((go_at_call 245; exact st_quiet (T2.out _).out)))
        refine wpQuiet_nil ?_
        rintro _ ⟨s2, rfl⟩
        have hS5 := s2.st
        generalize s2.w = w5 at hS5 ⊢
        clear hS4 k1 k2 k3 k4 T1 T2
        rw [HLe.out] at hS5
        go_wp2_with fail
        go_roundw
        case rel => exact ⟨t + 1, uo, R, by omega, by go_num, ⟨by have := hI.out.1; omega, hI.out.2.1, hI.out.2.2⟩, hS5⟩
        case measure => simp [intOf]; omega
    · obtain rfl : t = 2 := by omega
      have hR := hS.sub (List.sublist_append_left _ _)
      go_wp2_with fail
      go_ret
      exact ⟨_, uo, R, rfl, hI.out.2.1, hI.out.1, hI.out.2.2, hR⟩
end Go.Proofs.YtlmbaeaakpmhnaaGreat
end
