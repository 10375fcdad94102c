/- The texts of this claim, run 9: Tr13 Tr15 DsB DsC Tr1 Bo Pm6 Im1. -/
import Derived.Test.YtlmbaeaakpmhnaaGreatK1
import Derived.Test.YtlmbaeaakpmhnaaGreatK3
import Derived.Test.YtlmbaeaakpmhnaaGreatK4
import Derived.Test.YtlmbaeaakpmhnaaGreatK5
import Derived.Test.YtlmbaeaakpmhnaaGreatK6
import Derived.Test.YtlmbaeaakpmhnaaGreatK7
import Derived.Test.YtlmbaeaakpmhnaaGreatK8
import Derived.Shelf.SlicesG.Delete
import Derived.Sort.OwnSortedInts
section
/- Walks: the construction of Bose of the reference. -/
namespace Go.Proofs.YtlmbaeaakpmhnaaGreat
set_option linter.unusedSimpArgs false
set_option linter.unusedVariables false
open Go.RowKit
attribute [local go_sem ↓] Go.wp_at_zero Go.wp_at_succ

theorem l11Block_c (a b c : Nat) (w : World) : Calls Tryz.prog 206 #[.int .i64 (a : Int), .int .i64 (b : Int), .int .i64 (c : Int)] w (MakesI w (trp a b c)) := by
  have hS0 : St w.heap.size w _ [row 2 (.slice (some ⟨w.heap.size, 0, none⟩) 1 1) (iv [(a : Int)])] := (St.refl w).new 2 #[.int .i64 a] (by simp [maxLen])
  have hP := fun v W (h : RdI W v [(a : Int)]) => Lib.hid (l00PutX_c v [(a : Int)] b W h (by simp))
  have hQ := fun v W (h : RdI W v (putL [(a : Int)] b)) => Lib.hid (l00PutX_c v (putL [(a : Int)] b) c W h (by have := putL_len [(a : Int)] b; simp at this; omega))
  have HT := Lib.hid (show trp a b c = putL (putL [(a : Int)] b) c from rfl)
  generalize putL [(a : Int)] b = X at *
  generalize putL X c = Y at *
  go_enter Tryz.func206, Tryz.ntmps206
  go_wp2_with fail
  refine (hP _ _ (hS0.rdI 0 rfl)).out.mono ?_
  rintro e w2 ⟨v2, rfl, h2⟩
  have hS2 := hS0.call h2
  go_wp2_with fail
  refine (hQ _ _ (hS2.rdI 1 rfl)).out.mono ?_
  rintro e w3 ⟨v3, rfl, h3⟩
  have hS3 := hS2.call h3
  go_wp2_with fail
  go_ret
  exact ⟨v3, rfl, by rw [HT.out]; exact hS3.sub (List.sublist_append_right _ _)⟩
theorem bosX_succ (t x j : Nat) : bosX t x (j + 1) = bosX t x j ++ mxY (2 * t + 1) (bosF t) x j := by
  unfold bosX; rw [mxX_succ]; rfl
theorem bosL_succ (t k : Nat) : bosL t (k + 1) = bosL t k ++ bosX t k (2 * t + 1) := by
  unfold bosL; rw [List.range_succ, List.flatMap_append]; simp
theorem bosL_len (t : Nat) : ∀ k, (bosL t k).length ≤ k * (3 * (2 * t + 1) + 1)
  | 0 => Nat.zero_le _
  | k + 1 => by
    rw [bosL_succ, List.length_append, Nat.succ_mul k]
    have h1 := bosL_len t k
    have h2 := mxX_len (2 * t + 1) (bosF t) k (2 * t + 1)
    unfold bosX
    rw [List.length_cons]
    omega
theorem bosL_small {t : Nat} (ht : t ≤ 4) {k x j i : Nat} (hk : k ≤ 2 * t + 1) (hj : j ≤ 2 * t + 1) (hi : i ≤ 3) (g : Nat → List Int) : (bosL t k ++ bosX t x j ++ (List.range i).map g).length ≤ 1000 := by
  have h1 := bosL_len t k
  have h2 := mxX_len (2 * t + 1) (bosF t) x j
  have h3 : k * (3 * (2 * t + 1) + 1) ≤ 9 * 28 := Nat.mul_le_mul (by omega) (by omega)
  unfold bosX
  simp only [List.length_append, List.length_map, List.length_range, List.length_cons]
  omega
set_option maxHeartbeats 8000000 in
set_option maxRecDepth 100000 in
theorem l11Bose_c (t : Nat) (w : World) (h4 : t ≤ 4) : Calls Tryz.prog 138 #[.int .i64 t] w (MakesII w (bosL t (2 * t + 1))) := by
  have hS0 : St w.heap.size w _ [row 24 (.slice (some ⟨w.heap.size, 0, none⟩) 0 0) []] := (St.refl w).new 24 #[] (by simp)
  have hS1 : St w.heap.size w _ (own2 _ [] (bosL t 0)) := hS0
  clear hS0
  obtain ⟨n, hn⟩ : ∃ n, 2 * t + 1 = n := ⟨_, rfl⟩
  have Q1 := fun k => Lib.hid (bosL_succ t k)
  have Q2 := fun x j (h : x < j) => Lib.hid (show bosX t x (j + 1) = bosX t x j ++ (List.range 3).map (mxT n (bosF t) x j) by rw [bosX_succ, mxY, if_pos h, hn])
  have Q3 := fun x => Lib.hid (show bosX t x (x + 1) = [strT n x] by unfold bosX; rw [mxX_lo _ (Nat.le_refl _), hn])
  have Q4 := fun k x j i hk hj hi g => Lib.hid (bosL_small h4 (k := k) (x := x) (j := j) (i := i) (by omega) (by omega) hi g)
  rw [hn] at Q4 ⊢
  have q0 : 2 * (t : Int) + 1 = (n : Int) := by omega
  have v1 : IntKind.i64.wrap (2 * (t : Int)) = 2 * (t : Int) := IntWalk.i64_in _ (by omega)
  have v2 : IntKind.i64.wrap (2 * (t : Int) + 1) = (n : Int) := by rw [IntWalk.i64_in _ (by omega)]; omega
  have v3 : IntKind.i64.wrap ((t : Int) + 1) = (t : Int) + 1 := IntWalk.i64_in _ (by omega)
  simp only [hn] at Q1
  have n9 : n ≤ 9 := by omega
  have n1 : 1 ≤ n := by omega
  have Hn := Lib.hid hn
  clear hn
  go_enter Tryz.func138, Tryz.ntmps138
  go_wp2_with fail
  go_loopw [4, 5, 6, 7, 8] (fun o xi _ _ _ wr => ∃ (x : Nat) (uo : List Value), x ≤ n ∧ xi = .int .i64 x ∧ Hid (uo.length = (bosL t x).length) ∧ St w.heap.size w wr (own2 o uo (bosL t x))) (fun _ xi _ _ _ _ => n - (intOf xi).toNat)
  case atStart => exact ⟨0, [], by omega, rfl, rfl, hS1⟩
  case round =>
    clear hS1
    obtain ⟨x, uo, hx, rfl, hlo, hS⟩ := hrel
    by_cases hxn : x < n
    · have hxi : (x : Int) < (n : Int) := by omega
      have HE := Q1 x
      have H3 := Q3 x
      have hD : Hid (strT n x = trp x (x + n) (x + 2 * n)) := Lib.hid rfl
      have KT := fun W => Lib.hid (l11Block_c x (x + n) (x + 2 * n) W)
      rw [← hD.out] at KT
      have w1 : IntKind.i64.wrap ((x : Int) + (n : Int)) = (x : Int) + (n : Int) := IntWalk.i64_in _ (by omega)
      have w2 : IntKind.i64.wrap (2 * (n : Int)) = 2 * (n : Int) := IntWalk.i64_in _ (by omega)
      have w3 : IntKind.i64.wrap ((x : Int) + 2 * (n : Int)) = (x : Int) + 2 * (n : Int) := IntWalk.i64_in _ (by omega)
      have w4 : IntKind.i64.wrap ((x : Int) + 1) = (x : Int) + 1 := IntWalk.i64_in _ (by omega)
      have hul := Lib.hid (show uo.length < 4294967296 by
        have := (Q4 x x 0 0 (by omega) (by omega) (by omega) (fun _ => [])).out
        simp only [List.length_append] at this
        rw [hlo.out]; omega)
      clear hD
      generalize strT n x = D at *
      simp only [Int.natCast_add, Int.natCast_mul] at KT
      go_wp2_with fail
      refine (KT _).out.mono ?_
      rintro e w5 ⟨u, rfl, h5⟩
      obtain ⟨ua, uc, hu⟩ := (h5.rdI 0 rfl).sl.sh
      generalize (iv D).length = dl at hu
      subst hu
      have hS4 := hS.call h5
      have hS5 : St w.heap.size w w5 (own2 u4 uo (bosL t x) ++ [] ++ [row 2 (.slice ua dl uc) (iv D)]) := by rw [List.append_nil]; exact hS4
      clear h5 hS hS4 KT
      go_wp2_with (at_builtin; refine appII hS5 0 rfl hul.out rfl _ _ rfl rfl _ rfl (by first | rfl | simp [Act.eval, World.size_alloc]) ?_; intro v8 w8 hS8)
      have hS9 := own2_snocP hlo.out hS8
      rw [List.append_nil, ← H3.out] at hS9
      have hlo2 : Hid ((uo ++ [Value.slice ua dl uc]).length = (bosL t x ++ bosX t x (x + 1)).length) := Lib.hid (by rw [H3.out, List.length_append, List.length_append, hlo.out]; rfl)
      clear hS5 hS8 hlo
      go_wp2_with fail
      go_loopw [4, 6, 7, 8] (fun o yi _ _ wr => ∃ (y : Nat) (uo : List Value), x + 1 ≤ y ∧ y ≤ n ∧ yi = .int .i64 y ∧ Hid (uo.length = (bosL t x ++ bosX t x y).length) ∧ St w.heap.size w wr (own2 o uo (bosL t x ++ bosX t x y))) (fun _ yi _ _ _ => n - (intOf yi).toNat)
      case atStart => exact ⟨x + 1, _, by omega, by omega, by first | rfl | go_num, hlo2, hS9⟩
      case round =>
        clear hS9 hlo2
        obtain ⟨y, uo, hy1, hy2, rfl, hlo, hS⟩ := hrel
        by_cases hyn : y < n
        · have hyi : (y : Int) < (n : Int) := by omega
          have hS2 : St w.heap.size w wr (own2 u4 uo (bosL t x ++ bosX t x y ++ (List.range 0).map (mxT n (bosF t) x y))) := by rw [List.range_zero, List.map_nil, List.append_nil]; exact hS
          have hlo2 : Hid (uo.length = (bosL t x ++ bosX t x y ++ (List.range 0).map (mxT n (bosF t) x y)).length) := by rw [List.range_zero, List.map_nil, List.append_nil]; exact hlo
          have HE2 := Lib.hid (show bosL t x ++ bosX t x (y + 1) = bosL t x ++ bosX t x y ++ (List.range 3).map (mxT n (bosF t) x y) by rw [(Q2 x y (by omega)).out, List.append_assoc])
          have HB := fun i (hi : i ≤ 3) => Lib.hid (Q4 x x y i (by omega) (by omega) hi (mxT n (bosF t) x y)).out
          obtain ⟨z, hz⟩ : ∃ z, bosF t ((x + y) % n) = z := ⟨_, rfl⟩
          have hz2 : (t + 1) * (x + y) % n = z := by rw [← hz, bosF, Hn.out, Nat.mul_mod_mod]
          have hzn : z < n := by rw [← hz2]; exact Nat.mod_lt _ (by omega)
          have hbd : (t + 1) * (x + y) ≤ 5 * 18 := Nat.mul_le_mul (by omega) (by omega)
          obtain ⟨p, hp⟩ : ∃ p, (t + 1) * (x + y) = p := ⟨_, rfl⟩
          rw [hp] at hz2 hbd
          have q1 : ((t : Int) + 1) * ((x : Int) + (y : Int)) = (p : Int) := by rw [← hp]; simp
          have q2 : (p : Int).tmod (n : Int) = (z : Int) := by rw [Int.tmod_eq_emod_of_nonneg (by omega), ← hz2]; rfl
          have w1 : IntKind.i64.wrap ((x : Int) + (y : Int)) = (x : Int) + (y : Int) := IntWalk.i64_in _ (by omega)
          have w2 : IntKind.i64.wrap (p : Int) = (p : Int) := IntWalk.i64_in _ (by omega)
          have w3 : IntKind.i64.wrap (z : Int) = (z : Int) := IntWalk.i64_in _ (by omega)
          have qm : ((n : Int) == 0) = false := eq_f (by omega)
          have qn : ¬ (n : Int) = 0 := by omega
          have qo : ¬ n = 0 := by omega
          have HZ := Lib.hid hz
          clear hS hlo hz hz2 hp hbd
          generalize bosL t x ++ bosX t x y = X at *
          go_wp2_with fail
          clear q1 q2 w2 qm qn qo
          go_loopw [4, 8] (fun o ii wr => ∃ (i : Nat) (uo : List Value), i ≤ 3 ∧ ii = .int .i64 i ∧ Hid (uo.length = (X ++ (List.range i).map (mxT n (bosF t) x y)).length) ∧ St w.heap.size w wr (own2 o uo (X ++ (List.range i).map (mxT n (bosF t) x y)))) (fun _ ii _ => 3 - (intOf ii).toNat)
          case atStart => exact ⟨0, uo, by omega, rfl, hlo2, hS2⟩
          case round =>
            clear hS2 hlo2
            obtain ⟨i, uo, hi, rfl, hlo, hS⟩ := hrel
            by_cases hi3 : i < 3
            · have hii : (i : Int) < 3 := by omega
              have hul := Lib.hid (show uo.length < 4294967296 by rw [hlo.out]; have := (HB i hi).out; omega)
              have Hst := Lib.hid (show X ++ (List.range (i + 1)).map (mxT n (bosF t) x y) = X ++ (List.range i).map (mxT n (bosF t) x y) ++ [mxT n (bosF t) x y i] by rw [rg_succ, List.append_assoc])
              obtain ⟨r, hr⟩ : ∃ r, (i + 1) % 3 = r := ⟨_, rfl⟩
              obtain ⟨p, hp⟩ : ∃ p, n * i = p := ⟨_, rfl⟩
              obtain ⟨s, hs⟩ : ∃ s, n * r = s := ⟨_, rfl⟩
              have hcase : (p = 0 ∧ s = n) ∨ (p = n ∧ s = 2 * n) ∨ (p = 2 * n ∧ s = 0) := by
                rcases (show i = 0 ∨ i = 1 ∨ i = 2 by omega) with e | e | e
                · subst e; subst hr; subst hp; subst hs; simp
                · subst e; subst hr; subst hp; subst hs; right; left; simp; omega
                · subst e; subst hr; subst hp; subst hs; right; right; simp; omega
              have hT := Lib.hid (show mxT n (bosF t) x y i = trp (x + p) (y + p) (z + s) by rw [mxT, HZ.out, hr, hp, hs])
              have KT := fun W => Lib.hid (l11Block_c (x + p) (y + p) (z + s) W)
              rw [← hT.out] at KT
              have q1 : (n : Int) * (i : Int) = (p : Int) := by rw [← hp]; simp
              have q2 : (n : Int) * (r : Int) = (s : Int) := by rw [← hs]; simp
              have q4 : ((i : Int) + 1).tmod 3 = (r : Int) := by
                rw [show (i : Int) + 1 = ((i + 1 : Nat) : Int) by omega, Int.tmod_eq_emod_of_nonneg (by omega), ← hr]; rfl
              have v1 : IntKind.i64.wrap (p : Int) = (p : Int) := IntWalk.i64_in _ (by omega)
              have v2 : IntKind.i64.wrap (s : Int) = (s : Int) := IntWalk.i64_in _ (by omega)
              have v4 : IntKind.i64.wrap (r : Int) = (r : Int) := IntWalk.i64_in _ (by omega)
              have v5 : IntKind.i64.wrap ((x : Int) + (p : Int)) = (x : Int) + (p : Int) := IntWalk.i64_in _ (by omega)
              have v6 : IntKind.i64.wrap ((y : Int) + (p : Int)) = (y : Int) + (p : Int) := IntWalk.i64_in _ (by omega)
              have v7 : IntKind.i64.wrap ((z : Int) + (s : Int)) = (z : Int) + (s : Int) := IntWalk.i64_in _ (by omega)
              have v9 : IntKind.i64.wrap ((i : Int) + 1) = (i : Int) + 1 := IntWalk.i64_in _ (by omega)
              clear hr hp hs hT hcase HE HE2 HZ
              generalize mxT n (bosF t) x y i = D at *
              simp only [Int.natCast_add] at KT
              go_wp2_with fail
              refine (KT _).out.mono ?_
              rintro e w4 ⟨u, rfl, h4⟩
              obtain ⟨ua, uc, hu⟩ := (h4.rdI 0 rfl).sl.sh
              generalize (iv D).length = dl at hu
              subst hu
              have hS4 := hS.call h4
              have hS5 : St w.heap.size w w4 (own2 u4 uo (X ++ (List.range i).map (mxT n (bosF t) x y)) ++ [] ++ [row 2 (.slice ua dl uc) (iv D)]) := by rw [List.append_nil]; exact hS4
              clear h4 hS hS4
              go_wp2_with (at_builtin; refine appII hS5 0 rfl hul.out rfl _ _ rfl rfl _ rfl (by first | rfl | simp [Act.eval, World.size_alloc]) ?_; intro v8 w8 hS8)
              have hS9 := own2_snocP hlo.out hS8
              rw [List.append_nil, ← Hst.out] at hS9
              go_roundw
              case rel => exact ⟨i + 1, _, by omega, by go_num, by rw [Hid, Hst.out, List.length_append, List.length_append, hlo.out]; rfl, hS9⟩
              case measure => simp [intOf]; omega
            · obtain rfl : i = 3 := by omega
              go_wp2_with fail
              go_roundw
              case rel => exact ⟨y + 1, uo, by omega, by omega, by go_num, by rw [HE2.out]; exact hlo, by rw [HE2.out]; exact hS⟩
              case measure => simp [intOf]; omega
        · obtain rfl : y = n := by omega
          go_wp2_with fail
          go_roundw
          case rel => exact ⟨x + 1, uo, by omega, by go_num, by rw [HE.out]; exact hlo, by rw [HE.out]; exact hS⟩
          case measure => simp [intOf]; omega
    · obtain rfl : x = n := by omega
      go_wp2_with fail
      go_ret
      exact ⟨_, uo, rfl, hlo.out, hS⟩
end Go.Proofs.YtlmbaeaakpmhnaaGreat
end

section
/- Walks: third points and indices of blocks of the reference. -/
namespace Go.Proofs.YtlmbaeaakpmhnaaGreat
set_option linter.unusedSimpArgs false
set_option linter.unusedVariables false
open Go.RowKit
attribute [local go_sem ↓] Go.wp_at_zero Go.wp_at_succ

theorem cell_keepT {w w' : World} (hb : Below w.heap.size w w') {p : Addr} {u : Value} (h : w.cell? p = some u) : w'.cell? p = some u := by
  rw [hb.cell (World.block_lt_of_cell? _ _ h)]; exact h
theorem TS.str {P : Nat} {A : List (List Int)} (h : TS P A) : StrA A := by
  have h1 := srtB_pw.1 (dOk_t h.ok).srt
  have h2 := h.nodup
  rw [List.nodup_iff_pairwise_ne] at h2
  unfold StrA
  rw [List.pairwise_iff_getElem] at *
  intro i j hi hj hij
  have a1 := of_decide_eq_true (h1 i j hi hj hij)
  have a2 := h2 i j hi hj hij
  have a3 : cmpI A[i] A[j] ≠ 0 := fun e => a2 (cmpI_eq e)
  omega
theorem TS.sum {P : Nat} {A : List (List Int)} (h : TS P A) {b : List Int} (hb : b ∈ A) {x y : Nat} (hxy : x ≠ y) (hx : (x : Int) ∈ b) (hy : (y : Int) ∈ b) : nth b 0 + nth b 1 + nth b 2 - x - y = thF A x y := by
  obtain ⟨p, q, r, h1, h2, h3, rfl⟩ := three_of (h.inc hb) (h.three _ hb)
  have hs : nth [(p : Int), (q : Int), (r : Int)] 0 + nth [(p : Int), (q : Int), (r : Int)] 1 + nth [(p : Int), (q : Int), (r : Int)] 2 = p + q + r := rfl
  rw [hs]
  have key : ∀ z : Nat, (z : Int) ∈ [(p : Int), (q : Int), (r : Int)] → x ≠ z → y ≠ z → thF A x y = z := fun z hz h1 h2 => h.th_of hb hx hy hz hxy h1 h2
  simp at hx hy
  have ex : x = p ∨ x = q ∨ x = r := by omega
  have ey : y = p ∨ y = q ∨ y = r := by omega
  rcases ex with rfl | rfl | rfl <;> rcases ey with rfl | rfl | rfl
  all_goals first
    | exact absurd rfl hxy
    | (rw [key p (by simp) (by omega) (by omega)]; omega)
    | (rw [key q (by simp) (by omega) (by omega)]; omega)
    | (rw [key r (by simp) (by omega) (by omega)]; omega)
set_option maxHeartbeats 8000000 in
set_option maxRecDepth 100000 in
theorem l11Third_c (P g x y : Nat) (v : Value) (us : List Value) (A : List (List Int)) (w : World) (hv : RII w v us A) (hb : BoxD w g P v) (hA : TS P A) (hx : x < P) (hy : y < P) (hxy : x ≠ y) :
    Calls Tryz.prog 245 #[.pointer (some ⟨g, 0, none⟩), .int .i64 x, .int .i64 y] w (GivesI w (thF A x y)) := by
  have hln := hv.len
  have hix := hv.ixe
  have hS0 := St.refl w
  have hAl := (dOk_t hA.ok).len
  obtain ⟨t, ht, htx, _⟩ := hA.one hx hy hxy
  have Ht := Lib.hid htx
  have HS := Lib.hid (fun b (h : b ∈ A) (h1 : (x : Int) ∈ b) (h2 : (y : Int) ∈ b) => hA.sum h hxy h1 h2)
  have HB := Lib.hid (fun b (h : b ∈ A) => hA.inc h)
  have H3 := Lib.hid (fun b (h : b ∈ A) => hA.three b h)
  have KH := fun W (z : Nat) i (h : RdI W (vat us i) (xat A i)) => Lib.hid (l00Has_c (vat us i) (xat A i) (z : Int) W h)
  have hx32 : x < 32 := by have := hA.p32; omega
  have hy32 : y < 32 := by have := hA.p32; omega
  have hP := hA.p32
  have Hb := Lib.hid hb
  have Hv := Lib.hid hv
  clear htx hA hb hv
  go_enter Tryz.func245, Tryz.ntmps245
  go_wp2_with fail
  go_loopw [7, 8] (fun ii _ wr => ∃ (i : Nat), ii = .int .i64 i ∧ i ≤ t ∧ St w.heap.size w wr []) (fun ii _ _ => t + 1 - (intOf ii).toNat)
  case atStart => exact ⟨0, rfl, by omega, hS0⟩
  case round =>
    clear hS0
    obtain ⟨i, rfl, hi, hS⟩ := hrel
    have hiA : i < A.length := by omega
    have hii : (i : Int) < (A.length : Int) := by omega
    have x1 := hix (i : Int) i rfl hiA
    have Rv := hS.oldII Hv.out
    have c0 := (hS.oldBoxD Hb.out).2
    have c1 := Rv.cell i hiA
    have Kx := KH _ x i (Rv.row i hiA)
    have Ky := KH _ y i (Rv.row i hiA)
    have hl3 : (xat A i).length = 3 := H3.out _ (xat_mem hiA)
    have Hr := Lib.hid (Hv.out.row i hiA)
    have HI := Lib.hid (HB.out _ (xat_mem hiA))
    have HSi := Lib.hid (HS.out _ (xat_mem hiA))
    have Hti := Lib.hid (show i = t → (x : Int) ∈ xat A i ∧ (y : Int) ∈ xat A i from fun e => by rw [e]; exact Ht.out)
    clear Rv
    generalize xat A i = B at *
    generalize vat us i = vi at *
    by_cases h1 : (x : Int) ∈ B
    · rw [decide_eq_true h1] at Kx
      by_cases h2 : (y : Int) ∈ B
      · rw [decide_eq_true h2] at Ky
        have b0 := HI.out.bd 0 (by omega)
        have b1 := HI.out.bd 1 (by omega)
        have b2 := HI.out.bd 2 (by omega)
        have HV := Lib.hid (HSi.out h1 h2)
        have hr := Hr.out
        have xa := hr.ixe 0 0 rfl (by omega)
        have xb := hr.ixe 1 1 rfl (by omega)
        have xc := hr.ixe 2 2 rfl (by omega)
        have ca := fun q : SS w.heap.size w [] => (q.st.oldI Hr.out).cell 0 (by omega)
        have cb := fun q : SS w.heap.size w [] => (q.st.oldI Hr.out).cell 1 (by omega)
        have cc := fun q : SS w.heap.size w [] => (q.st.oldI Hr.out).cell 2 (by omega)
        generalize nth B 0 = p0 at *
        generalize nth B 1 = p1 at *
        generalize nth B 2 = p2 at *
        have v1 : IntKind.i64.wrap (p0 + p1) = p0 + p1 := IntWalk.i64_in _ (by omega)
        have v2 : IntKind.i64.wrap (p0 + p1 + p2) = p0 + p1 + p2 := IntWalk.i64_in _ (by omega)
        have v3 : IntKind.i64.wrap (p0 + p1 + p2 - (x : Int)) = p0 + p1 + p2 - (x : Int) := IntWalk.i64_in _ (by omega)
        have v4 : IntKind.i64.wrap (p0 + p1 + p2 - (x : Int) - (y : Int)) = p0 + p1 + p2 - (x : Int) - (y : Int) := IntWalk.i64_in _ (by omega)
        clear hr h1 h2 b0 b1 b2 HSi HI Hti hl3
        go_wp2_with fail
        refine Kx.out.mono ?_
        rintro e w2 ⟨rfl, rfl⟩
        go_wp2_with fail
        refine Ky.out.mono ?_
        rintro e w2 ⟨rfl, rfl⟩
        go_wp2_with fail
        have hne : Nonempty (SS _ _ _) := ⟨⟨_, hS⟩⟩
        refine wp_region_st (by kernel_rfl) (by kernel_rfl) hS ?_
        repeat (go_big_quiet_step (fail))
        refine wpQuiet_nil ?_
        rintro _ ⟨s2, rfl⟩
        have hS3 := s2.st
        generalize s2.w = w3 at hS3 ⊢
        rw [HV.out]
        go_wp2_with fail
        go_ret
        exact ⟨rfl, hS3⟩
      · rw [decide_eq_false h2] at Ky
        have hit : i < t := by
          rcases Nat.eq_or_lt_of_le hi with e | h
          · exact absurd (Hti.out e).2 h2
          · exact h
        clear h1 h2 HSi HI Hti hl3
        go_wp2_with fail
        refine Kx.out.mono ?_
        rintro e w2 ⟨rfl, rfl⟩
        go_wp2_with fail
        refine Ky.out.mono ?_
        rintro e w2 ⟨rfl, rfl⟩
        go_wp2_with fail
        go_roundw
        case rel => exact ⟨i + 1, by go_num, by omega, hS⟩
        case measure => simp [intOf]; omega
    · rw [decide_eq_false h1] at Kx
      have hit : i < t := by
        rcases Nat.eq_or_lt_of_le hi with e | h
        · exact absurd (Hti.out e).1 h1
        · exact h
      clear h1 HSi HI Hti hl3
      go_wp2_with fail
      refine Kx.out.mono ?_
      rintro e w2 ⟨rfl, rfl⟩
      go_wp2_with fail
      go_roundw
      case rel => exact ⟨i + 1, by go_num, by omega, hS⟩
      case measure => simp [intOf]; omega
theorem idx_of {A : List (List Int)} (hn : A.Nodup) {m : Nat} (hm : m < A.length) : A.idxOf (xat A m) = m := by
  rw [xat_eq hm]; exact hn.idxOf_getElem m hm
theorem idx_mem {A : List (List Int)} {B : List Int} (h : B ∈ A) : A.idxOf B < A.length ∧ xat A (A.idxOf B) = B := by
  have hl := List.idxOf_lt_length_of_mem h
  exact ⟨hl, by rw [xat_eq hl]; exact List.getElem_idxOf hl⟩
set_option maxHeartbeats 4000000 in
set_option maxRecDepth 100000 in
theorem l11Index_c (P g a b c : Nat) (v : Value) (us : List Value) (A : List (List Int)) (w : World) (hv : RII w v us A) (hb : BoxD w g P v) (hA : TS P A) (hm : trp a b c ∈ A) :
    Calls Tryz.prog 246 #[.pointer (some ⟨g, 0, none⟩), .int .i64 a, .int .i64 b, .int .i64 c] w (GivesI w (A.idxOf (trp a b c) : Nat)) := by
  have hS0 := St.refl w
  have hAl := (dOk_t hA.ok).len
  have K1 := fun W => Lib.hid (l11Block_c a b c W)
  have K2 := fun W vp (h : RII W v us A) (hp : RdI W vp (trp a b c)) => Lib.hid (l05Find_c v vp us A (trp a b c) W h hp (by omega))
  have HF := Lib.hid (fun m b' (h : FndP A (trp a b c) m b') => (show b' = true ∧ A.idxOf (trp a b c) = m from by
    obtain ⟨h1, h2, h3⟩ := h.mem hA.str hm
    exact ⟨h1, by rw [← h3]; exact idx_of hA.nodup h2⟩))
  have Hv := Lib.hid hv
  have hb1 := hb.2
  have hS := hS0.drew
  clear hA hb hv hm
  generalize trp a b c = B at *
  generalize A.idxOf B = ix at *
  go_enter Tryz.func246, Tryz.ntmps246
  go_wp2_with fail
  go_region_held3 (fun w' => w'.cell? ⟨g, 1, none⟩ = some v) (((try dsimp only); (repeat' apply And.intro); all_goals (repeat (first | assumption | exact cell_dr (by assumption) | refine cell_dr ?_ | refine cell_al ?_ | refine cell_sc (by assumption) ?_)))) (first
    | (go_at_call 191; refine (K2 _ _ (hS3.oldII Hv.out) (h3.rdI 0 rfl)).out.mono ?_; rintro e w4 ⟨m, b', rfl, hF, h4⟩; obtain ⟨rfl, hix⟩ := HF.out _ _ hF; have d2 := cell_keepT h4.below d1)
    | (go_at_call 206; refine (K1 _).out.mono ?_; rintro e w3 ⟨vp, rfl, h3⟩; have hS3 := hS.call h3; have d1 := cell_keepT h3.below (cell_dr hb1)))
  all_goals
    have hix := Lib.hid hix
    go_wp2_with fail
    go_ret
    exact ⟨by rw [hix.out]; rfl, (hS3.call0 h4).out⟩
end Go.Proofs.YtlmbaeaakpmhnaaGreat
end

section
/- Walks: pairs and parameters of the reference. -/
namespace Go.Proofs.YtlmbaeaakpmhnaaGreat
set_option linter.unusedSimpArgs false
set_option linter.unusedVariables false
open Go.RowKit
attribute [local go_sem ↓] Go.wp_at_zero Go.wp_at_succ

theorem parF_snoc {A : List (List Int)} {i x y : Nat} (hi : i < A.length) : parF (A.take (i + 1)) x y = parF (A.take i) x y + if (decide ((x : Int) ∈ xat A i) && decide ((y : Int) ∈ xat A i)) = true then 1 else 0 := by
  unfold parF; rw [take_xat hi, cntD_snoc]
theorem parR_take {P : Nat} {A : List (List Int)} {x t : Nat} (ht : t < P - (x + 1)) : (parR P A x).take (t + 1) = (parR P A x).take t ++ [parF A x (x + 1 + t)] := by
  rw [List.take_add_one, List.getElem?_eq_getElem (by simp [parR]; exact ht)]
  simp [parR]
set_option maxHeartbeats 4000000 in
set_option maxRecDepth 100000 in
theorem l10Pairs_c (P : Nat) (g : Nat) (v : Value) (us : List Value) (A : List (List Int)) (w : World) (hv : RII w v us A) (hb : BoxD w g P v) (hP : P ≤ 32) (hDl : A.length ≤ 128) :
    Calls Tryz.prog 187 #[.pointer (some ⟨g, 0, none⟩)] w (MakesI w (parL P A)) := by
  have hln := hv.len
  have hixe := hv.ixe
  have hS1 := St.emp0 (w := w)
  go_enter Tryz.func187, Tryz.ntmps187
  go_wp2_with fail
  go_loopw [3, 4, 5, 6, 7] (fun o i _ _ _ wr => ∃ x : Nat, x ≤ P ∧ i = .int .i64 x ∧ St w.heap.size w wr [row 2 o (iv (parK P A x))]) (fun _ i _ _ _ _ => P - (intOf i).toNat)
  case atStart => exact ⟨0, by omega, rfl, hS1⟩
  case round =>
    clear hS1
    obtain ⟨x, hx, rfl, hS⟩ := hrel
    have b0 := (hS.oldBoxD hb).1
    by_cases hxP : x < P
    · have hKs := Lib.hid (parK_succ P A x)
      have hS' := hS
      rw [show parK P A x = parK P A x ++ (parR P A x).take 0 by simp] at hS'
      clear hS
      go_wp2_with fail
      obtain ⟨wo, rfl⟩ : ∃ wo : World, wo = wr := ⟨_, rfl⟩
      go_loopw [3, 5, 6, 7] (fun o i _ _ wr => ∃ t : Nat, t ≤ P - (x + 1) ∧ i = .int .i64 ((x : Int) + 1 + t) ∧ St w.heap.size w wr [row 2 o (iv (parK P A x ++ (parR P A x).take t))]) (fun _ i _ _ _ => P - (intOf i).toNat)
      case atStart => exact ⟨0, by omega, by simp, hS'⟩
      case round =>
        clear hS' b0
        obtain ⟨t, ht, rfl, hS⟩ := hrel
        have b0 := (hS.oldBoxD hb).1
        by_cases htP : t < P - (x + 1)
        · obtain ⟨y, hy⟩ : ∃ y : Nat, x + 1 + t = y := ⟨_, rfl⟩
          have hyi : (x : Int) + 1 + t = (y : Int) := by omega
          have Ht := Lib.hid (parR_take (P := P) (A := A) (x := x) htP)
          rw [hy] at Ht
          have hyP : (y : Int) < P := by omega
          rw [hyi]
          have Hy := Lib.hid hyi
          clear hyi
          go_wp2_with fail
          obtain ⟨wq, rfl⟩ : ∃ wq : World, wq = wr := ⟨_, rfl⟩
          go_loopw [6, 7] (fun n i wr => ∃ k : Nat, k ≤ A.length ∧ i = .int .i64 k ∧ n = .int .i64 (parF (A.take k) x y) ∧ wr = wq) (fun _ i _ => A.length - (intOf i).toNat)
          case atStart => exact ⟨0, by omega, rfl, by simp [parF, cntD], rfl⟩
          case round =>
            obtain ⟨k, hk, rfl, rfl, rfl⟩ := hrel
            have b1 := (hS.oldBoxD hb).2
            by_cases hlt : k < A.length
            · have hrk := Lib.hid ((hS.oldII hv).row k hlt)
              have ck := (hS.oldII hv).cell k hlt
              have xk := hixe (k : Int) k rfl hlt
              have HF := Lib.hid (parF_snoc (x := x) (y := y) hlt)
              have hbd := cntD_bd (fun b => decide ((x : Int) ∈ b) && decide ((y : Int) ∈ b)) (A.take k)
              rw [show cntD (fun b => decide ((x : Int) ∈ b) && decide ((y : Int) ∈ b)) (A.take k) = parF (A.take k) x y from rfl] at hbd
              have hbl : (A.take k).length ≤ 128 := by simp; omega
              have KA := l00Has_c (vat us k) (xat A k) x wr hrk.out
              have KB := l00Has_c (vat us k) (xat A k) y wr hrk.out
              generalize decide ((x : Int) ∈ xat A k) = ba at *
              generalize decide ((y : Int) ∈ xat A k) = bb at *
              have KA := Lib.hid KA
              have KB := Lib.hid KB
              generalize parF (A.take k) x y = q at *
              generalize (A.take k).length = q' at *
              cases ba
              · go_wp2_with (go_at_call 61; refine KA.out.mono ?_; rintro e w1 ⟨rfl, rfl⟩)
                go_roundw
                case rel => exact ⟨k + 1, by omega, by go_num, by rw [HF.out]; simp, by first | trivial | rfl⟩
                case measure => simp [intOf]; omega
              · cases bb
                · go_wp2_with fail
                  refine KA.out.mono ?_
                  rintro e w1 ⟨rfl, rfl⟩
                  go_wp2_with fail
                  refine KB.out.mono ?_
                  rintro e w1 ⟨rfl, rfl⟩
                  go_wp2_with fail
                  go_roundw
                  case rel => exact ⟨k + 1, by omega, by go_num, by rw [HF.out]; simp, by first | trivial | rfl⟩
                  case measure => simp [intOf]; omega
                · go_wp2_with fail
                  refine KA.out.mono ?_
                  rintro e w1 ⟨rfl, rfl⟩
                  go_wp2_with fail
                  refine KB.out.mono ?_
                  rintro e w1 ⟨rfl, rfl⟩
                  go_wp2_with fail
                  go_roundw
                  case rel => exact ⟨k + 1, by omega, by go_num, by rw [HF.out]; simp, by first | trivial | rfl⟩
                  case measure => simp [intOf]; omega
            · obtain rfl : k = A.length := by omega
              rw [List.take_length]
              have hml := Lib.hid (show (parK P A x ++ (parR P A x).take t).length < 4294967296 by
                have := parK_len P A x
                have h2 : x * P ≤ 32 * 32 := Nat.mul_le_mul (by omega) (by omega)
                have : (parR P A x).length ≤ P := by simp [parR]
                simp only [List.length_append, List.length_take]; omega)
              go_wp2_with (at_builtin; refine appI hS 0 rfl hml.out rfl _ _ rfl rfl _ rfl ?_; intro v8 w8 hS8)
              simp only [List.set_cons_zero] at hS8
              rw [List.append_assoc, ← Ht.out] at hS8
              go_roundw
              case rel => exact ⟨t + 1, by omega, by have := Hy.out; go_num, hS8⟩
              case measure => have := Hy.out; simp [intOf]; omega
        · obtain rfl : t = P - (x + 1) := by omega
          rw [List.take_of_length_le (by simp [parR]), ← hKs.out] at hS
          have hge : ¬ ((x : Int) + 1 + ((P - (x + 1) : Nat) : Int)) < P := by omega
          go_wp2_with fail
          go_roundw
          case rel => exact ⟨x + 1, by omega, by go_num, hS⟩
          case measure => simp [intOf]; omega
    · obtain rfl : x = P := by omega
      rw [parK_end] at hS
      go_wp2_with fail
      go_ret
      exact ⟨_, rfl, hS⟩
end Go.Proofs.YtlmbaeaakpmhnaaGreat
end

section
/- Walks: parameters of the reference. -/
namespace Go.Proofs.YtlmbaeaakpmhnaaGreat
set_option linter.unusedSimpArgs false
set_option linter.unusedVariables false
open Go.RowKit
attribute [local go_sem ↓] Go.wp_at_zero Go.wp_at_succ

set_option maxHeartbeats 8000000 in
set_option maxRecDepth 100000 in
theorem l10Parameters_c (P : Nat) (g : Nat) (v : Value) (us : List Value) (A : List (List Int)) (w : World) (hv : RII w v us A) (hb : BoxD w g P v) (hD : DOk P A) :
    Calls Tryz.prog 118 #[.pointer (some ⟨g, 0, none⟩)] w (MakesPr w (prmV P A) (prmB P A)) := by
  have hP := hD.le
  have hDl := hD.len
  have HD := Lib.hid hD
  clear hD
  have hln := hv.len
  have hS := (St.refl w).newboxF 121 #[.int .i64 0, .int .i64 0, .int .i64 0, .int .i64 0, .int .i64 0]
  have b0 := (hS.oldBoxD hb).1
  have b1 := (hS.oldBoxD hb).2
  by_cases h1 : 2 ≤ P
  · by_cases h2 : 0 < A.length
    · have fz := eq_f (show ¬ (A.length : Int) = 0 by omega)
      have cz := (hS.oldII hv).cell 0 h2
      have x0 := hv.ixe 0 0 rfl h2
      have hl0 := (hv.row 0 h2).len
      have hm0 := (hv.row 0 h2).le
      have h1' : ¬ (P : Int) < 2 := by omega
      have HN1 := Lib.hid (fun (h : ¬ 2 ≤ (xat A 0).length) => prm_no1 (P := P) (A := A) (fun h' => h h'.2.2))
      have HN2 := Lib.hid (fun k (hk : k < A.length) (h : (xat A k).length ≠ (xat A 0).length) => prm_no2 (P := P) hk h)
      have HN3 := Lib.hid (fun k (hk : k < (parL P A).length) (h : nth (parL P A) k ≠ nth (parL P A) 0) => prm_no3 hk h)
      have hC0 := parL_pos (A := A) h1
      have hprm := Lib.hid (fun h3 h h' => prm_val (prm_yes (A := A) ⟨h1, h2, h3⟩ h h'))
      have hprb := Lib.hid (fun h3 h h' => prm_yes (A := A) ⟨h1, h2, h3⟩ h h')
      have HPC := fun W h hb' => Lib.hid (l10Pairs_c P g v us A W h hb' (by omega) hDl)
      have HR := fun W h hb' => Lib.hid (l10Replications_c P g v us A W h hb' HD.out)
      have hCle : (parL P A).length ≤ 1024 := by
        have := parK_len P A P
        have h2 : P * P ≤ 32 * 32 := Nat.mul_le_mul (by omega) (by omega)
        rw [parK_end] at this; omega
      generalize parL P A = C at *
      go_enter Tryz.func118, Tryz.ntmps118
      go_wp2_with fail
      go_loopw [5] (fun i wr => ∃ k : Nat, k ≤ A.length ∧ i = .int .i64 k ∧ Hid ((∀ j, j < k → (xat A j).length = (xat A 0).length) ∧ (0 < k → 2 ≤ (xat A 0).length)) ∧ St w.heap.size w wr [box 121 w.heap.size [.int .i64 0, .int .i64 0, .int .i64 0, .int .i64 0, .int .i64 0]]) (fun i _ => A.length - (intOf i).toNat)
      case atStart => exact ⟨0, by omega, rfl, ⟨fun j hj => by omega, fun h => by omega⟩, hS⟩
      case round =>
        clear hS b0 b1 cz
        obtain ⟨k, hk, rfl, hI, hS⟩ := hrel
        have b1 := (hS.oldBoxD hb).2
        by_cases hlt : k < A.length
        · have ck := (hS.oldII hv).cell k hlt
          have xk := hv.ixe (k : Int) k rfl hlt
          have hlk := (hv.row k hlt).len
          by_cases he : (xat A k).length = (xat A 0).length
          · have f := ne_f (show ((xat A k).length : Int) = (xat A 0).length by omega)
            have He := Lib.hid he
            clear he
            by_cases h3 : 2 ≤ (xat A 0).length
            · have h3' : ¬ ((xat A 0).length : Int) < 2 := by omega
              go_wp2_with fail
              go_roundw
              case rel => exact ⟨k + 1, by omega, by go_num, ⟨fun j hj => by
                by_cases e : j = k
                · rw [e]; exact He.out
                · exact hI.out.1 j (by omega), fun _ => h3⟩, hS⟩
              case measure => simp [intOf]; omega
            · have HN := Lib.hid (HN1.out h3)
              have h3' : ((xat A 0).length : Int) < 2 := by omega
              have hZ := hS.five rfl (.int .i64 0) (.int .i64 0) (.int .i64 0) (.int .i64 0) (.int .i64 0)
              have z0 := hZ.bcell 0 rfl 0 rfl
              have z1 := hZ.bcell 0 rfl 1 rfl
              have z2 := hZ.bcell 0 rfl 2 rfl
              have z3 := hZ.bcell 0 rfl 3 rfl
              have z4 := hZ.bcell 0 rfl 4 rfl
              have r0 := hS.bcell 0 rfl 0 rfl
              have r1 := hS.bcell 0 rfl 1 rfl
              have r2 := hS.bcell 0 rfl 2 rfl
              have r3 := hS.bcell 0 rfl 3 rfl
              have r4 := hS.bcell 0 rfl 4 rfl
              have f0 := hS.bfree 0 rfl
              go_wp2_with fail
              refine bodyPost_ret (v := .tuple #[.agg #[.int .i64 0, .int .i64 0, .int .i64 0, .int .i64 0, .int .i64 0], .bool false]) (by first | simp [results, Tryz.results118, go_sem, z0, z1, z2, z3, z4] | simp [results, Tryz.results118, go_sem, r0, r1, r2, r3, r4]) rfl ?_
              first | exact MakesPr.no HN.out hZ | exact MakesPr.no HN.out hS
          · have f := ne_t (fun e : ((xat A k).length : Int) = (xat A 0).length => he (by omega))
            have HN := Lib.hid (HN2.out k hlt he)
            clear he
            have hZ := hS.five rfl (.int .i64 0) (.int .i64 0) (.int .i64 0) (.int .i64 0) (.int .i64 0)
            have z0 := hZ.bcell 0 rfl 0 rfl
            have z1 := hZ.bcell 0 rfl 1 rfl
            have z2 := hZ.bcell 0 rfl 2 rfl
            have z3 := hZ.bcell 0 rfl 3 rfl
            have z4 := hZ.bcell 0 rfl 4 rfl
            have r0 := hS.bcell 0 rfl 0 rfl
            have r1 := hS.bcell 0 rfl 1 rfl
            have r2 := hS.bcell 0 rfl 2 rfl
            have r3 := hS.bcell 0 rfl 3 rfl
            have r4 := hS.bcell 0 rfl 4 rfl
            have f0 := hS.bfree 0 rfl
            go_wp2_with fail
            refine bodyPost_ret (v := .tuple #[.agg #[.int .i64 0, .int .i64 0, .int .i64 0, .int .i64 0, .int .i64 0], .bool false]) (by first | simp [results, Tryz.results118, go_sem, z0, z1, z2, z3, z4] | simp [results, Tryz.results118, go_sem, r0, r1, r2, r3, r4]) rfl ?_
            first | exact MakesPr.no HN.out hZ | exact MakesPr.no HN.out hS
        · obtain rfl : k = A.length := by omega
          have hall := Lib.hid hI.out.1
          have h3 := hI.out.2 h2
          clear hI
          go_wp2_with fail
          refine (HPC _ (hS.oldII hv) (hS.oldBoxD hb)).out.mono ?_
          clear HPC
          rintro e w2 ⟨vc, rfl, h4⟩
          have hS2 := hS.call h4
          have hlc := (h4.rdI 0 rfl).len
          have hic := (h4.rdI 0 rfl).ixe
          have xc0 := hic 0 0 rfl hC0
          simp only [List.cons_append, List.nil_append] at hS2
          clear hS h4 b1
          go_wp2_with fail
          go_loopw [7] (fun i wr => ∃ k : Nat, k ≤ C.length ∧ i = .int .i64 k ∧ Hid (∀ j, j < k → nth C j = nth C 0) ∧ St w.heap.size w wr [box 121 w.heap.size [.int .i64 0, .int .i64 0, .int .i64 0, .int .i64 0, .int .i64 0], row 2 vc (iv C)]) (fun i _ => C.length - (intOf i).toNat)
          case atStart => exact ⟨0, by omega, rfl, fun j hj => by omega, hS2⟩
          case round =>
            clear hS2
            obtain ⟨k, hk, rfl, hI, hS⟩ := hrel
            by_cases hlt : k < C.length
            · have qk := fun s : SS w.heap.size w [box 121 w.heap.size [.int .i64 0, .int .i64 0, .int .i64 0, .int .i64 0, .int .i64 0], row 2 vc (iv C)] => (s.st.rdI 1 rfl).cell k hlt
              have qz := fun s : SS w.heap.size w [box 121 w.heap.size [.int .i64 0, .int .i64 0, .int .i64 0, .int .i64 0, .int .i64 0], row 2 vc (iv C)] => (s.st.rdI 1 rfl).cell 0 hC0
              have xk := hic (k : Int) k rfl hlt
              by_cases he : nth C k = nth C 0
              · have f := ne_f he
                have He := Lib.hid he
                clear he
                go_wp2_with fail
                have hne : Nonempty (SS _ _ _) := ⟨⟨_, hS⟩⟩
                refine wp_region_st (by kernel_rfl) (by kernel_rfl) hS ?_
                repeat (go_big_quiet_step (fail))
                refine wpQuiet_nil ?_
                rintro _ ⟨s2, rfl⟩
                have hS3 := s2.st
                generalize s2.w = w3 at hS3 ⊢
                go_wp2_with fail
                go_roundw
                case rel => exact ⟨k + 1, by omega, by go_num, fun j hj => by
                  by_cases e : j = k
                  · rw [e]; exact He.out
                  · exact hI.out j (by omega), hS3⟩
                case measure => simp [intOf]; omega
              · have f := ne_t he
                have HN := Lib.hid (HN3.out k hlt he)
                clear he
                go_wp2_with fail
                have hne : Nonempty (SS _ _ _) := ⟨⟨_, hS⟩⟩
                refine wp_region_st (by kernel_rfl) (by kernel_rfl) hS ?_
                repeat (go_big_quiet_step (fail))
                refine wpQuiet_nil ?_
                rintro _ ⟨s2, rfl⟩
                have hS3 := s2.st
                generalize s2.w = w3 at hS3 ⊢
                have hZ := hS3.five rfl (.int .i64 0) (.int .i64 0) (.int .i64 0) (.int .i64 0) (.int .i64 0)
                have z0 := hZ.bcell 0 rfl 0 rfl
                have z1 := hZ.bcell 0 rfl 1 rfl
                have z2 := hZ.bcell 0 rfl 2 rfl
                have z3 := hZ.bcell 0 rfl 3 rfl
                have z4 := hZ.bcell 0 rfl 4 rfl
                have r0 := hS3.bcell 0 rfl 0 rfl
                have r1 := hS3.bcell 0 rfl 1 rfl
                have r2 := hS3.bcell 0 rfl 2 rfl
                have r3 := hS3.bcell 0 rfl 3 rfl
                have r4 := hS3.bcell 0 rfl 4 rfl
                have f0 := hS3.bfree 0 rfl
                go_wp2_with fail
                refine bodyPost_ret (v := .tuple #[.agg #[.int .i64 0, .int .i64 0, .int .i64 0, .int .i64 0, .int .i64 0], .bool false]) (by first | simp [results, Tryz.results118, go_sem, z0, z1, z2, z3, z4] | simp [results, Tryz.results118, go_sem, r0, r1, r2, r3, r4]) rfl ?_
                first | exact MakesPr.no HN.out hZ | exact MakesPr.no HN.out hS3
            · obtain rfl : k = C.length := by omega
              have HV := Lib.hid (hprm.out h3 hall.out hI.out)
              have HB := Lib.hid (hprb.out h3 hall.out hI.out)
              have b0 := (hS.oldBoxD hb).1
              have b1 := (hS.oldBoxD hb).2
              have c0 := (hS.rdI 1 rfl).cell 0 hC0
              have hS3 := hS.drew
              clear hI hprm hprb HN2 HN3 HN1
              go_wp2_with fail
              refine regionG (fun w' => w'.cell? ⟨g, 0, none⟩ = some (.int .i64 P) ∧ w'.cell? ⟨g, 1, none⟩ = some v ∧ w'.cell? (el vc 0) = some (.int .i64 (nth C 0))) 18 (by kernel_rfl) ⟨cell_dr b0, cell_dr b1, cell_dr c0⟩ (fun hHeld => ?_)
              refine takeP (i := 0) (v := ?_) rfl (by kernel_rfl) (fun _ _ _ h => h) (by rfl) ?_ (by assumption) ?_
              case refine_2 => (intro w'; go_simp; first | done | with_reducible rfl)
              try simp only [Act.put, List.setIfInBounds_toArray, List.set_cons_zero, List.set_cons_succ]
              refine takeP (i := 1) (v := ?_) rfl (by kernel_rfl) (fun _ _ _ h => h) (by rfl) ?_ (by assumption) ?_
              case refine_2 => (intro w'; go_simp; first | done | with_reducible rfl)
              try simp only [Act.put, List.setIfInBounds_toArray, List.set_cons_zero, List.set_cons_succ]
              refine takeP (i := 2) (v := ?_) rfl (by kernel_rfl) (fun _ _ _ h => h) (by rfl) ?_ (by assumption) ?_
              case refine_2 => (intro w'; go_simp; first | done | with_reducible rfl)
              try simp only [Act.put, List.setIfInBounds_toArray, List.set_cons_zero, List.set_cons_succ]
              refine takeH (i := 3) [17] (v := ?_) rfl (by kernel_rfl) (fun _ _ _ h => h) (by rfl) ?_ (by assumption) ?_
              case refine_2 => (intro w' hSw; (try dsimp only at hSw); go_simp; first | done | with_reducible rfl)
              try simp only [Act.put, List.setIfInBounds_toArray, List.set_cons_zero, List.set_cons_succ]
              refine takeP (i := 4) (v := ?_) rfl (by kernel_rfl) (fun _ _ _ h => h) (by rfl) ?_ (by assumption) ?_
              case refine_2 => (intro w'; go_simp; first | done | with_reducible rfl)
              try simp only [Act.put, List.setIfInBounds_toArray, List.set_cons_zero, List.set_cons_succ]
              refine takeP (i := 5) (v := ?_) rfl (by kernel_rfl) (fun _ _ _ h => h) (by rfl) ?_ (by assumption) ?_
              case refine_2 => (intro w'; go_simp; first | done | with_reducible rfl)
              try simp only [Act.put, List.setIfInBounds_toArray, List.set_cons_zero, List.set_cons_succ]
              refine takeP (i := 6) (v := ?_) rfl (by kernel_rfl) (fun _ _ _ h => h) (by rfl) ?_ (by assumption) ?_
              case refine_2 => (intro w'; go_simp; first | done | with_reducible rfl)
              try simp only [Act.put, List.setIfInBounds_toArray, List.set_cons_zero, List.set_cons_succ]
              refine takeH (i := 7) [8, 17] (v := ?_) rfl (by kernel_rfl) (fun _ _ _ h => h) (by rfl) ?_ (by assumption) ?_
              case refine_2 => (intro w' hSw; (try dsimp only at hSw); go_simp; first | done | with_reducible rfl)
              try simp only [Act.put, List.setIfInBounds_toArray, List.set_cons_zero, List.set_cons_succ]
              refine takeP (i := 8) (v := ?_) rfl (by kernel_rfl) (fun _ _ _ h => h) (by rfl) ?_ (by assumption) ?_
              case refine_2 => (intro w'; go_simp; first | done | with_reducible rfl)
              try simp only [Act.put, List.setIfInBounds_toArray, List.set_cons_zero, List.set_cons_succ]
              refine takeP (i := 9) (v := ?_) rfl (by kernel_rfl) (fun _ _ _ h => h) (by rfl) ?_ (by assumption) ?_
              case refine_2 => (intro w'; go_simp; first | done | with_reducible rfl)
              try simp only [Act.put, List.setIfInBounds_toArray, List.set_cons_zero, List.set_cons_succ]
              refine takeP (i := 13) (v := ?_) rfl (by kernel_rfl) (fun _ _ _ h => h) (by rfl) ?_ (by assumption) ?_
              case refine_2 => (intro w'; go_simp; first | done | with_reducible rfl)
              try simp only [Act.put, List.setIfInBounds_toArray, List.set_cons_zero, List.set_cons_succ]
              refine takeP (i := 14) (v := ?_) rfl (by kernel_rfl) (fun _ _ _ h => h) (by rfl) ?_ (by assumption) ?_
              case refine_2 => (intro w'; go_simp; first | done | with_reducible rfl)
              try simp only [Act.put, List.setIfInBounds_toArray, List.set_cons_zero, List.set_cons_succ]
              refine takeP (i := 15) (v := ?_) rfl (by kernel_rfl) (fun _ _ _ h => h) (by rfl) ?_ (by assumption) ?_
              case refine_2 => (intro w'; go_simp; first | done | with_reducible rfl)
              try simp only [Act.put, List.setIfInBounds_toArray, List.set_cons_zero, List.set_cons_succ]
              refine takeH (i := 16) [17] (v := ?_) rfl (by kernel_rfl) (fun _ _ _ h => h) (by rfl) ?_ (by assumption) ?_
              case refine_2 => (intro w' hSw; (try dsimp only at hSw); go_simp; first | done | with_reducible rfl)
              try simp only [Act.put, List.setIfInBounds_toArray, List.set_cons_zero, List.set_cons_succ]
              refine readyG (rs := [10]) (by kernel_rfl) (by simp) ?_
              refine AllG.cons rfl (fun K hK => ?_) AllG.nil
              go_simp
              refine (HR _ (hS3.oldII hv) (hS3.oldBoxD hb)).out.mono ?_
              rintro e w5 ⟨vr, rfl, h5⟩
              have hS5 := hS3.call h5
              have e0 := (hS5.oldBoxD hb).1
              have e1 := (hS5.oldBoxD hb).2
              have ec := (hS5.rdI 1 rfl).cell 0 hC0
              have xr0 := (h5.rdI 0 rfl).ixe 0 0 rfl (by rw [repL_len]; omega)
              have cr0 := (h5.rdI 0 rfl).cell 0 (by rw [repL_len]; omega)
              have hS6 := Lib.hid hS5
              refine hK.out _ _ ⟨e0, e1, ec⟩ (fun hHeld => ?_)
              clear hK K h5 hS3 hS b0 b1 c0
              try simp only [Act.put, List.setIfInBounds_toArray, List.set_cons_zero, List.set_cons_succ]
              refine takeP (i := 11) (v := ?_) rfl (by kernel_rfl) (fun _ _ _ h => h) (by rfl) ?_ (by assumption) ?_
              case refine_2 => (intro w'; go_simp; first | done | with_reducible rfl)
              try simp only [Act.put, List.setIfInBounds_toArray, List.set_cons_zero, List.set_cons_succ]
              refine readyG (rs := [12]) (by kernel_rfl) (by simp) ?_
              refine AllG.cons rfl (fun K hK => ?_) AllG.nil
              go_simp
              refine hK.out _ _ ⟨e0, e1, ec⟩ (fun hHeld => ?_)
              clear hK K
              try simp only [Act.put, List.setIfInBounds_toArray, List.set_cons_zero, List.set_cons_succ]
              have t0 := hS5.bcell 0 rfl 0 rfl
              have t1 := hS5.bcell 0 rfl 1 rfl
              have t2 := hS5.bcell 0 rfl 2 rfl
              have t3 := hS5.bcell 0 rfl 3 rfl
              have t4 := hS5.bcell 0 rfl 4 rfl
              have f0 := hS5.bfree 0 rfl
              refine takeP (i := 17) (v := ?_) rfl (by kernel_rfl) (fun _ _ _ h => h) (by rfl) ?_ (by assumption) ?_
              case refine_2 => (intro w'; go_simp; first | done | with_reducible rfl)
              try simp only [Act.put, List.setIfInBounds_toArray, List.set_cons_zero, List.set_cons_succ]
              refine readyG (rs := [18]) (by kernel_rfl) (by simp) ?_
              refine AllG.last rfl (by kernel_rfl) (fun K hK => ?_) AllG.nil
              go_simp
              refine hK.out _ _ ?_
              clear hK K
              try simp only [Act.put, List.setIfInBounds_toArray, List.set_cons_zero, List.set_cons_succ]
              refine readyG (rs := [19]) (by kernel_rfl) (by simp) ?_
              refine AllG.last rfl (by kernel_rfl) (fun K hK => ?_) AllG.nil
              go_simp
              refine hK.out _ _ ?_
              clear hK K
              try simp only [Act.put, List.setIfInBounds_toArray, List.set_cons_zero, List.set_cons_succ]
              refine doneG (by kernel_rfl) ?_ _
              refine NoPanic.normal ?_
              have hZ := hS6.out.five rfl (.int .i64 P) (.int .i64 A.length) (.int .i64 (nth (repL P A) 0)) (.int .i64 (xat A 0).length) (.int .i64 (nth C 0))
              have z0 := hZ.bcell 0 rfl 0 rfl
              have z1 := hZ.bcell 0 rfl 1 rfl
              have z2 := hZ.bcell 0 rfl 2 rfl
              have z3 := hZ.bcell 0 rfl 3 rfl
              have z4 := hZ.bcell 0 rfl 4 rfl
              clear hS5 t0 t1 t2 t3 t4
              go_wp2_with fail
              refine bodyPost_ret (v := .tuple #[.agg #[.int .i64 P, .int .i64 A.length, .int .i64 (nth (repL P A) 0), .int .i64 (xat A 0).length, .int .i64 (nth C 0)], .bool true]) (by simp [results, Tryz.results118, go_sem, z0, z1, z2, z3, z4]) rfl ?_
              rw [HB.out, HV.out]
              exact ⟨rfl, hZ.out⟩
    · have H := Lib.hid (prm_no1 (P := P) (A := A) (fun h => h2 h.2.1))
      have H0 := Lib.hid (show A.length = 0 by omega)
      have f := eq_t (show (A.length : Int) = 0 by omega)
      have h1' : ¬ (P : Int) < 2 := by omega
      clear h2
      go_enter Tryz.func118, Tryz.ntmps118
      have hZ := hS.five rfl (.int .i64 0) (.int .i64 0) (.int .i64 0) (.int .i64 0) (.int .i64 0)
      have z0 := hZ.bcell 0 rfl 0 rfl
      have z1 := hZ.bcell 0 rfl 1 rfl
      have z2 := hZ.bcell 0 rfl 2 rfl
      have z3 := hZ.bcell 0 rfl 3 rfl
      have z4 := hZ.bcell 0 rfl 4 rfl
      have r0 := hS.bcell 0 rfl 0 rfl
      have r1 := hS.bcell 0 rfl 1 rfl
      have r2 := hS.bcell 0 rfl 2 rfl
      have r3 := hS.bcell 0 rfl 3 rfl
      have r4 := hS.bcell 0 rfl 4 rfl
      have f0 := hS.bfree 0 rfl
      go_wp2_with fail
      refine bodyPost_ret (v := .tuple #[.agg #[.int .i64 0, .int .i64 0, .int .i64 0, .int .i64 0, .int .i64 0], .bool false]) (by first | simp [results, Tryz.results118, go_sem, z0, z1, z2, z3, z4] | simp [results, Tryz.results118, go_sem, r0, r1, r2, r3, r4]) rfl ?_
      first | exact MakesPr.no H.out hZ | exact MakesPr.no H.out hS
  · have H := Lib.hid (prm_no1 (P := P) (A := A) (fun h => h1 h.1))
    have h1' : (P : Int) < 2 := by omega
    go_enter Tryz.func118, Tryz.ntmps118
    have hZ := hS.five rfl (.int .i64 0) (.int .i64 0) (.int .i64 0) (.int .i64 0) (.int .i64 0)
    have z0 := hZ.bcell 0 rfl 0 rfl
    have z1 := hZ.bcell 0 rfl 1 rfl
    have z2 := hZ.bcell 0 rfl 2 rfl
    have z3 := hZ.bcell 0 rfl 3 rfl
    have z4 := hZ.bcell 0 rfl 4 rfl
    have r0 := hS.bcell 0 rfl 0 rfl
    have r1 := hS.bcell 0 rfl 1 rfl
    have r2 := hS.bcell 0 rfl 2 rfl
    have r3 := hS.bcell 0 rfl 3 rfl
    have r4 := hS.bcell 0 rfl 4 rfl
    have f0 := hS.bfree 0 rfl
    go_wp2_with fail
    refine bodyPost_ret (v := .tuple #[.agg #[.int .i64 0, .int .i64 0, .int .i64 0, .int .i64 0, .int .i64 0], .bool false]) (by first | simp [results, Tryz.results118, go_sem, z0, z1, z2, z3, z4] | simp [results, Tryz.results118, go_sem, r0, r1, r2, r3, r4]) rfl ?_
    first | exact MakesPr.no H.out hZ | exact MakesPr.no H.out hS

end Go.Proofs.YtlmbaeaakpmhnaaGreat
end

section
/- Walks: triple systems told, their third points. -/
namespace Go.Proofs.YtlmbaeaakpmhnaaGreat
set_option linter.unusedSimpArgs false
set_option linter.unusedVariables false
open Go.RowKit

theorem TS.pv {P : Nat} {A : List (List Int)} (h : TS P A) : prmB P A = true ∧ nth (prmV P A) 3 = 3 ∧ nth (prmV P A) 4 = 1 := by
  obtain ⟨h1, h2, h3⟩ := h.prm
  refine ⟨h1, ?_, ?_⟩
  · unfold prmV; rw [if_pos h1]; simp [nth]; omega
  · unfold prmV; rw [if_pos h1]; simp only [nth] at h3 ⊢; simpa using h3
set_option maxHeartbeats 4000000 in
set_option maxRecDepth 100000 in
theorem IsTripleSystem_c (P : Nat) (v : Value) (us : List Value) (A : List (List Int)) (w : World) (hv : RII w v us A) (hA : TS P A) :
    Calls Tryz.prog 52 #[dv P v] w (GivesB w true) := by
  obtain ⟨a, c, hsh⟩ := hv.1.sl.sh
  rw [hv.2.1] at hsh
  subst hsh
  have hS1 := (St.refl w).newboxF 29 #[.int .i64 P, .slice a A.length c]
  have b0 := hS1.bcell 0 rfl 0 rfl
  have b1 := hS1.bcell 0 rfl 1 rfl
  have K1 := Lib.hid (ValidDesign_c P (.slice a A.length c) us A _ (hS1.oldII hv))
  rw [hA.ok] at K1
  have K2 := fun W h => Lib.hid (parametersOf_c P (.slice a A.length c) us A W h (dOk_t hA.ok))
  obtain ⟨p1, p2, p3⟩ := hA.pv
  rw [p1] at K2
  unfold dv at K1 K2 ⊢
  generalize prmV P A = X at *
  clear p1 hA
  go_enter Tryz.func52, Tryz.ntmps52
  go_wp2_with fail
  refine K1.out.mono ?_
  clear K1 b0 b1
  rintro e w2 ⟨rfl, h2⟩
  have hS2 := hS1.call0 h2
  have b0 := hS2.bcell 0 rfl 0 rfl
  have b1 := hS2.bcell 0 rfl 1 rfl
  clear h2 hS1
  go_wp2_with fail
  refine (K2 _ (hS2.oldII hv)).out.mono ?_
  rintro e w3 ⟨rfl, h3⟩
  have hZ := (hS2.call0 h3).newboxF 121 #[.int .i64 (nth X 0), .int .i64 (nth X 1), .int .i64 (nth X 2), .int .i64 3, .int .i64 1]
  have z3 := hZ.bcell 0 rfl 3 rfl
  have z4 := hZ.bcell 0 rfl 4 rfl
  unfold pmV
  rw [p2, p3]
  clear p2 p3 b0 b1 h3 hS2
  go_wp2_with fail
  go_ret
  exact ⟨rfl, hZ.out⟩
set_option maxHeartbeats 4000000 in
set_option maxRecDepth 100000 in
theorem l11Ok_c (P : Nat) (g : Nat) (v : Value) (us : List Value) (A : List (List Int)) (w : World) (hv : RII w v us A) (hb : BoxD w g P v) (hA : TS P A) :
    Calls Tryz.prog 47 #[.pointer (some ⟨g, 0, none⟩)] w (GivesB w true) := by
  have K1 := Lib.hid (l10Ok_c P g v us A w hv hb)
  rw [hA.ok] at K1
  have K2 := fun W h hb => Lib.hid (l10Parameters_c P g v us A W h hb (dOk_t hA.ok))
  obtain ⟨p1, p2, p3⟩ := hA.pv
  rw [p1] at K2
  generalize prmV P A = X at *
  have hS1 := St.refl w
  clear p1 hA
  go_enter Tryz.func47, Tryz.ntmps47
  go_wp2_with fail
  refine K1.out.mono ?_
  clear K1
  rintro e w2 ⟨rfl, h2⟩
  have hS2 := hS1.call0 h2
  clear h2 hS1
  go_wp2_with fail
  refine (K2 _ (hS2.oldII hv) (hb.keep hS2.below)).out.mono ?_
  rintro e w3 ⟨rfl, h3⟩
  have hZ := (hS2.call0 h3).newboxF 121 #[.int .i64 (nth X 0), .int .i64 (nth X 1), .int .i64 (nth X 2), .int .i64 3, .int .i64 1]
  have z3 := hZ.bcell 0 rfl 3 rfl
  have z4 := hZ.bcell 0 rfl 4 rfl
  unfold pmV
  rw [p2, p3]
  clear p2 p3 h3 hS2
  go_wp2_with fail
  go_ret
  exact ⟨rfl, hZ.out⟩
theorem sIsTripleSystem_c (P : Nat) (v : Value) (us : List Value) (A : List (List Int)) (w : World) (hv : RII w v us A) (hA : TS P A) :
    Calls Tryz.prog 11 #[dv P v] w (GivesB w true) := by
  obtain ⟨a, c, hsh⟩ := hv.1.sl.sh
  rw [hv.2.1] at hsh
  subst hsh
  have hS1 := (St.refl w).newboxF 29 #[.int .i64 P, .slice a A.length c]
  have K := Lib.hid (l11Ok_c P w.heap.size (.slice a A.length c) us A _ (hS1.oldII hv) ⟨hS1.bcell 0 rfl 0 rfl, hS1.bcell 0 rfl 1 rfl⟩ hA)
  clear hA
  unfold dv
  go_enter Tryz.func11, Tryz.ntmps11
  go_wp2_with fail
  refine K.out.mono ?_
  rintro e w2 ⟨rfl, h2⟩
  go_wp2_with fail
  go_ret
  exact ⟨rfl, (hS1.call0 h2).out⟩
end Go.Proofs.YtlmbaeaakpmhnaaGreat
end

section
/- Slices of truth values. -/
namespace Go.Proofs.YtlmbaeaakpmhnaaGreat
set_option linter.unusedSimpArgs false
set_option linter.unusedVariables false
open Go.RowKit
/-- the cells of a list of truth values -/
def bo (xs : List Bool) : List Value := xs.map Value.bool
/-- element j -/
def bat (xs : List Bool) (j : Nat) : Bool := xs.getD j false
theorem bo_len (xs : List Bool) : (bo xs).length = xs.length := by simp [bo]
theorem bo_get {xs : List Bool} {j : Nat} (h : j < xs.length) : (bo xs).getD j undef = .bool (bat xs j) := by
  simp [bo, bat, List.getD, List.getElem?_eq_getElem h]
theorem bat_set {xs : List Bool} {i j : Nat} {x : Bool} (h : i < xs.length) : bat (xs.set i x) j = if i = j then x else bat xs j := by
  unfold bat
  rw [List.getD_eq_getElem?_getD, List.getElem?_set]
  split
  · rename_i e; subst e; simp [h]
  · simp
theorem bat_rep (n j : Nat) : bat (List.replicate n false) j = false := by
  unfold bat
  rw [List.getD_eq_getElem?_getD, List.getElem?_replicate]; split <;> rfl
def RdO (w : World) (v : Value) (xs : List Bool) : Prop := Rd w v (bo xs)
theorem Tryz.size_o : (Tryz.prog.info? 4).map (·.size) = some 1 := by kernel_rfl
theorem Tryz.und_os : Tryz.prog.underlying 106 = some (.slice 4) := by kernel_rfl
section
variable {w w' : World} {v : Value} {xs : List Bool}
theorem RdO.le (h : RdO w v xs) : xs.length ≤ 9223372036854775807 := by have := h.sl.le; rwa [bo_len] at this
theorem RdO.len (h : RdO w v xs) (ty : TypeId) (W : World) : (Builtin.len_ #[106] ty #[v]).run Tryz.prog W = .ok (.int .i64 xs.length) W := by
  have := run_len_sl (P := Tryz.prog) h.sl 106 ty Tryz.und_os W; rwa [bo_len] at this
theorem RdO.ix (h : RdO w v xs) (k : IntKind) (i : Int) (h0 : 0 ≤ i) (hi : i < xs.length) (W : World) :
    (Instr.indexAt 106 v (.int k i)).run Tryz.prog W = .ok (.pointer (some (el v i.toNat))) W :=
  run_ix_sl (P := Tryz.prog) h.sl 106 Tryz.und_os Tryz.size_o k i h0 (by rw [bo_len]; exact hi) W
theorem RdO.ixe (h : RdO w v xs) (i : Int) (j : Nat) (hij : i = (j : Int)) (hj : j < xs.length) (W : World) :
    (Instr.indexAt 106 v (.int .i64 i)).run Tryz.prog W = .ok (.pointer (some (el v j))) W := by
  have := h.ix .i64 i (by omega) (by omega) W
  rwa [hij, Int.toNat_natCast, ← hij] at this
theorem RdO.cell (h : RdO w v xs) (j : Nat) (hj : j < xs.length) : w.cell? (el v j) = some (.bool (bat xs j)) := by
  rw [Rd.cell h (by rw [bo_len]; exact hj), bo_get hj]
theorem RdO.keep (h : RdO w v xs) (hb : Below w.heap.size w w') : RdO w' v xs := Rd.keep h hb
end
section
variable {ops : Array Oper} {rest : List Oper} {o : Oper} {a : Act} {Q : Exit → Act → World → Prop} {B : Nat} {w0 w : World} {L : List Ent}
end
end Go.Proofs.YtlmbaeaakpmhnaaGreat
end

section
/- Walks: the cycles of a permutation. Walks: SignOf; the law FnPermutations. Walks: CyclesOf, SignOf and OrderOfPermutation of any list, powers, permutations made of cycles, types. -/
namespace Go.Proofs.YtlmbaeaakpmhnaaGreat
set_option linter.unusedSimpArgs false
set_option linter.unusedVariables false
open Go.RowKit
attribute [local go_sem ↓] Go.wp_at_zero Go.wp_at_succ
/-- the first j numbers of the cycle of x -/
def cyP (xs : List Int) (x j : Nat) : List Int := (List.range j).map fun i => ((it (pf xs) i x : Nat) : Int)
/-- what is seen: all cycles that numbers below m lead, and the first j numbers of that of m -/
def Seen (xs : List Int) (m j : Nat) (s : List Bool) : Prop := s.length = xs.length ∧ ∀ y, y < xs.length → (bat s y = true ↔ y ∈ (cycs xs.length (pf xs) m).flatten ∨ ∃ i, i < j ∧ y = it (pf xs) i m)
theorem Seen.start (xs : List Int) : Seen xs 0 0 (List.replicate xs.length false) := ⟨by simp, fun y hy => by rw [bat_rep]; simp [cycs]⟩
theorem Seen.step {xs : List Int} {m j : Nat} {s : List Bool} (h : Seen xs m j s) (hp : IsP xs) (hm : m < xs.length) : Seen xs m (j + 1) (s.set (it (pf xs) j m) true) := by
  have hlt := it_lt hp.bij hm j
  refine ⟨by rw [List.length_set]; exact h.1, fun y hy => ?_⟩
  rw [bat_set (by rw [h.1]; exact hlt)]
  by_cases e : it (pf xs) j m = y
  · rw [if_pos e]; exact ⟨fun _ => .inr ⟨j, by omega, e.symm⟩, fun _ => rfl⟩
  · rw [if_neg e, h.2 y hy]
    constructor
    · rintro (h1 | ⟨i, hi, e2⟩)
      · exact .inl h1
      · exact .inr ⟨i, by omega, e2⟩
    · rintro (h1 | ⟨i, hi, e2⟩)
      · exact .inl h1
      · refine .inr ⟨i, ?_, e2⟩
        refine Nat.lt_of_le_of_ne (by omega) fun e3 => e ?_
        rw [e2, e3]
theorem Seen.no {xs : List Int} {m : Nat} {s : List Bool} (h : Seen xs m 0 s) (hp : IsP xs) (hm : m < xs.length) (hL : ¬ Lead (pf xs) m) : bat s m = true ∧ Seen xs (m + 1) 0 s := by
  have hs := fun hh => hL ((lead_seen hp.bij hm).2 hh)
  refine ⟨(h.2 m hm).2 (.inl (Classical.byContradiction hs)), h.1, fun y hy => ?_⟩
  rw [h.2 y hy, cycs, if_neg hL]; simp
theorem Seen.fresh {xs : List Int} {m j : Nat} {s : List Bool} (h : Seen xs m j s) (hp : IsP xs) (hm : m < xs.length) (hL : Lead (pf xs) m) (hj : j < clen xs.length (pf xs) m) : bat s (it (pf xs) j m) = false := by
  have hlt := it_lt hp.bij hm j
  have hc := clen_ok hp.bij hm
  cases e : bat s (it (pf xs) j m) with
  | false => rfl
  | true =>
    rcases (h.2 _ hlt).1 e with h1 | ⟨i, hi, e2⟩
    · exact absurd h1 (lead_fresh hp.bij hm hL ((mem_cycL hp.bij hm).2 ⟨j, rfl⟩))
    · have := hc.inj hp.bij hm hj (by omega) e2; omega
theorem Seen.back {xs : List Int} {m : Nat} {s : List Bool} (h : Seen xs m (clen xs.length (pf xs) m) s) (hp : IsP xs) (hm : m < xs.length) (hL : Lead (pf xs) m) : bat s (it (pf xs) (clen xs.length (pf xs) m) m) = true ∧ Seen xs (m + 1) 0 s := by
  have hc := clen_ok hp.bij hm
  have hb := hc.back
  refine ⟨?_, h.1, fun y hy => ?_⟩
  · rw [hb]; exact (h.2 m hm).2 (.inr ⟨0, hc.pos, rfl⟩)
  · rw [h.2 y hy, cycs, if_pos hL]
    simp only [List.flatten_append, List.flatten_cons, List.flatten_nil, List.append_nil, List.mem_append]
    constructor
    · rintro (h1 | ⟨i, hi, rfl⟩)
      · exact .inl (.inl h1)
      · exact .inl (.inr ((mem_cycL hp.bij hm).2 ⟨i, rfl⟩))
    · rintro ((h1 | h1) | ⟨i, hi, _⟩)
      · exact .inl h1
      · unfold cycL at h1
        obtain ⟨i, hi, rfl⟩ := List.mem_map.1 h1
        exact .inr ⟨i, List.mem_range.1 hi, rfl⟩
      · omega
/-- what the list of cycles is -/
structure CyOk (xs : List Int) (C : List (List Int)) : Prop where
  shape : ∀ t, t < C.length → ∃ m, m < xs.length ∧ xat C t = cyP xs m (clen xs.length (pf xs) m)
  all : ∀ y, y < xs.length → ∃ t k, t < C.length ∧ k < (xat C t).length ∧ nth (xat C t) k = (y : Int)
  nodup : C.flatten.Nodup
  sum : C.flatten.length = xs.length
/-- a number of a later place is not among those of earlier ones -/
theorem CyOk.fresh {xs : List Int} {C : List (List Int)} (h : CyOk xs C) {t k : Nat} (ht : t < C.length) (hk : k < (xat C t).length) : nth (xat C t) k ∉ (C.take t).flatten ++ (xat C t).take k := by
  have hs : C.flatten = (C.take t).flatten ++ ((xat C t).take k ++ (nth (xat C t) k :: ((xat C t).drop (k + 1) ++ (C.drop (t + 1)).flatten))) := by
    conv => lhs; rw [← List.take_append_drop t C, drop_xat ht]
    rw [List.flatten_append, List.flatten_cons]
    congr 1
    rw [← List.cons_append, ← drop_nth hk, ← List.append_assoc, List.take_append_drop]
  have hn := h.nodup
  rw [hs, ← List.append_assoc, List.nodup_append] at hn
  exact fun hm => hn.2.2 _ hm _ (by simp) rfl
/-! ### the least common multiple, bounded -/
theorem sz_c (v : Value) (xs : List Int) (w : World) (hv : RdI w v xs) : Calls Tryz.prog 198 #[v] w fun e w' => e = .returned (.int .i64 xs.length) ∧ w = w' := by
  have hln := hv.len
  go_enter Tryz.func198, Tryz.ntmps198
  go_wp2_with fail
  go_ret
  exact ⟨rfl, rfl⟩
end Go.Proofs.YtlmbaeaakpmhnaaGreat
end

section
/- slices.Delete at []int64: a row that a call owns, without one of its numbers. Walks: images of sets, ranks of permutations. -/
namespace Go.Proofs.YtlmbaeaakpmhnaaGreat
set_option linter.unusedSimpArgs false
set_option linter.unusedVariables false
open Go.RowKit
attribute [local go_sem ↓] Go.wp_at_zero Go.wp_at_succ


def Tryz.mDelete_ren : Go.Shelf.Ren := ⟨fun | 45 => 141 | n => n, fun | 22 => 24 | 23 => 2 | 3 => 3 | 4 => 4 | 0 => 0 | n => n, fun | n => n⟩
theorem Tryz.mDelete : Go.Proofs.SlLaysN.n45 Tryz.prog Tryz.mDelete_ren := {
  mixed := by kernel_rfl
  f45 := ⟨Tryz.f141.name, by decide, Tryz.func141.trans (congrArg some (by kernel_rfl))⟩
  t0 := Tryz.underlying0
  a0 := Tryz.isAgg0
  z0 := Tryz.sizeOf0
  v0 := Tryz.zeroValue0
  t3 := Tryz.underlying3
  a3 := Tryz.isAgg3
  z3 := Tryz.sizeOf3
  v3 := Tryz.zeroValue3
  t4 := Tryz.underlying4
  a4 := Tryz.isAgg4
  z4 := Tryz.sizeOf4
  v4 := Tryz.zeroValue4
  t22 := Tryz.underlying24
  a22 := Tryz.isAgg24
  z22 := Tryz.sizeOf24
  v22 := Tryz.zeroValue24
  t23 := Tryz.underlying2
  a23 := Tryz.isAgg2
  z23 := Tryz.sizeOf2
  v23 := Tryz.zeroValue2
  i23 := by kernel_rfl
  }

theorem dl_grow (w : World) : Go.Sort.grow w #[] = w := by simp [Go.Sort.grow]
theorem Delete_c {B : Nat} {w0 w : World} {L : List Ent} (hS : St B w0 w L) (i : Nat) {v : Value} {xs : List Int} (hi : L[i]? = some (row 2 v (iv xs))) (hl : xs.length < 4611686018427387904) (k : Nat) (hk : k < xs.length) :
    Calls Tryz.prog 141 #[v, .int .i64 k, .int .i64 ((k : Int) + 1)] w fun e w' => ∃ v', e = .returned v' ∧ St B w0 w' (L.set i (row 2 v' (iv (xs.take k ++ xs.drop (k + 1))))) := by
  have hx := hS.ok _ (List.mem_of_getElem? hi)
  rcases hx with ⟨hp, _⟩ | ⟨_, hv, hu⟩ | ⟨_, g, cap, cur, hv, hB, hh, h1, h2, h3, h4⟩
  · simp [row] at hp
  · simp only [row] at hv hu
    have hx : xs = [] := by cases xs with
      | nil => rfl
      | cons a r => simp [iv] at hu
    rw [hx] at hk; simp at hk
  · simp only [row] at hv h1 h4 hh
    rw [iv_len] at hv h1 h4
    have hblk : g < w.heap.size := (Array.getElem?_eq_some_iff.1 hh).1
    have hH : Go.Sort.Holds (Value.int .i64) w g 0 xs.toArray := holds_of_blockI hh h4
    have hc := AnyG.slices_Delete_int Tryz.mDelete g 0 cap k (k + 1) xs w hH (by omega) (by unfold maxLen at h2; omega) (by omega) (by omega)
    rw [show ((k + 1 : Nat) : Int) = (k : Int) + 1 by omega, show k + 1 - k = 1 by omega] at hc
    subst hv
    refine Calls.mono hc ?_
    rintro e w' ⟨rfl, q, rfl⟩
    refine ⟨_, rfl, ?_⟩
    have key : ∀ (W : World) (L' : List Ent), St B w0 (Go.Sort.grow W #[]) L' → St B w0 W L' := fun W L' h => by rwa [dl_grow] at h
    refine key _ _ ?_
    clear key
    obtain ⟨ys, hys⟩ : ∃ ys, ys = xs.take k ++ xs.drop (k + 1) := ⟨_, rfl⟩
    have hyl : ys.length + 1 = xs.length := by rw [hys]; simp; omega
    rw [← hys]
    have hrep : List.replicate 1 (0 : Int) = [0] := rfl
    rw [hrep, show xs.length - 1 = ys.length by omega]
    have hlen : (ys ++ [(0 : Int)]).length = xs.length := by simp; omega
    refine hS.put i hi ?_ (row 2 (.slice (some ⟨g, 0, none⟩) ys.length cap) (iv ys)) (.inr (.inr ⟨rfl, g, cap, _, ?_, hB, heap_sortedI _ hh, ?_, h2, ?_, ?_⟩)) (.inl rfl)
    · exact grownBy_sortedI _
    · simp [row, iv_len]
    · simp [row, iv_len]; omega
    · simp [Go.Sort.putCells, h3]
    · have := take_putCellsI cur (ys ++ [(0 : Int)]) (by omega)
      rw [hlen] at this
      have h5 := congrArg (List.take ys.length) this
      have e5 : List.take ys.length (List.map (Value.int .i64) (ys ++ [(0 : Int)])) = List.map (Value.int .i64) ys := by rw [List.map_append, List.take_left' (by simp)]
      rw [List.take_take, Nat.min_eq_left (by omega), e5] at h5
      simpa [row, iv] using h5


theorem fctl_succ (n : Nat) : fctl (n + 1) = (n + 1) * fctl n := rfl
set_option maxHeartbeats 4000000 in
set_option maxRecDepth 100000 in
theorem factorial_c (n : Nat) (w : World) (hn : n ≤ 12) : Calls Tryz.prog 140 #[.int .i64 n] w fun e w' => e = .returned (.int .i64 (fctl n : Nat)) ∧ w = w' := by
  have H1 := Lib.hid (show n ≤ 1 → fctl n = 1 by intro h; rcases n with _ | _ | n <;> first | rfl | omega)
  have H0 := Lib.hid (show fctl 1 = 1 from rfl)
  have HS := fun j => Lib.hid (fctl_succ j)
  have HB := fun j (h : j ≤ 12) => Lib.hid (fctl_12 h)
  generalize fctl = f at *
  go_enter Tryz.func140, Tryz.ntmps140
  go_wp2_with fail
  go_loop [3, 4] (fun q k => ∃ j F : Nat, 1 ≤ j ∧ (j ≤ n ∨ j = 1) ∧ k = .int .i64 ((j : Int) + 1) ∧ Hid (F = f j) ∧ q = .int .i64 (F : Nat)) (fun _ k => n + 1 - (intOf k).toNat)
  case atStart => exact ⟨1, 1, by omega, by omega, rfl, H0.out.symm, rfl⟩
  case round =>
    obtain ⟨j, F, h1, hj, rfl, hF, rfl⟩ := hrel
    by_cases hlt : j + 1 ≤ n
    · obtain ⟨P, hP⟩ : ∃ P, P = f (j + 1) := ⟨_, rfl⟩
      have hb := (HB (j + 1) (by omega)).out
      rw [← hP] at hb
      have hm : (F : Int) * ((j : Int) + 1) = (P : Int) := by rw [hP, (HS j).out, hF.out, Int.natCast_mul, Int.mul_comm]; rfl
      have HP := Lib.hid hP
      clear hP
      go_wp2_with fail
      go_round
      case rel => exact ⟨j + 1, P, by omega, by omega, by go_num, HP.out, rfl⟩
      case measure => simp [intOf]; omega
    · have He := Lib.hid (show F = f n by
        rcases hj with h | h
        · rw [hF.out, show j = n by omega]
        · subst h; rw [hF.out, H0.out, H1.out (by omega)])
      obtain rfl := He.out
      go_wp2_with fail
      go_ret
      exact ⟨rfl, rfl⟩
set_option maxHeartbeats 4000000 in
set_option maxRecDepth 100000 in
theorem Unrank_c (xs : List Int) (w : World) (hp : IsP xs) (h12 : xs.length ≤ 12) : Calls Tryz.prog 64 #[.int .i64 xs.length, .int .i64 (rkL xs : Nat)] w (MakesLK w xs 0) := by
  have hlt0 := rkL_lt xs
  have hB := fctl_12 h12
  have HF := fun (m : Nat) W (h : m ≤ 12) => Lib.hid (factorial_c m W h)
  have Hn := fun W => HF xs.length W h12
  have HI := fun W => Lib.hid (ident_c xs.length W (by omega))
  have Hpw := Lib.hid (iot_pw xs.length)
  have Hpm := Lib.hid (show (iot xs.length).Perm (xs.drop 0) by rw [List.drop_zero]; exact hp.perm.symm)
  have i1 := inB_true (n := (xs.length : Int)) (a := 0) (b := 12) ⟨by omega, by omega⟩
  have i2 := inB_true (n := ((rkL xs : Nat) : Int)) (a := 0) (b := (fctl xs.length : Nat) - 1) ⟨by omega, by omega⟩
  have Hst := Lib.hid (show rkL (xs.drop 0) = rkL xs by rw [List.drop_zero])
  have Hdv := fun t (h : t < xs.length) => Lib.hid (show rkL (xs.drop t) / fctl (xs.length - 1 - t) = lowN (nth xs t) (xs.drop (t + 1)) ∧ rkL (xs.drop t) % fctl (xs.length - 1 - t) = rkL (xs.drop (t + 1)) by
    have := rkL_div (nth xs t) (xs.drop (t + 1))
    rw [← drop_nth h, List.length_drop, show xs.length - (t + 1) = xs.length - 1 - t by omega] at this
    exact this)
  have Hle := fun t => Lib.hid (show rkL (xs.drop t) ≤ 479001600 by
    have := rkL_lt (xs.drop t)
    have := fctl_12 (n := (xs.drop t).length) (by rw [List.length_drop]; omega)
    omega)
  have Hun := fun t (h : t < xs.length) (L : List Int) (hs : L.Pairwise (· < ·)) (hpm : L.Perm (xs.drop t)) => Lib.hid (un_step (x := nth xs t) (r := xs.drop (t + 1)) hs (by rw [← drop_nth h]; exact hpm))
  have HB := fun m (h : m ≤ 12) => Lib.hid (fctl_12 h)
  have HP := fun m => Lib.hid (fctl_pos m)
  have Hcut := fun t (h : t < xs.length) => Lib.hid (take_nth h)
  generalize hR : rkL xs = R at *
  generalize fctl = f at *
  generalize hFn : f xs.length = Fn at *
  clear hFn hR
  go_enter Tryz.func64, Tryz.ntmps64
  go_wp2_with fail
  refine (within_c _ _ _ _).mono ?_
  rw [i1]
  rintro e w1 ⟨rfl, rfl⟩
  go_wp2_with (first
    | (have hz := hz2; clear hz; go_at_call 88; refine (within_c _ _ _ _).mono ?_; rw [i2]; rintro e w3 ⟨rfl, rfl⟩)
    | (go_at_call 140; refine (Hn _).out.mono ?_; rintro e w2 ⟨rfl, rfl⟩; have hz2 : True := trivial))
  refine (HI _).out.mono ?_
  rintro e w4 ⟨l0, rfl, h4⟩
  have hS4 := h4.emp
  clear h4
  go_wp2_with fail
  go_loopw [1, 6, 7, 8, 9] (fun rk lf p kk _ wr => ∃ (t : Nat) (z : Int) (L : List Int) (Q : Nat), t ≤ xs.length ∧ z + 1 + t = xs.length ∧ kk = .int .i64 z ∧ rk = .int .i64 Q ∧ Hid (Q = rkL (xs.drop t)) ∧ Hid (L.Pairwise (· < ·)) ∧ Hid (L.Perm (xs.drop t)) ∧ St w.heap.size w wr [row 2 lf (iv L), row 2 p (iv (xs.take t))]) (fun _ _ _ kk _ _ => ((intOf kk) + 1).toNat)
  case atStart => exact ⟨0, (xs.length : Int) - 1, _, R, by omega, by omega, rfl, rfl, Hst.out.symm, Hpw.out, Hpm.out, by rw [List.take_zero]; exact hS4⟩
  case round =>
    clear hS4
    obtain ⟨t, z, L, Q, ht, hz, rfl, rfl, hQ, hs, hpm, hS⟩ := hrel
    by_cases hz0 : 0 ≤ z
    · obtain ⟨m, rfl⟩ := Int.eq_ofNat_of_zero_le hz0
      have htl : t < xs.length := by omega
      have hm : xs.length - 1 - t = m := by omega
      have hu := (Hun t htl L hs.out hpm.out).out
      have hd := (Hdv t htl).out
      rw [hm, ← hQ.out] at hd
      have hQle : Q ≤ 479001600 := by rw [hQ.out]; exact (Hle t).out
      have Hf := fun W => HF m W (by omega)
      have hFp := (HP m).out
      have hFb := (HB m (by omega)).out
      have Hct := Hcut t htl
      have Hll := Lib.hid (show L.length = xs.length - t by rw [hpm.out.length_eq, List.length_drop])
      generalize f m = F at *
      generalize hA : lowN (nth xs t) (xs.drop (t + 1)) = A at *
      obtain ⟨Q2, hQ2⟩ : ∃ Q2, Q2 = rkL (xs.drop (t + 1)) := ⟨_, rfl⟩
      rw [← hQ2] at hd
      have hQ2le : Q2 ≤ 479001600 := by rw [hQ2]; exact (Hle (t + 1)).out
      have q2 : (Q : Int) / F = A := by rw [← Int.natCast_ediv, hd.1]
      have q4 : (Q : Int) % F = Q2 := by rw [← Int.natCast_emod, hd.2]
      have q1 : (Q : Int).tdiv F = A := by rw [Int.tdiv_eq_ediv_of_nonneg (by omega)]; exact q2
      have q3 : (Q : Int).tmod F = Q2 := by rw [Int.tmod_eq_emod_of_nonneg (by omega)]; exact q4
      have f0 : ((F : Int) == 0) = false := eq_f (by omega)
      have f1 : ¬ ((F : Int) = 0) := by omega
      have hAl := hu.1
      have hcA := (hS.rdI 0 rfl).cell A hAl
      rw [hu.2.1] at hcA
      have hxA := (hS.rdI 0 rfl).ix
      have Hs' := Lib.hid hu.2.2.1
      have Hp' := Lib.hid hu.2.2.2
      have HQ2 := Lib.hid hQ2
      have Hmt := Lib.hid hz
      have hmb : m ≤ 12 := by omega
      have hLs : L.length ≤ 12 := by rw [Hll.out]; omega
      have Htk := Lib.hid (show (xs.take t).length < 4294967296 by rw [List.length_take]; omega)
      clear hd hu hQ2 hA hQ hz hm hpm hs
      generalize nth xs t = x at *
      go_wp2_with (first
        | (go_at_call 141; refine (Delete_c hS2 0 rfl (by omega) A hAl).mono ?_; rintro e w6 ⟨l2, rfl, hS6⟩)
        | (at_builtin; refine appI hS 1 rfl Htk.out rfl _ _ rfl rfl _ rfl ?_; intro p2 w5 hS2; simp only [List.set_cons_zero, List.set_cons_succ] at hS2)
        | (go_at_call 140; refine (Hf _).out.mono ?_; rintro e w2 ⟨rfl, rfl⟩))
      simp only [List.set_cons_zero] at hS6
      rw [← Hct.out] at hS6
      go_roundw
      case rel => exact ⟨t + 1, (m : Int) - 1, _, Q2, by omega, by have := Hmt.out; omega, by go_num, rfl, HQ2.out, Hs'.out, Hp'.out, hS6⟩
      case measure => simp [intOf]
    · obtain rfl : t = xs.length := by omega
      rw [List.take_length] at hS
      go_wp2_with fail
      go_ret2
      exact ⟨_, rfl, hS.sub (List.sublist_cons_self _ _)⟩

end Go.Proofs.YtlmbaeaakpmhnaaGreat
end
