/- Walks: squares modulo a number, primitive roots. -/
import Derived.Test.YtonmggppfopidaaPRoot
import Derived.Test.YtonmggppfopidaaNum3
import Derived.Test.YtonmggppfopidaaDrw2
namespace Go.Proofs.Ytonmggppfopidaa
set_option linter.unusedSimpArgs false
set_option linter.unusedVariables false
open Go.RowKit

theorem IsSquareMod_no (a m : Int) (w : World) (hr : ¬ Res a m) :
    Calls Try.prog 37 #[.int .i64 a, .int .i64 m] w fun e w' => e = .returned (.bool false) ∧ w = w' := by
  go_enter Try.func37, Try.ntmps37
  go_wp2_with fail
  refine (res_no hr _).mono ?_
  rintro e1 w1 ⟨rfl, rfl⟩
  go_wp2_with fail
  go_ret
  exact ⟨rfl, rfl⟩

set_option maxHeartbeats 2000000 in
set_option maxRecDepth 100000 in
theorem IsSquareMod_c (a m : Int) (w : World) (hr : Res a m) (ha : a ≠ 0) :
    Calls Try.prog 37 #[.int .i64 a, .int .i64 m] w fun e w' => e = .returned (.bool (isq a m)) ∧ w = w' := by
  obtain ⟨r1, r2, r3, r4⟩ := id hr
  have fm : (m == 0) = false := eq_f (by omega)
  have fa := eq_f ha
  go_enter Try.func37, Try.ntmps37
  go_wp2_with fail
  refine (res_yes hr _).mono ?_
  rintro e1 w1 ⟨rfl, rfl⟩
  go_wp2_with fail
  clear ha
  go_loop [5] (fun x => ∃ k : Nat, x = .int .i64 k ∧ (k : Int) ≤ m ∧ Hid (∀ j : Nat, j < k → (j : Int) * j % m ≠ a)) (fun x => (m - intOf x).toNat)
  case atStart => exact ⟨0, rfl, by omega, fun j h => by omega⟩
  case round =>
    obtain ⟨k, rfl, hk, hI⟩ := hrel
    by_cases hlt : (k : Int) < m
    · obtain ⟨p1, p2⟩ := mul_bd (a := (k : Int)) (b := (k : Int)) (by omega) (by omega) (by omega) (by omega)
      by_cases hx : (k : Int) * k % m = a
      · have fx := eq_t hx
        have Hx := Lib.hid hx; clear hx
        go_wp2_with fail
        go_ret
        exact ⟨ret_bool (isq_iff.2 ⟨k, by omega, hlt, Hx.out⟩).symm, rfl⟩
      · have fx := eq_f hx
        have Hx := Lib.hid hx; clear hx
        go_wp2_with fail
        go_round
        case rel => exact ⟨k + 1, by go_num, by omega, fun j h => by
          by_cases e : j = k
          · subst e; exact Hx.out
          · exact hI.out j (by omega)⟩
        case measure => simp [intOf]; omega
    · go_wp2_with fail
      go_ret
      refine ⟨ret_bool ?_, rfl⟩
      symm
      cases hq : isq a m with
      | false => rfl
      | true =>
        obtain ⟨x, x0, x1, hx⟩ := isq_iff.1 hq
        obtain ⟨x, rfl⟩ := Int.eq_ofNat_of_zero_le x0
        exact absurd hx (hI.out x (by omega))

def sqTo (p : Int) (k : Nat) : List Int := ((List.range k).map fun (x : Nat) => (x : Int)).filter fun a => decide (a ≠ 0) && isq a p
theorem sqTo_1 (p : Int) : sqTo p 1 = [] := by simp [sqTo]
theorem sqTo_succ {p : Int} {k : Nat} (hk : 1 ≤ k) : sqTo p (k + 1) = if isq k p = true then sqTo p k ++ [(k : Int)] else sqTo p k := by
  unfold sqTo
  rw [List.range_succ, List.map_append, List.filter_append]
  have hk0 : (k : Int) ≠ 0 := by omega
  by_cases h : isq k p = true
  · rw [if_pos h]; simp [h, hk0]; omega
  · rw [if_neg h]
    have h' : isq k p = false := by simpa using h
    simp [h']
theorem sqTo_len (p : Int) (k : Nat) : (sqTo p k).length ≤ k := by
  unfold sqTo
  have := List.length_filter_le (fun a => decide (a ≠ 0) && isq a p) ((List.range k).map fun (x : Nat) => (x : Int))
  simpa using this

set_option maxHeartbeats 2000000 in
set_option maxRecDepth 100000 in
theorem SquaresMod_c (m : Int) (w : World) (m1 : 1 ≤ m) (m2 : m ≤ 1000) : Calls Try.prog 36 #[.int .i64 m] w (MakesI w (sqs m)) := by
  have hS1 := (St.refl w).emp
  simp only [List.nil_append] at hS1
  have him := Lib.hid (inB_true (n := m) (a := 1) (b := 1000) ⟨m1, m2⟩)
  go_enter Try.func36, Try.ntmps36
  go_wp2_with fail
  refine (isModulus_c _ _).mono ?_
  rw [him.out]
  rintro e w1 ⟨rfl, rfl⟩
  go_wp2_with fail
  go_loopw [3, 4] (fun o a wr => ∃ k : Nat, 1 ≤ k ∧ (k : Int) ≤ m ∧ a = .int .i64 k ∧ St w.heap.size w wr [row 2 o (iv (sqTo m k))]) (fun _ a _ => (m - intOf a).toNat)
  case atStart => exact ⟨1, by omega, by omega, rfl, by rw [sqTo_1]; exact hS1⟩
  case round =>
    obtain ⟨k, k1, k2, rfl, hS⟩ := hrel
    by_cases hlt : (k : Int) < m
    · have hs := Lib.hid (sqTo_succ (p := m) k1)
      have hl := sqTo_len m k
      have hres : Res (k : Int) m := ⟨m1, m2, by omega, hlt⟩
      have hc := fun W => Lib.hid (IsSquareMod_c (k : Int) m W hres (by omega))
      cases hq : isq k m
      · have hs' : Hid (sqTo m (k + 1) = sqTo m k) := by unfold Hid; rw [hs.out, if_neg (by rw [hq]; simp)]
        have Hq := Lib.hid hq; clear hq
        go_wp2_with fail
        refine (hc _).out.mono ?_
        rw [Hq.out]
        rintro e w2 ⟨rfl, rfl⟩
        go_wp2_with fail
        go_roundw
        case rel => exact ⟨k + 1, by omega, by omega, by go_num, by rw [hs'.out]; exact hS⟩
        case measure => simp [intOf]; omega
      · have hs' : Hid (sqTo m (k + 1) = sqTo m k ++ [(k : Int)]) := by unfold Hid; rw [hs.out, if_pos hq]
        have Hq := Lib.hid hq; clear hq
        go_wp2_with fail
        refine (hc _).out.mono ?_
        rw [Hq.out]
        rintro e w2 ⟨rfl, rfl⟩
        go_wp2_with (at_builtin; refine appI hS 0 rfl (by omega) rfl _ _ rfl rfl _ rfl ?_; intro v3 w3 hS3)
        go_roundw
        case rel => exact ⟨k + 1, by omega, by omega, by go_num, by rw [hs'.out]; exact hS3⟩
        case measure => simp [intOf]; omega
    · go_wp2_with fail
      go_ret
      refine ⟨_, rfl, ?_⟩
      have e : sqs m = sqTo m k := by
        obtain rfl : m = k := by omega
        simp [sqs, sqTo]
      rw [e]; exact hS

def RootPost (w : World) (p : Int) (e : Ending) (w' : World) : Prop := ∃ g : Int, Root p g ∧ e = .returned (.tuple #[.int .i64 g, .int .i64 0]) ∧ St w.heap.size w w' []

/-- the order of a primitive root is found -/
theorem ord_root {p g x : Int} (hp : 2 ≤ p) (hg : Root p g) (x1 : 1 ≤ x) (hx : pw g x p = 1 % p) (hm : ∀ y : Int, 1 ≤ y → y < x → pw g y p ≠ 1 % p) : x = p - 1 := by
  obtain ⟨_, _, g3, g4⟩ := hg
  have h1 : ¬ x < p - 1 := fun h => g4 x x1 h hx
  have h2 : ¬ p - 1 < x := fun h => hm (p - 1) (by omega) h g3
  omega

set_option maxHeartbeats 2000000 in
set_option maxRecDepth 100000 in
theorem PrimitiveRoot_no1 (p : Int) (w : World) (h : 1000 < p) : Calls Try.prog 35 #[.int .i64 p] w (Gives2I w 0 2) := by
  go_enter Try.func35, Try.ntmps35
  go_wp2_with fail
  go_ret2
  exact ⟨rfl, St.refl _⟩
set_option maxHeartbeats 2000000 in
set_option maxRecDepth 100000 in
theorem PrimitiveRoot_no2 (p : Int) (w : World) (h : p ≤ 1000) (hp : isPr p = false) : Calls Try.prog 35 #[.int .i64 p] w (Gives2I w 0 2) := by
  go_enter Try.func35, Try.ntmps35
  go_wp2_with fail
  refine (IsPrime_c p w).mono ?_
  rw [hp]
  rintro e w1 ⟨rfl, h1⟩
  go_wp2_with fail
  go_ret2
  exact ⟨rfl, h1⟩
set_option maxHeartbeats 2000000 in
set_option maxRecDepth 100000 in
theorem PrimitiveRoot_c (p : Int) (w : World) (h : p ≤ 1000) (hp : isPr p = true) (hP : Pr p) : Calls Try.prog 35 #[.int .i64 p] w (RootPost w p) := by
  obtain ⟨g, hg⟩ := root_ex hP h
  have g1 := hg.1
  have g2 := hg.2.1
  have p2 := hP.1
  have HP := Lib.hid hp
  have Hg := Lib.hid hg
  clear hg hp
  go_enter Try.func35, Try.ntmps35
  go_wp2_with fail
  refine (IsPrime_c p w).mono ?_
  rw [HP.out]
  rintro e w1 ⟨rfl, h1⟩
  go_wp2_with fail
  go_loopw [4, 5, 6] (fun a _ _ wr => ∃ k : Int, 1 ≤ k ∧ k ≤ g ∧ a = .int .i64 k ∧ St w.heap.size w wr []) (fun a _ _ _ => (g - intOf a).toNat)
  case atStart => exact ⟨1, by omega, by omega, rfl, h1⟩
  case round =>
    obtain ⟨k, k1, k2, rfl, hS⟩ := hrel
    have hres : Res k p := ⟨by omega, h, by omega, by omega⟩
    go_wp2_with fail
    refine (OrderMod_c k p _ hres).mono ?_
    rintro e w2 ⟨h2, ⟨x, rfl, x1, x2, x3, x4⟩ | ⟨rfl, x3⟩⟩
    · have hS2 := hS.call0 h2
      have X3 := Lib.hid x3
      have X4 := Lib.hid x4
      clear x3 x4
      by_cases hx : x = p - 1
      · have fx := eq_t hx
        have Hx := Lib.hid hx
        clear hx
        go_wp2_with fail
        go_ret2
        refine ⟨k, ⟨k1, by omega, by rw [← Hx.out]; exact X3.out, fun y y1 y2 => X4.out y y1 (by rw [Hx.out]; exact y2)⟩, rfl, hS2⟩
      · have fx := eq_f hx
        have hkg : k < g := by
          apply Int.lt_of_not_ge; intro hge
          have e : k = g := by omega
          subst e
          exact hx (ord_root p2 Hg.out x1 X3.out X4.out)
        clear hx
        go_wp2_with fail
        go_roundw
        case rel => exact ⟨k + 1, by omega, by omega, rfl, hS2⟩
        case measure => simp [intOf]; omega
    · have hS2 := hS.call0 h2
      have hkg : k < g := by
        apply Int.lt_of_not_ge; intro hge
        have e : k = g := by omega
        subst e
        exact x3 (p - 1) (by omega) (by omega) Hg.out.2.2.1
      clear x3
      go_wp2_with fail
      go_roundw
      case rel => exact ⟨k + 1, by omega, by omega, rfl, hS2⟩
      case measure => simp [intOf]; omega

set_option maxHeartbeats 2000000 in
set_option maxRecDepth 100000 in
theorem DrawPrimitiveRoot_c (w : World) (cv : Value) (bs : List UInt8) (hb : RdB w cv bs) :
    Calls Try.prog 34 #[cv] w (Some1 fun w' => St w.heap.size w w' []) := by
  go_enter Try.func34, Try.ntmps34
  go_wp2_with fail
  refine (l00From_c w cv bs hb).mono ?_
  rintro e w1 ⟨rfl, h1⟩
  go_wp2_with fail
  refine (one_c w w1 cv bs _ _ [] 3 hb h1 (by omega)).mono ?_
  rintro e w2 ⟨x, rfl, h2⟩
  cases x
  · go_wp2_with fail
    refine (among_lit [2, 3, 5, 7, 11, 13, 17, 19, 23, 29, 31, 41, 71, 191, 997, 1009, 9, 1] w w2 cv bs _ _ [] hb h2 (by decide) (by omega)).mono ?_
    rintro e w3 ⟨y, _, rfl, h3⟩
    go_wp2_with fail
    go_ret
    exact ⟨_, rfl, h3.st⟩
  · go_wp2_with fail
    refine (l02DrawNumber_c w w2 cv bs _ _ [] hb h2 (by omega)).mono ?_
    rintro e w3 ⟨y, rfl, h3⟩
    go_wp2_with fail
    go_ret
    exact ⟨_, rfl, h3.st⟩
end Go.Proofs.Ytonmggppfopidaa
