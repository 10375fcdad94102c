/- The texts of this claim, run 10: Tr22 PTs2. -/
import Derived.Test.YtlmbaeaakpmhnaaGreatK6
import Derived.Test.YtlmbaeaakpmhnaaGreatK8
import Derived.Test.YtlmbaeaakpmhnaaGreatK9

section
/- Walks: the product of a triple system with the one of order 3. -/
namespace Go.Proofs.YtlmbaeaakpmhnaaGreat
set_option linter.unusedSimpArgs false
set_option linter.unusedVariables false
open Go.RowKit
attribute [local go_sem ↓] Go.wp_at_zero Go.wp_at_succ

def pq (r : Nat) : List Int := ([[0, 1, 2], [0, 2, 1], [1, 0, 2], [1, 2, 0], [2, 0, 1], [2, 1, 0]] : List (List Int)).getD r []
theorem pq_ok {r : Nat} (h : r < 6) : ∃ a b c : Nat, pq r = [(a : Int), (b : Int), (c : Int)] ∧ a < 3 ∧ b < 3 ∧ c < 3 ∧ pats.take (3 + r + 1) = pats.take (3 + r) ++ [(a, b, c)] ∧ rkL (pq r) = r ∧ IsP (pq r) := by
  rcases (show r = 0 ∨ r = 1 ∨ r = 2 ∨ r = 3 ∨ r = 4 ∨ r = 5 by omega) with rfl | rfl | rfl | rfl | rfl | rfl
  · exact ⟨0, 1, 2, rfl, by decide, by decide, by decide, rfl, by decide, isP_of_perm (by decide)⟩
  · exact ⟨0, 2, 1, rfl, by decide, by decide, by decide, rfl, by decide, isP_of_perm (by decide)⟩
  · exact ⟨1, 0, 2, rfl, by decide, by decide, by decide, rfl, by decide, isP_of_perm (by decide)⟩
  · exact ⟨1, 2, 0, rfl, by decide, by decide, by decide, rfl, by decide, isP_of_perm (by decide)⟩
  · exact ⟨2, 0, 1, rfl, by decide, by decide, by decide, rfl, by decide, isP_of_perm (by decide)⟩
  · exact ⟨2, 1, 0, rfl, by decide, by decide, by decide, rfl, by decide, isP_of_perm (by decide)⟩
theorem pats_diag {y : Nat} (h : y < 3) : pats.take (y + 1) = pats.take y ++ [(y, y, y)] := by
  rcases (show y = 0 ∨ y = 1 ∨ y = 2 by omega) with rfl | rfl | rfl <;> rfl
def pdA (A : List (List Int)) (k : Nat) : List (List Int) := (A.take k).flatMap pdB
theorem pdA_succ {A : List (List Int)} {k : Nat} (h : k < A.length) : pdA A (k + 1) = pdA A k ++ pats.map (pdX (xat A k)) := by
  unfold pdA; rw [take_xat h, List.flatMap_append]; simp [pdB]
theorem pdA_len (A : List (List Int)) : ∀ k, k ≤ A.length → (pdA A k).length = 9 * k
  | 0, _ => rfl
  | k + 1, h => by rw [pdA_succ (by omega), List.length_append, pdA_len A k (by omega)]; simp [pats]; omega
def b3L : List (List Int) := [[0, 1, 2]]
theorem b3_ts : TS 3 b3L := by
  have := tsOk_ts (P := 3) (A := b3L) (by decide)
  exact this
set_option maxHeartbeats 32000000 in
set_option maxRecDepth 100000 in
theorem ProductTriples_c (P : Nat) (va vb : Value) (ua ub : List Value) (A : List (List Int)) (w : World) (hv : RII w va ua A) (hb : RII w vb ub b3L) (hA : TS P A) (h9 : P ≤ 9) :
    Calls Tryz.prog 21 #[dv P va, dv 3 vb] w (MakesD w (3 * P : Nat) (srtL (pdL P A)) 0) := by
  obtain ⟨a1, c1, hsh⟩ := hv.1.sl.sh
  rw [hv.2.1] at hsh
  subst hsh
  obtain ⟨a2, c2, hsh⟩ := hb.1.sl.sh
  rw [hb.2.1, show b3L.length = 1 from rfl] at hsh
  subst hsh
  have hAl := hA.few h9
  have p3 := hA.p3
  have hprod := hA.prod h9
  have hlen := (dOk_t hprod.ok).len
  rw [srtL_len] at hlen
  have HLen := Lib.hid hlen
  have HRw := Lib.hid (show ∀ xs ∈ pdL P A, xs.length ≤ 1048576 from fun xs hx => by rw [hprod.three xs ((srtL_perm _).mem_iff.2 hx)]; decide)
  have H3 := Lib.hid (fun k (hk : k < A.length) => three_of (hA.inc (xat_mem hk)) (hA.three _ (xat_mem hk)))
  have hS0 := (((St.refl w).newboxF 29 #[.int .i64 P, .slice a1 A.length c1]).newboxF 29 #[.int .i64 3, .slice a2 1 c2]).newboxF 29 #[.int .i64 0, .slice none 0 0]
  simp only [World.size_alloc] at hS0
  obtain ⟨LB, hLB⟩ : ∃ LB : List Ent, LB = [box 29 (w.heap.size + 1 + 1) [.int .i64 0, .slice none 0 0], box 29 (w.heap.size + 1) [.int .i64 3, .slice a2 1 c2], box 29 w.heap.size [.int .i64 P, .slice a1 A.length c1]] := ⟨_, rfl⟩
  rw [← hLB] at hS0
  have HB := Lib.hid (fun W X (h : St w.heap.size w W (X ++ LB)) => (show (W.cell? ⟨w.heap.size, 0, none⟩ = some (.int .i64 P) ∧ W.cell? ⟨w.heap.size, 1, none⟩ = some (.slice a1 A.length c1)) ∧ W.cell? ⟨w.heap.size + 1, 0, none⟩ = some (.int .i64 3) ∧ W.cell? ⟨w.heap.size + 1, 1, none⟩ = some (.slice a2 1 c2) from by
    have h' := h.sub (List.sublist_append_right _ _)
    rw [hLB] at h'
    exact ⟨⟨h'.bcell 2 rfl 0 rfl, h'.bcell 2 rfl 1 rfl⟩, h'.bcell 1 rfl 0 rfl, h'.bcell 1 rfl 1 rfl⟩))
  have KA := Lib.hid (fun W (h : RII W (.slice a1 A.length c1) ua A) => IsTripleSystem_c P (.slice a1 A.length c1) ua A W h hA)
  have KB := Lib.hid (fun W (h : RII W (.slice a2 1 c2) ub b3L) => IsTripleSystem_c 3 (.slice a2 1 c2) ub b3L W h b3_ts)
  have hixA := hv.ixe
  have hixB := hb.ixe
  have Hv := Lib.hid hv
  have Hb := Lib.hid hb
  have HLB := Lib.hid hLB
  have rb := Lib.hid (hb.row 0 (by decide))
  rw [show xat b3L 0 = [(0 : Int), 1, 2] from rfl] at rb
  have hrbx := rb.out.ixe
  obtain ⟨⟨z0, z1⟩, z2, z3⟩ := HB.out _ [] hS0
  unfold dv at KA KB ⊢
  clear hA hv hb hlen hprod hLB
  go_enter Tryz.func21, Tryz.ntmps21
  go_wp2_with fail
  refine (KA.out _ (hS0.oldII Hv.out)).mono ?_
  rintro e w1 ⟨rfl, h1⟩
  have hS1 := hS0.call0 h1
  clear h1 hS0 KA z0 z1 z2 z3
  obtain ⟨⟨z0, z1⟩, z2, z3⟩ := HB.out _ [] hS1
  go_wp2_with fail
  refine (KB.out _ (hS1.oldII Hb.out)).mono ?_
  rintro e w2 ⟨rfl, h2⟩
  have hS2 := hS1.call0 h2
  clear h2 hS1 KB z0 z1 z2 z3
  obtain ⟨⟨z0, z1⟩, z2, z3⟩ := HB.out _ [] hS2
  have v0 : IntKind.i64.wrap ((P : Int) * 3) = (P : Int) * 3 := IntWalk.i64_in _ (by omega)
  have f0 : ¬ (32 : Int) < (P : Int) * 3 := by omega
  have hS3 : St w.heap.size w w2 (own2 (.slice none 0 0) [] (pdA A 0) ++ LB) := (hS2.newnil 24).perm (by
    rw [show pdA A 0 = [] from rfl, own2_nil']
    exact List.perm_append_comm)
  clear hS2
  go_wp2_with fail
  clear z0 z1 z2 z3
  go_loopw [39, 7, 9, 10, 12, 13, 14, 15] (fun ki o _ _ _ _ _ _ wr => ∃ (k : Nat) (uo : List Value), ki = .int .i64 k ∧ k ≤ A.length ∧ Hid (uo.length = (pdA A k).length) ∧ St w.heap.size w wr (own2 o uo (pdA A k) ++ LB)) (fun ki _ _ _ _ _ _ _ _ => A.length - (intOf ki).toNat)
  case atStart => exact ⟨0, [], rfl, by omega, rfl, hS3⟩
  case round =>
    clear hS3
    obtain ⟨k, uo, rfl, hk, hlo, hS⟩ := hrel
    by_cases hkA : k < A.length
    · have hki : (k : Int) < (A.length : Int) := by omega
      have xk := hixA (k : Int) k rfl hkA
      have ck := (hS.oldII Hv.out).cell k hkA
      obtain ⟨x0, x1, x2, hx01, hx12, hx2P, hxe⟩ := H3.out k hkA
      have rk := Lib.hid (Hv.out.row k hkA)
      rw [hxe] at rk
      have HXs := Lib.hid (pdA_succ hkA)
      have hlX := pdA_len A k (by omega)
      have hX9 : 9 * k ≤ 108 := by omega
      rw [hxe] at HXs
      have HBx : ∀ t, pdX [(x0 : Int), (x1 : Int), (x2 : Int)] t = trp (3 * x0 + t.1) (3 * x1 + t.2.1) (3 * x2 + t.2.2) := fun t => rfl
      have HBx := Lib.hid HBx
      generalize vat ua k = vx at *
      obtain ⟨X, hX⟩ : ∃ X, X = pdA A k := ⟨_, rfl⟩
      rw [← hX] at hS hlo HXs hlX
      obtain ⟨B, hB⟩ : ∃ B, B = [(x0 : Int), (x1 : Int), (x2 : Int)] := ⟨_, rfl⟩
      rw [← hB] at HXs HBx
      have i0 := rk.out.ixe 0 0 rfl (by simp)
      have i1 := rk.out.ixe 1 1 rfl (by simp)
      have i2 := rk.out.ixe 2 2 rfl (by simp)
      have RC := Lib.hid (fun W L (h : St w.heap.size w W L) => (show W.cell? (el vx 0) = some (.int .i64 x0) ∧ W.cell? (el vx 1) = some (.int .i64 x1) ∧ W.cell? (el vx 2) = some (.int .i64 x2) from by
        have hr := h.oldI rk.out
        exact ⟨hr.cell 0 (by simp), hr.cell 1 (by simp), hr.cell 2 (by simp)⟩))
      have hx32 : x2 ≤ 8 ∧ x1 ≤ 8 ∧ x0 ≤ 8 := by omega
      have m0 : IntKind.i64.wrap (3 * (x0 : Int)) = 3 * (x0 : Int) := IntWalk.i64_in _ (by omega)
      have m1 : IntKind.i64.wrap (3 * (x1 : Int)) = 3 * (x1 : Int) := IntWalk.i64_in _ (by omega)
      have m2 : IntKind.i64.wrap (3 * (x2 : Int)) = 3 * (x2 : Int) := IntWalk.i64_in _ (by omega)
      have hS1 : St w.heap.size w wr (own2 u7 uo (X ++ (pats.take 0).map (pdX B)) ++ LB) := by rw [List.take_zero, List.map_nil, List.append_nil]; exact hS
      have hlo1 : Hid (uo.length = (X ++ (pats.take 0).map (pdX B)).length) := by rw [List.take_zero, List.map_nil, List.append_nil]; exact hlo
      clear hS hX hB hxe
      go_wp2_with fail
      clear ck
      go_loopw [44, 7, 10] (fun yi o _ wr => ∃ (y : Nat) (uo : List Value), yi = .int .i64 y ∧ y ≤ 3 ∧ Hid (uo.length = (X ++ (pats.take y).map (pdX B)).length) ∧ St w.heap.size w wr (own2 o uo (X ++ (pats.take y).map (pdX B)) ++ LB)) (fun yi _ _ _ => 3 - (intOf yi).toNat)
      case atStart => exact ⟨0, uo, rfl, by omega, hlo1, hS1⟩
      case round =>
        clear hS1 hlo1
        obtain ⟨y, uo, rfl, hy, hlo, hS⟩ := hrel
        by_cases hy3 : y < 3
        · have hyi : (y : Int) < 3 := by omega
          have n0 : IntKind.i64.wrap (3 * (x0 : Int) + (y : Int)) = 3 * (x0 : Int) + (y : Int) := IntWalk.i64_in _ (by omega)
          have n1 : IntKind.i64.wrap (3 * (x1 : Int) + (y : Int)) = 3 * (x1 : Int) + (y : Int) := IntWalk.i64_in _ (by omega)
          have n2 : IntKind.i64.wrap (3 * (x2 : Int) + (y : Int)) = 3 * (x2 : Int) + (y : Int) := IntWalk.i64_in _ (by omega)
          have KT := fun W => Lib.hid (triple_n (3 * x0 + y) (3 * x1 + y) (3 * x2 + y) W (by omega) (by omega) (by omega))
          have Hst := Lib.hid (show X ++ (pats.take (y + 1)).map (pdX B) = X ++ (pats.take y).map (pdX B) ++ [trp (3 * x0 + y) (3 * x1 + y) (3 * x2 + y)] by rw [pats_diag hy3, List.map_append, List.map_singleton, HBx.out, List.append_assoc])
          have hul := Lib.hid (show uo.length < 4294967296 by rw [hlo.out, List.length_append, hlX, List.length_map, List.length_take]; omega)
          generalize trp (3 * x0 + y) (3 * x1 + y) (3 * x2 + y) = D at *
          simp only [Int.natCast_add, Int.natCast_mul, Int.cast_ofNat_Int] at KT
          obtain ⟨k0, k1, k2⟩ := RC.out _ _ hS
          go_wp2_with fail
          refine regionG (fun w' => w'.cell? (el vx 0) = some (.int .i64 x0) ∧ w'.cell? (el vx 1) = some (.int .i64 x1) ∧ w'.cell? (el vx 2) = some (.int .i64 x2)) 24 (by kernel_rfl) ⟨cell_dr k0, cell_dr k1, cell_dr k2⟩ (fun hHeld => ?_)
          refine takeP (i := 0) (v := ?_) rfl (by kernel_rfl) (fun _ _ _ h => h) (by rfl) ?_ (by assumption) ?_
          case refine_2 => (intro w'; go_simp; first | done | with_reducible rfl)
          try simp only [Act.put, List.setIfInBounds_toArray, List.set_cons_zero, List.set_cons_succ]
          refine takeP (i := 1) (v := ?_) rfl (by kernel_rfl) (fun _ _ _ h => h) (by rfl) ?_ (by assumption) ?_
          case refine_2 => (intro w'; go_simp; first | done | with_reducible rfl)
          try simp only [Act.put, List.setIfInBounds_toArray, List.set_cons_zero, List.set_cons_succ]
          refine takeP (i := 2) (v := ?_) rfl (by kernel_rfl) (fun _ _ _ h => h) (by rfl) ?_ (by assumption) ?_
          case refine_2 => (intro w'; go_simp; first | done | with_reducible rfl)
          try simp only [Act.put, List.setIfInBounds_toArray, List.set_cons_zero, List.set_cons_succ]
          refine takeP (i := 3) (v := ?_) rfl (by kernel_rfl) (fun _ _ _ h => h) (by rfl) ?_ (by assumption) ?_
          case refine_2 => (intro w'; go_simp; first | done | with_reducible rfl)
          try simp only [Act.put, List.setIfInBounds_toArray, List.set_cons_zero, List.set_cons_succ]
          refine takeH (i := 4) [5, 7, 22, 23] (v := ?_) rfl (by kernel_rfl) (fun _ _ _ h => h) (by rfl) ?_ (by assumption) ?_
          case refine_2 => (intro w' hSw; (try dsimp only at hSw); obtain ⟨q0, q1, q2⟩ := hSw; go_simp; first | done | with_reducible rfl)
          try simp only [Act.put, List.setIfInBounds_toArray, List.set_cons_zero, List.set_cons_succ]
          refine takeP (i := 5) (v := ?_) rfl (by kernel_rfl) (fun _ _ _ h => h) (by rfl) ?_ (by assumption) ?_
          case refine_2 => (intro w'; go_simp; first | done | with_reducible rfl)
          try simp only [Act.put, List.setIfInBounds_toArray, List.set_cons_zero, List.set_cons_succ]
          refine takeP (i := 6) (v := ?_) rfl (by kernel_rfl) (fun _ _ _ h => h) (by rfl) ?_ (by assumption) ?_
          case refine_2 => (intro w'; go_simp; first | done | with_reducible rfl)
          try simp only [Act.put, List.setIfInBounds_toArray, List.set_cons_zero, List.set_cons_succ]
          refine takeP (i := 7) (v := ?_) rfl (by kernel_rfl) (fun _ _ _ h => h) (by rfl) ?_ (by assumption) ?_
          case refine_2 => (intro w'; go_simp; first | done | with_reducible rfl)
          try simp only [Act.put, List.setIfInBounds_toArray, List.set_cons_zero, List.set_cons_succ]
          refine takeP (i := 8) (v := ?_) rfl (by kernel_rfl) (fun _ _ _ h => h) (by rfl) ?_ (by assumption) ?_
          case refine_2 => (intro w'; go_simp; first | done | with_reducible rfl)
          try simp only [Act.put, List.setIfInBounds_toArray, List.set_cons_zero, List.set_cons_succ]
          refine takeP (i := 9) (v := ?_) rfl (by kernel_rfl) (fun _ _ _ h => h) (by rfl) ?_ (by assumption) ?_
          case refine_2 => (intro w'; go_simp; first | done | with_reducible rfl)
          try simp only [Act.put, List.setIfInBounds_toArray, List.set_cons_zero, List.set_cons_succ]
          refine takeP (i := 10) (v := ?_) rfl (by kernel_rfl) (fun _ _ _ h => h) (by rfl) ?_ (by assumption) ?_
          case refine_2 => (intro w'; go_simp; first | done | with_reducible rfl)
          try simp only [Act.put, List.setIfInBounds_toArray, List.set_cons_zero, List.set_cons_succ]
          refine takeH (i := 11) [12, 14, 22, 23] (v := ?_) rfl (by kernel_rfl) (fun _ _ _ h => h) (by rfl) ?_ (by assumption) ?_
          case refine_2 => (intro w' hSw; (try dsimp only at hSw); obtain ⟨q0, q1, q2⟩ := hSw; go_simp; first | done | with_reducible rfl)
          try simp only [Act.put, List.setIfInBounds_toArray, List.set_cons_zero, List.set_cons_succ]
          refine takeP (i := 12) (v := ?_) rfl (by kernel_rfl) (fun _ _ _ h => h) (by rfl) ?_ (by assumption) ?_
          case refine_2 => (intro w'; go_simp; first | done | with_reducible rfl)
          try simp only [Act.put, List.setIfInBounds_toArray, List.set_cons_zero, List.set_cons_succ]
          refine takeP (i := 13) (v := ?_) rfl (by kernel_rfl) (fun _ _ _ h => h) (by rfl) ?_ (by assumption) ?_
          case refine_2 => (intro w'; go_simp; first | done | with_reducible rfl)
          try simp only [Act.put, List.setIfInBounds_toArray, List.set_cons_zero, List.set_cons_succ]
          refine takeP (i := 14) (v := ?_) rfl (by kernel_rfl) (fun _ _ _ h => h) (by rfl) ?_ (by assumption) ?_
          case refine_2 => (intro w'; go_simp; first | done | with_reducible rfl)
          try simp only [Act.put, List.setIfInBounds_toArray, List.set_cons_zero, List.set_cons_succ]
          refine takeP (i := 15) (v := ?_) rfl (by kernel_rfl) (fun _ _ _ h => h) (by rfl) ?_ (by assumption) ?_
          case refine_2 => (intro w'; go_simp; first | done | with_reducible rfl)
          try simp only [Act.put, List.setIfInBounds_toArray, List.set_cons_zero, List.set_cons_succ]
          refine takeP (i := 16) (v := ?_) rfl (by kernel_rfl) (fun _ _ _ h => h) (by rfl) ?_ (by assumption) ?_
          case refine_2 => (intro w'; go_simp; first | done | with_reducible rfl)
          try simp only [Act.put, List.setIfInBounds_toArray, List.set_cons_zero, List.set_cons_succ]
          refine takeP (i := 17) (v := ?_) rfl (by kernel_rfl) (fun _ _ _ h => h) (by rfl) ?_ (by assumption) ?_
          case refine_2 => (intro w'; go_simp; first | done | with_reducible rfl)
          try simp only [Act.put, List.setIfInBounds_toArray, List.set_cons_zero, List.set_cons_succ]
          refine takeH (i := 18) [19, 21, 22, 23] (v := ?_) rfl (by kernel_rfl) (fun _ _ _ h => h) (by rfl) ?_ (by assumption) ?_
          case refine_2 => (intro w' hSw; (try dsimp only at hSw); obtain ⟨q0, q1, q2⟩ := hSw; go_simp; first | done | with_reducible rfl)
          try simp only [Act.put, List.setIfInBounds_toArray, List.set_cons_zero, List.set_cons_succ]
          refine takeP (i := 19) (v := ?_) rfl (by kernel_rfl) (fun _ _ _ h => h) (by rfl) ?_ (by assumption) ?_
          case refine_2 => (intro w'; go_simp; first | done | with_reducible rfl)
          try simp only [Act.put, List.setIfInBounds_toArray, List.set_cons_zero, List.set_cons_succ]
          refine takeP (i := 20) (v := ?_) rfl (by kernel_rfl) (fun _ _ _ h => h) (by rfl) ?_ (by assumption) ?_
          case refine_2 => (intro w'; go_simp; first | done | with_reducible rfl)
          try simp only [Act.put, List.setIfInBounds_toArray, List.set_cons_zero, List.set_cons_succ]
          refine takeP (i := 21) (v := ?_) rfl (by kernel_rfl) (fun _ _ _ h => h) (by rfl) ?_ (by assumption) ?_
          case refine_2 => (intro w'; go_simp; first | done | with_reducible rfl)
          try simp only [Act.put, List.setIfInBounds_toArray, List.set_cons_zero, List.set_cons_succ]
          refine readyG (rs := [22]) (by kernel_rfl) (by simp) ?_
          refine AllG.cons rfl (fun K hK => ?_) AllG.nil
          go_simp
          try simp only [m0, m1, m2, n0, n1, n2]
          refine (KT _).out.mono ?_
          rintro e6 w6 ⟨u, rfl, h6⟩
          obtain ⟨ua, uc, hu⟩ := (h6.rdI 0 rfl).sl.sh
          generalize (iv D).length = dl at hu
          subst hu
          have hS6 := hS.drew.call h6
          have e0 := cell_keepT h6.below (cell_dr k0)
          have e1 := cell_keepT h6.below (cell_dr k1)
          have e2 := cell_keepT h6.below (cell_dr k2)
          refine hK.out _ _ ⟨e0, e1, e2⟩ (fun hHeld => ?_)
          clear hK K h6
          try simp only [Act.put, List.setIfInBounds_toArray, List.set_cons_zero, List.set_cons_succ]
          refine readyG (rs := [23]) (by kernel_rfl) (by simp) ?_
          refine AllG.cons rfl (fun K hK => ?_) AllG.nil
          go_simp
          refine hK.out _ _ ⟨cell_al e0, cell_al e1, cell_al e2⟩ (fun hHeld => ?_)
          clear hK K
          try simp only [Act.put, List.setIfInBounds_toArray, List.set_cons_zero, List.set_cons_succ]
          refine readyG (rs := [24]) (by kernel_rfl) (by simp) ?_
          refine AllG.last rfl (by kernel_rfl) (fun K hK => ?_) AllG.nil
          refine stepII hS6 0 rfl hul.out rfl (.tmp 47) (.tmp 70) rfl (by first | rfl | simp [Act.eval, Act.put]) _ rfl (by first | rfl | simp [Act.eval, Act.put]) ?_
          intro v8 w8 hS8
          refine hK.out _ _ ?_
          clear hK K
          try simp only [Act.put, List.setIfInBounds_toArray, List.set_cons_zero, List.set_cons_succ]
          refine readyG (rs := [25]) (by kernel_rfl) (by simp) ?_
          refine AllG.last rfl (by kernel_rfl) (fun K hK => ?_) AllG.nil
          go_simp
          refine hK.out _ _ ?_
          clear hK K
          try simp only [Act.put, List.setIfInBounds_toArray, List.set_cons_zero, List.set_cons_succ]
          refine doneG (by kernel_rfl) ?_ _
          refine NoPanic.normal ?_
          have hS9 := own2_snocP hlo.out hS8
          rw [← Hst.out] at hS9
          go_wp2_with fail
          go_roundw
          case rel => exact ⟨y + 1, _, by go_num, by omega, by rw [Hid, Hst.out, List.length_append, List.length_append, hlo.out]; rfl, hS9⟩
          case measure => simp [intOf]; omega
        · obtain rfl : y = 3 := by omega
          have hS4 : St w.heap.size w wr (own2 u7 uo (X ++ (pats.take (3 + 6 * 0)).map (pdX B)) ++ LB) := hS
          have hlo4 : Hid (uo.length = (X ++ (pats.take (3 + 6 * 0)).map (pdX B)).length) := hlo
          obtain ⟨⟨z0, z1⟩, z2, z3⟩ := HB.out _ _ hS
          clear hS hlo
          go_wp2_with fail
          clear z0 z1 z2 z3
          rw [show ((3 : Nat) : Int) = (3 : Int) from rfl]
          go_loopw [76, 7, 12, 13, 14, 15] (fun ji o _ _ _ _ wr => ∃ (j : Nat) (uo : List Value), ji = .int .i64 j ∧ j ≤ 1 ∧ Hid (uo.length = (X ++ (pats.take (3 + 6 * j)).map (pdX B)).length) ∧ St w.heap.size w wr (own2 o uo (X ++ (pats.take (3 + 6 * j)).map (pdX B)) ++ LB)) (fun ji _ _ _ _ _ _ => 1 - (intOf ji).toNat)
          case atStart => exact ⟨0, uo, rfl, by omega, hlo4, hS4⟩
          case round =>
            clear hS4 hlo4
            obtain ⟨j, uo, rfl, hj, hlo, hS⟩ := hrel
            by_cases hj1 : j < 1
            · obtain rfl : j = 0 := by omega
              rw [show ((0 : Nat) : Int) = (0 : Int) from rfl]
              have xj := hixB (0 : Int) 0 rfl (by decide)
              have cj := (hS.oldII Hb.out).cell 0 (by decide)
              have ib := fun (c : Nat) (hc : c < 3) => Lib.hid (hrbx (c : Int) c rfl (by simpa using hc))
              have cb := Lib.hid (fun W L (h : St w.heap.size w W L) (c : Nat) (hc : c < 3) => (show W.cell? (el (vat ub 0) c) = some (.int .i64 c) from by
                have hr := (h.oldI rb.out).cell c (by simpa using hc)
                rcases (show c = 0 ∨ c = 1 ∨ c = 2 by omega) with rfl | rfl | rfl <;> exact hr))
              have hS5 : St w.heap.size w wr (own2 u7 uo (X ++ (pats.take (3 + 0)).map (pdX B)) ++ LB) := hS
              have hlo5 : Hid (uo.length = (X ++ (pats.take (3 + 0)).map (pdX B)).length) := hlo
              generalize vat ub 0 = vy at *
              clear hS hlo
              go_wp2_with fail
              clear cj
              go_loopw [80, 7, 13, 14, 15] (fun ri o _ _ _ wr => ∃ (r : Nat) (uo : List Value), ri = .int .i64 r ∧ r ≤ 6 ∧ Hid (uo.length = (X ++ (pats.take (3 + r)).map (pdX B)).length) ∧ St w.heap.size w wr (own2 o uo (X ++ (pats.take (3 + r)).map (pdX B)) ++ LB)) (fun ri _ _ _ _ _ => 6 - (intOf ri).toNat)
              case atStart => exact ⟨0, uo, rfl, by omega, hlo5, hS5⟩
              case round =>
                clear hS5 hlo5
                obtain ⟨r, uo, rfl, hr6, hlo, hS⟩ := hrel
                by_cases hr : r < 6
                · have hri : (r : Int) < 6 := by omega
                  obtain ⟨a, b, c, hpq, ha, hb3, hc, htk, hrk, hip⟩ := pq_ok hr
                  have KU := fun W => Lib.hid (Unrank_c (pq r) W hip (by rw [hpq]; simp))
                  rw [hrk, show (pq r).length = 3 by rw [hpq]; rfl] at KU
                  have n0 : IntKind.i64.wrap (3 * (x0 : Int) + (a : Int)) = 3 * (x0 : Int) + (a : Int) := IntWalk.i64_in _ (by omega)
                  have n1 : IntKind.i64.wrap (3 * (x1 : Int) + (b : Int)) = 3 * (x1 : Int) + (b : Int) := IntWalk.i64_in _ (by omega)
                  have n2 : IntKind.i64.wrap (3 * (x2 : Int) + (c : Int)) = 3 * (x2 : Int) + (c : Int) := IntWalk.i64_in _ (by omega)
                  have KT := fun W => Lib.hid (triple_n (3 * x0 + a) (3 * x1 + b) (3 * x2 + c) W (by omega) (by omega) (by omega))
                  have Hst := Lib.hid (show X ++ (pats.take (3 + (r + 1))).map (pdX B) = X ++ (pats.take (3 + r)).map (pdX B) ++ [trp (3 * x0 + a) (3 * x1 + b) (3 * x2 + c)] by rw [show 3 + (r + 1) = 3 + r + 1 by omega, htk, List.map_append, List.map_singleton, HBx.out, List.append_assoc])
                  have hul := Lib.hid (show uo.length < 4294967296 by rw [hlo.out, List.length_append, hlX, List.length_map, List.length_take]; omega)
                  generalize trp (3 * x0 + a) (3 * x1 + b) (3 * x2 + c) = D at *
                  simp only [Int.natCast_add, Int.natCast_mul, Int.cast_ofNat_Int] at KT
                  rw [show ((3 : Nat) : Int) = (3 : Int) from rfl] at KU
                  have ja := (ib a ha).out
                  have jb := (ib b hb3).out
                  have jc := (ib c hc).out
                  rw [hpq] at KU
                  clear htk hrk hip hpq
                  go_wp2_with fail
                  refine (KU _).out.mono ?_
                  rintro e5 w5 ⟨vp, rfl, h5⟩
                  have rp := h5.rdI 0 rfl
                  have pi0 := rp.ixe 0 0 rfl (by simp)
                  have pi1 := rp.ixe 1 1 rfl (by simp)
                  have pi2 := rp.ixe 2 2 rfl (by simp)
                  have k6 := rp.cell 0 (by simp)
                  have k7 := rp.cell 1 (by simp)
                  have k8 := rp.cell 2 (by simp)
                  rw [show nth [(a : Int), (b : Int), (c : Int)] 0 = (a : Int) from rfl] at k6
                  rw [show nth [(a : Int), (b : Int), (c : Int)] 1 = (b : Int) from rfl] at k7
                  rw [show nth [(a : Int), (b : Int), (c : Int)] 2 = (c : Int) from rfl] at k8
                  have hS := hS.call0 h5.out
                  obtain ⟨k0, k1, k2⟩ := RC.out _ _ hS
                  have k3 := cb.out _ _ hS a ha
                  have k4 := cb.out _ _ hS b hb3
                  have k5 := cb.out _ _ hS c hc
                  clear h5 rp KU
                  go_wp2_with fail
                  refine regionG (fun w' => w'.cell? (el vx 0) = some (.int .i64 x0) ∧ w'.cell? (el vx 1) = some (.int .i64 x1) ∧ w'.cell? (el vx 2) = some (.int .i64 x2) ∧ w'.cell? (el vy a) = some (.int .i64 a) ∧ w'.cell? (el vy b) = some (.int .i64 b) ∧ w'.cell? (el vy c) = some (.int .i64 c) ∧ w'.cell? (el vp 0) = some (.int .i64 a) ∧ w'.cell? (el vp 1) = some (.int .i64 b) ∧ w'.cell? (el vp 2) = some (.int .i64 c)) 39 (by kernel_rfl) ⟨cell_dr k0, cell_dr k1, cell_dr k2, cell_dr k3, cell_dr k4, cell_dr k5, cell_dr k6, cell_dr k7, cell_dr k8⟩ (fun hHeld => ?_)
                  refine takeP (i := 0) (v := ?_) rfl (by kernel_rfl) (fun _ _ _ h => h) (by rfl) ?_ (by assumption) ?_
                  case refine_2 => (intro w'; go_simp; first | done | with_reducible rfl)
                  try simp only [Act.put, List.setIfInBounds_toArray, List.set_cons_zero, List.set_cons_succ]
                  refine takeP (i := 1) (v := ?_) rfl (by kernel_rfl) (fun _ _ _ h => h) (by rfl) ?_ (by assumption) ?_
                  case refine_2 => (intro w'; go_simp; first | done | with_reducible rfl)
                  try simp only [Act.put, List.setIfInBounds_toArray, List.set_cons_zero, List.set_cons_succ]
                  refine takeP (i := 2) (v := ?_) rfl (by kernel_rfl) (fun _ _ _ h => h) (by rfl) ?_ (by assumption) ?_
                  case refine_2 => (intro w'; go_simp; first | done | with_reducible rfl)
                  try simp only [Act.put, List.setIfInBounds_toArray, List.set_cons_zero, List.set_cons_succ]
                  refine takeP (i := 3) (v := ?_) rfl (by kernel_rfl) (fun _ _ _ h => h) (by rfl) ?_ (by assumption) ?_
                  case refine_2 => (intro w'; go_simp; first | done | with_reducible rfl)
                  try simp only [Act.put, List.setIfInBounds_toArray, List.set_cons_zero, List.set_cons_succ]
                  refine takeH (i := 4) [5, 12, 37, 38] (v := ?_) rfl (by kernel_rfl) (fun _ _ _ h => h) (by rfl) ?_ (by assumption) ?_
                  case refine_2 => (intro w' hSw; (try dsimp only at hSw); obtain ⟨q0, q1, q2, q3, q4, q5, q6, q7, q8⟩ := hSw; go_simp; first | done | with_reducible rfl)
                  try simp only [Act.put, List.setIfInBounds_toArray, List.set_cons_zero, List.set_cons_succ]
                  refine takeP (i := 5) (v := ?_) rfl (by kernel_rfl) (fun _ _ _ h => h) (by rfl) ?_ (by assumption) ?_
                  case refine_2 => (intro w'; go_simp; first | done | with_reducible rfl)
                  try simp only [Act.put, List.setIfInBounds_toArray, List.set_cons_zero, List.set_cons_succ]
                  refine takeP (i := 6) (v := ?_) rfl (by kernel_rfl) (fun _ _ _ h => h) (by rfl) ?_ (by assumption) ?_
                  case refine_2 => (intro w'; go_simp; first | done | with_reducible rfl)
                  try simp only [Act.put, List.setIfInBounds_toArray, List.set_cons_zero, List.set_cons_succ]
                  refine takeP (i := 7) (v := ?_) rfl (by kernel_rfl) (fun _ _ _ h => h) (by rfl) ?_ (by assumption) ?_
                  case refine_2 => (intro w'; go_simp; first | done | with_reducible rfl)
                  try simp only [Act.put, List.setIfInBounds_toArray, List.set_cons_zero, List.set_cons_succ]
                  refine takeP (i := 8) (v := ?_) rfl (by kernel_rfl) (fun _ _ _ h => h) (by rfl) ?_ (by assumption) ?_
                  case refine_2 => (intro w'; go_simp; first | done | with_reducible rfl)
                  try simp only [Act.put, List.setIfInBounds_toArray, List.set_cons_zero, List.set_cons_succ]
                  refine takeH (i := 9) [10, 11, 12, 37, 38] (v := ?_) rfl (by kernel_rfl) (fun _ _ _ h => h) (by rfl) ?_ (by assumption) ?_
                  case refine_2 => (intro w' hSw; (try dsimp only at hSw); obtain ⟨q0, q1, q2, q3, q4, q5, q6, q7, q8⟩ := hSw; go_simp; first | done | with_reducible rfl)
                  try simp only [Act.put, List.setIfInBounds_toArray, List.set_cons_zero, List.set_cons_succ]
                  refine takeP (i := 10) (v := ?_) rfl (by kernel_rfl) (fun _ _ _ h => h) (by rfl) ?_ (by assumption) ?_
                  case refine_2 => (intro w'; go_simp; first | done | with_reducible rfl)
                  try simp only [Act.put, List.setIfInBounds_toArray, List.set_cons_zero, List.set_cons_succ]
                  refine takeH (i := 11) [12, 37, 38] (v := ?_) rfl (by kernel_rfl) (fun _ _ _ h => h) (by rfl) ?_ (by assumption) ?_
                  case refine_2 => (intro w' hSw; (try dsimp only at hSw); obtain ⟨q0, q1, q2, q3, q4, q5, q6, q7, q8⟩ := hSw; go_simp; first | done | with_reducible rfl)
                  try simp only [Act.put, List.setIfInBounds_toArray, List.set_cons_zero, List.set_cons_succ]
                  refine takeP (i := 12) (v := ?_) rfl (by kernel_rfl) (fun _ _ _ h => h) (by rfl) ?_ (by assumption) ?_
                  case refine_2 => (intro w'; go_simp; first | done | with_reducible rfl)
                  try simp only [Act.put, List.setIfInBounds_toArray, List.set_cons_zero, List.set_cons_succ]
                  refine takeP (i := 13) (v := ?_) rfl (by kernel_rfl) (fun _ _ _ h => h) (by rfl) ?_ (by assumption) ?_
                  case refine_2 => (intro w'; go_simp; first | done | with_reducible rfl)
                  try simp only [Act.put, List.setIfInBounds_toArray, List.set_cons_zero, List.set_cons_succ]
                  refine takeP (i := 14) (v := ?_) rfl (by kernel_rfl) (fun _ _ _ h => h) (by rfl) ?_ (by assumption) ?_
                  case refine_2 => (intro w'; go_simp; first | done | with_reducible rfl)
                  try simp only [Act.put, List.setIfInBounds_toArray, List.set_cons_zero, List.set_cons_succ]
                  refine takeP (i := 15) (v := ?_) rfl (by kernel_rfl) (fun _ _ _ h => h) (by rfl) ?_ (by assumption) ?_
                  case refine_2 => (intro w'; go_simp; first | done | with_reducible rfl)
                  try simp only [Act.put, List.setIfInBounds_toArray, List.set_cons_zero, List.set_cons_succ]
                  refine takeH (i := 16) [17, 24, 37, 38] (v := ?_) rfl (by kernel_rfl) (fun _ _ _ h => h) (by rfl) ?_ (by assumption) ?_
                  case refine_2 => (intro w' hSw; (try dsimp only at hSw); obtain ⟨q0, q1, q2, q3, q4, q5, q6, q7, q8⟩ := hSw; go_simp; first | done | with_reducible rfl)
                  try simp only [Act.put, List.setIfInBounds_toArray, List.set_cons_zero, List.set_cons_succ]
                  refine takeP (i := 17) (v := ?_) rfl (by kernel_rfl) (fun _ _ _ h => h) (by rfl) ?_ (by assumption) ?_
                  case refine_2 => (intro w'; go_simp; first | done | with_reducible rfl)
                  try simp only [Act.put, List.setIfInBounds_toArray, List.set_cons_zero, List.set_cons_succ]
                  refine takeP (i := 18) (v := ?_) rfl (by kernel_rfl) (fun _ _ _ h => h) (by rfl) ?_ (by assumption) ?_
                  case refine_2 => (intro w'; go_simp; first | done | with_reducible rfl)
                  try simp only [Act.put, List.setIfInBounds_toArray, List.set_cons_zero, List.set_cons_succ]
                  refine takeP (i := 19) (v := ?_) rfl (by kernel_rfl) (fun _ _ _ h => h) (by rfl) ?_ (by assumption) ?_
                  case refine_2 => (intro w'; go_simp; first | done | with_reducible rfl)
                  try simp only [Act.put, List.setIfInBounds_toArray, List.set_cons_zero, List.set_cons_succ]
                  refine takeP (i := 20) (v := ?_) rfl (by kernel_rfl) (fun _ _ _ h => h) (by rfl) ?_ (by assumption) ?_
                  case refine_2 => (intro w'; go_simp; first | done | with_reducible rfl)
                  try simp only [Act.put, List.setIfInBounds_toArray, List.set_cons_zero, List.set_cons_succ]
                  refine takeH (i := 21) [22, 23, 24, 37, 38] (v := ?_) rfl (by kernel_rfl) (fun _ _ _ h => h) (by rfl) ?_ (by assumption) ?_
                  case refine_2 => (intro w' hSw; (try dsimp only at hSw); obtain ⟨q0, q1, q2, q3, q4, q5, q6, q7, q8⟩ := hSw; go_simp; first | done | with_reducible rfl)
                  try simp only [Act.put, List.setIfInBounds_toArray, List.set_cons_zero, List.set_cons_succ]
                  refine takeP (i := 22) (v := ?_) rfl (by kernel_rfl) (fun _ _ _ h => h) (by rfl) ?_ (by assumption) ?_
                  case refine_2 => (intro w'; go_simp; first | done | with_reducible rfl)
                  try simp only [Act.put, List.setIfInBounds_toArray, List.set_cons_zero, List.set_cons_succ]
                  refine takeH (i := 23) [24, 37, 38] (v := ?_) rfl (by kernel_rfl) (fun _ _ _ h => h) (by rfl) ?_ (by assumption) ?_
                  case refine_2 => (intro w' hSw; (try dsimp only at hSw); obtain ⟨q0, q1, q2, q3, q4, q5, q6, q7, q8⟩ := hSw; go_simp; first | done | with_reducible rfl)
                  try simp only [Act.put, List.setIfInBounds_toArray, List.set_cons_zero, List.set_cons_succ]
                  refine takeP (i := 24) (v := ?_) rfl (by kernel_rfl) (fun _ _ _ h => h) (by rfl) ?_ (by assumption) ?_
                  case refine_2 => (intro w'; go_simp; first | done | with_reducible rfl)
                  try simp only [Act.put, List.setIfInBounds_toArray, List.set_cons_zero, List.set_cons_succ]
                  refine takeP (i := 25) (v := ?_) rfl (by kernel_rfl) (fun _ _ _ h => h) (by rfl) ?_ (by assumption) ?_
                  case refine_2 => (intro w'; go_simp; first | done | with_reducible rfl)
                  try simp only [Act.put, List.setIfInBounds_toArray, List.set_cons_zero, List.set_cons_succ]
                  refine takeP (i := 26) (v := ?_) rfl (by kernel_rfl) (fun _ _ _ h => h) (by rfl) ?_ (by assumption) ?_
                  case refine_2 => (intro w'; go_simp; first | done | with_reducible rfl)
                  try simp only [Act.put, List.setIfInBounds_toArray, List.set_cons_zero, List.set_cons_succ]
                  refine takeP (i := 27) (v := ?_) rfl (by kernel_rfl) (fun _ _ _ h => h) (by rfl) ?_ (by assumption) ?_
                  case refine_2 => (intro w'; go_simp; first | done | with_reducible rfl)
                  try simp only [Act.put, List.setIfInBounds_toArray, List.set_cons_zero, List.set_cons_succ]
                  refine takeH (i := 28) [29, 36, 37, 38] (v := ?_) rfl (by kernel_rfl) (fun _ _ _ h => h) (by rfl) ?_ (by assumption) ?_
                  case refine_2 => (intro w' hSw; (try dsimp only at hSw); obtain ⟨q0, q1, q2, q3, q4, q5, q6, q7, q8⟩ := hSw; go_simp; first | done | with_reducible rfl)
                  try simp only [Act.put, List.setIfInBounds_toArray, List.set_cons_zero, List.set_cons_succ]
                  refine takeP (i := 29) (v := ?_) rfl (by kernel_rfl) (fun _ _ _ h => h) (by rfl) ?_ (by assumption) ?_
                  case refine_2 => (intro w'; go_simp; first | done | with_reducible rfl)
                  try simp only [Act.put, List.setIfInBounds_toArray, List.set_cons_zero, List.set_cons_succ]
                  refine takeP (i := 30) (v := ?_) rfl (by kernel_rfl) (fun _ _ _ h => h) (by rfl) ?_ (by assumption) ?_
                  case refine_2 => (intro w'; go_simp; first | done | with_reducible rfl)
                  try simp only [Act.put, List.setIfInBounds_toArray, List.set_cons_zero, List.set_cons_succ]
                  refine takeP (i := 31) (v := ?_) rfl (by kernel_rfl) (fun _ _ _ h => h) (by rfl) ?_ (by assumption) ?_
                  case refine_2 => (intro w'; go_simp; first | done | with_reducible rfl)
                  try simp only [Act.put, List.setIfInBounds_toArray, List.set_cons_zero, List.set_cons_succ]
                  refine takeP (i := 32) (v := ?_) rfl (by kernel_rfl) (fun _ _ _ h => h) (by rfl) ?_ (by assumption) ?_
                  case refine_2 => (intro w'; go_simp; first | done | with_reducible rfl)
                  try simp only [Act.put, List.setIfInBounds_toArray, List.set_cons_zero, List.set_cons_succ]
                  refine takeH (i := 33) [34, 35, 36, 37, 38] (v := ?_) rfl (by kernel_rfl) (fun _ _ _ h => h) (by rfl) ?_ (by assumption) ?_
                  case refine_2 => (intro w' hSw; (try dsimp only at hSw); obtain ⟨q0, q1, q2, q3, q4, q5, q6, q7, q8⟩ := hSw; go_simp; first | done | with_reducible rfl)
                  try simp only [Act.put, List.setIfInBounds_toArray, List.set_cons_zero, List.set_cons_succ]
                  refine takeP (i := 34) (v := ?_) rfl (by kernel_rfl) (fun _ _ _ h => h) (by rfl) ?_ (by assumption) ?_
                  case refine_2 => (intro w'; go_simp; first | done | with_reducible rfl)
                  try simp only [Act.put, List.setIfInBounds_toArray, List.set_cons_zero, List.set_cons_succ]
                  refine takeH (i := 35) [36, 37, 38] (v := ?_) rfl (by kernel_rfl) (fun _ _ _ h => h) (by rfl) ?_ (by assumption) ?_
                  case refine_2 => (intro w' hSw; (try dsimp only at hSw); obtain ⟨q0, q1, q2, q3, q4, q5, q6, q7, q8⟩ := hSw; go_simp; first | done | with_reducible rfl)
                  try simp only [Act.put, List.setIfInBounds_toArray, List.set_cons_zero, List.set_cons_succ]
                  refine takeP (i := 36) (v := ?_) rfl (by kernel_rfl) (fun _ _ _ h => h) (by rfl) ?_ (by assumption) ?_
                  case refine_2 => (intro w'; go_simp; first | done | with_reducible rfl)
                  try simp only [Act.put, List.setIfInBounds_toArray, List.set_cons_zero, List.set_cons_succ]
                  refine readyG (rs := [37]) (by kernel_rfl) (by simp) ?_
                  refine AllG.cons rfl (fun K hK => ?_) AllG.nil
                  go_simp
                  try simp only [m0, m1, m2, n0, n1, n2]
                  refine (KT _).out.mono ?_
                  rintro e6 w6 ⟨u, rfl, h6⟩
                  obtain ⟨ua, uc, hu⟩ := (h6.rdI 0 rfl).sl.sh
                  generalize (iv D).length = dl at hu
                  subst hu
                  have hS6 := hS.drew.call h6
                  have e0 := cell_keepT h6.below (cell_dr k0)
                  have e1 := cell_keepT h6.below (cell_dr k1)
                  have e2 := cell_keepT h6.below (cell_dr k2)
                  have e3 := cell_keepT h6.below (cell_dr k3)
                  have e4 := cell_keepT h6.below (cell_dr k4)
                  have e5 := cell_keepT h6.below (cell_dr k5)
                  have e6 := cell_keepT h6.below (cell_dr k6)
                  have e7 := cell_keepT h6.below (cell_dr k7)
                  have e8 := cell_keepT h6.below (cell_dr k8)
                  refine hK.out _ _ ⟨e0, e1, e2, e3, e4, e5, e6, e7, e8⟩ (fun hHeld => ?_)
                  clear hK K h6
                  try simp only [Act.put, List.setIfInBounds_toArray, List.set_cons_zero, List.set_cons_succ]
                  refine readyG (rs := [38]) (by kernel_rfl) (by simp) ?_
                  refine AllG.cons rfl (fun K hK => ?_) AllG.nil
                  go_simp
                  refine hK.out _ _ ⟨cell_al e0, cell_al e1, cell_al e2, cell_al e3, cell_al e4, cell_al e5, cell_al e6, cell_al e7, cell_al e8⟩ (fun hHeld => ?_)
                  clear hK K
                  try simp only [Act.put, List.setIfInBounds_toArray, List.set_cons_zero, List.set_cons_succ]
                  refine readyG (rs := [39]) (by kernel_rfl) (by simp) ?_
                  refine AllG.last rfl (by kernel_rfl) (fun K hK => ?_) AllG.nil
                  refine stepII hS6 0 rfl hul.out rfl (.tmp 88) (.tmp 126) rfl (by first | rfl | simp [Act.eval, Act.put]) _ rfl (by first | rfl | simp [Act.eval, Act.put]) ?_
                  intro v8 w8 hS8
                  refine hK.out _ _ ?_
                  clear hK K
                  try simp only [Act.put, List.setIfInBounds_toArray, List.set_cons_zero, List.set_cons_succ]
                  refine readyG (rs := [40]) (by kernel_rfl) (by simp) ?_
                  refine AllG.last rfl (by kernel_rfl) (fun K hK => ?_) AllG.nil
                  go_simp
                  refine hK.out _ _ ?_
                  clear hK K
                  try simp only [Act.put, List.setIfInBounds_toArray, List.set_cons_zero, List.set_cons_succ]
                  refine doneG (by kernel_rfl) ?_ _
                  refine NoPanic.normal ?_
                  have hS9 := own2_snocP hlo.out hS8
                  rw [← Hst.out] at hS9
                  go_wp2_with fail
                  go_roundw
                  case rel => exact ⟨r + 1, _, by go_num, by omega, by rw [Hid, Hst.out, List.length_append, List.length_append, hlo.out]; rfl, hS9⟩
                  case measure => simp [intOf]; omega
                · obtain rfl : r = 6 := by omega
                  go_wp2_with fail
                  go_roundw
                  case rel => exact ⟨1, uo, by go_num, by omega, hlo, hS⟩
                  case measure => simp [intOf]
            · obtain rfl : j = 1 := by omega
              go_wp2_with fail
              go_roundw
              case rel => exact ⟨k + 1, uo, by go_num, by omega, by rw [HXs.out]; exact hlo, by rw [HXs.out]; exact hS⟩
              case measure => simp [intOf]; omega
    · obtain rfl : k = A.length := by omega
      have hlX := pdA_len A A.length (Nat.le_refl _)
      have HXe := Lib.hid (show pdL P A = pdA A A.length ++ (List.range P).map pdF by unfold pdL pdA; rw [List.take_length])
      obtain ⟨X, hX⟩ : ∃ X, X = pdA A A.length := ⟨_, rfl⟩
      rw [← hX] at hS hlo HXe hlX
      have hS1 : St w.heap.size w wr (own2 u7 uo (X ++ (List.range 0).map pdF) ++ LB) := by rw [List.range_zero, List.map_nil, List.append_nil]; exact hS
      have hlo1 : Hid (uo.length = (X ++ (List.range 0).map pdF).length) := by rw [List.range_zero, List.map_nil, List.append_nil]; exact hlo
      obtain ⟨⟨z0, z1⟩, z2, z3⟩ := HB.out _ _ hS
      clear hS hlo hX
      go_wp2_with fail
      clear z0 z1 z2 z3
      go_loopw [133, 7, 16, 18] (fun xi o _ _ wr => ∃ (x : Nat) (uo : List Value), xi = .int .i64 x ∧ x ≤ P ∧ Hid (uo.length = (X ++ (List.range x).map pdF).length) ∧ St w.heap.size w wr (own2 o uo (X ++ (List.range x).map pdF) ++ LB)) (fun xi _ _ _ _ => P - (intOf xi).toNat)
      case atStart => exact ⟨0, uo, rfl, by omega, hlo1, hS1⟩
      case round =>
        clear hS1 hlo1
        obtain ⟨x, uo, rfl, hx, hlo, hS⟩ := hrel
        obtain ⟨⟨z0, z1⟩, z2, z3⟩ := HB.out _ _ hS
        by_cases hxP : x < P
        · have hxi : (x : Int) < (P : Int) := by omega
          have hS5 : St w.heap.size w wr (own2 u7 uo (X ++ (List.range (x + 0)).map pdF) ++ LB) := hS
          have hlo5 : Hid (uo.length = (X ++ (List.range (x + 0)).map pdF).length) := hlo
          clear hS hlo
          go_wp2_with fail
          clear z0 z1 z2 z3
          go_loopw [139, 7, 18] (fun ji o _ wr => ∃ (j : Nat) (uo : List Value), ji = .int .i64 j ∧ j ≤ 1 ∧ Hid (uo.length = (X ++ (List.range (x + j)).map pdF).length) ∧ St w.heap.size w wr (own2 o uo (X ++ (List.range (x + j)).map pdF) ++ LB)) (fun ji _ _ _ => 1 - (intOf ji).toNat)
          case atStart => exact ⟨0, uo, rfl, by omega, hlo5, hS5⟩
          case round =>
            clear hS5 hlo5
            obtain ⟨j, uo, rfl, hj, hlo, hS⟩ := hrel
            by_cases hj1 : j < 1
            · obtain rfl : j = 0 := by omega
              have xj := hixB (0 : Int) 0 rfl (by decide)
              have cj := (hS.oldII Hb.out).cell 0 (by decide)
              have i0 := hrbx 0 0 rfl (by simp)
              have i1 := hrbx 1 1 rfl (by simp)
              have i2 := hrbx 2 2 rfl (by simp)
              have hr := hS.oldI rb.out
              have k0 := hr.cell 0 (by simp)
              have k1 := hr.cell 1 (by simp)
              have k2 := hr.cell 2 (by simp)
              rw [show nth [(0 : Int), 1, 2] 0 = 0 from rfl] at k0
              rw [show nth [(0 : Int), 1, 2] 1 = 1 from rfl] at k1
              rw [show nth [(0 : Int), 1, 2] 2 = 2 from rfl] at k2
              generalize vat ub 0 = vy at *
              have m0 : IntKind.i64.wrap (3 * (x : Int)) = 3 * (x : Int) := IntWalk.i64_in _ (by omega)
              have n0 : IntKind.i64.wrap (3 * (x : Int) + 0) = 3 * (x : Int) := by rw [Int.add_zero]; exact m0
              have n1 : IntKind.i64.wrap (3 * (x : Int) + 1) = 3 * (x : Int) + 1 := IntWalk.i64_in _ (by omega)
              have n2 : IntKind.i64.wrap (3 * (x : Int) + 2) = 3 * (x : Int) + 2 := IntWalk.i64_in _ (by omega)
              have KT := fun W => Lib.hid (triple_n (3 * x) (3 * x + 1) (3 * x + 2) W (by omega) (by omega) (by omega))
              have Hst := Lib.hid (show X ++ (List.range (x + 1)).map pdF = X ++ (List.range (x + 0)).map pdF ++ [trp (3 * x) (3 * x + 1) (3 * x + 2)] by rw [rg_succ, List.append_assoc]; rfl)
              have hul := Lib.hid (show uo.length < 4294967296 by rw [hlo.out, List.length_append, hlX, List.length_map, List.length_range]; omega)
              generalize trp (3 * x) (3 * x + 1) (3 * x + 2) = D at *
              simp only [Int.natCast_add, Int.natCast_mul, Int.cast_ofNat_Int] at KT
              clear hr
              go_wp2_with fail
              clear cj
              refine regionG (fun w' => w'.cell? (el vy 0) = some (.int .i64 0) ∧ w'.cell? (el vy 1) = some (.int .i64 1) ∧ w'.cell? (el vy 2) = some (.int .i64 2)) 24 (by kernel_rfl) ⟨cell_dr k0, cell_dr k1, cell_dr k2⟩ (fun hHeld => ?_)
              refine takeP (i := 0) (v := ?_) rfl (by kernel_rfl) (fun _ _ _ h => h) (by rfl) ?_ (by assumption) ?_
              case refine_2 => (intro w'; go_simp; first | done | with_reducible rfl)
              try simp only [Act.put, List.setIfInBounds_toArray, List.set_cons_zero, List.set_cons_succ]
              refine takeP (i := 1) (v := ?_) rfl (by kernel_rfl) (fun _ _ _ h => h) (by rfl) ?_ (by assumption) ?_
              case refine_2 => (intro w'; go_simp; first | done | with_reducible rfl)
              try simp only [Act.put, List.setIfInBounds_toArray, List.set_cons_zero, List.set_cons_succ]
              refine takeP (i := 2) (v := ?_) rfl (by kernel_rfl) (fun _ _ _ h => h) (by rfl) ?_ (by assumption) ?_
              case refine_2 => (intro w'; go_simp; first | done | with_reducible rfl)
              try simp only [Act.put, List.setIfInBounds_toArray, List.set_cons_zero, List.set_cons_succ]
              refine takeP (i := 3) (v := ?_) rfl (by kernel_rfl) (fun _ _ _ h => h) (by rfl) ?_ (by assumption) ?_
              case refine_2 => (intro w'; go_simp; first | done | with_reducible rfl)
              try simp only [Act.put, List.setIfInBounds_toArray, List.set_cons_zero, List.set_cons_succ]
              refine takeP (i := 4) (v := ?_) rfl (by kernel_rfl) (fun _ _ _ h => h) (by rfl) ?_ (by assumption) ?_
              case refine_2 => (intro w'; go_simp; first | done | with_reducible rfl)
              try simp only [Act.put, List.setIfInBounds_toArray, List.set_cons_zero, List.set_cons_succ]
              refine takeP (i := 5) (v := ?_) rfl (by kernel_rfl) (fun _ _ _ h => h) (by rfl) ?_ (by assumption) ?_
              case refine_2 => (intro w'; go_simp; first | done | with_reducible rfl)
              try simp only [Act.put, List.setIfInBounds_toArray, List.set_cons_zero, List.set_cons_succ]
              refine takeH (i := 6) [7, 22, 23] (v := ?_) rfl (by kernel_rfl) (fun _ _ _ h => h) (by rfl) ?_ (by assumption) ?_
              case refine_2 => (intro w' hSw; (try dsimp only at hSw); obtain ⟨q0, q1, q2⟩ := hSw; go_simp; first | done | with_reducible rfl)
              try simp only [Act.put, List.setIfInBounds_toArray, List.set_cons_zero, List.set_cons_succ]
              refine takeP (i := 7) (v := ?_) rfl (by kernel_rfl) (fun _ _ _ h => h) (by rfl) ?_ (by assumption) ?_
              case refine_2 => (intro w'; go_simp; first | done | with_reducible rfl)
              try simp only [Act.put, List.setIfInBounds_toArray, List.set_cons_zero, List.set_cons_succ]
              refine takeP (i := 8) (v := ?_) rfl (by kernel_rfl) (fun _ _ _ h => h) (by rfl) ?_ (by assumption) ?_
              case refine_2 => (intro w'; go_simp; first | done | with_reducible rfl)
              try simp only [Act.put, List.setIfInBounds_toArray, List.set_cons_zero, List.set_cons_succ]
              refine takeP (i := 9) (v := ?_) rfl (by kernel_rfl) (fun _ _ _ h => h) (by rfl) ?_ (by assumption) ?_
              case refine_2 => (intro w'; go_simp; first | done | with_reducible rfl)
              try simp only [Act.put, List.setIfInBounds_toArray, List.set_cons_zero, List.set_cons_succ]
              refine takeP (i := 10) (v := ?_) rfl (by kernel_rfl) (fun _ _ _ h => h) (by rfl) ?_ (by assumption) ?_
              case refine_2 => (intro w'; go_simp; first | done | with_reducible rfl)
              try simp only [Act.put, List.setIfInBounds_toArray, List.set_cons_zero, List.set_cons_succ]
              refine takeP (i := 11) (v := ?_) rfl (by kernel_rfl) (fun _ _ _ h => h) (by rfl) ?_ (by assumption) ?_
              case refine_2 => (intro w'; go_simp; first | done | with_reducible rfl)
              try simp only [Act.put, List.setIfInBounds_toArray, List.set_cons_zero, List.set_cons_succ]
              refine takeP (i := 12) (v := ?_) rfl (by kernel_rfl) (fun _ _ _ h => h) (by rfl) ?_ (by assumption) ?_
              case refine_2 => (intro w'; go_simp; first | done | with_reducible rfl)
              try simp only [Act.put, List.setIfInBounds_toArray, List.set_cons_zero, List.set_cons_succ]
              refine takeH (i := 13) [14, 22, 23] (v := ?_) rfl (by kernel_rfl) (fun _ _ _ h => h) (by rfl) ?_ (by assumption) ?_
              case refine_2 => (intro w' hSw; (try dsimp only at hSw); obtain ⟨q0, q1, q2⟩ := hSw; go_simp; first | done | with_reducible rfl)
              try simp only [Act.put, List.setIfInBounds_toArray, List.set_cons_zero, List.set_cons_succ]
              refine takeP (i := 14) (v := ?_) rfl (by kernel_rfl) (fun _ _ _ h => h) (by rfl) ?_ (by assumption) ?_
              case refine_2 => (intro w'; go_simp; first | done | with_reducible rfl)
              try simp only [Act.put, List.setIfInBounds_toArray, List.set_cons_zero, List.set_cons_succ]
              refine takeP (i := 15) (v := ?_) rfl (by kernel_rfl) (fun _ _ _ h => h) (by rfl) ?_ (by assumption) ?_
              case refine_2 => (intro w'; go_simp; first | done | with_reducible rfl)
              try simp only [Act.put, List.setIfInBounds_toArray, List.set_cons_zero, List.set_cons_succ]
              refine takeP (i := 16) (v := ?_) rfl (by kernel_rfl) (fun _ _ _ h => h) (by rfl) ?_ (by assumption) ?_
              case refine_2 => (intro w'; go_simp; first | done | with_reducible rfl)
              try simp only [Act.put, List.setIfInBounds_toArray, List.set_cons_zero, List.set_cons_succ]
              refine takeP (i := 17) (v := ?_) rfl (by kernel_rfl) (fun _ _ _ h => h) (by rfl) ?_ (by assumption) ?_
              case refine_2 => (intro w'; go_simp; first | done | with_reducible rfl)
              try simp only [Act.put, List.setIfInBounds_toArray, List.set_cons_zero, List.set_cons_succ]
              refine takeP (i := 18) (v := ?_) rfl (by kernel_rfl) (fun _ _ _ h => h) (by rfl) ?_ (by assumption) ?_
              case refine_2 => (intro w'; go_simp; first | done | with_reducible rfl)
              try simp only [Act.put, List.setIfInBounds_toArray, List.set_cons_zero, List.set_cons_succ]
              refine takeP (i := 19) (v := ?_) rfl (by kernel_rfl) (fun _ _ _ h => h) (by rfl) ?_ (by assumption) ?_
              case refine_2 => (intro w'; go_simp; first | done | with_reducible rfl)
              try simp only [Act.put, List.setIfInBounds_toArray, List.set_cons_zero, List.set_cons_succ]
              refine takeH (i := 20) [21, 22, 23] (v := ?_) rfl (by kernel_rfl) (fun _ _ _ h => h) (by rfl) ?_ (by assumption) ?_
              case refine_2 => (intro w' hSw; (try dsimp only at hSw); obtain ⟨q0, q1, q2⟩ := hSw; go_simp; first | done | with_reducible rfl)
              try simp only [Act.put, List.setIfInBounds_toArray, List.set_cons_zero, List.set_cons_succ]
              refine takeP (i := 21) (v := ?_) rfl (by kernel_rfl) (fun _ _ _ h => h) (by rfl) ?_ (by assumption) ?_
              case refine_2 => (intro w'; go_simp; first | done | with_reducible rfl)
              try simp only [Act.put, List.setIfInBounds_toArray, List.set_cons_zero, List.set_cons_succ]
              refine readyG (rs := [22]) (by kernel_rfl) (by simp) ?_
              refine AllG.cons rfl (fun K hK => ?_) AllG.nil
              go_simp
              try simp only [m0, n0, n1, n2]
              refine (KT _).out.mono ?_
              rintro e6 w6 ⟨u, rfl, h6⟩
              obtain ⟨ua, uc, hu⟩ := (h6.rdI 0 rfl).sl.sh
              generalize (iv D).length = dl at hu
              subst hu
              have hS6 := hS.drew.call h6
              have e0 := cell_keepT h6.below (cell_dr k0)
              have e1 := cell_keepT h6.below (cell_dr k1)
              have e2 := cell_keepT h6.below (cell_dr k2)
              refine hK.out _ _ ⟨e0, e1, e2⟩ (fun hHeld => ?_)
              clear hK K h6
              try simp only [Act.put, List.setIfInBounds_toArray, List.set_cons_zero, List.set_cons_succ]
              refine readyG (rs := [23]) (by kernel_rfl) (by simp) ?_
              refine AllG.cons rfl (fun K hK => ?_) AllG.nil
              go_simp
              refine hK.out _ _ ⟨cell_al e0, cell_al e1, cell_al e2⟩ (fun hHeld => ?_)
              clear hK K
              try simp only [Act.put, List.setIfInBounds_toArray, List.set_cons_zero, List.set_cons_succ]
              refine readyG (rs := [24]) (by kernel_rfl) (by simp) ?_
              refine AllG.last rfl (by kernel_rfl) (fun K hK => ?_) AllG.nil
              refine stepII hS6 0 rfl hul.out rfl (.tmp 143) (.tmp 166) rfl (by first | rfl | simp [Act.eval, Act.put]) _ rfl (by first | rfl | simp [Act.eval, Act.put]) ?_
              intro v8 w8 hS8
              refine hK.out _ _ ?_
              clear hK K
              try simp only [Act.put, List.setIfInBounds_toArray, List.set_cons_zero, List.set_cons_succ]
              refine readyG (rs := [25]) (by kernel_rfl) (by simp) ?_
              refine AllG.last rfl (by kernel_rfl) (fun K hK => ?_) AllG.nil
              go_simp
              refine hK.out _ _ ?_
              clear hK K
              try simp only [Act.put, List.setIfInBounds_toArray, List.set_cons_zero, List.set_cons_succ]
              refine doneG (by kernel_rfl) ?_ _
              refine NoPanic.normal ?_
              have hS9 := own2_snocP hlo.out hS8
              rw [← Hst.out] at hS9
              go_wp2_with fail
              go_roundw
              case rel => exact ⟨1, _, by go_num, by omega, by rw [Hid, Hst.out, List.length_append, List.length_append, hlo.out]; rfl, hS9⟩
              case measure => simp [intOf]
            · obtain rfl : j = 1 := by omega
              go_wp2_with fail
              go_roundw
              case rel => exact ⟨x + 1, uo, by go_num, by omega, hlo, hS⟩
              case measure => simp [intOf]; omega
        · obtain rfl : x = P := by omega
          rw [← HXe.out] at hS hlo
          have rR := (hS.sub (List.sublist_append_left _ _)).rii hlo.out
          have hSb := hS.sub (L' := LB) (List.sublist_append_right _ _)
          have v1 : IntKind.i64.wrap ((x : Int) * 3) = (x : Int) * 3 := IntWalk.i64_in _ (by omega)
          have KS := Lib.hid (sorted_c ((x : Int) * 3) u7 uo (pdL x A) _ rR HLen.out HRw.out)
          generalize srtL (pdL x A) = S at *
          have hcm : 3 * (x : Int) = (x : Int) * 3 := by omega
          have Hcm := Lib.hid hcm
          clear hS rR hcm
          rw [HLB.out] at hSb
          go_wp2_with (go_at_call 45; refine KS.out.mono ?_; rintro e4 w4 ⟨v4, us4, rfl, hl4, h4⟩; obtain ⟨a4, c4, hv4⟩ := (h4.rd 0 (e := 24) (v := v4) (us := us4) rfl).sl.sh; rw [hl4] at hv4; subst hv4; unfold dv; have hB4 := hSb.call h4; have e0 := hB4.bcell 0 rfl 0 rfl; have e1 := hB4.bcell 0 rfl 1 rfl; have f0 := hB4.bfree 0 rfl; have h6 := (hB4.bstore 0 rfl 0 (.int .i64 ((x : Int) * 3))).bstore 0 rfl 1 (.slice a4 S.length c4); have g0 := h6.bcell 0 rfl 0 rfl; have g1 := h6.bcell 0 rfl 1 rfl)
          refine bodyPost_ret (v := .tuple #[.agg #[.int .i64 ((x : Int) * 3), .slice a4 S.length c4], .int .i64 0]) (by simp [results, Tryz.results21, go_sem, g0, g1]) rfl ?_
          exact ⟨_, us4, by rw [← Hcm.out]; rfl, hl4, h6.sub (.cons _ (.cons _ (.cons _ (.refl _))))⟩
end Go.Proofs.YtlmbaeaakpmhnaaGreat
end

section
/- Plain: the matrix of third points, block by block. -/
namespace Go.Proofs.YtlmbaeaakpmhnaaGreat
set_option linter.unusedSimpArgs false
set_option linter.unusedVariables false
open Go

open Classical in
/-- the entry behind k blocks and i points of block k -/
noncomputable def thK (A : List (List Int)) (k i x y : Nat) : Int :=
  if x = y then x else if (∃ j, j < k ∧ (x : Int) ∈ xat A j ∧ (y : Int) ∈ xat A j) ∨ ((x : Int) ∈ (xat A k).take i ∧ (y : Int) ∈ xat A k) then thF A x y else 0
structure ThS (P : Nat) (A : List (List Int)) (k i : Nat) (S : List (List Int)) : Prop where
  sqr : Sqr P S
  at' : ∀ x y, x < P → y < P → at2 S x y = thK A k i x y
theorem thK_00 (A : List (List Int)) (x y : Nat) : thK A 0 0 x y = if x = y then (x : Int) else 0 := by
  unfold thK
  by_cases h : x = y
  · rw [if_pos h, if_pos h]
  · rw [if_neg h, if_neg h, if_neg]
    rintro (⟨j, hj, _⟩ | ⟨h1, _⟩)
    · omega
    · simp at h1
section
variable {P : Nat} {A : List (List Int)}
/-- the three points from point i on -/
theorem three_at (h : TS P A) {k i : Nat} (hk : k < A.length) (hi : i < 3) : ∃ x y z : Nat, x < P ∧ y < P ∧ z < P ∧ x ≠ y ∧ x ≠ z ∧ y ≠ z ∧ nth (xat A k) i = x ∧ nth (xat A k) ((i + 1) % 3) = y ∧ nth (xat A k) ((i + 2) % 3) = z ∧
    (∀ u : Int, u ∈ xat A k ↔ u = x ∨ u = y ∨ u = z) ∧ (∀ u : Int, u ∈ (xat A k).take (i + 1) ↔ u ∈ (xat A k).take i ∨ u = x) ∧ thF A x y = z ∧ thF A x z = y := by
  have hb := xat_mem hk
  obtain ⟨p, q, r, hpq, hqr, hr, hb3⟩ := three_of (h.inc hb) (h.three _ hb)
  have fin : ∀ x y z : Nat, x < P → y < P → z < P → x ≠ y → x ≠ z → y ≠ z → nth (xat A k) i = x → nth (xat A k) ((i + 1) % 3) = y → nth (xat A k) ((i + 2) % 3) = z → (∀ u : Int, u ∈ xat A k ↔ u = x ∨ u = y ∨ u = z) →
      ∃ x y z : Nat, x < P ∧ y < P ∧ z < P ∧ x ≠ y ∧ x ≠ z ∧ y ≠ z ∧ nth (xat A k) i = x ∧ nth (xat A k) ((i + 1) % 3) = y ∧ nth (xat A k) ((i + 2) % 3) = z ∧
        (∀ u : Int, u ∈ xat A k ↔ u = x ∨ u = y ∨ u = z) ∧ (∀ u : Int, u ∈ (xat A k).take (i + 1) ↔ u ∈ (xat A k).take i ∨ u = x) ∧ thF A x y = z ∧ thF A x z = y := fun x y z hx hy hz h1 h2 h3 e1 e2 e3 hm => by
    have m1 : (x : Int) ∈ xat A k := (hm x).2 (.inl rfl)
    have m2 : (y : Int) ∈ xat A k := (hm y).2 (.inr (.inl rfl))
    have m3 : (z : Int) ∈ xat A k := (hm z).2 (.inr (.inr rfl))
    refine ⟨x, y, z, hx, hy, hz, h1, h2, h3, e1, e2, e3, hm, fun u => ?_, h.th_of hb m1 m2 m3 h1 h2 h3, h.th_of hb m1 m3 m2 h2 h1 (fun e => h3 e.symm)⟩
    rw [mem_take1 (by rw [h.three _ hb]; exact hi), e1]
  rcases (show i = 0 ∨ i = 1 ∨ i = 2 by omega) with rfl | rfl | rfl
  · exact fin p q r (by omega) (by omega) hr (by omega) (by omega) (by omega) (by rw [hb3]; rfl) (by rw [hb3]; rfl) (by rw [hb3]; rfl) (fun u => by rw [hb3]; simp)
  · exact fin q r p (by omega) hr (by omega) (by omega) (by omega) (by omega) (by rw [hb3]; rfl) (by rw [hb3]; rfl) (by rw [hb3]; rfl) (fun u => by rw [hb3]; simp; constructor <;> (intro h; omega))
  · exact fin r p q hr (by omega) (by omega) (by omega) (by omega) (by omega) (by rw [hb3]; rfl) (by rw [hb3]; rfl) (by rw [hb3]; rfl) (fun u => by rw [hb3]; simp; constructor <;> (intro h; omega))
/-- behind one more point -/
theorem ThS.step (h : TS P A) {k i : Nat} {S : List (List Int)} (hS : ThS P A k i S) {x y z : Nat} (hx : x < P) (hy : y < P) (hz : z < P) (h1 : x ≠ y) (h2 : x ≠ z) (h3 : y ≠ z)
    (hm : ∀ u : Int, u ∈ xat A k ↔ u = x ∨ u = y ∨ u = z) (ht : ∀ u : Int, u ∈ (xat A k).take (i + 1) ↔ u ∈ (xat A k).take i ∨ u = x) (e1 : thF A x y = z) (e2 : thF A x z = y) :
    ThS P A k (i + 1) (putS (putS S x y z) x z y) where
  sqr := putS_sqr (putS_sqr hS.sqr hx y z) hx z y
  at' u v hu hv := by
    rw [at2_putS (putS_sqr hS.sqr hx y z) hx hz, at2_putS hS.sqr hx hy, hS.at' u v hu hv]
    unfold thK
    by_cases c1 : x = u ∧ z = v
    · obtain ⟨rfl, rfl⟩ := c1
      rw [if_pos ⟨rfl, rfl⟩, if_neg h2, if_pos (.inr ⟨(ht _).2 (.inr rfl), (hm _).2 (.inr (.inr rfl))⟩), e2]
    · rw [if_neg c1]
      by_cases c2 : x = u ∧ y = v
      · obtain ⟨rfl, rfl⟩ := c2
        rw [if_pos ⟨rfl, rfl⟩, if_neg h1, if_pos (.inr ⟨(ht _).2 (.inr rfl), (hm _).2 (.inr (.inl rfl))⟩), e1]
      · rw [if_neg c2]
        by_cases c3 : u = v
        · rw [if_pos c3, if_pos c3]
        · rw [if_neg c3, if_neg c3]
          congr 1
          apply propext
          constructor
          · rintro (h | ⟨h, h'⟩)
            · exact .inl h
            · exact .inr ⟨(ht _).2 (.inl h), h'⟩
          · rintro (h | ⟨h, h'⟩)
            · exact .inl h
            · rcases (ht _).1 h with h | h
              · exact .inr ⟨h, h'⟩
              · exfalso
                have hux : u = x := by omega
                rcases (hm _).1 h' with h | h | h
                · omega
                · exact c2 ⟨hux.symm, by omega⟩
                · exact c1 ⟨hux.symm, by omega⟩
/-- behind one more block -/
theorem ThS.next (h : TS P A) {k : Nat} (hk : k < A.length) {S : List (List Int)} (hS : ThS P A k 3 S) : ThS P A (k + 1) 0 S where
  sqr := hS.sqr
  at' u v hu hv := by
    rw [hS.at' u v hu hv]
    unfold thK
    by_cases c3 : u = v
    · rw [if_pos c3, if_pos c3]
    · rw [if_neg c3, if_neg c3]
      have ht : (xat A k).take 3 = xat A k := by rw [← h.three _ (xat_mem hk), List.take_length]
      rw [ht]
      congr 1
      apply propext
      constructor
      · rintro (⟨j, hj, h⟩ | h)
        · exact .inl ⟨j, by omega, h⟩
        · exact .inl ⟨k, by omega, h⟩
      · rintro (⟨j, hj, h⟩ | ⟨h, _⟩)
        · by_cases e : j = k
          · subst e; exact .inr h
          · exact .inl ⟨j, by omega, h⟩
        · simp at h
/-- all blocks -/
theorem ThS.all (h : TS P A) {S : List (List Int)} (hS : ThS P A A.length 0 S) : S = sqF P fun x y => (thF A x y : Int) :=
  sq_ext hS.sqr (sqF_sqr P _) fun x y hx hy => by
    rw [hS.at' x y hx hy, at2_sqF hx hy]
    unfold thK
    by_cases e : x = y
    · rw [if_pos e]; subst e; rw [thF_self]
    · rw [if_neg e, if_pos]
      obtain ⟨i, hi, h1, _⟩ := h.one hx hy e
      exact .inl ⟨i, hi, h1⟩
end
end Go.Proofs.YtlmbaeaakpmhnaaGreat
end
