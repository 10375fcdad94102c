/- The texts of this claim, run 11: Tr2 SqB Tr3 Tr4 Tr12. -/
import Derived.Test.YtlmbaeaakpmhnaaGreatK4
import Derived.Test.YtlmbaeaakpmhnaaGreatK5
import Derived.Test.YtlmbaeaakpmhnaaGreatK6
import Derived.Test.YtlmbaeaakpmhnaaGreatK8
import Derived.Test.YtlmbaeaakpmhnaaGreatK9
import Derived.Test.YtlmbaeaakpmhnaaGreatK10
import Derived.Deep.RegionHeld3
import Derived.Deep.DrawnRows
section
/- Walks: the matrix of third points. -/
namespace Go.Proofs.YtlmbaeaakpmhnaaGreat
set_option linter.unusedSimpArgs false
set_option linter.unusedVariables false
open Go.RowKit
attribute [local go_sem ↓] Go.wp_at_zero Go.wp_at_succ

set_option maxHeartbeats 16000000 in
set_option maxRecDepth 100000 in
theorem thirdPoints_c (P : Nat) (v : Value) (us : List Value) (A : List (List Int)) (w : World) (hv : RII w v us A) (hA : TS P A) :
    Calls Tryz.prog 51 #[dv P v] w (MakesII w (sqF P fun x y => (thF A x y : Int))) := by
  obtain ⟨a, c, hsh⟩ := hv.1.sl.sh
  rw [hv.2.1] at hsh
  subst hsh
  have hS1 := (St.refl w).newboxF 29 #[.int .i64 P, .slice a A.length c]
  have b0 := hS1.bcell 0 rfl 0 rfl
  have b1 := hS1.bcell 0 rfl 1 rfl
  have hP := hA.p32
  have KE := Lib.hid (fun W => emptySquare_c P W (by omega))
  have HA := Lib.hid hA
  have hA128 : A.length ≤ 128 := by have := (dOk_t hA.ok).len; omega
  clear hA
  unfold dv
  go_enter Tryz.func51, Tryz.ntmps51
  go_wp2_with fail
  refine (KE.out _).mono ?_
  rintro e w2 ⟨o, uo, rfl, hlo, h2⟩
  rw [sqF_len] at hlo
  have hS2 : St w.heap.size w w2 (own2 o uo (sqF P fun _ _ => 0) ++ [box 29 w.heap.size [.int .i64 P, .slice a A.length c]]) := (hS1.call h2).perm List.perm_append_comm
  have hlen := (rii2 hS2 (by rw [hlo, sqF_len])).len
  rw [sqF_len] at hlen
  have Hlo := Lib.hid hlo
  clear b0 b1 hS1 h2 KE hlo
  go_wp2_with fail
  go_loopw [16] (fun iv' wr => ∃ (k : Nat) (S : List (List Int)), k ≤ P ∧ iv' = .int .i64 k ∧ Hid (Sqr P S ∧ ∀ x y, x < P → y < P → at2 S x y = if x = y ∧ x < k then (x : Int) else 0) ∧ St w.heap.size w wr (own2 o uo S ++ [box 29 w.heap.size [.int .i64 P, .slice a A.length c]])) (fun i _ => P - (intOf i).toNat)
  case atStart => exact ⟨0, _, by omega, rfl, Lib.hid ⟨sqF_sqr P _, fun x y hx hy => by rw [at2_sqF hx hy, if_neg (by omega)]⟩, hS2⟩
  case round =>
    clear hS2
    obtain ⟨k, S, hk, rfl, hI, hS⟩ := hrel
    have hlS : S.length = P := hI.out.1.len
    by_cases hlt : k < P
    · have hki : (k : Int) < (P : Int) := by omega
      have hR := rii2 hS (by rw [Hlo.out, hlS])
      have hr1 := hR.ixe (k : Int) k rfl (by rw [hlS]; exact hlt)
      have c1 := hR.cell k (by rw [hlS]; exact hlt)
      have hrl : (xat S k).length = P := hI.out.1.row k hlt
      have hr2 := (hR.row k (by rw [hlS]; exact hlt)).ixe (k : Int) k rfl (by rw [hrl]; exact hlt)
      have hat := hS.at_row (by rw [Hlo.out, hlS]) (j := k) (by rw [hlS]; exact hlt)
      have u1 := hS.unfrozen (k + 1) hat (j := k) (by rw [iv_len, hrl]; exact hlt)
      have co1 := (hS.rdI (k + 1) hat).cell k (by rw [hrl]; exact hlt)
      have hS9 := hS.store (k + 1) hat (j := k) (by rw [iv_len, hrl]; exact hlt) (.int .i64 (k : Int))
      rw [iv_set, own2_set (by rw [Hlo.out, hlS]) (by rw [hlS]; exact hlt), show S.set k ((xat S k).set k (k : Int)) = putS S k k k from rfl] at hS9
      have hI2 := Lib.hid (show Sqr P (putS S k k k) ∧ ∀ x y, x < P → y < P → at2 (putS S k k k) x y = if x = y ∧ x < k + 1 then (x : Int) else 0 from ⟨putS_sqr hI.out.1 hlt k _, fun x y hx hy => by
        rw [at2_putS hI.out.1 hlt hlt, hI.out.2 x y hx hy]
        by_cases e : k = x ∧ k = y
        · obtain ⟨rfl, rfl⟩ := e; rw [if_pos ⟨rfl, rfl⟩, if_pos ⟨rfl, by omega⟩]
        · rw [if_neg e]
          by_cases e2 : x = y ∧ x < k
          · rw [if_pos e2, if_pos ⟨e2.1, by omega⟩]
          · rw [if_neg e2, if_neg (by omega)]⟩)
      clear hat hR hI hS
      go_wp2_with fail
      go_roundw
      case rel => exact ⟨k + 1, _, by omega, by go_num, hI2, hS9⟩
      case measure => simp [intOf]; omega
    · have hki : ¬ (k : Int) < (P : Int) := by omega
      have hT0 := Lib.hid (show ThS P A 0 0 S from ⟨hI.out.1, fun x y hx hy => by
        rw [hI.out.2 x y hx hy, thK_00]
        by_cases e : x = y
        · rw [if_pos ⟨e, by omega⟩, if_pos e]
        · rw [if_neg (by omega), if_neg e]⟩)
      have b1 := hS.bcell _ (at_app (i := 0) rfl) 1 rfl
      have hlv := hv.len
      clear hI hlS
      go_wp2_with fail
      go_loopw [30] (fun iv' wr => ∃ (k : Nat) (S : List (List Int)), k ≤ A.length ∧ iv' = .int .i64 k ∧ Hid (ThS P A k 0 S) ∧ St w.heap.size w wr (own2 o uo S ++ [box 29 w.heap.size [.int .i64 P, .slice a A.length c]])) (fun i _ => A.length - (intOf i).toNat)
      case atStart => exact ⟨0, S, by omega, rfl, hT0, hS⟩
      case round =>
        clear hS hT0 b1
        obtain ⟨k, S, hk, rfl, hI, hS⟩ := hrel
        by_cases hlt2 : k < A.length
        · have hki2 : (k : Int) < (A.length : Int) := by omega
          have hvo := hS.oldII hv
          have hr1 := hvo.ixe (k : Int) k rfl hlt2
          have c1 := hvo.cell k hlt2
          have h3 := HA.out.three _ (xat_mem hlt2)
          have hbl := (hvo.row k hlt2).len
          rw [h3] at hbl
          clear hvo
          go_wp2_with fail
          go_loopw [36] (fun iv' wr => ∃ (i : Nat) (S : List (List Int)), i ≤ 3 ∧ iv' = .int .i64 i ∧ Hid (ThS P A k i S) ∧ St w.heap.size w wr (own2 o uo S ++ [box 29 w.heap.size [.int .i64 P, .slice a A.length c]])) (fun i _ => 3 - (intOf i).toNat)
          case atStart => exact ⟨0, S, by omega, rfl, hI, hS⟩
          case round =>
            clear hS hI c1
            obtain ⟨i, S, hi, rfl, hI, hS⟩ := hrel
            by_cases hi3 : i < 3
            · obtain ⟨x, y, z, hx, hy, hz, n1, n2, n3, e1, e2, e3, hm, htk, t1, t2⟩ := three_at HA.out hlt2 hi3
              have hI2 := Lib.hid (hI.out.step HA.out hx hy hz n1 n2 n3 hm htk t1 t2)
              have hSq := hI.out.sqr
              have hSd := hS
              have hb := (hS.oldII hv).row k hlt2
              have lS : S.length = P := hSq.len
              have rS : (xat S x).length = P := hSq.row x hx
              have hR := rii2 hSd (by rw [Hlo.out, lS])
              have xo := hR.ixe (x : Int) x rfl (by rw [lS]; exact hx)
              have co := hR.cell x (by rw [lS]; exact hx)
              have rx := hR.row x (by rw [lS]; exact hx)
              have xy := rx.ixe (y : Int) y rfl (by rw [rS]; exact hy)
              have xz := rx.ixe (z : Int) z rfl (by rw [rS]; exact hz)
              have hat := hSd.at_row (by rw [Hlo.out, lS]) (j := x) (by rw [lS]; exact hx)
              have f1 := hSd.unfrozen (x + 1) hat (j := y) (by rw [iv_len, rS]; exact hy)
              have g1 := rx.cell y (by rw [rS]; exact hy)
              have HS9 := hSd.store (x + 1) hat (j := y) (by rw [iv_len, rS]; exact hy) (.int .i64 (z : Int))
              rw [iv_set, own2_set (by rw [Hlo.out, lS]) (by rw [lS]; exact hx), show S.set x ((xat S x).set y (z : Int)) = putS S x y z from rfl] at HS9
              have hSq2 := putS_sqr hSq hx y (z : Int)
              have lS2 : (putS S x y z).length = P := hSq2.len
              have rS2 : (xat (putS S x y z) x).length = P := hSq2.row x hx
              have hR2 := rii2 HS9 (by rw [Hlo.out, lS2])
              have d3 := hR2.cell x (by rw [lS2]; exact hx)
              have hat2 := HS9.at_row (by rw [Hlo.out, lS2]) (j := x) (by rw [lS2]; exact hx)
              have f2 := HS9.unfrozen (x + 1) hat2 (j := z) (by rw [iv_len, rS2]; exact hz)
              have g2 := (hR2.row x (by rw [lS2]; exact hx)).cell z (by rw [rS2]; exact hz)
              have HS10 := HS9.store (x + 1) hat2 (j := z) (by rw [iv_len, rS2]; exact hz) (.int .i64 (y : Int))
              rw [iv_set, own2_set (by rw [Hlo.out, lS2]) (by rw [lS2]; exact hx), show (putS S x y z).set x ((xat (putS S x y z) x).set z (y : Int)) = putS (putS S x y z) x z y from rfl] at HS10
              have H10 := Lib.hid HS10
              clear HS9 HS10 hat hat2 hR hR2 hSq hSq2 lS rS lS2 rS2 hI hS hSd rx hm htk t1 t2 n1 n2 n3
              rcases (show i = 0 ∨ i = 1 ∨ i = 2 by omega) with rfl | rfl | rfl
              · have cx := hb.cell 0 (by rw [h3]; decide)
                have cy := hb.cell 1 (by rw [h3]; decide)
                have cz := hb.cell 2 (by rw [h3]; decide)
                have ix := hb.ixe (0 : Int) 0 rfl (by rw [h3]; decide)
                have iy := hb.ixe (1 : Int) 1 rfl (by rw [h3]; decide)
                have iz := hb.ixe (2 : Int) 2 rfl (by rw [h3]; decide)
                rw [show nth (xat A k) 0 = (x : Int) from e1] at cx
                rw [show nth (xat A k) 1 = (y : Int) from e2] at cy
                rw [show nth (xat A k) 2 = (z : Int) from e3] at cz
                clear e1 e2 e3 hb
                have w1 : IntKind.i64.wrap 1 = 1 := by decide
                have w2 : IntKind.i64.wrap 2 = 2 := by decide
                have w3 : IntKind.i64.wrap 3 = 3 := by decide
                have w4 : IntKind.i64.wrap 4 = 4 := by decide
                have m1 : Int.tmod 1 3 = 1 := by decide
                have m2 : Int.tmod 2 3 = 2 := by decide
                have m3 : Int.tmod 3 3 = 0 := by decide
                have m4 : Int.tmod 4 3 = 1 := by decide
                go_wp2_with fail
                go_region_held3 (fun w' => w'.cell? (el (vat us k) 1) = some (.int .i64 y) ∧ w'.cell? (el (vat us k) 2) = some (.int .i64 z)) (((try dsimp only); (repeat' apply And.intro); all_goals (repeat (first | assumption | exact cell_dr (by assumption) | refine cell_dr ?_ | refine cell_al ?_ | refine cell_sc (by assumption) ?_)))) (fail)
                clear cx cy cz ix iy iz w1 w2 w3 w4 m1 m2 m3 m4
                go_wp2_with fail
                refine regionG (fun w' => w'.cell? (el o x) = some (vat uo x)) 15 (by kernel_rfl) (cell_dr (cell_dr co)) (fun hHeld => ?_)
                refine takeP (i := 0) (v := ?_) rfl (by kernel_rfl) (fun _ _ _ h => h) (by rfl) ?_ (by assumption) ?_
                case refine_2 => (intro w'; go_simp; first | done | with_reducible rfl)
                try simp only [Act.put, List.setIfInBounds_toArray, List.set_cons_zero, List.set_cons_succ]
                refine takeP (i := 1) (v := ?_) rfl (by kernel_rfl) (fun _ _ _ h => h) (by rfl) ?_ (by assumption) ?_
                case refine_2 => (intro w'; go_simp; first | done | with_reducible rfl)
                try simp only [Act.put, List.setIfInBounds_toArray, List.set_cons_zero, List.set_cons_succ]
                refine takeP (i := 2) (v := ?_) rfl (by kernel_rfl) (fun _ _ _ h => h) (by rfl) ?_ (by assumption) ?_
                case refine_2 => (intro w'; go_simp; first | done | with_reducible rfl)
                try simp only [Act.put, List.setIfInBounds_toArray, List.set_cons_zero, List.set_cons_succ]
                refine takeH (i := 3) [12, 13] (v := ?_) rfl (by kernel_rfl) (fun _ _ _ h => h) (by rfl) ?_ (by assumption) ?_
                case refine_2 => (intro w' hSw; (try dsimp only at hSw); go_simp; first | done | with_reducible rfl)
                try simp only [Act.put, List.setIfInBounds_toArray, List.set_cons_zero, List.set_cons_succ]
                refine takeP (i := 4) (v := ?_) rfl (by kernel_rfl) (fun _ _ _ h => h) (by rfl) ?_ (by assumption) ?_
                case refine_2 => (intro w'; go_simp; first | done | with_reducible rfl)
                try simp only [Act.put, List.setIfInBounds_toArray, List.set_cons_zero, List.set_cons_succ]
                refine takeP (i := 5) (v := ?_) rfl (by kernel_rfl) (fun _ _ _ h => h) (by rfl) ?_ (by assumption) ?_
                case refine_2 => (intro w'; go_simp; first | done | with_reducible rfl)
                try simp only [Act.put, List.setIfInBounds_toArray, List.set_cons_zero, List.set_cons_succ]
                refine takeP (i := 6) (v := ?_) rfl (by kernel_rfl) (fun _ _ _ h => h) (by rfl) ?_ (by assumption) ?_
                case refine_2 => (intro w'; go_simp; first | done | with_reducible rfl)
                try simp only [Act.put, List.setIfInBounds_toArray, List.set_cons_zero, List.set_cons_succ]
                refine takeP (i := 7) (v := ?_) rfl (by kernel_rfl) (fun _ _ _ h => h) (by rfl) ?_ (by assumption) ?_
                case refine_2 => (intro w'; go_simp; first | done | with_reducible rfl)
                try simp only [Act.put, List.setIfInBounds_toArray, List.set_cons_zero, List.set_cons_succ]
                refine takeH (i := 8) [14] (v := ?_) rfl (by kernel_rfl) (fun _ _ _ h => h) (by rfl) ?_ (by assumption) ?_
                case refine_2 => (intro w' hSw; (try dsimp only at hSw); go_simp; first | done | with_reducible rfl)
                try simp only [Act.put, List.setIfInBounds_toArray, List.set_cons_zero, List.set_cons_succ]
                refine takeP (i := 9) (v := ?_) rfl (by kernel_rfl) (fun _ _ _ h => h) (by rfl) ?_ (by assumption) ?_
                case refine_2 => (intro w'; go_simp; first | done | with_reducible rfl)
                try simp only [Act.put, List.setIfInBounds_toArray, List.set_cons_zero, List.set_cons_succ]
                refine takeP (i := 10) (v := ?_) rfl (by kernel_rfl) (fun _ _ _ h => h) (by rfl) ?_ (by assumption) ?_
                case refine_2 => (intro w'; go_simp; first | done | with_reducible rfl)
                try simp only [Act.put, List.setIfInBounds_toArray, List.set_cons_zero, List.set_cons_succ]
                refine takeP (i := 11) (v := ?_) rfl (by kernel_rfl) (fun _ _ _ h => h) (by rfl) ?_ (by assumption) ?_
                case refine_2 => (intro w'; go_simp; first | done | with_reducible rfl)
                try simp only [Act.put, List.setIfInBounds_toArray, List.set_cons_zero, List.set_cons_succ]
                refine takeP (i := 12) (v := ?_) rfl (by kernel_rfl) (fun _ _ _ h => h) (by rfl) ?_ (by assumption) ?_
                case refine_2 => (intro w'; go_simp; first | done | with_reducible rfl)
                try simp only [Act.put, List.setIfInBounds_toArray, List.set_cons_zero, List.set_cons_succ]
                try simp only [Act.put, List.setIfInBounds_toArray, List.set_cons_zero, List.set_cons_succ]
                refine readyG (rs := [13]) (by kernel_rfl) (by simp) ?_
                refine AllG.cons rfl (fun K hK => ?_) AllG.nil
                go_simp
                refine hK.out _ _ (cell_dr (cell_dr d3)) (fun hHeld => ?_)
                clear hK K
                refine takeP (i := 14) (v := ?_) rfl (by kernel_rfl) (fun _ _ _ h => h) (by rfl) ?_ (by assumption) ?_
                case refine_2 => (intro w'; go_simp; first | done | with_reducible rfl)
                try simp only [Act.put, List.setIfInBounds_toArray, List.set_cons_zero, List.set_cons_succ]
                try simp only [Act.put, List.setIfInBounds_toArray, List.set_cons_zero, List.set_cons_succ]
                refine readyG (rs := [15]) (by kernel_rfl) (by simp) ?_
                refine AllG.last rfl (by kernel_rfl) (fun K hK => ?_) AllG.nil
                go_simp
                refine hK.out _ _ ?_
                clear hK K
                try simp only [Act.put, List.setIfInBounds_toArray, List.set_cons_zero, List.set_cons_succ]
                refine doneG (by kernel_rfl) ?_ _
                refine NoPanic.normal ?_
                have hS9 := H10.out.drew.drew
                go_wp2_with fail
                go_roundw
                case rel => exact ⟨0 + 1, _, by omega, by go_num, hI2, hS9⟩
                case measure => simp [intOf]
              · have cx := hb.cell 1 (by rw [h3]; decide)
                have cy := hb.cell 2 (by rw [h3]; decide)
                have cz := hb.cell 0 (by rw [h3]; decide)
                have ix := hb.ixe (1 : Int) 1 rfl (by rw [h3]; decide)
                have iy := hb.ixe (2 : Int) 2 rfl (by rw [h3]; decide)
                have iz := hb.ixe (0 : Int) 0 rfl (by rw [h3]; decide)
                rw [show nth (xat A k) 1 = (x : Int) from e1] at cx
                rw [show nth (xat A k) 2 = (y : Int) from e2] at cy
                rw [show nth (xat A k) 0 = (z : Int) from e3] at cz
                clear e1 e2 e3 hb
                have w1 : IntKind.i64.wrap 1 = 1 := by decide
                have w2 : IntKind.i64.wrap 2 = 2 := by decide
                have w3 : IntKind.i64.wrap 3 = 3 := by decide
                have w4 : IntKind.i64.wrap 4 = 4 := by decide
                have m1 : Int.tmod 1 3 = 1 := by decide
                have m2 : Int.tmod 2 3 = 2 := by decide
                have m3 : Int.tmod 3 3 = 0 := by decide
                have m4 : Int.tmod 4 3 = 1 := by decide
                go_wp2_with fail
                go_region_held3 (fun w' => w'.cell? (el (vat us k) 2) = some (.int .i64 y) ∧ w'.cell? (el (vat us k) 0) = some (.int .i64 z)) (((try dsimp only); (repeat' apply And.intro); all_goals (repeat (first | assumption | exact cell_dr (by assumption) | refine cell_dr ?_ | refine cell_al ?_ | refine cell_sc (by assumption) ?_)))) (fail)
                clear cx cy cz ix iy iz w1 w2 w3 w4 m1 m2 m3 m4
                go_wp2_with fail
                refine regionG (fun w' => w'.cell? (el o x) = some (vat uo x)) 15 (by kernel_rfl) (cell_dr (cell_dr co)) (fun hHeld => ?_)
                refine takeP (i := 0) (v := ?_) rfl (by kernel_rfl) (fun _ _ _ h => h) (by rfl) ?_ (by assumption) ?_
                case refine_2 => (intro w'; go_simp; first | done | with_reducible rfl)
                try simp only [Act.put, List.setIfInBounds_toArray, List.set_cons_zero, List.set_cons_succ]
                refine takeP (i := 1) (v := ?_) rfl (by kernel_rfl) (fun _ _ _ h => h) (by rfl) ?_ (by assumption) ?_
                case refine_2 => (intro w'; go_simp; first | done | with_reducible rfl)
                try simp only [Act.put, List.setIfInBounds_toArray, List.set_cons_zero, List.set_cons_succ]
                refine takeP (i := 2) (v := ?_) rfl (by kernel_rfl) (fun _ _ _ h => h) (by rfl) ?_ (by assumption) ?_
                case refine_2 => (intro w'; go_simp; first | done | with_reducible rfl)
                try simp only [Act.put, List.setIfInBounds_toArray, List.set_cons_zero, List.set_cons_succ]
                refine takeH (i := 3) [12, 13] (v := ?_) rfl (by kernel_rfl) (fun _ _ _ h => h) (by rfl) ?_ (by assumption) ?_
                case refine_2 => (intro w' hSw; (try dsimp only at hSw); go_simp; first | done | with_reducible rfl)
                try simp only [Act.put, List.setIfInBounds_toArray, List.set_cons_zero, List.set_cons_succ]
                refine takeP (i := 4) (v := ?_) rfl (by kernel_rfl) (fun _ _ _ h => h) (by rfl) ?_ (by assumption) ?_
                case refine_2 => (intro w'; go_simp; first | done | with_reducible rfl)
                try simp only [Act.put, List.setIfInBounds_toArray, List.set_cons_zero, List.set_cons_succ]
                refine takeP (i := 5) (v := ?_) rfl (by kernel_rfl) (fun _ _ _ h => h) (by rfl) ?_ (by assumption) ?_
                case refine_2 => (intro w'; go_simp; first | done | with_reducible rfl)
                try simp only [Act.put, List.setIfInBounds_toArray, List.set_cons_zero, List.set_cons_succ]
                refine takeP (i := 6) (v := ?_) rfl (by kernel_rfl) (fun _ _ _ h => h) (by rfl) ?_ (by assumption) ?_
                case refine_2 => (intro w'; go_simp; first | done | with_reducible rfl)
                try simp only [Act.put, List.setIfInBounds_toArray, List.set_cons_zero, List.set_cons_succ]
                refine takeP (i := 7) (v := ?_) rfl (by kernel_rfl) (fun _ _ _ h => h) (by rfl) ?_ (by assumption) ?_
                case refine_2 => (intro w'; go_simp; first | done | with_reducible rfl)
                try simp only [Act.put, List.setIfInBounds_toArray, List.set_cons_zero, List.set_cons_succ]
                refine takeH (i := 8) [14] (v := ?_) rfl (by kernel_rfl) (fun _ _ _ h => h) (by rfl) ?_ (by assumption) ?_
                case refine_2 => (intro w' hSw; (try dsimp only at hSw); go_simp; first | done | with_reducible rfl)
                try simp only [Act.put, List.setIfInBounds_toArray, List.set_cons_zero, List.set_cons_succ]
                refine takeP (i := 9) (v := ?_) rfl (by kernel_rfl) (fun _ _ _ h => h) (by rfl) ?_ (by assumption) ?_
                case refine_2 => (intro w'; go_simp; first | done | with_reducible rfl)
                try simp only [Act.put, List.setIfInBounds_toArray, List.set_cons_zero, List.set_cons_succ]
                refine takeP (i := 10) (v := ?_) rfl (by kernel_rfl) (fun _ _ _ h => h) (by rfl) ?_ (by assumption) ?_
                case refine_2 => (intro w'; go_simp; first | done | with_reducible rfl)
                try simp only [Act.put, List.setIfInBounds_toArray, List.set_cons_zero, List.set_cons_succ]
                refine takeP (i := 11) (v := ?_) rfl (by kernel_rfl) (fun _ _ _ h => h) (by rfl) ?_ (by assumption) ?_
                case refine_2 => (intro w'; go_simp; first | done | with_reducible rfl)
                try simp only [Act.put, List.setIfInBounds_toArray, List.set_cons_zero, List.set_cons_succ]
                refine takeP (i := 12) (v := ?_) rfl (by kernel_rfl) (fun _ _ _ h => h) (by rfl) ?_ (by assumption) ?_
                case refine_2 => (intro w'; go_simp; first | done | with_reducible rfl)
                try simp only [Act.put, List.setIfInBounds_toArray, List.set_cons_zero, List.set_cons_succ]
                try simp only [Act.put, List.setIfInBounds_toArray, List.set_cons_zero, List.set_cons_succ]
                refine readyG (rs := [13]) (by kernel_rfl) (by simp) ?_
                refine AllG.cons rfl (fun K hK => ?_) AllG.nil
                go_simp
                refine hK.out _ _ (cell_dr (cell_dr d3)) (fun hHeld => ?_)
                clear hK K
                refine takeP (i := 14) (v := ?_) rfl (by kernel_rfl) (fun _ _ _ h => h) (by rfl) ?_ (by assumption) ?_
                case refine_2 => (intro w'; go_simp; first | done | with_reducible rfl)
                try simp only [Act.put, List.setIfInBounds_toArray, List.set_cons_zero, List.set_cons_succ]
                try simp only [Act.put, List.setIfInBounds_toArray, List.set_cons_zero, List.set_cons_succ]
                refine readyG (rs := [15]) (by kernel_rfl) (by simp) ?_
                refine AllG.last rfl (by kernel_rfl) (fun K hK => ?_) AllG.nil
                go_simp
                refine hK.out _ _ ?_
                clear hK K
                try simp only [Act.put, List.setIfInBounds_toArray, List.set_cons_zero, List.set_cons_succ]
                refine doneG (by kernel_rfl) ?_ _
                refine NoPanic.normal ?_
                have hS9 := H10.out.drew.drew
                go_wp2_with fail
                go_roundw
                case rel => exact ⟨1 + 1, _, by omega, by go_num, hI2, hS9⟩
                case measure => simp [intOf]
              · have cx := hb.cell 2 (by rw [h3]; decide)
                have cy := hb.cell 0 (by rw [h3]; decide)
                have cz := hb.cell 1 (by rw [h3]; decide)
                have ix := hb.ixe (2 : Int) 2 rfl (by rw [h3]; decide)
                have iy := hb.ixe (0 : Int) 0 rfl (by rw [h3]; decide)
                have iz := hb.ixe (1 : Int) 1 rfl (by rw [h3]; decide)
                rw [show nth (xat A k) 2 = (x : Int) from e1] at cx
                rw [show nth (xat A k) 0 = (y : Int) from e2] at cy
                rw [show nth (xat A k) 1 = (z : Int) from e3] at cz
                clear e1 e2 e3 hb
                have w1 : IntKind.i64.wrap 1 = 1 := by decide
                have w2 : IntKind.i64.wrap 2 = 2 := by decide
                have w3 : IntKind.i64.wrap 3 = 3 := by decide
                have w4 : IntKind.i64.wrap 4 = 4 := by decide
                have m1 : Int.tmod 1 3 = 1 := by decide
                have m2 : Int.tmod 2 3 = 2 := by decide
                have m3 : Int.tmod 3 3 = 0 := by decide
                have m4 : Int.tmod 4 3 = 1 := by decide
                go_wp2_with fail
                go_region_held3 (fun w' => w'.cell? (el (vat us k) 0) = some (.int .i64 y) ∧ w'.cell? (el (vat us k) 1) = some (.int .i64 z)) (((try dsimp only); (repeat' apply And.intro); all_goals (repeat (first | assumption | exact cell_dr (by assumption) | refine cell_dr ?_ | refine cell_al ?_ | refine cell_sc (by assumption) ?_)))) (fail)
                clear cx cy cz ix iy iz w1 w2 w3 w4 m1 m2 m3 m4
                go_wp2_with fail
                refine regionG (fun w' => w'.cell? (el o x) = some (vat uo x)) 15 (by kernel_rfl) (cell_dr (cell_dr co)) (fun hHeld => ?_)
                refine takeP (i := 0) (v := ?_) rfl (by kernel_rfl) (fun _ _ _ h => h) (by rfl) ?_ (by assumption) ?_
                case refine_2 => (intro w'; go_simp; first | done | with_reducible rfl)
                try simp only [Act.put, List.setIfInBounds_toArray, List.set_cons_zero, List.set_cons_succ]
                refine takeP (i := 1) (v := ?_) rfl (by kernel_rfl) (fun _ _ _ h => h) (by rfl) ?_ (by assumption) ?_
                case refine_2 => (intro w'; go_simp; first | done | with_reducible rfl)
                try simp only [Act.put, List.setIfInBounds_toArray, List.set_cons_zero, List.set_cons_succ]
                refine takeP (i := 2) (v := ?_) rfl (by kernel_rfl) (fun _ _ _ h => h) (by rfl) ?_ (by assumption) ?_
                case refine_2 => (intro w'; go_simp; first | done | with_reducible rfl)
                try simp only [Act.put, List.setIfInBounds_toArray, List.set_cons_zero, List.set_cons_succ]
                refine takeH (i := 3) [12, 13] (v := ?_) rfl (by kernel_rfl) (fun _ _ _ h => h) (by rfl) ?_ (by assumption) ?_
                case refine_2 => (intro w' hSw; (try dsimp only at hSw); go_simp; first | done | with_reducible rfl)
                try simp only [Act.put, List.setIfInBounds_toArray, List.set_cons_zero, List.set_cons_succ]
                refine takeP (i := 4) (v := ?_) rfl (by kernel_rfl) (fun _ _ _ h => h) (by rfl) ?_ (by assumption) ?_
                case refine_2 => (intro w'; go_simp; first | done | with_reducible rfl)
                try simp only [Act.put, List.setIfInBounds_toArray, List.set_cons_zero, List.set_cons_succ]
                refine takeP (i := 5) (v := ?_) rfl (by kernel_rfl) (fun _ _ _ h => h) (by rfl) ?_ (by assumption) ?_
                case refine_2 => (intro w'; go_simp; first | done | with_reducible rfl)
                try simp only [Act.put, List.setIfInBounds_toArray, List.set_cons_zero, List.set_cons_succ]
                refine takeP (i := 6) (v := ?_) rfl (by kernel_rfl) (fun _ _ _ h => h) (by rfl) ?_ (by assumption) ?_
                case refine_2 => (intro w'; go_simp; first | done | with_reducible rfl)
                try simp only [Act.put, List.setIfInBounds_toArray, List.set_cons_zero, List.set_cons_succ]
                refine takeP (i := 7) (v := ?_) rfl (by kernel_rfl) (fun _ _ _ h => h) (by rfl) ?_ (by assumption) ?_
                case refine_2 => (intro w'; go_simp; first | done | with_reducible rfl)
                try simp only [Act.put, List.setIfInBounds_toArray, List.set_cons_zero, List.set_cons_succ]
                refine takeH (i := 8) [14] (v := ?_) rfl (by kernel_rfl) (fun _ _ _ h => h) (by rfl) ?_ (by assumption) ?_
                case refine_2 => (intro w' hSw; (try dsimp only at hSw); go_simp; first | done | with_reducible rfl)
                try simp only [Act.put, List.setIfInBounds_toArray, List.set_cons_zero, List.set_cons_succ]
                refine takeP (i := 9) (v := ?_) rfl (by kernel_rfl) (fun _ _ _ h => h) (by rfl) ?_ (by assumption) ?_
                case refine_2 => (intro w'; go_simp; first | done | with_reducible rfl)
                try simp only [Act.put, List.setIfInBounds_toArray, List.set_cons_zero, List.set_cons_succ]
                refine takeP (i := 10) (v := ?_) rfl (by kernel_rfl) (fun _ _ _ h => h) (by rfl) ?_ (by assumption) ?_
                case refine_2 => (intro w'; go_simp; first | done | with_reducible rfl)
                try simp only [Act.put, List.setIfInBounds_toArray, List.set_cons_zero, List.set_cons_succ]
                refine takeP (i := 11) (v := ?_) rfl (by kernel_rfl) (fun _ _ _ h => h) (by rfl) ?_ (by assumption) ?_
                case refine_2 => (intro w'; go_simp; first | done | with_reducible rfl)
                try simp only [Act.put, List.setIfInBounds_toArray, List.set_cons_zero, List.set_cons_succ]
                refine takeP (i := 12) (v := ?_) rfl (by kernel_rfl) (fun _ _ _ h => h) (by rfl) ?_ (by assumption) ?_
                case refine_2 => (intro w'; go_simp; first | done | with_reducible rfl)
                try simp only [Act.put, List.setIfInBounds_toArray, List.set_cons_zero, List.set_cons_succ]
                try simp only [Act.put, List.setIfInBounds_toArray, List.set_cons_zero, List.set_cons_succ]
                refine readyG (rs := [13]) (by kernel_rfl) (by simp) ?_
                refine AllG.cons rfl (fun K hK => ?_) AllG.nil
                go_simp
                refine hK.out _ _ (cell_dr (cell_dr d3)) (fun hHeld => ?_)
                clear hK K
                refine takeP (i := 14) (v := ?_) rfl (by kernel_rfl) (fun _ _ _ h => h) (by rfl) ?_ (by assumption) ?_
                case refine_2 => (intro w'; go_simp; first | done | with_reducible rfl)
                try simp only [Act.put, List.setIfInBounds_toArray, List.set_cons_zero, List.set_cons_succ]
                try simp only [Act.put, List.setIfInBounds_toArray, List.set_cons_zero, List.set_cons_succ]
                refine readyG (rs := [15]) (by kernel_rfl) (by simp) ?_
                refine AllG.last rfl (by kernel_rfl) (fun K hK => ?_) AllG.nil
                go_simp
                refine hK.out _ _ ?_
                clear hK K
                try simp only [Act.put, List.setIfInBounds_toArray, List.set_cons_zero, List.set_cons_succ]
                refine doneG (by kernel_rfl) ?_ _
                refine NoPanic.normal ?_
                have hS9 := H10.out.drew.drew
                go_wp2_with fail
                go_roundw
                case rel => exact ⟨2 + 1, _, by omega, by go_num, hI2, hS9⟩
                case measure => simp [intOf]
            · obtain rfl : i = 3 := by omega
              go_wp2_with fail
              go_roundw
              case rel => exact ⟨k + 1, S, by omega, by go_num, Lib.hid (hI.out.next HA.out hlt2), hS⟩
              case measure => simp [intOf]; omega
        · obtain rfl : k = A.length := by omega
          have e := hI.out.all HA.out
          go_wp2_with fail
          go_ret
          exact ⟨o, uo, rfl, by rw [Hlo.out, sqF_len], by rw [← e]; exact hS.sub (List.sublist_append_left _ _)⟩
end Go.Proofs.YtlmbaeaakpmhnaaGreat
end

section
/- Walks: valid Latin squares, isotopes, of the program. Walks: isotopes of the program. -/
namespace Go.Proofs.YtlmbaeaakpmhnaaGreat
set_option linter.unusedSimpArgs false
set_option linter.unusedVariables false
open Go.RowKit
attribute [local go_sem ↓] Go.wp_at_zero Go.wp_at_succ


/-- a permutation of n numbers -/
noncomputable def pvN (n : Nat) (xs : List Int) : Bool := decide (xs.length = n) && pvB xs
set_option maxHeartbeats 2000000 in
set_option maxRecDepth 100000 in
theorem areP1_c (v : Value) (xs : List Int) (n : Nat) (g : Nat) (w : World) (hv : RdI w v xs) (hb : w.cell? ⟨g, 0, none⟩ = some (.int .i64 n)) (hN : xs.length ≤ 1048576) :
    Calls Tryz.prog 199 #[v, .pointer (some ⟨g, 0, none⟩)] w (GivesB w (!pvN n xs)) := by
  have hq : ∀ s : SS w.heap.size w [], s.w.cell? ⟨g, 0, none⟩ = some (.int .i64 n) := fun s => by rw [s.st.below.cell (World.block_lt_of_cell? _ _ hb)]; exact hb
  have HZ := fun s : SS w.heap.size w [] => Lib.hid (sz_c v xs s.w (s.st.oldI hv))
  have HV := fun s : SS w.heap.size w [] => Lib.hid (ValidPermutation_c v xs s.w (s.st.oldI hv) hN)
  have hS := St.refl w
  by_cases h : xs.length = n
  · have f1 : ((xs.length : Int) != (n : Int)) = false := ne_f (by omega)
    have He : Hid ((!pvN n xs) = !pvB xs) := Lib.hid (by rw [pvN, decide_eq_true h]; rfl)
    rw [He.out]
    generalize pvB xs = b at *
    clear h He
    go_enter Tryz.func199, Tryz.ntmps199
    go_wp2_with fail
    have hne : Nonempty (SS _ _ _) := ⟨⟨_, hS⟩⟩
    refine wp_region_st (by kernel_rfl) (by kernel_rfl) hS ?_
    repeat (go_big_quiet_step ((first | (go_at_call 198; exact st_quiet0 (HZ _).out) | (go_at_call 125; exact st_quiet (HV _).out))))
    refine wpQuiet_nil ?_
    rintro _ ⟨s2, rfl⟩
    have hS2 := s2.st
    generalize s2.w = w2 at hS2 ⊢
    go_wp2_with fail
    go_ret
    exact ⟨rfl, hS2⟩
  · have f1 : ((xs.length : Int) != (n : Int)) = true := ne_t (by omega)
    have He : Hid ((!pvN n xs) = true) := Lib.hid (by rw [pvN, decide_eq_false h]; rfl)
    rw [He.out]
    clear h He
    go_enter Tryz.func199, Tryz.ntmps199
    go_wp2_with fail
    have hne : Nonempty (SS _ _ _) := ⟨⟨_, hS⟩⟩
    refine wp_region_st (by kernel_rfl) (by kernel_rfl) hS ?_
    repeat (go_big_quiet_step ((first | (go_at_call 198; exact st_quiet0 (HZ _).out) | (go_at_call 125; exact st_quiet (HV _).out))))
    refine wpQuiet_nil ?_
    rintro _ ⟨s2, rfl⟩
    have hS2 := s2.st
    generalize s2.w = w2 at hS2 ⊢
    go_wp2_with fail
    go_ret
    exact ⟨rfl, hS2⟩
/-- all rows are permutations of n numbers -/
noncomputable def allP (n : Nat) (A : List (List Int)) : Bool := !anyR (fun r => !pvN n r) A
theorem allP_at {n : Nat} {A : List (List Int)} (h : allP n A = true) {x : Nat} (hx : x < A.length) : (xat A x).length = n ∧ pvB (xat A x) = true := by
  unfold allP anyR at h
  have h' : A.any (fun r => !pvN n r) = false := by simpa using h
  have := List.any_eq_false.1 h' _ (xat_mem hx)
  simpa [pvN] using this
theorem allP_of {n : Nat} {A : List (List Int)} (h : ∀ x, x < A.length → (xat A x).length = n ∧ pvB (xat A x) = true) : allP n A = true := by
  unfold allP anyR
  have : A.any (fun r => !pvN n r) = false := by
    rw [List.any_eq_false]
    intro r hr
    obtain ⟨x, hx, rfl⟩ := List.getElem_of_mem hr
    have := h x hx
    rw [xat_eq hx] at this
    simp [pvN, this]
  rw [this]; rfl
set_option maxHeartbeats 2000000 in
set_option maxRecDepth 100000 in
theorem arePermutations_c (n : Nat) (v : Value) (us : List Value) (A : List (List Int)) (w : World) (hv : RII w v us A) (hN : ∀ x, x < A.length → (xat A x).length ≤ 1048576) :
    Calls Tryz.prog 124 #[.int .i64 n, v] w (GivesB w (allP n A)) := by
  have hS1 := (St.refl w).newboxF 2 #[.int .i64 n]
  have hcf := callFunc_go Tryz.func199 (by kernel_rfl) (by kernel_rfl)
  have hmf : ∀ (fn : Fn) (first cap : Array Value) (w : World), (Instr.makeFunc fn first cap).run Tryz.prog w = .ok (.func fn first cap) w := fun _ _ _ _ => rfl
  have hcall := Lib.hid (ContainsFuncR_c 199 #[.pointer (some ⟨w.heap.size, 0, none⟩)] (fun r => !pvN n r) v us A _ (hS1.oldII hv) hcf (fun j W hW hj => areP1_c (vat us j) (xat A j) n w.heap.size W ((hW.oldII (hS1.oldII hv)).row j hj) (by
    rw [hW.below.cell (World.block_lt_of_cell? _ _ (hS1.bcell 0 rfl 0 rfl))]; exact hS1.bcell 0 rfl 0 rfl) (hN j hj)))
  clear hcf hN
  go_enter Tryz.func124, Tryz.ntmps124
  go_wp2_with fail
  refine hcall.out.mono ?_
  rintro e w1 ⟨rfl, h1⟩
  have hS2 := hS1.call0 h1
  go_wp2_with fail
  go_ret
  exact ⟨rfl, hS2.out⟩
theorem Lat.mk' {A : List (List Int)} (h1 : 1 ≤ A.length) (h2 : A.length ≤ 10) (ha : allP A.length A = true) (hc : ∀ y, y < A.length → pvB (colL A y) = true) : Lat A :=
  ⟨h1, h2, fun _ hx => (allP_at ha hx).1, fun _ hx => (pvB_t (allP_at ha hx).2).2, fun y hy => (pvB_t (hc y hy)).2⟩
theorem Lat.allP {A : List (List Int)} (h : Lat A) : allP A.length A = true := allP_of fun x hx => ⟨h.len x hx, pvB_yes (by rw [h.len x hx]; have := h.le; omega) (h.row x hx)⟩
theorem Lat.colP {A : List (List Int)} (h : Lat A) {y : Nat} (hy : y < A.length) : pvB (colL A y) = true := pvB_yes (by rw [colL_len]; have := h.le; omega) (h.col y hy)
theorem col_take {A : List (List Int)} {y k : Nat} (h : k < A.length) : (colL A y).take (k + 1) = (colL A y).take k ++ [at2 A k y] := by
  rw [take_nth (by rw [colL_len]; exact h), nth_colL h]
set_option maxHeartbeats 4000000 in
set_option maxRecDepth 100000 in
theorem ValidSquare_c (v : Value) (us : List Value) (A : List (List Int)) (w : World) (hv : RII w v us A) (hN : ∀ x, x < A.length → (xat A x).length ≤ 1048576) :
    Calls Tryz.prog 53 #[v] w (GivesB w (latB A)) := by
  have hln := hv.len
  have hix := hv.ix
  have HZ := fun W (h : RII W v us A) => Lib.hid (szII_c v us A W h)
  have HA := fun W (h : RII W v us A) => Lib.hid (arePermutations_c A.length v us A W h hN)
  by_cases hn : 1 ≤ (A.length : Int) ∧ (A.length : Int) ≤ 10
  · have i1 := inB_true hn
    cases ha : allP A.length A
    · have Hl := Lib.hid (latB_no (A := A) fun h => by rw [h.allP] at ha; cases ha)
      rw [ha] at HA
      clear ha
      go_enter Tryz.func53, Tryz.ntmps53
      go_wp2_with fail
      refine (HZ _ hv).out.mono ?_
      rintro e w1 ⟨rfl, rfl⟩
      go_wp2_with (first
        | (go_at_call 124; refine (HA _ hv).out.mono ?_; rintro e w3 ⟨rfl, h3⟩)
        | (go_at_call 88; refine (within_c _ _ _ _).mono ?_; rw [i1]; rintro e w2 ⟨rfl, rfl⟩))
      go_ret
      exact ⟨ret_bool Hl.out.symm, h3⟩
    · have hlt2 : A.length ≤ 10 := by omega
      have HL := Lib.hid (fun h => Lat.mk' (A := A) (by omega) hlt2 ha h)
      have Hc := fun y (hy : y < A.length) (h : pvB (colL A y) = false) => Lib.hid (latB_no (A := A) fun hl => by rw [hl.colP hy] at h; cases h)
      have Hrl := fun x (hx : x < A.length) => Lib.hid (allP_at ha hx).1
      rw [ha] at HA
      clear ha
      go_enter Tryz.func53, Tryz.ntmps53
      go_wp2_with fail
      refine (HZ _ hv).out.mono ?_
      rintro e w1 ⟨rfl, rfl⟩
      go_wp2_with (first
        | (go_at_call 124; refine (HA _ hv).out.mono ?_; rintro e w3 ⟨rfl, h3⟩)
        | (go_at_call 88; refine (within_c _ _ _ _).mono ?_; rw [i1]; rintro e w2 ⟨rfl, rfl⟩))
      go_loopw [4, 5, 6, 20, 25] (fun _ _ _ i _ wr => ∃ k : Nat, k ≤ A.length ∧ i = .int .i64 k ∧ Hid (∀ y, y < k → pvB (colL A y) = true) ∧ St w.heap.size w wr []) (fun _ _ _ i _ _ => A.length - (intOf i).toNat)
      case atStart => exact ⟨0, by omega, rfl, fun y hy => by omega, h3⟩
      case round =>
        clear h3
        obtain ⟨k, hk, rfl, hI, hS⟩ := hrel
        by_cases hlt : k < A.length
        · have hS1 := hS.emp
          have Hcl := Lib.hid (colL_len A k)
          have Hct := fun m (h : m < A.length) => Lib.hid (col_take (A := A) (y := k) h)
          have Htl := fun m => Lib.hid (show ((colL A k).take m).length < 4294967296 by rw [List.length_take, colL_len]; omega)
          have HV := fun W u (h : RdI W u (colL A k)) => Lib.hid (ValidPermutation_c u _ W h (by rw [colL_len]; omega))
          have Hck := Hc k hlt
          have Hta := Lib.hid (show (colL A k).take A.length = colL A k by rw [← Hcl.out, List.take_length])
          have Ht0 := Lib.hid (show (colL A k).take 0 = [] from rfl)
          have HI1 := Lib.hid (show pvB (colL A k) = true → ∀ y, y < k + 1 → pvB (colL A y) = true from fun h y hy => by
            by_cases e : y = k
            · rw [e]; exact h
            · exact hI.out y (by omega))
          generalize colL A k = C at *
          go_wp2_with fail
          go_loopw [5, 6, 25] (fun c _ j wr' => ∃ m : Nat, m ≤ A.length ∧ j = .int .i64 m ∧ St w.heap.size w wr' [row 2 c (iv (C.take m))]) (fun _ _ j _ => A.length - (intOf j).toNat)
          case atStart => exact ⟨0, by omega, rfl, by rw [Ht0.out]; exact hS1⟩
          case round =>
            clear hS hS1
            obtain ⟨m, hm, rfl, hS⟩ := hrel
            by_cases hml : m < A.length
            · have hR := hS.oldII hv
              have hcm := hR.cell m hml
              have hrl := (Hrl m hml).out
              have hxm := (hR.row m hml).ixe (k : Int) k rfl (by rw [hrl]; exact hlt)
              have hcx : wr.cell? (el (vat us m) k) = some (.int .i64 (at2 A m k)) := (hR.row m hml).cell k (by rw [hrl]; exact hlt)
              have Hst := Hct m hml
              have HtL := Htl m
              clear hR hrl
              generalize at2 A m k = z at *
              go_wp2_with (at_builtin; refine appI hS 0 rfl HtL.out rfl _ _ rfl rfl _ rfl ?_; intro v' w2 hS2)
              simp only [List.set_cons_zero] at hS2
              rw [← Hst.out] at hS2
              go_roundw
              case rel => exact ⟨m + 1, by omega, by go_num, hS2⟩
              case measure => simp [intOf]; omega
            · obtain rfl : m = A.length := by omega
              rw [Hta.out] at hS
              have hV := HV _ _ (hS.rdI 0 rfl)
              cases hp : pvB C
              · rw [hp] at hV
                have Hno := Hck hp
                clear hp
                go_wp2_with fail
                refine hV.out.mono ?_
                rintro e w4 ⟨rfl, h4⟩
                have hS4 := hS.call0 h4
                go_wp2_with fail
                go_ret
                exact ⟨ret_bool Hno.out.symm, hS4.out⟩
              · rw [hp] at hV
                have HI2 := Lib.hid (HI1.out hp)
                clear hp
                go_wp2_with fail
                refine hV.out.mono ?_
                rintro e w4 ⟨rfl, h4⟩
                have hS4 := hS.call0 h4
                go_wp2_with fail
                go_roundw
                case rel => exact ⟨k + 1, by omega, by go_num, HI2.out, hS4.out⟩
                case measure => simp [intOf]; omega
        · obtain rfl : k = A.length := by omega
          have Hy := Lib.hid (latB_yes (HL.out hI.out))
          go_wp2_with fail
          go_ret
          exact ⟨ret_bool Hy.out.symm, hS⟩
  · have i1 := inB_false hn
    have Hl := Lib.hid (latB_no (A := A) fun h => hn (by have := h.pos; have := h.le; omega))
    clear hn
    go_enter Tryz.func53, Tryz.ntmps53
    go_wp2_with fail
    refine (HZ _ hv).out.mono ?_
    rintro e w1 ⟨rfl, rfl⟩
    go_wp2_with (go_at_call 88; refine (within_c _ _ _ _).mono ?_; rw [i1]; rintro e w2 ⟨rfl, rfl⟩)
    go_ret
    exact ⟨ret_bool Hl.out.symm, St.refl _⟩


set_option maxHeartbeats 4000000 in
set_option maxRecDepth 100000 in
theorem l06Ok_c (v : Value) (us : List Value) (A : List (List Int)) (w : World) (hv : RII w v us A) : Calls Tryz.prog 57 #[v] w (GivesB w (latB A)) := by
  have hln := hv.len
  have hix := hv.ix
  by_cases hn1 : A.length < 1
  · have Hl := Lib.hid (latB_no (A := A) fun h => by have := h.pos; omega)
    go_enter Tryz.func57, Tryz.ntmps57
    go_wp2_with fail
    go_ret
    exact ⟨ret_bool Hl.out.symm, St.refl w⟩
  · by_cases hn2 : 10 < A.length
    · have Hl := Lib.hid (latB_no (A := A) fun h => by have := h.le; omega)
      go_enter Tryz.func57, Tryz.ntmps57
      go_wp2_with fail
      go_ret
      exact ⟨ret_bool Hl.out.symm, St.refl w⟩
    · have Hrow := fun x (hx : x < A.length) (hb : ¬ ((xat A x).length = A.length ∧ pvB (xat A x) = true)) => Lib.hid (latB_no (A := A) fun h => hb ⟨h.len x hx, pvB_yes (by rw [h.len x hx]; omega) (h.row x hx)⟩)
      have Hc := fun y (hy : y < A.length) (h : pvB (colL A y) = false) => Lib.hid (latB_no (A := A) fun hl => by rw [hl.colP hy] at h; cases h)
      have HL := fun (ha : ∀ x, x < A.length → (xat A x).length = A.length ∧ pvB (xat A x) = true) hc => Lib.hid (latB_yes (Lat.mk' (A := A) (by omega) (by omega) (allP_of ha) hc))
      go_enter Tryz.func57, Tryz.ntmps57
      go_wp2_with fail
      go_loopw [4] (fun i wr => ∃ k : Nat, k ≤ A.length ∧ i = .int .i64 k ∧ Hid (∀ x, x < k → (xat A x).length = A.length ∧ pvB (xat A x) = true) ∧ St w.heap.size w wr []) (fun i _ => A.length - (intOf i).toNat)
      case atStart => exact ⟨0, by omega, rfl, fun x hx => by omega, St.refl w⟩
      case round =>
        obtain ⟨k, hk, rfl, hI, hS⟩ := hrel
        by_cases hlt : k < A.length
        · have ck := (hS.oldII hv).cell k hlt
          have hr := (hS.oldII hv).row k hlt
          have hrl := hr.len
          have HV := Lib.hid (l04Ok_c (vat us k) (xat A k) wr hr)
          have HI1 := Lib.hid (show (xat A k).length = A.length → pvB (xat A k) = true → ∀ x, x < k + 1 → (xat A x).length = A.length ∧ pvB (xat A x) = true from fun h1 h2 x hx => by
            by_cases e : x = k
            · rw [e]; exact ⟨h1, h2⟩
            · exact hI.out x (by omega))
          have HR := Hrow k hlt
          clear hr
          generalize hX : xat A k = X at *
          clear hX
          by_cases hxl : X.length = A.length
          · have f1 : ((X.length : Int) != (A.length : Int)) = false := ne_f (by omega)
            have Hxl := Lib.hid hxl
            clear hxl
            cases hp : pvB X
            · rw [hp] at HV
              have Hno := HR (fun h => by rw [hp] at h; cases h.2)
              clear hp
              go_wp2_with (go_at_call 136; refine HV.out.mono ?_; rintro e w2 ⟨rfl, h2⟩; have hS2 := hS.call0 h2)
              go_ret
              exact ⟨ret_bool Hno.out.symm, hS2⟩
            · rw [hp] at HV
              have HI2 := Lib.hid (HI1.out Hxl.out hp)
              clear hp
              go_wp2_with (go_at_call 136; refine HV.out.mono ?_; rintro e w2 ⟨rfl, h2⟩; have hS2 := hS.call0 h2)
              go_roundw
              case rel => exact ⟨k + 1, by omega, by go_num, HI2.out, hS2⟩
              case measure => simp [intOf]; omega
          · have f1 : ((X.length : Int) != (A.length : Int)) = true := ne_t (by omega)
            have Hno := HR (fun h => hxl h.1)
            clear hxl
            go_wp2_with fail
            go_ret
            exact ⟨ret_bool Hno.out.symm, hS⟩
        · obtain rfl : k = A.length := by omega
          have HL2 := fun hc => HL hI.out hc
          have Hrl := fun x (hx : x < A.length) => Lib.hid (hI.out x hx).1
          clear hI Hrow HL
          go_wp2_with fail
          go_loopw [5, 6, 7] (fun i _ _ wr => ∃ k : Nat, k ≤ A.length ∧ i = .int .i64 k ∧ Hid (∀ y, y < k → pvB (colL A y) = true) ∧ St w.heap.size w wr []) (fun i _ _ _ => A.length - (intOf i).toNat)
          case atStart => exact ⟨0, by omega, rfl, fun y hy => by omega, hS⟩
          case round =>
            clear hS
            obtain ⟨k, hk, rfl, hI, hS⟩ := hrel
            by_cases hlt : k < A.length
            · have hS1 := hS.call St.emp0
              simp only [List.nil_append] at hS1
              have Hcl := Lib.hid (colL_len A k)
              have Hct := fun m (h : m < A.length) => Lib.hid (col_take (A := A) (y := k) h)
              have Htl := fun m => Lib.hid (show ((colL A k).take m).length < 4294967296 by rw [List.length_take, colL_len]; omega)
              have HV := fun W u (h : RdI W u (colL A k)) => Lib.hid (l04Ok_c u _ W h)
              have Hck := Hc k hlt
              have Hta := Lib.hid (show (colL A k).take A.length = colL A k by rw [← Hcl.out, List.take_length])
              have Ht0 := Lib.hid (show (colL A k).take 0 = [] from rfl)
              have HI1 := Lib.hid (show pvB (colL A k) = true → ∀ y, y < k + 1 → pvB (colL A y) = true from fun h y hy => by
                by_cases e : y = k
                · rw [e]; exact h
                · exact hI.out y (by omega))
              generalize colL A k = C at *
              go_wp2_with fail
              go_loopw [6, 7] (fun c j wr' => ∃ m : Nat, m ≤ A.length ∧ j = .int .i64 m ∧ St w.heap.size w wr' [row 2 c (iv (C.take m))]) (fun _ j _ => A.length - (intOf j).toNat)
              case atStart => exact ⟨0, by omega, rfl, by rw [Ht0.out]; exact hS1⟩
              case round =>
                clear hS hS1
                obtain ⟨m, hm, rfl, hS⟩ := hrel
                by_cases hml : m < A.length
                · have hR := hS.oldII hv
                  have hcm := hR.cell m hml
                  have hrl := (Hrl m hml).out
                  have hxm := (hR.row m hml).ixe (k : Int) k rfl (by rw [hrl]; exact hlt)
                  have hcx : wr.cell? (el (vat us m) k) = some (.int .i64 (at2 A m k)) := (hR.row m hml).cell k (by rw [hrl]; exact hlt)
                  have Hst := Hct m hml
                  have HtL := Htl m
                  clear hR hrl
                  generalize at2 A m k = z at *
                  go_wp2_with (at_builtin; refine appI hS 0 rfl HtL.out rfl _ _ rfl rfl _ rfl ?_; intro v' w2 hS2)
                  simp only [List.set_cons_zero] at hS2
                  rw [← Hst.out] at hS2
                  go_roundw
                  case rel => exact ⟨m + 1, by omega, by go_num, hS2⟩
                  case measure => simp [intOf]; omega
                · obtain rfl : m = A.length := by omega
                  rw [Hta.out] at hS
                  have hV := HV _ _ (hS.rdI 0 rfl)
                  cases hp : pvB C
                  · rw [hp] at hV
                    have Hno := Hck hp
                    clear hp
                    go_wp2_with fail
                    refine hV.out.mono ?_
                    rintro e w4 ⟨rfl, h4⟩
                    have hS4 := hS.call0 h4
                    go_wp2_with fail
                    go_ret
                    exact ⟨ret_bool Hno.out.symm, hS4.out⟩
                  · rw [hp] at hV
                    have HI2 := Lib.hid (HI1.out hp)
                    clear hp
                    go_wp2_with fail
                    refine hV.out.mono ?_
                    rintro e w4 ⟨rfl, h4⟩
                    have hS4 := hS.call0 h4
                    go_wp2_with fail
                    go_roundw
                    case rel => exact ⟨k + 1, by omega, by go_num, HI2.out, hS4.out⟩
                    case measure => simp [intOf]; omega
            · obtain rfl : k = A.length := by omega
              have Hy := HL2 hI.out
              go_wp2_with fail
              go_ret
              exact ⟨ret_bool Hy.out.symm, hS⟩
theorem sValidSquare_c (v : Value) (us : List Value) (A : List (List Int)) (w : World) (hv : RII w v us A) : Calls Tryz.prog 17 #[v] w (GivesB w (latB A)) := by
  go_enter Tryz.func17, Tryz.ntmps17
  go_wp2_with fail
  refine (l06Ok_c v us A w hv).mono ?_
  rintro e w1 ⟨rfl, h1⟩
  go_wp2_with fail
  go_ret
  exact ⟨rfl, h1⟩
/-- a square and a code -/
def IIK (w : World) (A : List (List Int)) (c : Int) (e : Ending) (w' : World) : Prop := ∃ v us, e = .returned (.tuple #[v, .int .i64 c]) ∧ us.length = A.length ∧ St w.heap.size w w' (own2 v us A)
theorem IIK.no {w w' : World} {L : List Ent} {c : Int} (h : St w.heap.size w w' L) : IIK w [] c (.returned (.tuple #[.slice none 0 0, .int .i64 c])) w' := ⟨_, [], rfl, rfl, h.out.newnil _⟩
end Go.Proofs.YtlmbaeaakpmhnaaGreat
end

section
/- Walks: third points, squares of triple systems. -/
namespace Go.Proofs.YtlmbaeaakpmhnaaGreat
set_option linter.unusedSimpArgs false
set_option linter.unusedVariables false
open Go.RowKit

set_option maxHeartbeats 4000000 in
set_option maxRecDepth 100000 in
theorem differentPoints_c (P : Nat) (v : Value) (us : List Value) (A : List (List Int)) (w : World) (hv : RII w v us A) (hA : TS P A) (x y : Nat) (hx : x < P) (hy : y < P) :
    Calls Tryz.prog 50 #[dv P v, .int .i64 x, .int .i64 y] w (GivesI w (if x = y then 2 else 0)) := by
  obtain ⟨a, c, hsh⟩ := hv.1.sl.sh
  rw [hv.2.1] at hsh
  subst hsh
  have hS1 := (St.refl w).newboxF 29 #[.int .i64 P, .slice a A.length c]
  have b0 := hS1.bcell 0 rfl 0 rfl
  have b1 := hS1.bcell 0 rfl 1 rfl
  have K1 := Lib.hid (IsTripleSystem_c P (.slice a A.length c) us A _ (hS1.oldII hv) hA)
  have W1 := fun W => within_c (x : Int) 0 ((P : Int) - 1) W
  have W2 := fun W => within_c (y : Int) 0 ((P : Int) - 1) W
  rw [inB_true (by omega)] at W1 W2
  have hP := hA.p32
  have q1 : IntKind.i64.wrap ((P : Int) - 1) = (P : Int) - 1 := IntWalk.i64_in _ (by omega)
  clear hA
  obtain ⟨C, hC⟩ : ∃ C : Int, C = if x = y then 2 else 0 := ⟨_, rfl⟩
  rw [← hC]
  have HC := Lib.hid hC
  clear hC
  unfold dv at K1 ⊢
  go_enter Tryz.func50, Tryz.ntmps50
  go_wp2_with fail
  refine K1.out.mono ?_
  rintro e w2 ⟨rfl, h2⟩
  have hS2 := hS1.call0 h2
  have b0 := hS2.bcell 0 rfl 0 rfl
  have b1 := hS2.bcell 0 rfl 1 rfl
  clear h2 hS1
  by_cases e : x = y
  · subst e
    have hC := HC.out
    clear HC
    rw [if_pos rfl] at hC
    subst hC
    go_wp2_with (first
      | (go_at_call 88; refine (W1 _).mono ?_; rintro e w3 ⟨rfl, rfl⟩))
    go_ret
    exact ⟨rfl, hS2.out⟩
  · have hC := HC.out
    clear HC
    rw [if_neg e] at hC
    subst hC
    have f0 : ((x : Int) == (y : Int)) = false := eq_f (by omega)
    go_wp2_with fail
    refine (W1 _).mono ?_
    rintro e w3 ⟨rfl, rfl⟩
    go_wp2_with fail
    refine (W2 _).mono ?_
    rintro e w3 ⟨rfl, rfl⟩
    go_wp2_with fail
    go_ret
    exact ⟨rfl, hS2.out⟩
set_option maxHeartbeats 4000000 in
set_option maxRecDepth 100000 in
theorem ThirdPoint_c (P : Nat) (v : Value) (us : List Value) (A : List (List Int)) (w : World) (hv : RII w v us A) (hA : TS P A) (x y : Nat) (hx : x < P) (hy : y < P) :
    Calls Tryz.prog 13 #[dv P v, .int .i64 x, .int .i64 y] w fun e w' => e = .returned (.tuple #[.int .i64 (if x = y then 0 else (thF A x y : Int)), .int .i64 (if x = y then 2 else 0)]) ∧ St w.heap.size w w' [] := by
  obtain ⟨a, c, hsh⟩ := hv.1.sl.sh
  rw [hv.2.1] at hsh
  subst hsh
  have hS1 := (St.refl w).newboxF 29 #[.int .i64 P, .slice a A.length c]
  have b0 := hS1.bcell 0 rfl 0 rfl
  have b1 := hS1.bcell 0 rfl 1 rfl
  have K1 := Lib.hid (differentPoints_c P (.slice a A.length c) us A _ (hS1.oldII hv) hA x y hx hy)
  have K2 := Lib.hid (fun W (h : RII W (.slice a A.length c) us A) => thirdPoints_c P (.slice a A.length c) us A W h hA)
  clear hA
  obtain ⟨C, hC⟩ : ∃ C : Int, C = if x = y then 2 else 0 := ⟨_, rfl⟩
  obtain ⟨T, hT⟩ : ∃ T : Int, T = if x = y then 0 else (thF A x y : Int) := ⟨_, rfl⟩
  rw [← hC] at K1 ⊢
  rw [← hT]
  have HC := Lib.hid (And.intro hC hT)
  clear hC hT
  unfold dv at K1 K2 ⊢
  go_enter Tryz.func13, Tryz.ntmps13
  go_wp2_with fail
  refine K1.out.mono ?_
  rintro e w2 ⟨rfl, h2⟩
  have hS2 := hS1.call0 h2
  have b0 := hS2.bcell 0 rfl 0 rfl
  have b1 := hS2.bcell 0 rfl 1 rfl
  clear h2 hS1
  by_cases e : x = y
  · obtain ⟨hC, hT⟩ := HC.out
    clear HC
    rw [if_pos e] at hC hT
    subst hC
    subst hT
    go_wp2_with fail
    go_ret2
    exact ⟨rfl, hS2.out⟩
  · obtain ⟨hC, hT⟩ := HC.out
    clear HC
    rw [if_neg e] at hC hT
    subst hC
    subst hT
    have Hv := hS2.oldII hv
    go_wp2_with fail
    refine (K2.out _ Hv).mono ?_
    rintro e w3 ⟨o, uo, rfl, hlo, h3⟩
    have hS3 := hS2.call0 h3.out
    have hR := h3.rii hlo
    have x1 := hR.ixe (x : Int) x rfl (by rw [sqF_len]; exact hx)
    have c1 := hR.cell x (by rw [sqF_len]; exact hx)
    have hr := hR.row x (by rw [sqF_len]; exact hx)
    have hl : (xat (sqF P fun x y => (thF A x y : Int)) x).length = P := (sqF_sqr P _).row x hx
    have x2 := hr.ixe (y : Int) y rfl (by rw [hl]; exact hy)
    have c2 := hr.cell y (by rw [hl]; exact hy)
    rw [show nth (xat (sqF P fun x y => (thF A x y : Int)) x) y = (thF A x y : Int) from at2_sqF hx hy] at c2
    clear hR hr hl h3
    go_wp2_with fail
    go_ret2
    exact ⟨rfl, hS3.out⟩
set_option maxHeartbeats 4000000 in
set_option maxRecDepth 100000 in
theorem TripleSquare_c (P : Nat) (v : Value) (us : List Value) (A : List (List Int)) (w : World) (hv : RII w v us A) (hA : TS P A) :
    Calls Tryz.prog 14 #[dv P v] w fun e w' => if P ≤ 10 then IIK w (sqF P fun x y => (thF A x y : Int)) 0 e w' else e = .returned (.tuple #[.slice none 0 0, .int .i64 5]) ∧ St w.heap.size w w' [] := by
  obtain ⟨a, c, hsh⟩ := hv.1.sl.sh
  rw [hv.2.1] at hsh
  subst hsh
  have hS1 := (St.refl w).newboxF 29 #[.int .i64 P, .slice a A.length c]
  have b0 := hS1.bcell 0 rfl 0 rfl
  have b1 := hS1.bcell 0 rfl 1 rfl
  have K1 := Lib.hid (IsTripleSystem_c P (.slice a A.length c) us A _ (hS1.oldII hv) hA)
  have K2 := Lib.hid (fun W (h : RII W (.slice a A.length c) us A) => thirdPoints_c P (.slice a A.length c) us A W h hA)
  clear hA
  unfold dv at K1 K2 ⊢
  by_cases e : P ≤ 10
  · simp only [if_pos e]
    go_enter Tryz.func14, Tryz.ntmps14
    go_wp2_with fail
    refine K1.out.mono ?_
    rintro e w2 ⟨rfl, h2⟩
    have hS2 := hS1.call0 h2
    have b0 := hS2.bcell 0 rfl 0 rfl
    have b1 := hS2.bcell 0 rfl 1 rfl
    clear h2 hS1
    have f0 : ¬ (10 : Int) < (P : Int) := by omega
    have Hv := hS2.oldII hv
    go_wp2_with fail
    refine (K2.out _ Hv).mono ?_
    rintro e w3 ⟨o, uo, rfl, hlo, h3⟩
    go_wp2_with fail
    go_ret2
    exact ⟨o, uo, rfl, hlo, (hS2.call h3).sub (List.sublist_append_right _ _)⟩
  · simp only [if_neg e]
    go_enter Tryz.func14, Tryz.ntmps14
    go_wp2_with fail
    refine K1.out.mono ?_
    rintro e w2 ⟨rfl, h2⟩
    have hS2 := hS1.call0 h2
    have b0 := hS2.bcell 0 rfl 0 rfl
    have b1 := hS2.bcell 0 rfl 1 rfl
    clear h2 hS1
    have f0 : (10 : Int) < (P : Int) := by omega
    go_wp2_with fail
    go_ret2
    exact ⟨rfl, hS2.out⟩
end Go.Proofs.YtlmbaeaakpmhnaaGreat
end

section
/- Walks: the orders of triple systems. -/
namespace Go.Proofs.YtlmbaeaakpmhnaaGreat
set_option linter.unusedSimpArgs false
set_option linter.unusedVariables false
open Go.RowKit

def ordB (v : Nat) : Bool := decide (3 ≤ v) && decide (v ≤ 27) && (v % 6 == 1 || v % 6 == 3)
def ordL9 (k : Nat) : List Int := ((List.range k).filter ordB).map fun (v : Nat) => (v : Int)
theorem ordL9_next (k : Nat) : ordL9 (k + 1) = ordL9 k ++ if ordB k = true then [(k : Int)] else [] := by
  unfold ordL9
  rw [List.range_succ, List.filter_append, List.map_append]
  congr 1
  cases h : ordB k <;> simp [h]
set_option maxHeartbeats 4000000 in
theorem isTripleOrder_c (v : Nat) (w : World) (hv : v ≤ 1000) : Calls Tryz.prog 41 #[.int .i64 v] w (GivesB w (ordB v)) := by
  have W1 := Lib.hid (within_c (v : Int) 3 27 w)
  have hm : ((v : Int).tmod 6) = ((v % 6 : Nat) : Int) := by rw [Int.tmod_eq_emod_of_nonneg (by omega)]; omega
  by_cases h : 3 ≤ v ∧ v ≤ 27
  · have hb : ordB v = (v % 6 == 1 || v % 6 == 3) := by simp [ordB, h.1, h.2]
    rw [hb]
    rw [inB_true (by omega)] at W1
    have hr : v % 6 = 0 ∨ v % 6 = 1 ∨ v % 6 = 2 ∨ v % 6 = 3 ∨ v % 6 = 4 ∨ v % 6 = 5 := by omega
    rcases hr with e | e | e | e | e | e
    all_goals
      rw [e] at hm
      rw [e]
      clear hb h
      go_enter Tryz.func41, Tryz.ntmps41
      go_wp2_with fail
      refine W1.out.mono ?_
      rintro e2 w1 ⟨rfl, rfl⟩
      go_wp2_with fail
      go_ret
      exact ⟨ret_bool (by decide), St.refl _⟩
  · have hb : ordB v = false := by
      unfold ordB
      rcases Nat.lt_or_ge v 3 with h1 | h1
      · simp; omega
      · simp; omega
    rw [hb]
    have hw : inB (v : Int) 3 27 = false := by simp [inB]; omega
    rw [hw] at W1
    clear hm
    go_enter Tryz.func41, Tryz.ntmps41
    go_wp2_with fail
    refine W1.out.mono ?_
    rintro e2 w1 ⟨rfl, rfl⟩
    go_wp2_with fail
    go_ret
    exact ⟨rfl, St.refl _⟩
set_option maxHeartbeats 4000000 in
set_option maxRecDepth 100000 in
theorem TripleOrders_c (w : World) : Calls Tryz.prog 8 #[] w fun e w' => ∃ v, e = .returned v ∧ St w.heap.size w w' [row 2 v (iv [3, 7, 9, 13, 15, 19, 21, 25, 27])] := by
  have KO := Lib.hid (fun (v : Nat) (hv : v ≤ 1000) W => isTripleOrder_c v W hv)
  have h9 := Lib.hid (show ordL9 28 = [3, 7, 9, 13, 15, 19, 21, 25, 27] by decide)
  have h0 := Lib.hid (show ordL9 3 = [] by decide)
  have hS0 : St w.heap.size w w [row 2 (.slice none 0 0) (iv (ordL9 3))] := by rw [h0.out]; exact (St.refl w).emp
  go_enter Tryz.func8, Tryz.ntmps8
  go_wp2_with fail
  go_loopw [1, 2] (fun o iv' wr => ∃ (k : Nat) (v : Value), v = o ∧ 3 ≤ k ∧ k ≤ 28 ∧ iv' = .int .i64 k ∧ St w.heap.size w wr [row 2 v (iv (ordL9 k))]) (fun _ i _ => 28 - (intOf i).toNat)
  case atStart => exact ⟨3, _, rfl, by omega, by omega, rfl, hS0⟩
  case round =>
    clear hS0
    obtain ⟨k, v, rfl, hk3, hk, rfl, hS⟩ := hrel
    by_cases hlt : k ≤ 27
    · have hki : (k : Int) ≤ 27 := by omega
      have hn := ordL9_next k
      have Hn := Lib.hid hn
      clear hn
      have hN := Lib.hid (show (ordL9 k).length < 4294967296 by
        have : (ordL9 k).length ≤ k := by unfold ordL9; rw [List.length_map]; exact Nat.le_trans (List.length_filter_le _ _) (by simp)
        omega)
      have KB := Lib.hid (KO.out k (by omega))
      go_wp2_with fail
      refine (KB.out _).mono ?_
      rintro e w2 ⟨rfl, h2⟩
      have hS2 := hS.call0 h2
      clear hS h2
      cases hb : ordB k
      · have hr := Hn.out
        rw [hb, if_neg (by decide), List.append_nil] at hr
        rw [← hr] at hS2
        clear Hn hr hN KB
        go_wp2_with fail
        go_roundw
        case rel => exact ⟨k + 1, _, rfl, by omega, by omega, by go_num, hS2⟩
        case measure => simp [intOf]; omega
      · have hr := Hn.out
        rw [hb, if_pos rfl] at hr
        have Hr := Lib.hid hr
        clear Hn hr KB
        go_wp2_with (at_builtin; refine appI hS2 0 rfl hN.out rfl _ _ rfl rfl _ rfl ?_; intro v5 w5 hS5; simp only [List.set_cons_zero] at hS5)
        rw [← Hr.out] at hS5
        go_roundw
        case rel => exact ⟨k + 1, _, rfl, by omega, by omega, by go_num, hS5⟩
        case measure => simp [intOf]; omega
    · obtain rfl : k = 28 := by omega
      rw [h9.out] at hS
      go_wp2_with fail
      go_ret
      exact ⟨_, rfl, hS⟩
end Go.Proofs.YtlmbaeaakpmhnaaGreat
end

section
/- Walks: the construction of Bose of the program. -/
namespace Go.Proofs.YtlmbaeaakpmhnaaGreat
set_option linter.unusedSimpArgs false
set_option linter.unusedVariables false
open Go.RowKit
attribute [local go_sem ↓] Go.wp_at_zero Go.wp_at_succ

theorem MakeTriples1_c (t s n g4 g6 : Nat) (W : World) (hn : n = 2 * t + 1) (ht : t ≤ 100) (hs : s ≤ 100) (h4 : W.cell? ⟨g4, 0, none⟩ = some (.int .i64 t)) (h6 : W.cell? ⟨g6, 0, none⟩ = some (.int .i64 n)) :
    Calls Tryz.prog 43 #[.int .i64 s, .pointer (some ⟨g4, 0, none⟩), .pointer (some ⟨g6, 0, none⟩)] W (GivesI W (bosF t s)) := by
  have HB := Lib.hid (show bosF t s = (t + 1) * s % n by rw [bosF, hn])
  have hb := Nat.mul_le_mul (show t + 1 ≤ 101 by omega) hs
  obtain ⟨p, hp⟩ : ∃ p, (t + 1) * s = p := ⟨_, rfl⟩
  rw [hp] at hb HB
  have q1 : ((t : Int) + 1) * (s : Int) = (p : Int) := by rw [← hp]; simp
  have q2 : (p : Int).tmod (n : Int) = ((p % n : Nat) : Int) := by rw [Int.tmod_eq_emod_of_nonneg (by omega)]; rfl
  have hm := Nat.mod_lt p (show 0 < n by omega)
  generalize p % n = m at *
  have v1 : IntKind.i64.wrap ((t : Int) + 1) = (t : Int) + 1 := IntWalk.i64_in _ (by omega)
  have v2 : IntKind.i64.wrap (p : Int) = (p : Int) := IntWalk.i64_in _ (by omega)
  have v3 : IntKind.i64.wrap (m : Int) = (m : Int) := IntWalk.i64_in _ (by omega)
  have qm : ((n : Int) == 0) = false := eq_f (by omega)
  have qn : ¬ (n : Int) = 0 := by omega
  have qo : ¬ n = 0 := by omega
  clear hn hp hm hb
  rw [HB.out]
  clear HB
  go_enter Tryz.func43, Tryz.ntmps43
  go_wp2_with fail
  go_ret
  exact ⟨rfl, St.refl _⟩
theorem MakeTriples2_c (t s g4 : Nat) (W : World) (ht : t ≤ 100) (hs : s ≤ 100) (h4 : W.cell? ⟨g4, 0, none⟩ = some (.int .i64 t)) :
    Calls Tryz.prog 46 #[.int .i64 s, .pointer (some ⟨g4, 0, none⟩)] W (GivesI W (skoF t s)) := by
  have HB := Lib.hid (show skoF t s = s / 2 + s % 2 * t by rfl)
  obtain ⟨d, hd⟩ : ∃ d, s / 2 = d := ⟨_, rfl⟩
  obtain ⟨r, hr⟩ : ∃ r, s % 2 = r := ⟨_, rfl⟩
  obtain ⟨p, hp⟩ : ∃ p, r * t = p := ⟨_, rfl⟩
  have hb : p ≤ 1 * 100 := by rw [← hp]; exact Nat.mul_le_mul (by omega) ht
  have q1 : (s : Int).tdiv 2 = (d : Int) := by rw [Int.tdiv_eq_ediv_of_nonneg (by omega)]; omega
  have q2 : (s : Int).tmod 2 = (r : Int) := by rw [Int.tmod_eq_emod_of_nonneg (by omega)]; omega
  have q3 : (r : Int) * (t : Int) = (p : Int) := by rw [← hp]; simp
  rw [hd, hr, hp] at HB
  have v1 : IntKind.i64.wrap (d : Int) = (d : Int) := IntWalk.i64_in _ (by omega)
  have v2 : IntKind.i64.wrap (r : Int) = (r : Int) := IntWalk.i64_in _ (by omega)
  have v3 : IntKind.i64.wrap (p : Int) = (p : Int) := IntWalk.i64_in _ (by omega)
  have v4 : IntKind.i64.wrap ((d : Int) + (p : Int)) = (d : Int) + (p : Int) := IntWalk.i64_in _ (by omega)
  clear hd hr hp
  rw [HB.out, Int.natCast_add]
  clear HB
  go_enter Tryz.func46, Tryz.ntmps46
  go_wp2_with fail
  go_ret
  exact ⟨rfl, St.refl _⟩
theorem strL_succ (n k : Nat) : strL n (k + 1) = strL n k ++ [strT n k] := rg_succ _ k
set_option maxHeartbeats 8000000 in
set_option maxRecDepth 100000 in
theorem MakeTriplesB_c (v t : Nat) (w : World) (hv : v = 6 * t + 3) (ho : ordB v = true) (hok : TS v (srtL (mkTI v))) : Calls Tryz.prog 10 #[.int .i64 v] w (MakesD w v (srtL (mkTI v)) 0) := by
  have hov : v ≤ 27 := by simp only [ordB, Bool.and_eq_true, decide_eq_true_eq] at ho; omega
  have KO := Lib.hid (fun W => isTripleOrder_c v W (by omega))
  rw [ho] at KO
  obtain ⟨n, hn⟩ : ∃ n, n = 2 * t + 1 := ⟨_, rfl⟩
  have hmk : mkTI v = mxL n (bosF t) n ++ strL n n := by
    unfold mkTI
    rw [if_pos (by omega), show v / 6 = t by omega, ← hn]
  have HM := Lib.hid hmk
  have hlen := (dOk_t hok.ok).len
  rw [srtL_len] at hlen
  have HL := Lib.hid (show ∀ k, k ≤ n → (mxL n (bosF t) n ++ strL n k).length ≤ 1000 from fun k hk => by
    rw [hmk, List.length_append] at hlen
    rw [List.length_append]
    simp only [strL, List.length_map, List.length_range] at hlen ⊢
    omega)
  have HLen := Lib.hid hlen
  have HRw := Lib.hid (show ∀ xs ∈ mkTI v, xs.length ≤ 1048576 from fun xs hx => by rw [hok.three xs ((srtL_perm _).mem_iff.2 hx)]; decide)
  have hS0 := (St.refl w).newboxF 29 #[.int .i64 0, .slice none 0 0]
  have q1 : (v : Int).tdiv 6 = (t : Int) := by rw [Int.tdiv_eq_ediv_of_nonneg (by omega)]; omega
  have q2 : (v : Int).tmod 6 = 3 := by rw [Int.tmod_eq_emod_of_nonneg (by omega)]; omega
  have q3 : 2 * (t : Int) + 1 = (n : Int) := by omega
  have v1 : IntKind.i64.wrap (t : Int) = (t : Int) := IntWalk.i64_in _ (by omega)
  have v2 : IntKind.i64.wrap (2 * (t : Int)) = 2 * (t : Int) := IntWalk.i64_in _ (by omega)
  have v3 : IntKind.i64.wrap (2 * (t : Int) + 1) = (n : Int) := by rw [IntWalk.i64_in _ (by omega)]; omega
  have hcf := callFunc_go Tryz.func43 (by kernel_rfl) (by kernel_rfl)
  have KX := Lib.hid (fun (W : World) (g4 g6 : Nat) (h4 : W.cell? ⟨g4, 0, none⟩ = some (.int .i64 t)) (h6 : W.cell? ⟨g6, 0, none⟩ = some (.int .i64 n)) =>
    mixed_c 43 #[.pointer (some ⟨g4, 0, none⟩), .pointer (some ⟨g6, 0, none⟩)] (bosF t) n W (by omega) (by omega) (fun s _ => by rw [bosF, ← hn]; exact Nat.mod_lt _ (by omega)) hcf
      (fun s W' hW hs => MakeTriples1_c t s n g4 g6 W' hn (by omega) (by omega) (by rw [hW.below.cell (World.block_lt_of_cell? _ _ h4)]; exact h4) (by rw [hW.below.cell (World.block_lt_of_cell? _ _ h6)]; exact h6)))
  clear hcf
  have hmf : ∀ (fn : Fn) (first cap : Array Value) (w : World), (Instr.makeFunc fn first cap).run Tryz.prog w = .ok (.func fn first cap) w := fun _ _ _ _ => rfl
  have n9 : n ≤ 9 := by omega
  have Hn := Lib.hid hn
  clear ho hok hmk hlen hn hv
  go_enter Tryz.func10, Tryz.ntmps10
  go_wp2_with fail
  refine (KO.out _).mono ?_
  rintro e w2 ⟨rfl, h2⟩
  have hS2 := (hS0.call0 h2).newboxF 2 #[.int .i64 t]
  clear h2 hS0 KO
  have b0 := hS2.bcell 0 rfl 0 rfl
  have hS3 := hS2.newboxF 2 #[.int .i64 n]
  simp only [World.size_alloc] at hS3
  have c0 := hS3.bcell 0 rfl 0 rfl
  have c1 := hS3.bcell 1 rfl 0 rfl
  have K := Lib.hid (KX.out _ _ _ c1 c0)
  clear KX hS2
  go_wp2_with fail
  refine K.out.mono ?_
  rintro e w4 ⟨v4, us4, rfl, hl4, h4⟩
  have hS4 := hS3.call h4
  obtain ⟨LB, hLB⟩ : ∃ LB : List Ent, LB = [box 2 (w2.heap.size + 1) [.int .i64 n], box 2 w2.heap.size [.int .i64 t], box 29 w.heap.size [.int .i64 0, .slice none 0 0]] := ⟨_, rfl⟩
  have HLB := Lib.hid hLB
  have hb0 : Hid (LB[0]? = some (box 2 (w2.heap.size + 1) [.int .i64 n])) := Lib.hid (by rw [hLB]; rfl)
  have hS5 : St w.heap.size w w4 (own2 v4 us4 (mxL n (bosF t) n ++ strL n 0) ++ LB) := hS4.perm (by
    rw [show strL n 0 = [] from rfl, List.append_nil, hLB]
    exact List.perm_append_comm)
  have hlo0 : Hid (us4.length = (mxL n (bosF t) n ++ strL n 0).length) := Lib.hid (by rw [show strL n 0 = [] from rfl, List.append_nil]; exact hl4)
  clear hS3 hS4 h4 K c0 c1 b0 hLB hl4
  go_wp2_with fail
  go_loopw [5, 7] (fun o xi wr => ∃ (x : Nat) (uo : List Value), x ≤ n ∧ xi = .int .i64 x ∧ Hid (uo.length = (mxL n (bosF t) n ++ strL n x).length) ∧ St w.heap.size w wr (own2 o uo (mxL n (bosF t) n ++ strL n x) ++ LB)) (fun _ xi _ => n - (intOf xi).toNat)
  case atStart => exact ⟨0, us4, by omega, rfl, hlo0, hS5⟩
  case round =>
    clear hS5 hlo0
    obtain ⟨x, uo, hx, rfl, hlo, hS⟩ := hrel
    have k0 := hS.bcell _ (at_app hb0.out) 0 rfl
    by_cases hxn : x < n
    · have hxi : (x : Int) < (n : Int) := by omega
      have hul := Lib.hid (show uo.length < 4294967296 by rw [hlo.out]; have := HL.out x hx; omega)
      have Hst := Lib.hid (show mxL n (bosF t) n ++ strL n (x + 1) = mxL n (bosF t) n ++ strL n x ++ [strT n x] by rw [strL_succ, List.append_assoc])
      have KT := fun W => Lib.hid (triple_n x (x + n) (x + 2 * n) W (by omega) (by omega) (by omega))
      rw [show trp x (x + n) (x + 2 * n) = strT n x from rfl] at KT
      have w1 : IntKind.i64.wrap ((x : Int) + (n : Int)) = (x : Int) + (n : Int) := IntWalk.i64_in _ (by omega)
      have w2 : IntKind.i64.wrap (2 * (n : Int)) = 2 * (n : Int) := IntWalk.i64_in _ (by omega)
      have w3 : IntKind.i64.wrap ((x : Int) + 2 * (n : Int)) = (x : Int) + 2 * (n : Int) := IntWalk.i64_in _ (by omega)
      generalize strT n x = D at *
      simp only [Int.natCast_add, Int.natCast_mul] at KT
      go_wp2_with fail
      refine (KT _).out.mono ?_
      rintro e w5 ⟨u, rfl, h5⟩
      obtain ⟨ua, uc, hu⟩ := (h5.rdI 0 rfl).sl.sh
      generalize (iv D).length = dl at hu
      subst hu
      have hS5 := hS.call h5
      clear h5 hS k0
      go_wp2_with (at_builtin; refine appII hS5 0 rfl hul.out rfl _ _ rfl rfl _ rfl (by first | rfl | simp [Act.eval, World.size_alloc]) ?_; intro v8 w8 hS8)
      have hS9 := own2_snocP hlo.out hS8
      rw [← Hst.out] at hS9
      go_roundw
      case rel => exact ⟨x + 1, _, by omega, by go_num, by rw [Hid, Hst.out, List.length_append, List.length_append, hlo.out]; rfl, hS9⟩
      case measure => simp [intOf]; omega
    · obtain rfl : x = n := by omega
      rw [← HM.out] at hS hlo
      have rR := (hS.sub (List.sublist_append_left _ _)).rii hlo.out
      rw [HLB.out] at hS
      have hSb := hS.sub (L' := [box 29 w.heap.size [.int .i64 0, .slice none 0 0]]) (((List.sublist_cons_self _ _).trans (List.sublist_cons_self _ _)).trans (List.sublist_append_right _ _))
      have KS := Lib.hid (sorted_c (v : Int) u5 uo _ _ rR HLen.out HRw.out)
      generalize srtL (mkTI v) = A at *
      clear rR hS
      go_wp2_with (go_at_call 45; refine KS.out.mono ?_; rintro e4 w4 ⟨v4, us4, rfl, hl4, h4⟩; obtain ⟨a4, c4, hv4⟩ := (h4.rd 0 (e := 24) (v := v4) (us := us4) rfl).sl.sh; rw [hl4] at hv4; subst hv4; unfold dv; have hB := hSb.call h4; have e0 := hB.bcell 0 rfl 0 rfl; have e1 := hB.bcell 0 rfl 1 rfl; have f0 := hB.bfree 0 rfl; have h6 := (hB.bstore 0 rfl 0 (.int .i64 (v : Int))).bstore 0 rfl 1 (.slice a4 A.length c4); have g0 := h6.bcell 0 rfl 0 rfl; have g1 := h6.bcell 0 rfl 1 rfl)
      refine bodyPost_ret (v := .tuple #[.agg #[.int .i64 (v : Int), .slice a4 A.length c4], .int .i64 0]) (by simp [results, Tryz.results10, go_sem, g0, g1]) rfl ?_
      exact ⟨_, us4, rfl, hl4, h6.sub (.cons _ (.refl _))⟩
end Go.Proofs.YtlmbaeaakpmhnaaGreat
end
