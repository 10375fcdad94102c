/- The texts of this claim, run 12: SqE. -/
import Derived.Test.YtdgmaodnkbgolaaGreatK4
import Derived.Test.YtdgmaodnkbgolaaGreatK5
import Derived.Test.YtdgmaodnkbgolaaGreatK7
import Derived.Test.YtdgmaodnkbgolaaGreatK10

section
/- Walks: squares that the reference makes (their entries are below n). Walks: squares that the reference draws. -/
namespace Go.Proofs.YtdgmaodnkbgolaaGreat
set_option linter.unusedSimpArgs false
set_option linter.unusedVariables false
open Go.RowKit
attribute [local go_sem ↓] Go.wp_at_zero Go.wp_at_succ


/-- some square of n rows with entries below n, in memory of its own -/
def MakesQ (w : World) (n : Nat) (e : Ending) (w' : World) : Prop := ∃ v us A, e = .returned v ∧ Sq0 n A ∧ us.length = n ∧ St w.heap.size w w' (own2 v us A)
theorem zero_sq0 (n : Nat) : Sq0 n (sqF n fun _ _ => 0) := ⟨sqF_sqr _ _, fun x y hx hy => by rw [at2_sqF hx hy]; omega⟩
set_option maxHeartbeats 8000000 in
set_option maxRecDepth 100000 in
theorem l06Cyclic_c (n : Nat) (w : World) (hn : n ≤ 1000) : Calls Tryz.prog 110 #[.int .i64 n] w (MakesQ w n) := by
  have HE := fun W => Lib.hid (l06Zero_c n W (by omega))
  go_enter Tryz.func110, Tryz.ntmps110
  go_wp2_with fail
  refine (HE _).out.mono ?_
  rintro e w2 ⟨o, uo, rfl, hl, hS2⟩
  rw [sqF_len] at hl
  have Hl := Lib.hid hl
  have hS3 : St w.heap.size w w2 (own2 o uo (sqF n fun _ _ => 0) ++ []) := by rw [List.append_nil]; exact hS2
  clear hS2 hl
  go_wp2_with fail
  go_loopw [4, 5] (fun i _ wr => ∃ (k : Nat) (S : List (List Int)), k ≤ n ∧ i = .int .i64 k ∧ Hid (Sq0 n S) ∧ St w.heap.size w wr (own2 o uo S ++ [])) (fun i _ _ => n - (intOf i).toNat)
  case atStart => exact ⟨0, _, by omega, rfl, zero_sq0 n, hS3⟩
  case round =>
    clear hS3
    obtain ⟨k, S, hk, rfl, hI, hS⟩ := hrel
    by_cases hlt : k < n
    · go_wp2_with fail
      go_loopw [5] (fun j wr' => ∃ (y : Nat) (S : List (List Int)), y ≤ n ∧ j = .int .i64 y ∧ Hid (Sq0 n S) ∧ St w.heap.size w wr' (own2 o uo S ++ [])) (fun j _ => n - (intOf j).toNat)
      case atStart => exact ⟨0, S, by omega, rfl, hI.out, hS⟩
      case round =>
        clear hI hS
        obtain ⟨y, S, hy, rfl, hI, hS⟩ := hrel
        by_cases hly : y < n
        · obtain ⟨z, hz, hzn⟩ : ∃ z : Nat, z = (k + y) % n ∧ z < n := ⟨(k + y) % n, rfl, Nat.mod_lt _ (show 0 < n by omega)⟩
          have q1 : IntKind.i64.wrap ((k : Int) + (y : Int)) = (k : Int) + (y : Int) := IntWalk.i64_in _ (by omega)
          have q2 : ((k : Int) + (y : Int)).tmod n = z := by rw [hz, Int.tmod_eq_emod_of_nonneg (by omega)]; rfl
          have f0 : ((n : Int) == 0) = false := eq_f (by omega)
          have f1 : ¬ (n : Int) = 0 := by omega
          have f2 : ¬ n = 0 := by omega
          have hsl : S.length = n := hI.out.len
          have hsa : (xat S k).length = n := hI.out.row k hlt
          have hlS : uo.length = S.length := by rw [Hl.out, hsl]
          have hR := rii2 hS hlS
          have hat := hS.at_row hlS (j := k) (by rw [hsl]; exact hlt)
          have z0 := hR.cell k (by rw [hsl]; exact hlt)
          have xo := hR.ixe (k : Int) k rfl (by rw [hsl]; exact hlt)
          have xb := (hS.rdI (k + 1) hat).ixe (y : Int) y rfl (by rw [hsa]; exact hly)
          have u1 := hS.unfrozen (k + 1) hat (j := y) (by rw [iv_len, hsa]; exact hly)
          have co1 := (hS.rdI (k + 1) hat).cell y (by rw [hsa]; exact hly)
          have HS9 := Lib.hid (hS.drew.store (k + 1) hat (j := y) (by rw [iv_len, hsa]; exact hly) (.int .i64 (z : Int)))
          have Hst2 := Lib.hid (putS_sq0 hI.out hlt hly (v := (z : Int)) (by omega) (by omega))
          have Hset := Lib.hid (own2_set (v := o) (L2 := []) hlS (j := k) (by rw [hsl]; exact hlt) ((xat S k).set y (z : Int)))
          clear hI hR hat hlS hsl hsa hz hzn hS
          go_wp2_with fail
          refine regionG (fun w' => w'.cell? (el o k) = some (vat uo k)) 11 (by kernel_rfl) (cell_dr z0) (fun hHeld => ?_)
          refine takeP (i := 0) (v := ?_) rfl (by kernel_rfl) (fun _ _ _ h => h) (by rfl) ?_ (by assumption) ?_
          case refine_2 => (intro w'; go_simp; first | done | with_reducible rfl)
          try simp only [Act.put, List.setIfInBounds_toArray, List.set_cons_zero, List.set_cons_succ]
          refine takeP (i := 1) (v := ?_) rfl (by kernel_rfl) (fun _ _ _ h => h) (by rfl) ?_ (by assumption) ?_
          case refine_2 => (intro w'; go_simp; first | done | with_reducible rfl)
          try simp only [Act.put, List.setIfInBounds_toArray, List.set_cons_zero, List.set_cons_succ]
          refine takeP (i := 2) (v := ?_) rfl (by kernel_rfl) (fun _ _ _ h => h) (by rfl) ?_ (by assumption) ?_
          case refine_2 => (intro w'; go_simp; first | done | with_reducible rfl)
          try simp only [Act.put, List.setIfInBounds_toArray, List.set_cons_zero, List.set_cons_succ]
          refine takeH (i := 3) [10] (v := ?_) rfl (by kernel_rfl) (fun _ _ _ h => h) (by rfl) ?_ (by assumption) ?_
          case refine_2 => (intro w' hSw; (try dsimp only at hSw); go_simp; first | done | with_reducible rfl)
          try simp only [Act.put, List.setIfInBounds_toArray, List.set_cons_zero, List.set_cons_succ]
          refine takeP (i := 4) (v := ?_) rfl (by kernel_rfl) (fun _ _ _ h => h) (by rfl) ?_ (by assumption) ?_
          case refine_2 => (intro w'; go_simp; first | done | with_reducible rfl)
          try simp only [Act.put, List.setIfInBounds_toArray, List.set_cons_zero, List.set_cons_succ]
          refine takeP (i := 5) (v := ?_) rfl (by kernel_rfl) (fun _ _ _ h => h) (by rfl) ?_ (by assumption) ?_
          case refine_2 => (intro w'; go_simp; first | done | with_reducible rfl)
          try simp only [Act.put, List.setIfInBounds_toArray, List.set_cons_zero, List.set_cons_succ]
          refine takeP (i := 6) (v := ?_) rfl (by kernel_rfl) (fun _ _ _ h => h) (by rfl) ?_ (by assumption) ?_
          case refine_2 => (intro w'; go_simp; first | done | with_reducible rfl)
          try simp only [Act.put, List.setIfInBounds_toArray, List.set_cons_zero, List.set_cons_succ]
          refine takeP (i := 7) (v := ?_) rfl (by kernel_rfl) (fun _ _ _ h => h) (by rfl) ?_ (by assumption) ?_
          case refine_2 => (intro w'; go_simp; first | done | with_reducible rfl)
          try simp only [Act.put, List.setIfInBounds_toArray, List.set_cons_zero, List.set_cons_succ]
          refine takeP (i := 8) (v := ?_) rfl (by kernel_rfl) (fun _ _ _ h => h) (by rfl) ?_ (by assumption) ?_
          case refine_2 => (intro w'; go_simp; first | done | with_reducible rfl)
          try simp only [Act.put, List.setIfInBounds_toArray, List.set_cons_zero, List.set_cons_succ]
          refine takeP (i := 9) (v := ?_) rfl (by kernel_rfl) (fun _ _ _ h => h) (by rfl) ?_ (by assumption) ?_
          case refine_2 => (intro w'; go_simp; first | done | with_reducible rfl)
          try simp only [Act.put, List.setIfInBounds_toArray, List.set_cons_zero, List.set_cons_succ]
          refine takeP (i := 10) (v := ?_) rfl (by kernel_rfl) (fun _ _ _ h => h) (by rfl) ?_ (by assumption) ?_
          case refine_2 => (intro w'; go_simp; first | done | with_reducible rfl)
          try simp only [Act.put, List.setIfInBounds_toArray, List.set_cons_zero, List.set_cons_succ]
          refine readyG (rs := [11]) (by kernel_rfl) (by simp) ?_
          refine AllG.last rfl (by kernel_rfl) (fun K hK => ?_) AllG.nil
          go_simp
          refine hK.out _ _ ?_
          clear hK K
          try simp only [Act.put, List.setIfInBounds_toArray, List.set_cons_zero, List.set_cons_succ]
          refine doneG (by kernel_rfl) ?_ _
          refine NoPanic.normal ?_
          have hS9 := HS9.out
          rw [iv_set, Hset.out] at hS9
          go_wp2_with fail
          go_roundw
          case rel => exact ⟨y + 1, _, by omega, by go_num, Hst2.out, hS9⟩
          case measure => simp [intOf]; omega
        · obtain rfl : y = n := by omega
          go_wp2_with fail
          go_roundw
          case rel => exact ⟨k + 1, S, by omega, by go_num, hI.out, hS⟩
          case measure => simp [intOf]; omega
    · rw [List.append_nil] at hS
      go_wp2_with fail
      go_ret
      exact ⟨o, uo, S, rfl, hI.out, Hl.out, hS⟩
set_option maxHeartbeats 8000000 in
set_option maxRecDepth 100000 in
theorem sIsotope_c (v vr vc vs : Value) (us : List Value) (A : List (List Int)) (r c s : List Int) (w : World) (n : Nat) (hv : RII w v us A) (hr : RdI w vr r) (hc : RdI w vc c) (hs : RdI w vs s)
    (h : Sq0 n A) (pr : IsP r) (pc : IsP c) (ps : IsP s) (lr : r.length = n) (lc : c.length = n) (ls : s.length = n) (hn : n ≤ 100) :
    Calls Tryz.prog 28 #[v, vr, vc, vs] w (MakesQ w n) := by
  have hln := hv.len
  rw [h.len] at hln
  have hix := hv.ixe
  rw [h.len] at hix
  have hrx := hr.ixe
  have hcx := hc.ixe
  have hsx := hs.ixe
  rw [lr] at hrx
  rw [lc] at hcx
  rw [ls] at hsx
  have HE := fun W => Lib.hid (l06Zero_c n W (by omega))
  have H := Lib.hid (And.intro h (And.intro pr (And.intro pc (And.intro ps (And.intro lr (And.intro lc ls))))))
  have Hv := Lib.hid hv
  have Hr := Lib.hid hr
  have Hc := Lib.hid hc
  have Hs := Lib.hid hs
  clear h pr pc ps lr lc ls
  go_enter Tryz.func28, Tryz.ntmps28
  go_wp2_with fail
  refine (HE _).out.mono ?_
  rintro e w2 ⟨o, uo, rfl, hl, hS2⟩
  rw [sqF_len] at hl
  have Hl := Lib.hid hl
  have hS3 : St w.heap.size w w2 (own2 o uo (sqF n fun _ _ => 0) ++ []) := by rw [List.append_nil]; exact hS2
  clear hS2 hl hv hr hc hs
  go_wp2_with fail
  go_loopw [11, 12] (fun i _ wr => ∃ (k : Nat) (S : List (List Int)), k ≤ n ∧ i = .int .i64 k ∧ Hid (Sq0 n S) ∧ St w.heap.size w wr (own2 o uo S ++ [])) (fun i _ _ => n - (intOf i).toNat)
  case atStart => exact ⟨0, _, by omega, rfl, zero_sq0 n, hS3⟩
  case round =>
    clear hS3
    obtain ⟨k, S, hk, rfl, hI, hS⟩ := hrel
    by_cases hlt : k < n
    · go_wp2_with fail
      go_loopw [12] (fun j wr' => ∃ (y : Nat) (S : List (List Int)), y ≤ n ∧ j = .int .i64 y ∧ Hid (Sq0 n S) ∧ St w.heap.size w wr' (own2 o uo S ++ [])) (fun j _ => n - (intOf j).toNat)
      case atStart => exact ⟨0, S, by omega, rfl, hI.out, hS⟩
      case round =>
        clear hI hS
        obtain ⟨y, S, hy, rfl, hI, hS⟩ := hrel
        by_cases hly : y < n
        · obtain ⟨h0, hpr, hpc, hps, lr, lc, ls⟩ := H.out
          obtain ⟨m, hm, hmn⟩ : ∃ m : Nat, at2 A k y = m ∧ m < n := by
            have := h0.el k y hlt hly
            exact ⟨(at2 A k y).toNat, by omega, by omega⟩
          have ck := (hS.oldII Hv.out).cell k (by rw [h0.len]; exact hlt)
          have hrow := Hv.out.row k (by rw [h0.len]; exact hlt)
          have hri2 := hrow.ixe (y : Int) y rfl (by rw [h0.row k hlt]; exact hly)
          have cy : wr.cell? (el (vat us k) y) = some (.int .i64 (m : Int)) := by
            rw [← hm]; exact (hS.oldI hrow).cell y (by rw [h0.row k hlt]; exact hly)
          obtain ⟨a, ha⟩ : ∃ a, a = pf r k := ⟨_, rfl⟩
          obtain ⟨b, hb⟩ : ∃ b, b = pf c y := ⟨_, rfl⟩
          obtain ⟨q, hq⟩ : ∃ q, q = pf s m := ⟨_, rfl⟩
          have han : a < n := by rw [ha, ← lr]; exact hpr.pf_lt (by omega)
          have hbn : b < n := by rw [hb, ← lc]; exact hpc.pf_lt (by omega)
          have hqn : q < n := by rw [hq, ← ls]; exact hps.pf_lt (by omega)
          have c1 := (hS.oldI Hr.out).cell k (by omega)
          rw [nth_pf hpr (by omega), ← ha] at c1
          have c2 := (hS.oldI Hc.out).cell y (by omega)
          rw [nth_pf hpc (by omega), ← hb] at c2
          have c3 := (hS.oldI Hs.out).cell m (by omega)
          rw [nth_pf hps (by omega), ← hq] at c3
          have x0 := hix (k : Int) k rfl hlt
          have x1 := hrx (k : Int) k rfl hlt
          have x2 := hcx (y : Int) y rfl hly
          have x3 := hsx (m : Int) m rfl hmn
          have hsl : S.length = n := hI.out.len
          have hsa : (xat S a).length = n := hI.out.row a han
          have hlS : uo.length = S.length := by rw [Hl.out, hsl]
          have hR := rii2 hS hlS
          have hat := hS.at_row hlS (j := a) (by rw [hsl]; exact han)
          have z0 := hR.cell a (by rw [hsl]; exact han)
          have xo := hR.ixe (a : Int) a rfl (by rw [hsl]; exact han)
          have xb := (hS.rdI (a + 1) hat).ixe (b : Int) b rfl (by rw [hsa]; exact hbn)
          have u1 := hS.unfrozen (a + 1) hat (j := b) (by rw [iv_len, hsa]; exact hbn)
          have co1 := (hS.rdI (a + 1) hat).cell b (by rw [hsa]; exact hbn)
          have HS9 := Lib.hid (hS.drew.store (a + 1) hat (j := b) (by rw [iv_len, hsa]; exact hbn) (.int .i64 (q : Int)))
          have Hst2 := Lib.hid (putS_sq0 hI.out han hbn (v := (q : Int)) (by omega) (by omega))
          have Hset := Lib.hid (own2_set (v := o) (L2 := []) hlS (j := a) (by rw [hsl]; exact han) ((xat S a).set b (q : Int)))
          clear hI hR hat hlS hsl hsa ha hb hm han hbn hS hq hqn hrow h0 hpr hpc hps lr lc ls
          go_wp2_with fail
          refine regionG (fun w' => w'.cell? (el vr k) = some (.int .i64 (a : Int)) ∧ w'.cell? (el o a) = some (vat uo a) ∧ w'.cell? (el vc y) = some (.int .i64 (b : Int)) ∧ w'.cell? (el v k) = some (vat us k) ∧ w'.cell? (el (vat us k) y) = some (.int .i64 (m : Int)) ∧ w'.cell? (el vs m) = some (.int .i64 (q : Int))) 22 (by kernel_rfl) ⟨cell_dr c1, cell_dr z0, cell_dr c2, cell_dr ck, cell_dr cy, cell_dr c3⟩ (fun hHeld => ?_)
          refine takeP (i := 0) (v := ?_) rfl (by kernel_rfl) (fun _ _ _ h => h) (by rfl) ?_ (by assumption) ?_
          case refine_2 => (intro w'; go_simp; first | done | with_reducible rfl)
          try simp only [Act.put, List.setIfInBounds_toArray, List.set_cons_zero, List.set_cons_succ]
          refine takeP (i := 1) (v := ?_) rfl (by kernel_rfl) (fun _ _ _ h => h) (by rfl) ?_ (by assumption) ?_
          case refine_2 => (intro w'; go_simp; first | done | with_reducible rfl)
          try simp only [Act.put, List.setIfInBounds_toArray, List.set_cons_zero, List.set_cons_succ]
          refine takeP (i := 2) (v := ?_) rfl (by kernel_rfl) (fun _ _ _ h => h) (by rfl) ?_ (by assumption) ?_
          case refine_2 => (intro w'; go_simp; first | done | with_reducible rfl)
          try simp only [Act.put, List.setIfInBounds_toArray, List.set_cons_zero, List.set_cons_succ]
          refine takeP (i := 3) (v := ?_) rfl (by kernel_rfl) (fun _ _ _ h => h) (by rfl) ?_ (by assumption) ?_
          case refine_2 => (intro w'; go_simp; first | done | with_reducible rfl)
          try simp only [Act.put, List.setIfInBounds_toArray, List.set_cons_zero, List.set_cons_succ]
          refine takeH (i := 4) [5, 6, 21] (v := ?_) rfl (by kernel_rfl) (fun _ _ _ h => h) (by rfl) ?_ (by assumption) ?_
          case refine_2 => (intro w' hSw; (try dsimp only at hSw); go_simp; first | done | with_reducible rfl)
          try simp only [Act.put, List.setIfInBounds_toArray, List.set_cons_zero, List.set_cons_succ]
          refine takeP (i := 5) (v := ?_) rfl (by kernel_rfl) (fun _ _ _ h => h) (by rfl) ?_ (by assumption) ?_
          case refine_2 => (intro w'; go_simp; first | done | with_reducible rfl)
          try simp only [Act.put, List.setIfInBounds_toArray, List.set_cons_zero, List.set_cons_succ]
          refine takeH (i := 6) [21] (v := ?_) rfl (by kernel_rfl) (fun _ _ _ h => h) (by rfl) ?_ (by assumption) ?_
          case refine_2 => (intro w' hSw; (try dsimp only at hSw); go_simp; first | done | with_reducible rfl)
          try simp only [Act.put, List.setIfInBounds_toArray, List.set_cons_zero, List.set_cons_succ]
          refine takeP (i := 7) (v := ?_) rfl (by kernel_rfl) (fun _ _ _ h => h) (by rfl) ?_ (by assumption) ?_
          case refine_2 => (intro w'; go_simp; first | done | with_reducible rfl)
          try simp only [Act.put, List.setIfInBounds_toArray, List.set_cons_zero, List.set_cons_succ]
          refine takeP (i := 8) (v := ?_) rfl (by kernel_rfl) (fun _ _ _ h => h) (by rfl) ?_ (by assumption) ?_
          case refine_2 => (intro w'; go_simp; first | done | with_reducible rfl)
          try simp only [Act.put, List.setIfInBounds_toArray, List.set_cons_zero, List.set_cons_succ]
          refine takeP (i := 9) (v := ?_) rfl (by kernel_rfl) (fun _ _ _ h => h) (by rfl) ?_ (by assumption) ?_
          case refine_2 => (intro w'; go_simp; first | done | with_reducible rfl)
          try simp only [Act.put, List.setIfInBounds_toArray, List.set_cons_zero, List.set_cons_succ]
          refine takeH (i := 10) [21] (v := ?_) rfl (by kernel_rfl) (fun _ _ _ h => h) (by rfl) ?_ (by assumption) ?_
          case refine_2 => (intro w' hSw; (try dsimp only at hSw); go_simp; first | done | with_reducible rfl)
          try simp only [Act.put, List.setIfInBounds_toArray, List.set_cons_zero, List.set_cons_succ]
          refine takeP (i := 11) (v := ?_) rfl (by kernel_rfl) (fun _ _ _ h => h) (by rfl) ?_ (by assumption) ?_
          case refine_2 => (intro w'; go_simp; first | done | with_reducible rfl)
          try simp only [Act.put, List.setIfInBounds_toArray, List.set_cons_zero, List.set_cons_succ]
          refine takeP (i := 12) (v := ?_) rfl (by kernel_rfl) (fun _ _ _ h => h) (by rfl) ?_ (by assumption) ?_
          case refine_2 => (intro w'; go_simp; first | done | with_reducible rfl)
          try simp only [Act.put, List.setIfInBounds_toArray, List.set_cons_zero, List.set_cons_succ]
          refine takeP (i := 13) (v := ?_) rfl (by kernel_rfl) (fun _ _ _ h => h) (by rfl) ?_ (by assumption) ?_
          case refine_2 => (intro w'; go_simp; first | done | with_reducible rfl)
          try simp only [Act.put, List.setIfInBounds_toArray, List.set_cons_zero, List.set_cons_succ]
          refine takeP (i := 14) (v := ?_) rfl (by kernel_rfl) (fun _ _ _ h => h) (by rfl) ?_ (by assumption) ?_
          case refine_2 => (intro w'; go_simp; first | done | with_reducible rfl)
          try simp only [Act.put, List.setIfInBounds_toArray, List.set_cons_zero, List.set_cons_succ]
          refine takeH (i := 15) [17, 18, 19, 20] (v := ?_) rfl (by kernel_rfl) (fun _ _ _ h => h) (by rfl) ?_ (by assumption) ?_
          case refine_2 => (intro w' hSw; (try dsimp only at hSw); go_simp; first | done | with_reducible rfl)
          try simp only [Act.put, List.setIfInBounds_toArray, List.set_cons_zero, List.set_cons_succ]
          refine takeP (i := 16) (v := ?_) rfl (by kernel_rfl) (fun _ _ _ h => h) (by rfl) ?_ (by assumption) ?_
          case refine_2 => (intro w'; go_simp; first | done | with_reducible rfl)
          try simp only [Act.put, List.setIfInBounds_toArray, List.set_cons_zero, List.set_cons_succ]
          refine takeP (i := 17) (v := ?_) rfl (by kernel_rfl) (fun _ _ _ h => h) (by rfl) ?_ (by assumption) ?_
          case refine_2 => (intro w'; go_simp; first | done | with_reducible rfl)
          try simp only [Act.put, List.setIfInBounds_toArray, List.set_cons_zero, List.set_cons_succ]
          refine takeH (i := 18) [19, 20] (v := ?_) rfl (by kernel_rfl) (fun _ _ _ h => h) (by rfl) ?_ (by assumption) ?_
          case refine_2 => (intro w' hSw; (try dsimp only at hSw); go_simp; first | done | with_reducible rfl)
          try simp only [Act.put, List.setIfInBounds_toArray, List.set_cons_zero, List.set_cons_succ]
          refine takeP (i := 19) (v := ?_) rfl (by kernel_rfl) (fun _ _ _ h => h) (by rfl) ?_ (by assumption) ?_
          case refine_2 => (intro w'; go_simp; first | done | with_reducible rfl)
          try simp only [Act.put, List.setIfInBounds_toArray, List.set_cons_zero, List.set_cons_succ]
          refine takeH (i := 20) [] (v := ?_) rfl (by kernel_rfl) (fun _ _ _ h => h) (by rfl) ?_ (by assumption) ?_
          case refine_2 => (intro w' hSw; (try dsimp only at hSw); go_simp; first | done | with_reducible rfl)
          try simp only [Act.put, List.setIfInBounds_toArray, List.set_cons_zero, List.set_cons_succ]
          refine takeP (i := 21) (v := ?_) rfl (by kernel_rfl) (fun _ _ _ h => h) (by rfl) ?_ (by assumption) ?_
          case refine_2 => (intro w'; go_simp; first | done | with_reducible rfl)
          try simp only [Act.put, List.setIfInBounds_toArray, List.set_cons_zero, List.set_cons_succ]
          refine readyG (rs := [22]) (by kernel_rfl) (by simp) ?_
          refine AllG.last rfl (by kernel_rfl) (fun K hK => ?_) AllG.nil
          go_simp
          refine hK.out _ _ ?_
          clear hK K
          try simp only [Act.put, List.setIfInBounds_toArray, List.set_cons_zero, List.set_cons_succ]
          refine doneG (by kernel_rfl) ?_ _
          refine NoPanic.normal ?_
          have hS9 := HS9.out
          rw [iv_set, Hset.out] at hS9
          go_wp2_with fail
          go_roundw
          case rel => exact ⟨y + 1, _, by omega, by go_num, Hst2.out, hS9⟩
          case measure => simp [intOf]; omega
        · obtain rfl : y = n := by omega
          go_wp2_with fail
          go_roundw
          case rel => exact ⟨k + 1, S, by omega, by go_num, hI.out, hS⟩
          case measure => simp [intOf]; omega
    · rw [List.append_nil] at hS
      go_wp2_with fail
      go_ret
      exact ⟨o, uo, S, rfl, hI.out, Hl.out, hS⟩
/-- the entry of a product -/
theorem prod_lt {n m x y a b : Nat} (ha : a < n) (hb : b < m) : m * a + b < n * m := by
  have h1 : m * a + m ≤ m * n := by rw [← Nat.mul_succ]; exact Nat.mul_le_mul_left _ (by omega)
  rw [Nat.mul_comm n m]; omega
set_option maxHeartbeats 8000000 in
set_option maxRecDepth 100000 in
theorem l06Product_c (v v' : Value) (us us' : List Value) (A B : List (List Int)) (w : World) (n m : Nat) (hv : RII w v us A) (hv' : RII w v' us' B) (hA : Sq0 n A) (hB : Sq0 m B) (hn : n ≤ 16) (hm : m ≤ 16) :
    Calls Tryz.prog 111 #[v, v'] w (MakesQ w (n * m)) := by
  have hln := hv.len
  rw [hA.len] at hln
  have hlm := hv'.len
  rw [hB.len] at hlm
  have hix := hv.ixe
  rw [hA.len] at hix
  have hix' := hv'.ixe
  rw [hB.len] at hix'
  obtain ⟨N, hN⟩ : ∃ N, N = n * m := ⟨_, rfl⟩
  have hNle : N ≤ 256 := by rw [hN]; exact Nat.mul_le_mul hn hm
  have hmul : (n : Int) * (m : Int) = (N : Int) := by rw [hN]; rfl
  have HE := fun W => Lib.hid (l06Zero_c N W (by omega))
  have H := Lib.hid (And.intro hA hB)
  have Hv := Lib.hid hv
  have Hv' := Lib.hid hv'
  have HN := Lib.hid hN
  rw [← hN]
  clear hA hB hN
  go_enter Tryz.func111, Tryz.ntmps111
  go_wp2_with fail
  refine (HE _).out.mono ?_
  rintro e w2 ⟨o, uo, rfl, hl, hS2⟩
  rw [sqF_len] at hl
  have Hl := Lib.hid hl
  have hS3 : St w.heap.size w w2 (own2 o uo (sqF N fun _ _ => 0) ++ []) := by rw [List.append_nil]; exact hS2
  clear hS2 hl hv hv'
  go_wp2_with fail
  go_loopw [8, 9] (fun i _ wr => ∃ (k : Nat) (S : List (List Int)), k ≤ N ∧ i = .int .i64 k ∧ Hid (Sq0 N S) ∧ St w.heap.size w wr (own2 o uo S ++ [])) (fun i _ _ => N - (intOf i).toNat)
  case atStart => exact ⟨0, _, by omega, rfl, zero_sq0 N, hS3⟩
  case round =>
    clear hS3
    obtain ⟨k, S, hk, rfl, hI, hS⟩ := hrel
    by_cases hlt : k < N
    · go_wp2_with fail
      go_loopw [9] (fun j wr' => ∃ (y : Nat) (S : List (List Int)), y ≤ N ∧ j = .int .i64 y ∧ Hid (Sq0 N S) ∧ St w.heap.size w wr' (own2 o uo S ++ [])) (fun j _ => N - (intOf j).toNat)
      case atStart => exact ⟨0, S, by omega, rfl, hI.out, hS⟩
      case round =>
        clear hI hS
        obtain ⟨y, S, hy, rfl, hI, hS⟩ := hrel
        by_cases hly : y < N
        · obtain ⟨hA, hB⟩ := H.out
          have m0 : 0 < m := by
            rcases Nat.eq_zero_or_pos m with e | e
            · have := HN.out; rw [e, Nat.mul_zero] at this; omega
            · exact e
          have d1 : k / m < n := Nat.div_lt_of_lt_mul (by rw [Nat.mul_comm, ← HN.out]; exact hlt)
          have d2 : y / m < n := Nat.div_lt_of_lt_mul (by rw [Nat.mul_comm, ← HN.out]; exact hly)
          have e1 : k % m < m := Nat.mod_lt _ m0
          have e2 : y % m < m := Nat.mod_lt _ m0
          have f0 : ((m : Int) == 0) = false := eq_f (by omega)
          have f1 : ¬ (m : Int) = 0 := by omega
          have f2 : ¬ m = 0 := by omega
          have q1 : (k : Int).tdiv m = ((k / m : Nat) : Int) := by rw [Int.tdiv_eq_ediv_of_nonneg (by omega)]; rfl
          have q2 : (y : Int).tdiv m = ((y / m : Nat) : Int) := by rw [Int.tdiv_eq_ediv_of_nonneg (by omega)]; rfl
          have q3 : (k : Int).tmod m = ((k % m : Nat) : Int) := by rw [Int.tmod_eq_emod_of_nonneg (by omega)]; rfl
          have q4 : (y : Int).tmod m = ((y % m : Nat) : Int) := by rw [Int.tmod_eq_emod_of_nonneg (by omega)]; rfl
          have kN : k / m ≤ k := Nat.div_le_self _ _
          have yN : y / m ≤ y := Nat.div_le_self _ _
          obtain ⟨k1, hk1⟩ : ∃ k1, k1 = k / m := ⟨_, rfl⟩
          obtain ⟨y1, hy1⟩ : ∃ y1, y1 = y / m := ⟨_, rfl⟩
          obtain ⟨k2, hk2⟩ : ∃ k2, k2 = k % m := ⟨_, rfl⟩
          obtain ⟨y2, hy2⟩ : ∃ y2, y2 = y % m := ⟨_, rfl⟩
          rw [← hk1] at d1 q1 kN
          rw [← hy1] at d2 q2 yN
          rw [← hk2] at e1 q3
          rw [← hy2] at e2 q4
          clear hk1 hy1 hk2 hy2
          have q5 : IntKind.i64.wrap (k1 : Int) = (k1 : Int) := IntWalk.i64_in _ (by omega)
          have q6 : IntKind.i64.wrap (y1 : Int) = (y1 : Int) := IntWalk.i64_in _ (by omega)
          obtain ⟨a, ha, han⟩ : ∃ a : Nat, at2 A k1 y1 = a ∧ a < n := by
            have := hA.el k1 y1 d1 d2
            exact ⟨(at2 A k1 y1).toNat, by omega, by omega⟩
          obtain ⟨b, hb, hbn⟩ : ∃ b : Nat, at2 B k2 y2 = b ∧ b < m := by
            have := hB.el k2 y2 e1 e2
            exact ⟨(at2 B k2 y2).toNat, by omega, by omega⟩
          have hpl : m * a + b < N := by rw [HN.out]; exact prod_lt (x := 0) (y := 0) han hbn
          obtain ⟨P, hP⟩ : ∃ P, P = m * a := ⟨_, rfl⟩
          rw [← hP] at hpl
          have q7 : (m : Int) * (a : Int) = (P : Int) := by rw [hP]; rfl
          have q8 : IntKind.i64.wrap (P : Int) = (P : Int) := IntWalk.i64_in _ (by omega)
          obtain ⟨z, hz⟩ : ∃ z, z = P + b := ⟨_, rfl⟩
          have q9 : IntKind.i64.wrap ((P : Int) + (b : Int)) = (z : Int) := by rw [IntWalk.i64_in _ (by omega), hz]; rfl
          have hzN : z < N := by omega
          have hR1 := hS.oldII Hv.out
          have hR2 := hS.oldII Hv'.out
          have ck := hR1.cell k1 (by rw [hA.len]; exact d1)
          have cy : wr.cell? (el (vat us k1) y1) = some (.int .i64 (a : Int)) := by
            rw [← ha]; exact (hR1.row k1 (by rw [hA.len]; exact d1)).cell y1 (by rw [hA.row k1 d1]; exact d2)
          have ck' := hR2.cell k2 (by rw [hB.len]; exact e1)
          have cy' : wr.cell? (el (vat us' k2) y2) = some (.int .i64 (b : Int)) := by
            rw [← hb]; exact (hR2.row k2 (by rw [hB.len]; exact e1)).cell y2 (by rw [hB.row k2 e1]; exact e2)
          have x0 := hix (k1 : Int) k1 rfl d1
          have x1 := hix' (k2 : Int) k2 rfl e1
          have x2 := (hR1.row k1 (by rw [hA.len]; exact d1)).ixe (y1 : Int) y1 rfl (by rw [hA.row k1 d1]; exact d2)
          have x3 := (hR2.row k2 (by rw [hB.len]; exact e1)).ixe (y2 : Int) y2 rfl (by rw [hB.row k2 e1]; exact e2)
          have hsl : S.length = N := hI.out.len
          have hsa : (xat S k).length = N := hI.out.row k hlt
          have hlS : uo.length = S.length := by rw [Hl.out, hsl]
          have hR := rii2 hS hlS
          have hat := hS.at_row hlS (j := k) (by rw [hsl]; exact hlt)
          have z0 := hR.cell k (by rw [hsl]; exact hlt)
          have xo := hR.ixe (k : Int) k rfl (by rw [hsl]; exact hlt)
          have xb := (hS.rdI (k + 1) hat).ixe (y : Int) y rfl (by rw [hsa]; exact hly)
          have u1 := hS.unfrozen (k + 1) hat (j := y) (by rw [iv_len, hsa]; exact hly)
          have co1 := (hS.rdI (k + 1) hat).cell y (by rw [hsa]; exact hly)
          have HS9 := Lib.hid (hS.drew.store (k + 1) hat (j := y) (by rw [iv_len, hsa]; exact hly) (.int .i64 (z : Int)))
          have Hst2 := Lib.hid (putS_sq0 hI.out hlt hly (v := (z : Int)) (by omega) (by omega))
          have Hset := Lib.hid (own2_set (v := o) (L2 := []) hlS (j := k) (by rw [hsl]; exact hlt) ((xat S k).set y (z : Int)))
          clear hI hR hR1 hR2 hat hlS hsl hsa hS hz hP hA hB ha hb kN yN d1 d2 e1 e2 hpl han hbn
          go_wp2_with fail
          refine regionG (fun w' => w'.cell? (el o k) = some (vat uo k) ∧ w'.cell? (el v k1) = some (vat us k1) ∧ w'.cell? (el (vat us k1) y1) = some (.int .i64 (a : Int)) ∧ w'.cell? (el v' k2) = some (vat us' k2) ∧ w'.cell? (el (vat us' k2) y2) = some (.int .i64 (b : Int))) 31 (by kernel_rfl) ⟨cell_dr z0, cell_dr ck, cell_dr cy, cell_dr ck', cell_dr cy'⟩ (fun hHeld => ?_)
          refine takeP (i := 0) (v := ?_) rfl (by kernel_rfl) (fun _ _ _ h => h) (by rfl) ?_ (by assumption) ?_
          case refine_2 => (intro w'; go_simp; first | done | with_reducible rfl)
          try simp only [Act.put, List.setIfInBounds_toArray, List.set_cons_zero, List.set_cons_succ]
          refine takeP (i := 1) (v := ?_) rfl (by kernel_rfl) (fun _ _ _ h => h) (by rfl) ?_ (by assumption) ?_
          case refine_2 => (intro w'; go_simp; first | done | with_reducible rfl)
          try simp only [Act.put, List.setIfInBounds_toArray, List.set_cons_zero, List.set_cons_succ]
          refine takeP (i := 2) (v := ?_) rfl (by kernel_rfl) (fun _ _ _ h => h) (by rfl) ?_ (by assumption) ?_
          case refine_2 => (intro w'; go_simp; first | done | with_reducible rfl)
          try simp only [Act.put, List.setIfInBounds_toArray, List.set_cons_zero, List.set_cons_succ]
          refine takeH (i := 3) [30] (v := ?_) rfl (by kernel_rfl) (fun _ _ _ h => h) (by rfl) ?_ (by assumption) ?_
          case refine_2 => (intro w' hSw; (try dsimp only at hSw); go_simp; first | done | with_reducible rfl)
          try simp only [Act.put, List.setIfInBounds_toArray, List.set_cons_zero, List.set_cons_succ]
          refine takeP (i := 4) (v := ?_) rfl (by kernel_rfl) (fun _ _ _ h => h) (by rfl) ?_ (by assumption) ?_
          case refine_2 => (intro w'; go_simp; first | done | with_reducible rfl)
          try simp only [Act.put, List.setIfInBounds_toArray, List.set_cons_zero, List.set_cons_succ]
          refine takeP (i := 5) (v := ?_) rfl (by kernel_rfl) (fun _ _ _ h => h) (by rfl) ?_ (by assumption) ?_
          case refine_2 => (intro w'; go_simp; first | done | with_reducible rfl)
          try simp only [Act.put, List.setIfInBounds_toArray, List.set_cons_zero, List.set_cons_succ]
          refine takeP (i := 6) (v := ?_) rfl (by kernel_rfl) (fun _ _ _ h => h) (by rfl) ?_ (by assumption) ?_
          case refine_2 => (intro w'; go_simp; first | done | with_reducible rfl)
          try simp only [Act.put, List.setIfInBounds_toArray, List.set_cons_zero, List.set_cons_succ]
          refine takeP (i := 7) (v := ?_) rfl (by kernel_rfl) (fun _ _ _ h => h) (by rfl) ?_ (by assumption) ?_
          case refine_2 => (intro w'; go_simp; first | done | with_reducible rfl)
          try simp only [Act.put, List.setIfInBounds_toArray, List.set_cons_zero, List.set_cons_succ]
          refine takeP (i := 8) (v := ?_) rfl (by kernel_rfl) (fun _ _ _ h => h) (by rfl) ?_ (by assumption) ?_
          case refine_2 => (intro w'; go_simp; first | done | with_reducible rfl)
          try simp only [Act.put, List.setIfInBounds_toArray, List.set_cons_zero, List.set_cons_succ]
          refine takeP (i := 9) (v := ?_) rfl (by kernel_rfl) (fun _ _ _ h => h) (by rfl) ?_ (by assumption) ?_
          case refine_2 => (intro w'; go_simp; first | done | with_reducible rfl)
          try simp only [Act.put, List.setIfInBounds_toArray, List.set_cons_zero, List.set_cons_succ]
          refine takeP (i := 10) (v := ?_) rfl (by kernel_rfl) (fun _ _ _ h => h) (by rfl) ?_ (by assumption) ?_
          case refine_2 => (intro w'; go_simp; first | done | with_reducible rfl)
          try simp only [Act.put, List.setIfInBounds_toArray, List.set_cons_zero, List.set_cons_succ]
          refine takeH (i := 11) [15, 16, 17, 29] (v := ?_) rfl (by kernel_rfl) (fun _ _ _ h => h) (by rfl) ?_ (by assumption) ?_
          case refine_2 => (intro w' hSw; (try dsimp only at hSw); go_simp; first | done | with_reducible rfl)
          try simp only [Act.put, List.setIfInBounds_toArray, List.set_cons_zero, List.set_cons_succ]
          refine takeP (i := 12) (v := ?_) rfl (by kernel_rfl) (fun _ _ _ h => h) (by rfl) ?_ (by assumption) ?_
          case refine_2 => (intro w'; go_simp; first | done | with_reducible rfl)
          try simp only [Act.put, List.setIfInBounds_toArray, List.set_cons_zero, List.set_cons_succ]
          refine takeP (i := 13) (v := ?_) rfl (by kernel_rfl) (fun _ _ _ h => h) (by rfl) ?_ (by assumption) ?_
          case refine_2 => (intro w'; go_simp; first | done | with_reducible rfl)
          try simp only [Act.put, List.setIfInBounds_toArray, List.set_cons_zero, List.set_cons_succ]
          refine takeP (i := 14) (v := ?_) rfl (by kernel_rfl) (fun _ _ _ h => h) (by rfl) ?_ (by assumption) ?_
          case refine_2 => (intro w'; go_simp; first | done | with_reducible rfl)
          try simp only [Act.put, List.setIfInBounds_toArray, List.set_cons_zero, List.set_cons_succ]
          refine takeP (i := 15) (v := ?_) rfl (by kernel_rfl) (fun _ _ _ h => h) (by rfl) ?_ (by assumption) ?_
          case refine_2 => (intro w'; go_simp; first | done | with_reducible rfl)
          try simp only [Act.put, List.setIfInBounds_toArray, List.set_cons_zero, List.set_cons_succ]
          refine takeH (i := 16) [17, 29] (v := ?_) rfl (by kernel_rfl) (fun _ _ _ h => h) (by rfl) ?_ (by assumption) ?_
          case refine_2 => (intro w' hSw; (try dsimp only at hSw); go_simp; first | done | with_reducible rfl)
          try simp only [Act.put, List.setIfInBounds_toArray, List.set_cons_zero, List.set_cons_succ]
          refine takeP (i := 17) (v := ?_) rfl (by kernel_rfl) (fun _ _ _ h => h) (by rfl) ?_ (by assumption) ?_
          case refine_2 => (intro w'; go_simp; first | done | with_reducible rfl)
          try simp only [Act.put, List.setIfInBounds_toArray, List.set_cons_zero, List.set_cons_succ]
          refine takeP (i := 18) (v := ?_) rfl (by kernel_rfl) (fun _ _ _ h => h) (by rfl) ?_ (by assumption) ?_
          case refine_2 => (intro w'; go_simp; first | done | with_reducible rfl)
          try simp only [Act.put, List.setIfInBounds_toArray, List.set_cons_zero, List.set_cons_succ]
          refine takeP (i := 19) (v := ?_) rfl (by kernel_rfl) (fun _ _ _ h => h) (by rfl) ?_ (by assumption) ?_
          case refine_2 => (intro w'; go_simp; first | done | with_reducible rfl)
          try simp only [Act.put, List.setIfInBounds_toArray, List.set_cons_zero, List.set_cons_succ]
          refine takeP (i := 20) (v := ?_) rfl (by kernel_rfl) (fun _ _ _ h => h) (by rfl) ?_ (by assumption) ?_
          case refine_2 => (intro w'; go_simp; first | done | with_reducible rfl)
          try simp only [Act.put, List.setIfInBounds_toArray, List.set_cons_zero, List.set_cons_succ]
          refine takeP (i := 21) (v := ?_) rfl (by kernel_rfl) (fun _ _ _ h => h) (by rfl) ?_ (by assumption) ?_
          case refine_2 => (intro w'; go_simp; first | done | with_reducible rfl)
          try simp only [Act.put, List.setIfInBounds_toArray, List.set_cons_zero, List.set_cons_succ]
          refine takeP (i := 22) (v := ?_) rfl (by kernel_rfl) (fun _ _ _ h => h) (by rfl) ?_ (by assumption) ?_
          case refine_2 => (intro w'; go_simp; first | done | with_reducible rfl)
          try simp only [Act.put, List.setIfInBounds_toArray, List.set_cons_zero, List.set_cons_succ]
          refine takeH (i := 23) [27, 28, 29] (v := ?_) rfl (by kernel_rfl) (fun _ _ _ h => h) (by rfl) ?_ (by assumption) ?_
          case refine_2 => (intro w' hSw; (try dsimp only at hSw); go_simp; first | done | with_reducible rfl)
          try simp only [Act.put, List.setIfInBounds_toArray, List.set_cons_zero, List.set_cons_succ]
          refine takeP (i := 24) (v := ?_) rfl (by kernel_rfl) (fun _ _ _ h => h) (by rfl) ?_ (by assumption) ?_
          case refine_2 => (intro w'; go_simp; first | done | with_reducible rfl)
          try simp only [Act.put, List.setIfInBounds_toArray, List.set_cons_zero, List.set_cons_succ]
          refine takeP (i := 25) (v := ?_) rfl (by kernel_rfl) (fun _ _ _ h => h) (by rfl) ?_ (by assumption) ?_
          case refine_2 => (intro w'; go_simp; first | done | with_reducible rfl)
          try simp only [Act.put, List.setIfInBounds_toArray, List.set_cons_zero, List.set_cons_succ]
          refine takeP (i := 26) (v := ?_) rfl (by kernel_rfl) (fun _ _ _ h => h) (by rfl) ?_ (by assumption) ?_
          case refine_2 => (intro w'; go_simp; first | done | with_reducible rfl)
          try simp only [Act.put, List.setIfInBounds_toArray, List.set_cons_zero, List.set_cons_succ]
          refine takeP (i := 27) (v := ?_) rfl (by kernel_rfl) (fun _ _ _ h => h) (by rfl) ?_ (by assumption) ?_
          case refine_2 => (intro w'; go_simp; first | done | with_reducible rfl)
          try simp only [Act.put, List.setIfInBounds_toArray, List.set_cons_zero, List.set_cons_succ]
          refine takeH (i := 28) [29] (v := ?_) rfl (by kernel_rfl) (fun _ _ _ h => h) (by rfl) ?_ (by assumption) ?_
          case refine_2 => (intro w' hSw; (try dsimp only at hSw); go_simp; first | done | with_reducible rfl)
          try simp only [Act.put, List.setIfInBounds_toArray, List.set_cons_zero, List.set_cons_succ]
          refine takeP (i := 29) (v := ?_) rfl (by kernel_rfl) (fun _ _ _ h => h) (by rfl) ?_ (by assumption) ?_
          case refine_2 => (intro w'; go_simp; first | done | with_reducible rfl)
          try simp only [Act.put, List.setIfInBounds_toArray, List.set_cons_zero, List.set_cons_succ]
          refine takeP (i := 30) (v := ?_) rfl (by kernel_rfl) (fun _ _ _ h => h) (by rfl) ?_ (by assumption) ?_
          case refine_2 => (intro w'; go_simp; first | done | with_reducible rfl)
          try simp only [Act.put, List.setIfInBounds_toArray, List.set_cons_zero, List.set_cons_succ]
          refine readyG (rs := [31]) (by kernel_rfl) (by simp) ?_
          refine AllG.last rfl (by kernel_rfl) (fun K hK => ?_) AllG.nil
          go_simp
          refine hK.out _ _ ?_
          clear hK K
          try simp only [Act.put, List.setIfInBounds_toArray, List.set_cons_zero, List.set_cons_succ]
          refine doneG (by kernel_rfl) ?_ _
          refine NoPanic.normal ?_
          have hS9 := HS9.out
          rw [iv_set, Hset.out] at hS9
          go_wp2_with fail
          go_roundw
          case rel => exact ⟨y + 1, _, by omega, by go_num, Hst2.out, hS9⟩
          case measure => simp [intOf]; omega
        · obtain rfl : y = N := by omega
          go_wp2_with fail
          go_roundw
          case rel => exact ⟨k + 1, S, by omega, by go_num, hI.out, hS⟩
          case measure => simp [intOf]; omega
    · rw [List.append_nil] at hS
      go_wp2_with fail
      go_ret
      exact ⟨o, uo, S, rfl, hI.out, Hl.out, hS⟩


/-- some square of n rows with entries below n, and the source goes on -/
def SqS (w0 : World) (cv : Value) (g K n : Nat) (L : List Ent) (e : Ending) (w' : World) : Prop := ∃ v us A, e = .returned v ∧ Sq0 n A ∧ us.length = n ∧ Src w0 w' cv g K (own2 v us A ++ L)
set_option maxHeartbeats 8000000 in
set_option maxRecDepth 100000 in
theorem l06Switch_c (w0 w : World) (cv : Value) (bs : List UInt8) (g K : Nat) (L : List Ent) (n : Nat) (v : Value) (us : List Value) (A : List (List Int)) (hb : RdB w0 cv bs)
    (h : Src w0 w cv g K (own2 v us A ++ L)) (hl : us.length = n) (hA : Sq0 n A) (hK : K < 100000000000) (n1 : 1 ≤ n) (n2 : n ≤ 100) :
    Calls Tryz.prog 112 #[.pointer (some ⟨g, 0, none⟩), v] w (SqS w0 cv g (K + 10) n L) := by
  have HA := Lib.hid hA
  have Hul := Lib.hid hl
  have hRA : RII w v us A := by
    obtain ⟨p, s, h0, h1, hS⟩ := h
    exact (hS.sub ((List.sublist_append_left _ _).trans (List.sublist_cons_self _ _))).rii (by rw [hl, hA.len])
  have hln := hRA.len
  rw [hA.len] at hln
  have hxi := hRA.ixe
  rw [hA.len] at hxi
  have HO := Lib.hid (l06Own_c v us A w hRA (by rw [hA.len]; omega) (fun xs hx => by
    obtain ⟨j, hj, rfl⟩ := List.getElem_of_mem hx
    have := hA.row j (by rw [← hA.len]; exact hj)
    rw [xat_eq hj] at this; omega))
  clear hA hl hRA
  go_enter Tryz.func112, Tryz.ntmps112
  go_wp2_with fail
  refine HO.out.mono ?_
  rintro e w1 ⟨o, uo, rfl, hlo, h1⟩
  rw [HA.out.len] at hlo
  have Hl := Lib.hid hlo
  have h2 := h.call h1
  clear h h1 hlo HO
  go_wp2_with fail
  refine (pick_c w0 w1 cv bs g _ _ n hb h2 (by omega)).mono ?_
  rintro e w2 ⟨x, x0, x1, rfl, h3⟩
  obtain ⟨x, rfl⟩ := Int.eq_ofNat_of_zero_le x0
  have hxn : x < n := by omega
  clear h2 x0 x1
  go_wp2_with fail
  refine (pick_c w0 w2 cv bs g _ _ n hb h3 (by omega)).mono ?_
  rintro e w3 ⟨z, z0, z1, rfl, h4⟩
  obtain ⟨z, rfl⟩ := Int.eq_ofNat_of_zero_le z0
  have hzn : z < n := by omega
  clear h3 z0 z1
  by_cases hxz : x = z
  · have f1 : ((x : Int) == (z : Int)) = true := eq_t (by omega)
    have h5 := (h4.perm (L' := (own2 o uo A ++ L) ++ own2 v us A) (by (try simp only [own2, List.cons_append, List.nil_append, List.append_nil]); classical exact List.perm_iff_count.2 (fun a => by simp only [List.cons_append, List.nil_append, List.append_nil, List.count_append, List.count_cons, List.count_nil] <;> omega))).sub (List.sublist_append_left _ _)
    clear h4 hxz
    go_wp2_with fail
    go_ret
    exact ⟨o, uo, A, rfl, HA.out, Hl.out, h5.mono (by omega)⟩
  · have f1 : ((x : Int) == (z : Int)) = false := eq_f (by omega)
    have Hxz := Lib.hid hxz
    clear hxz
    go_wp2_with fail
    refine (pick_c w0 w3 cv bs g _ _ n hb h4 (by omega)).mono ?_
    rintro e w4 ⟨y, y0, y1, rfl, h5⟩
    obtain ⟨y, rfl⟩ := Int.eq_ofNat_of_zero_le y0
    have hyn : y < n := by omega
    clear h4 y0 y1
    obtain ⟨pp, ss, p0, p1, hS⟩ := h5
    obtain ⟨M, hM⟩ : ∃ M, M = box 95 g [cv, .int .i64 pp, .int .u64 ss] :: (L ++ own2 v us A) := ⟨_, rfl⟩
    have hS1 : St w0.heap.size w0 w4 (own2 o uo A ++ M) := by rw [hM]; exact hS.perm (by (try simp only [own2, List.cons_append, List.nil_append, List.append_nil]); classical exact List.perm_iff_count.2 (fun a => by simp only [List.cons_append, List.nil_append, List.append_nil, List.count_append, List.count_cons, List.count_nil] <;> omega))
    have HM := Lib.hid (show ∀ w' S, St w0.heap.size w0 w' (own2 o uo S ++ M) → Src w0 w' cv g (K + 10) (own2 o uo S ++ L) from fun w' S hs => by
      rw [hM] at hs
      exact ⟨pp, ss, p0, by omega, (hs.perm (L' := (box 95 g [cv, .int .i64 pp, .int .u64 ss] :: (own2 o uo S ++ L)) ++ own2 v us A) (by (try simp only [own2, List.cons_append, List.nil_append, List.append_nil]); classical exact List.perm_iff_count.2 (fun a => by simp only [List.cons_append, List.nil_append, List.append_nil, List.count_append, List.count_cons, List.count_nil] <;> omega))).sub (List.sublist_append_left _ _)⟩)
    have hRA : RII w4 v us A := (hS.sub ((List.sublist_append_left _ _).trans ((List.sublist_append_left _ _).trans (List.sublist_cons_self _ _)))).rii (by rw [Hul.out, HA.out.len])
    have ca := hRA.cell x (by rw [HA.out.len]; exact hxn)
    have cb := (hRA.row x (by rw [HA.out.len]; exact hxn)).cell y (by rw [HA.out.row x hxn]; exact hyn)
    have xa := (hRA.row x (by rw [HA.out.len]; exact hxn)).ixe (y : Int) y rfl (by rw [HA.out.row x hxn]; exact hyn)
    have xx := hxi (x : Int) x rfl hxn
    generalize nth (xat A x) y = fst at *
    clear hM hS hRA p0 p1
    go_wp2_with fail
    clear ca cb xa xx
    go_loopw [9, 11, 12, 13, 14, 15] (fun yv kk _ _ _ _ wr => ∃ (k y : Nat) (S : List (List Int)), k ≤ n ∧ kk = .int .i64 k ∧ yv = .int .i64 y ∧ y < n ∧ Hid (Sq0 n S) ∧ St w0.heap.size w0 wr (own2 o uo S ++ M)) (fun _ kk _ _ _ _ _ => n - (intOf kk).toNat)
    case atStart => exact ⟨0, y, A, by omega, rfl, rfl, hyn, HA.out, hS1⟩
    case round =>
      clear hS1 hyn
      obtain ⟨k, y, S, hk, rfl, rfl, hyn, hI, hS⟩ := hrel
      by_cases hlt : k < n
      · have hsl : S.length = n := hI.out.len
        have hlS : uo.length = S.length := by rw [Hl.out, hsl]
        have hsx : (xat S x).length = n := hI.out.row x hxn
        have hsz : (xat S z).length = n := hI.out.row z hzn
        have hR := rii2 hS hlS
        have hat := hS.at_row hlS (j := x) (by rw [hsl]; exact hxn)
        have c1 := hR.cell x (by rw [hsl]; exact hxn)
        have c2 := hR.cell z (by rw [hsl]; exact hzn)
        have i1 := hR.ixe (x : Int) x rfl (by rw [hsl]; exact hxn)
        have i2 := hR.ixe (z : Int) z rfl (by rw [hsl]; exact hzn)
        have j1 := (hR.row x (by rw [hsl]; exact hxn)).ixe (y : Int) y rfl (by rw [hsx]; exact hyn)
        have j2 := (hR.row z (by rw [hsl]; exact hzn)).ixe (y : Int) y rfl (by rw [hsz]; exact hyn)
        have d1 : wr.cell? (el (vat uo x) y) = some (.int .i64 (at2 S x y)) := (hR.row x (by rw [hsl]; exact hxn)).cell y (by rw [hsx]; exact hyn)
        have d2 : wr.cell? (el (vat uo z) y) = some (.int .i64 (at2 S z y)) := (hR.row z (by rw [hsl]; exact hzn)).cell y (by rw [hsz]; exact hyn)
        have hup := hI.out.el x y hxn hyn
        have hdn := hI.out.el z y hzn hyn
        obtain ⟨S2, hS2⟩ : ∃ S2, S2 = putS S x y (at2 S z y) := ⟨_, rfl⟩
        obtain ⟨S3, hS3⟩ : ∃ S3, S3 = putS S2 z y (at2 S x y) := ⟨_, rfl⟩
        have q2 : Sq0 n S2 := by rw [hS2]; exact putS_sq0 hI.out hxn hyn hdn.1 hdn.2
        have q3 : Sq0 n S3 := by rw [hS3]; exact putS_sq0 q2 hzn hyn hup.1 hup.2
        generalize at2 S x y = up at *
        generalize at2 S z y = dn at *
        have HE1 := Lib.hid (own2_set (v := o) (L2 := M) hlS (j := x) (by rw [hsl]; exact hxn) ((xat S x).set y dn))
        rw [show S.set x ((xat S x).set y dn) = S2 from hS2.symm] at HE1
        have hlS2 : uo.length = S2.length := by rw [Hl.out, q2.len]
        have HE2 := Lib.hid (own2_set (v := o) (L2 := M) hlS2 (j := z) (by rw [q2.len]; exact hzn) ((xat S2 z).set y up))
        rw [show S2.set z ((xat S2 z).set y up) = S3 from hS3.symm] at HE2
        have hT : ∀ w', St w0.heap.size w0 w' (own2 o uo S2 ++ M) → (own2 o uo S2 ++ M)[z + 1]? = some (row 2 (vat uo z) (iv (xat S2 z))) ∧ w'.cell? (el o z) = some (vat uo z) := fun w' hs => ⟨hs.at_row hlS2 (j := z) (by rw [q2.len]; exact hzn), (rii2 hs hlS2).cell z (by rw [q2.len]; exact hzn)⟩
        have HT := Lib.hid hT
        have hW : ∀ w', St w0.heap.size w0 w' (own2 o uo S3 ++ M) → w'.cell? (el o x) = some (vat uo x) := fun w' hs => (rii2 hs (by rw [Hl.out, q3.len])).cell x (by rw [q3.len]; exact hxn)
        have HW := Lib.hid hW
        have hV : ∀ w' (i : Nat), i < n → St w0.heap.size w0 w' (own2 o uo S3 ++ M) → w'.cell? (el (vat uo x) i) = some (.int .i64 (at2 S3 x i)) ∧ ∀ W, (Instr.indexAt 48 (vat uo x) (.int .i64 (i : Int))).run Tryz.prog W = .ok (.pointer (some (el (vat uo x) i))) W := fun w' i hi hs => by
          have hr := (rii2 hs (by rw [Hl.out, q3.len])).row x (by rw [q3.len]; exact hxn)
          exact ⟨hr.cell i (by rw [q3.row x hxn]; exact hi), fun W => hr.ixe (i : Int) i rfl (by rw [q3.row x hxn]; exact hi) W⟩
        have HV := Lib.hid hV
        have Q3 := Lib.hid q3
        have hsz2 : (xat S2 z).length = n := q2.row z hzn
        have Hat := Lib.hid hat
        have Hsz2 := Lib.hid hsz2
        have Hsx := Lib.hid hsx
        have hs2 := Lib.hid hS
        clear hT hW hV hR hI hS2 hS3 q2 q3 hlS hlS2 hsl hsx hsz hat hsz2 hup hdn
        by_cases hdf : dn = fst
        · have g1 : (dn == fst) = true := eq_t hdf
          clear hdf
          go_wp2_with (first
            | (have hz := hw2; clear hz; refine stoI hw2 (z + 1) hat2 y (by rw [Hsz2.out]; exact hyn) rfl _ _ rfl rfl _ rfl ?_; intro w3' hw3; rw [HE2.out] at hw3; have k1 := HW.out _ hw3)
            | (refine stoI hs2.out (x + 1) Hat.out y (by rw [Hsx.out]; exact hyn) rfl _ _ rfl rfl _ rfl ?_; intro w2' hw2; rw [HE1.out] at hw2; obtain ⟨hat2, k2⟩ := HT.out _ hw2))
          go_ret
          exact ⟨o, uo, S3, rfl, Q3.out, Hl.out, HM.out _ _ hw3⟩
        · have g1 : (dn == fst) = false := eq_f hdf
          clear hdf
          go_wp2_with (first
            | (have hz := hw2; clear hz; refine stoI hw2 (z + 1) hat2 y (by rw [Hsz2.out]; exact hyn) rfl _ _ rfl rfl _ rfl ?_; intro w3' hw3; rw [HE2.out] at hw3; have k1 := HW.out _ hw3)
            | (refine stoI hs2.out (x + 1) Hat.out y (by rw [Hsx.out]; exact hyn) rfl _ _ rfl rfl _ rfl ?_; intro w2' hw2; rw [HE1.out] at hw2; obtain ⟨hat2, k2⟩ := HT.out _ hw2))
          clear hw2 hat2 k1 k2 hS
          go_loopw [14, 15] (fun nx ii wz => ∃ i t : Nat, i ≤ n ∧ ii = .int .i64 i ∧ nx = .int .i64 t ∧ t < n ∧ St w0.heap.size w0 wz (own2 o uo S3 ++ M)) (fun _ ii _ => n - (intOf ii).toNat)
          case atStart => exact ⟨0, 0, by omega, rfl, rfl, by omega, hw3⟩
          case round =>
            clear hw3
            obtain ⟨i, t, hi, rfl, rfl, htn, hS9⟩ := hrel
            by_cases hil : i < n
            · have k1 := HW.out _ hS9
              have k2 := (HV.out _ i hil hS9).1
              have k3 := (HV.out _ i hil hS9).2
              generalize at2 S3 x i = q at *
              by_cases hiy : i = y
              · have g2 : ((i : Int) != (y : Int)) = false := ne_f (by omega)
                clear hiy
                go_wp2_with fail
                go_roundw
                case rel => exact ⟨i + 1, t, by omega, by go_num, rfl, htn, hS9⟩
                case measure => simp [intOf]; omega
              · have g2 : ((i : Int) != (y : Int)) = true := ne_t (by omega)
                clear hiy
                by_cases hqd : q = dn
                · have g3 : (q == dn) = true := eq_t hqd
                  clear hqd
                  go_wp2_with fail
                  go_roundw
                  case rel => exact ⟨i + 1, i, by omega, by go_num, rfl, hil, hS9⟩
                  case measure => simp [intOf]; omega
                · have g3 : (q == dn) = false := eq_f hqd
                  clear hqd
                  go_wp2_with fail
                  go_roundw
                  case rel => exact ⟨i + 1, t, by omega, by go_num, rfl, htn, hS9⟩
                  case measure => simp [intOf]; omega
            · go_wp2_with fail
              go_roundw
              case rel => exact ⟨k + 1, t, S3, by omega, by go_num, rfl, htn, Q3.out, hS9⟩
              case measure => simp [intOf]; omega
      · go_wp2_with fail
        go_ret
        exact ⟨o, uo, S, rfl, hI.out, Hl.out, HM.out _ _ hS⟩

end Go.Proofs.YtdgmaodnkbgolaaGreat
end
