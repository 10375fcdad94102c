/- Walks: squares that the reference makes (their entries are below n). -/
import Derived.Test.YtpfgbbbjldpnnaaPLat
import Derived.Test.YtpfgbbbjldpnnaaMk
import Derived.Test.YtpfgbbbjldpnnaaMrk
import Derived.Test.YtpfgbbbjldpnnaaCopy
namespace Go.Proofs.Ytpfgbbbjldpnnaa
set_option linter.unusedSimpArgs false
set_option linter.unusedVariables false
open Go.RowKit
attribute [local go_sem ↓] Go.wp_at_zero Go.wp_at_succ

/-- some square of n rows with entries below n, in memory of its own -/
def MakesQ (w : World) (n : Nat) (e : Ending) (w' : World) : Prop := ∃ v us A, e = .returned v ∧ Sq0 n A ∧ us.length = n ∧ St w.heap.size w w' (own2 v us A)
theorem zero_sq0 (n : Nat) : Sq0 n (sqF n fun _ _ => 0) := ⟨sqF_sqr _ _, fun x y hx hy => by rw [at2_sqF hx hy]; omega⟩
set_option maxHeartbeats 8000000 in
set_option maxRecDepth 100000 in
theorem l06Cyclic_c (n : Nat) (w : World) (hn : n ≤ 1000) : Calls Try.prog 134 #[.int .i64 n] w (MakesQ w n) := by
  have HE := fun W => Lib.hid (l06Zero_c n W (by omega))
  go_enter Try.func134, Try.ntmps134
  go_wp2_with fail
  refine (HE _).out.mono ?_
  rintro e w2 ⟨o, uo, rfl, hl, hS2⟩
  rw [sqF_len] at hl
  have Hl := Lib.hid hl
  have hS3 : St w.heap.size w w2 (own2 o uo (sqF n fun _ _ => 0) ++ []) := by rw [List.append_nil]; exact hS2
  clear hS2 hl
  go_wp2_with fail
  go_loopw [4, 5] (fun i _ wr => ∃ (k : Nat) (S : List (List Int)), k ≤ n ∧ i = .int .i64 k ∧ Hid (Sq0 n S) ∧ St w.heap.size w wr (own2 o uo S ++ [])) (fun i _ _ => n - (intOf i).toNat)
  case atStart => exact ⟨0, _, by omega, rfl, zero_sq0 n, hS3⟩
  case round =>
    clear hS3
    obtain ⟨k, S, hk, rfl, hI, hS⟩ := hrel
    by_cases hlt : k < n
    · go_wp2_with fail
      go_loopw [5] (fun j wr' => ∃ (y : Nat) (S : List (List Int)), y ≤ n ∧ j = .int .i64 y ∧ Hid (Sq0 n S) ∧ St w.heap.size w wr' (own2 o uo S ++ [])) (fun j _ => n - (intOf j).toNat)
      case atStart => exact ⟨0, S, by omega, rfl, hI.out, hS⟩
      case round =>
        clear hI hS
        obtain ⟨y, S, hy, rfl, hI, hS⟩ := hrel
        by_cases hly : y < n
        · obtain ⟨z, hz, hzn⟩ : ∃ z : Nat, z = (k + y) % n ∧ z < n := ⟨(k + y) % n, rfl, Nat.mod_lt _ (show 0 < n by omega)⟩
          have q1 : IntKind.i64.wrap ((k : Int) + (y : Int)) = (k : Int) + (y : Int) := IntWalk.i64_in _ (by omega)
          have q2 : ((k : Int) + (y : Int)).tmod n = z := by rw [hz, Int.tmod_eq_emod_of_nonneg (by omega)]; rfl
          have f0 : ((n : Int) == 0) = false := eq_f (by omega)
          have f1 : ¬ (n : Int) = 0 := by omega
          have f2 : ¬ n = 0 := by omega
          have hsl : S.length = n := hI.out.len
          have hsa : (xat S k).length = n := hI.out.row k hlt
          have hlS : uo.length = S.length := by rw [Hl.out, hsl]
          have hR := rii2 hS hlS
          have hat := hS.at_row hlS (j := k) (by rw [hsl]; exact hlt)
          have z0 := hR.cell k (by rw [hsl]; exact hlt)
          have xo := hR.ixe (k : Int) k rfl (by rw [hsl]; exact hlt)
          have xb := (hS.rdI (k + 1) hat).ixe (y : Int) y rfl (by rw [hsa]; exact hly)
          have u1 := hS.unfrozen (k + 1) hat (j := y) (by rw [iv_len, hsa]; exact hly)
          have co1 := (hS.rdI (k + 1) hat).cell y (by rw [hsa]; exact hly)
          have HS9 := Lib.hid (hS.drew.store (k + 1) hat (j := y) (by rw [iv_len, hsa]; exact hly) (.int .i64 (z : Int)))
          have Hst2 := Lib.hid (putS_sq0 hI.out hlt hly (v := (z : Int)) (by omega) (by omega))
          have Hset := Lib.hid (own2_set (v := o) (L2 := []) hlS (j := k) (by rw [hsl]; exact hlt) ((xat S k).set y (z : Int)))
          clear hI hR hat hlS hsl hsa hz hzn hS
          go_wp2_with fail
          refine regionG (fun w' => w'.cell? (el o k) = some (vat uo k)) 11 (by kernel_rfl) (cell_dr z0) (fun hHeld => ?_)
          refine takeP (i := 0) (v := ?_) rfl (by kernel_rfl) (fun _ _ _ h => h) (by rfl) ?_ (by assumption) ?_
          case refine_2 => (intro w'; go_simp; first | done | with_reducible rfl)
          try simp only [Act.put, List.setIfInBounds_toArray, List.set_cons_zero, List.set_cons_succ]
          refine takeP (i := 1) (v := ?_) rfl (by kernel_rfl) (fun _ _ _ h => h) (by rfl) ?_ (by assumption) ?_
          case refine_2 => (intro w'; go_simp; first | done | with_reducible rfl)
          try simp only [Act.put, List.setIfInBounds_toArray, List.set_cons_zero, List.set_cons_succ]
          refine takeP (i := 2) (v := ?_) rfl (by kernel_rfl) (fun _ _ _ h => h) (by rfl) ?_ (by assumption) ?_
          case refine_2 => (intro w'; go_simp; first | done | with_reducible rfl)
          try simp only [Act.put, List.setIfInBounds_toArray, List.set_cons_zero, List.set_cons_succ]
          refine takeH (i := 3) [10] (v := ?_) rfl (by kernel_rfl) (fun _ _ _ h => h) (by rfl) ?_ (by assumption) ?_
          case refine_2 => (intro w' hSw; (try dsimp only at hSw); go_simp; first | done | with_reducible rfl)
          try simp only [Act.put, List.setIfInBounds_toArray, List.set_cons_zero, List.set_cons_succ]
          refine takeP (i := 4) (v := ?_) rfl (by kernel_rfl) (fun _ _ _ h => h) (by rfl) ?_ (by assumption) ?_
          case refine_2 => (intro w'; go_simp; first | done | with_reducible rfl)
          try simp only [Act.put, List.setIfInBounds_toArray, List.set_cons_zero, List.set_cons_succ]
          refine takeP (i := 5) (v := ?_) rfl (by kernel_rfl) (fun _ _ _ h => h) (by rfl) ?_ (by assumption) ?_
          case refine_2 => (intro w'; go_simp; first | done | with_reducible rfl)
          try simp only [Act.put, List.setIfInBounds_toArray, List.set_cons_zero, List.set_cons_succ]
          refine takeP (i := 6) (v := ?_) rfl (by kernel_rfl) (fun _ _ _ h => h) (by rfl) ?_ (by assumption) ?_
          case refine_2 => (intro w'; go_simp; first | done | with_reducible rfl)
          try simp only [Act.put, List.setIfInBounds_toArray, List.set_cons_zero, List.set_cons_succ]
          refine takeP (i := 7) (v := ?_) rfl (by kernel_rfl) (fun _ _ _ h => h) (by rfl) ?_ (by assumption) ?_
          case refine_2 => (intro w'; go_simp; first | done | with_reducible rfl)
          try simp only [Act.put, List.setIfInBounds_toArray, List.set_cons_zero, List.set_cons_succ]
          refine takeP (i := 8) (v := ?_) rfl (by kernel_rfl) (fun _ _ _ h => h) (by rfl) ?_ (by assumption) ?_
          case refine_2 => (intro w'; go_simp; first | done | with_reducible rfl)
          try simp only [Act.put, List.setIfInBounds_toArray, List.set_cons_zero, List.set_cons_succ]
          refine takeP (i := 9) (v := ?_) rfl (by kernel_rfl) (fun _ _ _ h => h) (by rfl) ?_ (by assumption) ?_
          case refine_2 => (intro w'; go_simp; first | done | with_reducible rfl)
          try simp only [Act.put, List.setIfInBounds_toArray, List.set_cons_zero, List.set_cons_succ]
          refine takeP (i := 10) (v := ?_) rfl (by kernel_rfl) (fun _ _ _ h => h) (by rfl) ?_ (by assumption) ?_
          case refine_2 => (intro w'; go_simp; first | done | with_reducible rfl)
          try simp only [Act.put, List.setIfInBounds_toArray, List.set_cons_zero, List.set_cons_succ]
          refine readyG (rs := [11]) (by kernel_rfl) (by simp) ?_
          refine AllG.last rfl (by kernel_rfl) (fun K hK => ?_) AllG.nil
          go_simp
          refine hK.out _ _ ?_
          clear hK K
          try simp only [Act.put, List.setIfInBounds_toArray, List.set_cons_zero, List.set_cons_succ]
          refine doneG (by kernel_rfl) ?_ _
          refine NoPanic.normal ?_
          have hS9 := HS9.out
          rw [iv_set, Hset.out] at hS9
          go_wp2_with fail
          go_roundw
          case rel => exact ⟨y + 1, _, by omega, by go_num, Hst2.out, hS9⟩
          case measure => simp [intOf]; omega
        · obtain rfl : y = n := by omega
          go_wp2_with fail
          go_roundw
          case rel => exact ⟨k + 1, S, by omega, by go_num, hI.out, hS⟩
          case measure => simp [intOf]; omega
    · rw [List.append_nil] at hS
      go_wp2_with fail
      go_ret
      exact ⟨o, uo, S, rfl, hI.out, Hl.out, hS⟩
set_option maxHeartbeats 8000000 in
set_option maxRecDepth 100000 in
theorem sIsotope_c (v vr vc vs : Value) (us : List Value) (A : List (List Int)) (r c s : List Int) (w : World) (n : Nat) (hv : RII w v us A) (hr : RdI w vr r) (hc : RdI w vc c) (hs : RdI w vs s)
    (h : Sq0 n A) (pr : IsP r) (pc : IsP c) (ps : IsP s) (lr : r.length = n) (lc : c.length = n) (ls : s.length = n) (hn : n ≤ 100) :
    Calls Try.prog 137 #[v, vr, vc, vs] w (MakesQ w n) := by
  have hln := hv.len
  rw [h.len] at hln
  have hix := hv.ixe
  rw [h.len] at hix
  have hrx := hr.ixe
  have hcx := hc.ixe
  have hsx := hs.ixe
  rw [lr] at hrx
  rw [lc] at hcx
  rw [ls] at hsx
  have HE := fun W => Lib.hid (l06Zero_c n W (by omega))
  have H := Lib.hid (And.intro h (And.intro pr (And.intro pc (And.intro ps (And.intro lr (And.intro lc ls))))))
  have Hv := Lib.hid hv
  have Hr := Lib.hid hr
  have Hc := Lib.hid hc
  have Hs := Lib.hid hs
  clear h pr pc ps lr lc ls
  go_enter Try.func137, Try.ntmps137
  go_wp2_with fail
  refine (HE _).out.mono ?_
  rintro e w2 ⟨o, uo, rfl, hl, hS2⟩
  rw [sqF_len] at hl
  have Hl := Lib.hid hl
  have hS3 : St w.heap.size w w2 (own2 o uo (sqF n fun _ _ => 0) ++ []) := by rw [List.append_nil]; exact hS2
  clear hS2 hl hv hr hc hs
  go_wp2_with fail
  go_loopw [11, 12] (fun i _ wr => ∃ (k : Nat) (S : List (List Int)), k ≤ n ∧ i = .int .i64 k ∧ Hid (Sq0 n S) ∧ St w.heap.size w wr (own2 o uo S ++ [])) (fun i _ _ => n - (intOf i).toNat)
  case atStart => exact ⟨0, _, by omega, rfl, zero_sq0 n, hS3⟩
  case round =>
    clear hS3
    obtain ⟨k, S, hk, rfl, hI, hS⟩ := hrel
    by_cases hlt : k < n
    · go_wp2_with fail
      go_loopw [12] (fun j wr' => ∃ (y : Nat) (S : List (List Int)), y ≤ n ∧ j = .int .i64 y ∧ Hid (Sq0 n S) ∧ St w.heap.size w wr' (own2 o uo S ++ [])) (fun j _ => n - (intOf j).toNat)
      case atStart => exact ⟨0, S, by omega, rfl, hI.out, hS⟩
      case round =>
        clear hI hS
        obtain ⟨y, S, hy, rfl, hI, hS⟩ := hrel
        by_cases hly : y < n
        · obtain ⟨h0, hpr, hpc, hps, lr, lc, ls⟩ := H.out
          obtain ⟨m, hm, hmn⟩ : ∃ m : Nat, at2 A k y = m ∧ m < n := by
            have := h0.el k y hlt hly
            exact ⟨(at2 A k y).toNat, by omega, by omega⟩
          have ck := (hS.oldII Hv.out).cell k (by rw [h0.len]; exact hlt)
          have hrow := Hv.out.row k (by rw [h0.len]; exact hlt)
          have hri2 := hrow.ixe (y : Int) y rfl (by rw [h0.row k hlt]; exact hly)
          have cy : wr.cell? (el (vat us k) y) = some (.int .i64 (m : Int)) := by
            rw [← hm]; exact (hS.oldI hrow).cell y (by rw [h0.row k hlt]; exact hly)
          obtain ⟨a, ha⟩ : ∃ a, a = pf r k := ⟨_, rfl⟩
          obtain ⟨b, hb⟩ : ∃ b, b = pf c y := ⟨_, rfl⟩
          obtain ⟨q, hq⟩ : ∃ q, q = pf s m := ⟨_, rfl⟩
          have han : a < n := by rw [ha, ← lr]; exact hpr.pf_lt (by omega)
          have hbn : b < n := by rw [hb, ← lc]; exact hpc.pf_lt (by omega)
          have hqn : q < n := by rw [hq, ← ls]; exact hps.pf_lt (by omega)
          have c1 := (hS.oldI Hr.out).cell k (by omega)
          rw [nth_pf hpr (by omega), ← ha] at c1
          have c2 := (hS.oldI Hc.out).cell y (by omega)
          rw [nth_pf hpc (by omega), ← hb] at c2
          have c3 := (hS.oldI Hs.out).cell m (by omega)
          rw [nth_pf hps (by omega), ← hq] at c3
          have x0 := hix (k : Int) k rfl hlt
          have x1 := hrx (k : Int) k rfl hlt
          have x2 := hcx (y : Int) y rfl hly
          have x3 := hsx (m : Int) m rfl hmn
          have hsl : S.length = n := hI.out.len
          have hsa : (xat S a).length = n := hI.out.row a han
          have hlS : uo.length = S.length := by rw [Hl.out, hsl]
          have hR := rii2 hS hlS
          have hat := hS.at_row hlS (j := a) (by rw [hsl]; exact han)
          have z0 := hR.cell a (by rw [hsl]; exact han)
          have xo := hR.ixe (a : Int) a rfl (by rw [hsl]; exact han)
          have xb := (hS.rdI (a + 1) hat).ixe (b : Int) b rfl (by rw [hsa]; exact hbn)
          have u1 := hS.unfrozen (a + 1) hat (j := b) (by rw [iv_len, hsa]; exact hbn)
          have co1 := (hS.rdI (a + 1) hat).cell b (by rw [hsa]; exact hbn)
          have HS9 := Lib.hid (hS.drew.store (a + 1) hat (j := b) (by rw [iv_len, hsa]; exact hbn) (.int .i64 (q : Int)))
          have Hst2 := Lib.hid (putS_sq0 hI.out han hbn (v := (q : Int)) (by omega) (by omega))
          have Hset := Lib.hid (own2_set (v := o) (L2 := []) hlS (j := a) (by rw [hsl]; exact han) ((xat S a).set b (q : Int)))
          clear hI hR hat hlS hsl hsa ha hb hm han hbn hS hq hqn hrow h0 hpr hpc hps lr lc ls
          go_wp2_with fail
          refine regionG (fun w' => w'.cell? (el vr k) = some (.int .i64 (a : Int)) ∧ w'.cell? (el o a) = some (vat uo a) ∧ w'.cell? (el vc y) = some (.int .i64 (b : Int)) ∧ w'.cell? (el v k) = some (vat us k) ∧ w'.cell? (el (vat us k) y) = some (.int .i64 (m : Int)) ∧ w'.cell? (el vs m) = some (.int .i64 (q : Int))) 22 (by kernel_rfl) ⟨cell_dr c1, cell_dr z0, cell_dr c2, cell_dr ck, cell_dr cy, cell_dr c3⟩ (fun hHeld => ?_)
          refine takeP (i := 0) (v := ?_) rfl (by kernel_rfl) (fun _ _ _ h => h) (by rfl) ?_ (by assumption) ?_
          case refine_2 => (intro w'; go_simp; first | done | with_reducible rfl)
          try simp only [Act.put, List.setIfInBounds_toArray, List.set_cons_zero, List.set_cons_succ]
          refine takeP (i := 1) (v := ?_) rfl (by kernel_rfl) (fun _ _ _ h => h) (by rfl) ?_ (by assumption) ?_
          case refine_2 => (intro w'; go_simp; first | done | with_reducible rfl)
          try simp only [Act.put, List.setIfInBounds_toArray, List.set_cons_zero, List.set_cons_succ]
          refine takeP (i := 2) (v := ?_) rfl (by kernel_rfl) (fun _ _ _ h => h) (by rfl) ?_ (by assumption) ?_
          case refine_2 => (intro w'; go_simp; first | done | with_reducible rfl)
          try simp only [Act.put, List.setIfInBounds_toArray, List.set_cons_zero, List.set_cons_succ]
          refine takeP (i := 3) (v := ?_) rfl (by kernel_rfl) (fun _ _ _ h => h) (by rfl) ?_ (by assumption) ?_
          case refine_2 => (intro w'; go_simp; first | done | with_reducible rfl)
          try simp only [Act.put, List.setIfInBounds_toArray, List.set_cons_zero, List.set_cons_succ]
          refine takeH (i := 4) [5, 6, 21] (v := ?_) rfl (by kernel_rfl) (fun _ _ _ h => h) (by rfl) ?_ (by assumption) ?_
          case refine_2 => (intro w' hSw; (try dsimp only at hSw); go_simp; first | done | with_reducible rfl)
          try simp only [Act.put, List.setIfInBounds_toArray, List.set_cons_zero, List.set_cons_succ]
          refine takeP (i := 5) (v := ?_) rfl (by kernel_rfl) (fun _ _ _ h => h) (by rfl) ?_ (by assumption) ?_
          case refine_2 => (intro w'; go_simp; first | done | with_reducible rfl)
          try simp only [Act.put, List.setIfInBounds_toArray, List.set_cons_zero, List.set_cons_succ]
          refine takeH (i := 6) [21] (v := ?_) rfl (by kernel_rfl) (fun _ _ _ h => h) (by rfl) ?_ (by assumption) ?_
          case refine_2 => (intro w' hSw; (try dsimp only at hSw); go_simp; first | done | with_reducible rfl)
          try simp only [Act.put, List.setIfInBounds_toArray, List.set_cons_zero, List.set_cons_succ]
          refine takeP (i := 7) (v := ?_) rfl (by kernel_rfl) (fun _ _ _ h => h) (by rfl) ?_ (by assumption) ?_
          case refine_2 => (intro w'; go_simp; first | done | with_reducible rfl)
          try simp only [Act.put, List.setIfInBounds_toArray, List.set_cons_zero, List.set_cons_succ]
          refine takeP (i := 8) (v := ?_) rfl (by kernel_rfl) (fun _ _ _ h => h) (by rfl) ?_ (by assumption) ?_
          case refine_2 => (intro w'; go_simp; first | done | with_reducible rfl)
          try simp only [Act.put, List.setIfInBounds_toArray, List.set_cons_zero, List.set_cons_succ]
          refine takeP (i := 9) (v := ?_) rfl (by kernel_rfl) (fun _ _ _ h => h) (by rfl) ?_ (by assumption) ?_
          case refine_2 => (intro w'; go_simp; first | done | with_reducible rfl)
          try simp only [Act.put, List.setIfInBounds_toArray, List.set_cons_zero, List.set_cons_succ]
          refine takeH (i := 10) [21] (v := ?_) rfl (by kernel_rfl) (fun _ _ _ h => h) (by rfl) ?_ (by assumption) ?_
          case refine_2 => (intro w' hSw; (try dsimp only at hSw); go_simp; first | done | with_reducible rfl)
          try simp only [Act.put, List.setIfInBounds_toArray, List.set_cons_zero, List.set_cons_succ]
          refine takeP (i := 11) (v := ?_) rfl (by kernel_rfl) (fun _ _ _ h => h) (by rfl) ?_ (by assumption) ?_
          case refine_2 => (intro w'; go_simp; first | done | with_reducible rfl)
          try simp only [Act.put, List.setIfInBounds_toArray, List.set_cons_zero, List.set_cons_succ]
          refine takeP (i := 12) (v := ?_) rfl (by kernel_rfl) (fun _ _ _ h => h) (by rfl) ?_ (by assumption) ?_
          case refine_2 => (intro w'; go_simp; first | done | with_reducible rfl)
          try simp only [Act.put, List.setIfInBounds_toArray, List.set_cons_zero, List.set_cons_succ]
          refine takeP (i := 13) (v := ?_) rfl (by kernel_rfl) (fun _ _ _ h => h) (by rfl) ?_ (by assumption) ?_
          case refine_2 => (intro w'; go_simp; first | done | with_reducible rfl)
          try simp only [Act.put, List.setIfInBounds_toArray, List.set_cons_zero, List.set_cons_succ]
          refine takeP (i := 14) (v := ?_) rfl (by kernel_rfl) (fun _ _ _ h => h) (by rfl) ?_ (by assumption) ?_
          case refine_2 => (intro w'; go_simp; first | done | with_reducible rfl)
          try simp only [Act.put, List.setIfInBounds_toArray, List.set_cons_zero, List.set_cons_succ]
          refine takeH (i := 15) [17, 18, 19, 20] (v := ?_) rfl (by kernel_rfl) (fun _ _ _ h => h) (by rfl) ?_ (by assumption) ?_
          case refine_2 => (intro w' hSw; (try dsimp only at hSw); go_simp; first | done | with_reducible rfl)
          try simp only [Act.put, List.setIfInBounds_toArray, List.set_cons_zero, List.set_cons_succ]
          refine takeP (i := 16) (v := ?_) rfl (by kernel_rfl) (fun _ _ _ h => h) (by rfl) ?_ (by assumption) ?_
          case refine_2 => (intro w'; go_simp; first | done | with_reducible rfl)
          try simp only [Act.put, List.setIfInBounds_toArray, List.set_cons_zero, List.set_cons_succ]
          refine takeP (i := 17) (v := ?_) rfl (by kernel_rfl) (fun _ _ _ h => h) (by rfl) ?_ (by assumption) ?_
          case refine_2 => (intro w'; go_simp; first | done | with_reducible rfl)
          try simp only [Act.put, List.setIfInBounds_toArray, List.set_cons_zero, List.set_cons_succ]
          refine takeH (i := 18) [19, 20] (v := ?_) rfl (by kernel_rfl) (fun _ _ _ h => h) (by rfl) ?_ (by assumption) ?_
          case refine_2 => (intro w' hSw; (try dsimp only at hSw); go_simp; first | done | with_reducible rfl)
          try simp only [Act.put, List.setIfInBounds_toArray, List.set_cons_zero, List.set_cons_succ]
          refine takeP (i := 19) (v := ?_) rfl (by kernel_rfl) (fun _ _ _ h => h) (by rfl) ?_ (by assumption) ?_
          case refine_2 => (intro w'; go_simp; first | done | with_reducible rfl)
          try simp only [Act.put, List.setIfInBounds_toArray, List.set_cons_zero, List.set_cons_succ]
          refine takeH (i := 20) [] (v := ?_) rfl (by kernel_rfl) (fun _ _ _ h => h) (by rfl) ?_ (by assumption) ?_
          case refine_2 => (intro w' hSw; (try dsimp only at hSw); go_simp; first | done | with_reducible rfl)
          try simp only [Act.put, List.setIfInBounds_toArray, List.set_cons_zero, List.set_cons_succ]
          refine takeP (i := 21) (v := ?_) rfl (by kernel_rfl) (fun _ _ _ h => h) (by rfl) ?_ (by assumption) ?_
          case refine_2 => (intro w'; go_simp; first | done | with_reducible rfl)
          try simp only [Act.put, List.setIfInBounds_toArray, List.set_cons_zero, List.set_cons_succ]
          refine readyG (rs := [22]) (by kernel_rfl) (by simp) ?_
          refine AllG.last rfl (by kernel_rfl) (fun K hK => ?_) AllG.nil
          go_simp
          refine hK.out _ _ ?_
          clear hK K
          try simp only [Act.put, List.setIfInBounds_toArray, List.set_cons_zero, List.set_cons_succ]
          refine doneG (by kernel_rfl) ?_ _
          refine NoPanic.normal ?_
          have hS9 := HS9.out
          rw [iv_set, Hset.out] at hS9
          go_wp2_with fail
          go_roundw
          case rel => exact ⟨y + 1, _, by omega, by go_num, Hst2.out, hS9⟩
          case measure => simp [intOf]; omega
        · obtain rfl : y = n := by omega
          go_wp2_with fail
          go_roundw
          case rel => exact ⟨k + 1, S, by omega, by go_num, hI.out, hS⟩
          case measure => simp [intOf]; omega
    · rw [List.append_nil] at hS
      go_wp2_with fail
      go_ret
      exact ⟨o, uo, S, rfl, hI.out, Hl.out, hS⟩
/-- the entry of a product -/
theorem prod_lt {n m x y a b : Nat} (ha : a < n) (hb : b < m) : m * a + b < n * m := by
  have h1 : m * a + m ≤ m * n := by rw [← Nat.mul_succ]; exact Nat.mul_le_mul_left _ (by omega)
  rw [Nat.mul_comm n m]; omega
set_option maxHeartbeats 8000000 in
set_option maxRecDepth 100000 in
theorem l06Product_c (v v' : Value) (us us' : List Value) (A B : List (List Int)) (w : World) (n m : Nat) (hv : RII w v us A) (hv' : RII w v' us' B) (hA : Sq0 n A) (hB : Sq0 m B) (hn : n ≤ 16) (hm : m ≤ 16) :
    Calls Try.prog 135 #[v, v'] w (MakesQ w (n * m)) := by
  have hln := hv.len
  rw [hA.len] at hln
  have hlm := hv'.len
  rw [hB.len] at hlm
  have hix := hv.ixe
  rw [hA.len] at hix
  have hix' := hv'.ixe
  rw [hB.len] at hix'
  obtain ⟨N, hN⟩ : ∃ N, N = n * m := ⟨_, rfl⟩
  have hNle : N ≤ 256 := by rw [hN]; exact Nat.mul_le_mul hn hm
  have hmul : (n : Int) * (m : Int) = (N : Int) := by rw [hN]; rfl
  have HE := fun W => Lib.hid (l06Zero_c N W (by omega))
  have H := Lib.hid (And.intro hA hB)
  have Hv := Lib.hid hv
  have Hv' := Lib.hid hv'
  have HN := Lib.hid hN
  rw [← hN]
  clear hA hB hN
  go_enter Try.func135, Try.ntmps135
  go_wp2_with fail
  refine (HE _).out.mono ?_
  rintro e w2 ⟨o, uo, rfl, hl, hS2⟩
  rw [sqF_len] at hl
  have Hl := Lib.hid hl
  have hS3 : St w.heap.size w w2 (own2 o uo (sqF N fun _ _ => 0) ++ []) := by rw [List.append_nil]; exact hS2
  clear hS2 hl hv hv'
  go_wp2_with fail
  go_loopw [8, 9] (fun i _ wr => ∃ (k : Nat) (S : List (List Int)), k ≤ N ∧ i = .int .i64 k ∧ Hid (Sq0 N S) ∧ St w.heap.size w wr (own2 o uo S ++ [])) (fun i _ _ => N - (intOf i).toNat)
  case atStart => exact ⟨0, _, by omega, rfl, zero_sq0 N, hS3⟩
  case round =>
    clear hS3
    obtain ⟨k, S, hk, rfl, hI, hS⟩ := hrel
    by_cases hlt : k < N
    · go_wp2_with fail
      go_loopw [9] (fun j wr' => ∃ (y : Nat) (S : List (List Int)), y ≤ N ∧ j = .int .i64 y ∧ Hid (Sq0 N S) ∧ St w.heap.size w wr' (own2 o uo S ++ [])) (fun j _ => N - (intOf j).toNat)
      case atStart => exact ⟨0, S, by omega, rfl, hI.out, hS⟩
      case round =>
        clear hI hS
        obtain ⟨y, S, hy, rfl, hI, hS⟩ := hrel
        by_cases hly : y < N
        · obtain ⟨hA, hB⟩ := H.out
          have m0 : 0 < m := by
            rcases Nat.eq_zero_or_pos m with e | e
            · have := HN.out; rw [e, Nat.mul_zero] at this; omega
            · exact e
          have d1 : k / m < n := Nat.div_lt_of_lt_mul (by rw [Nat.mul_comm, ← HN.out]; exact hlt)
          have d2 : y / m < n := Nat.div_lt_of_lt_mul (by rw [Nat.mul_comm, ← HN.out]; exact hly)
          have e1 : k % m < m := Nat.mod_lt _ m0
          have e2 : y % m < m := Nat.mod_lt _ m0
          have f0 : ((m : Int) == 0) = false := eq_f (by omega)
          have f1 : ¬ (m : Int) = 0 := by omega
          have f2 : ¬ m = 0 := by omega
          have q1 : (k : Int).tdiv m = ((k / m : Nat) : Int) := by rw [Int.tdiv_eq_ediv_of_nonneg (by omega)]; rfl
          have q2 : (y : Int).tdiv m = ((y / m : Nat) : Int) := by rw [Int.tdiv_eq_ediv_of_nonneg (by omega)]; rfl
          have q3 : (k : Int).tmod m = ((k % m : Nat) : Int) := by rw [Int.tmod_eq_emod_of_nonneg (by omega)]; rfl
          have q4 : (y : Int).tmod m = ((y % m : Nat) : Int) := by rw [Int.tmod_eq_emod_of_nonneg (by omega)]; rfl
          have kN : k / m ≤ k := Nat.div_le_self _ _
          have yN : y / m ≤ y := Nat.div_le_self _ _
          obtain ⟨k1, hk1⟩ : ∃ k1, k1 = k / m := ⟨_, rfl⟩
          obtain ⟨y1, hy1⟩ : ∃ y1, y1 = y / m := ⟨_, rfl⟩
          obtain ⟨k2, hk2⟩ : ∃ k2, k2 = k % m := ⟨_, rfl⟩
          obtain ⟨y2, hy2⟩ : ∃ y2, y2 = y % m := ⟨_, rfl⟩
          rw [← hk1] at d1 q1 kN
          rw [← hy1] at d2 q2 yN
          rw [← hk2] at e1 q3
          rw [← hy2] at e2 q4
          clear hk1 hy1 hk2 hy2
          have q5 : IntKind.i64.wrap (k1 : Int) = (k1 : Int) := IntWalk.i64_in _ (by omega)
          have q6 : IntKind.i64.wrap (y1 : Int) = (y1 : Int) := IntWalk.i64_in _ (by omega)
          obtain ⟨a, ha, han⟩ : ∃ a : Nat, at2 A k1 y1 = a ∧ a < n := by
            have := hA.el k1 y1 d1 d2
            exact ⟨(at2 A k1 y1).toNat, by omega, by omega⟩
          obtain ⟨b, hb, hbn⟩ : ∃ b : Nat, at2 B k2 y2 = b ∧ b < m := by
            have := hB.el k2 y2 e1 e2
            exact ⟨(at2 B k2 y2).toNat, by omega, by omega⟩
          have hpl : m * a + b < N := by rw [HN.out]; exact prod_lt (x := 0) (y := 0) han hbn
          obtain ⟨P, hP⟩ : ∃ P, P = m * a := ⟨_, rfl⟩
          rw [← hP] at hpl
          have q7 : (m : Int) * (a : Int) = (P : Int) := by rw [hP]; rfl
          have q8 : IntKind.i64.wrap (P : Int) = (P : Int) := IntWalk.i64_in _ (by omega)
          obtain ⟨z, hz⟩ : ∃ z, z = P + b := ⟨_, rfl⟩
          have q9 : IntKind.i64.wrap ((P : Int) + (b : Int)) = (z : Int) := by rw [IntWalk.i64_in _ (by omega), hz]; rfl
          have hzN : z < N := by omega
          have hR1 := hS.oldII Hv.out
          have hR2 := hS.oldII Hv'.out
          have ck := hR1.cell k1 (by rw [hA.len]; exact d1)
          have cy : wr.cell? (el (vat us k1) y1) = some (.int .i64 (a : Int)) := by
            rw [← ha]; exact (hR1.row k1 (by rw [hA.len]; exact d1)).cell y1 (by rw [hA.row k1 d1]; exact d2)
          have ck' := hR2.cell k2 (by rw [hB.len]; exact e1)
          have cy' : wr.cell? (el (vat us' k2) y2) = some (.int .i64 (b : Int)) := by
            rw [← hb]; exact (hR2.row k2 (by rw [hB.len]; exact e1)).cell y2 (by rw [hB.row k2 e1]; exact e2)
          have x0 := hix (k1 : Int) k1 rfl d1
          have x1 := hix' (k2 : Int) k2 rfl e1
          have x2 := (hR1.row k1 (by rw [hA.len]; exact d1)).ixe (y1 : Int) y1 rfl (by rw [hA.row k1 d1]; exact d2)
          have x3 := (hR2.row k2 (by rw [hB.len]; exact e1)).ixe (y2 : Int) y2 rfl (by rw [hB.row k2 e1]; exact e2)
          have hsl : S.length = N := hI.out.len
          have hsa : (xat S k).length = N := hI.out.row k hlt
          have hlS : uo.length = S.length := by rw [Hl.out, hsl]
          have hR := rii2 hS hlS
          have hat := hS.at_row hlS (j := k) (by rw [hsl]; exact hlt)
          have z0 := hR.cell k (by rw [hsl]; exact hlt)
          have xo := hR.ixe (k : Int) k rfl (by rw [hsl]; exact hlt)
          have xb := (hS.rdI (k + 1) hat).ixe (y : Int) y rfl (by rw [hsa]; exact hly)
          have u1 := hS.unfrozen (k + 1) hat (j := y) (by rw [iv_len, hsa]; exact hly)
          have co1 := (hS.rdI (k + 1) hat).cell y (by rw [hsa]; exact hly)
          have HS9 := Lib.hid (hS.drew.store (k + 1) hat (j := y) (by rw [iv_len, hsa]; exact hly) (.int .i64 (z : Int)))
          have Hst2 := Lib.hid (putS_sq0 hI.out hlt hly (v := (z : Int)) (by omega) (by omega))
          have Hset := Lib.hid (own2_set (v := o) (L2 := []) hlS (j := k) (by rw [hsl]; exact hlt) ((xat S k).set y (z : Int)))
          clear hI hR hR1 hR2 hat hlS hsl hsa hS hz hP hA hB ha hb kN yN d1 d2 e1 e2 hpl han hbn
          go_wp2_with fail
          refine regionG (fun w' => w'.cell? (el o k) = some (vat uo k) ∧ w'.cell? (el v k1) = some (vat us k1) ∧ w'.cell? (el (vat us k1) y1) = some (.int .i64 (a : Int)) ∧ w'.cell? (el v' k2) = some (vat us' k2) ∧ w'.cell? (el (vat us' k2) y2) = some (.int .i64 (b : Int))) 31 (by kernel_rfl) ⟨cell_dr z0, cell_dr ck, cell_dr cy, cell_dr ck', cell_dr cy'⟩ (fun hHeld => ?_)
          refine takeP (i := 0) (v := ?_) rfl (by kernel_rfl) (fun _ _ _ h => h) (by rfl) ?_ (by assumption) ?_
          case refine_2 => (intro w'; go_simp; first | done | with_reducible rfl)
          try simp only [Act.put, List.setIfInBounds_toArray, List.set_cons_zero, List.set_cons_succ]
          refine takeP (i := 1) (v := ?_) rfl (by kernel_rfl) (fun _ _ _ h => h) (by rfl) ?_ (by assumption) ?_
          case refine_2 => (intro w'; go_simp; first | done | with_reducible rfl)
          try simp only [Act.put, List.setIfInBounds_toArray, List.set_cons_zero, List.set_cons_succ]
          refine takeP (i := 2) (v := ?_) rfl (by kernel_rfl) (fun _ _ _ h => h) (by rfl) ?_ (by assumption) ?_
          case refine_2 => (intro w'; go_simp; first | done | with_reducible rfl)
          try simp only [Act.put, List.setIfInBounds_toArray, List.set_cons_zero, List.set_cons_succ]
          refine takeH (i := 3) [30] (v := ?_) rfl (by kernel_rfl) (fun _ _ _ h => h) (by rfl) ?_ (by assumption) ?_
          case refine_2 => (intro w' hSw; (try dsimp only at hSw); go_simp; first | done | with_reducible rfl)
          try simp only [Act.put, List.setIfInBounds_toArray, List.set_cons_zero, List.set_cons_succ]
          refine takeP (i := 4) (v := ?_) rfl (by kernel_rfl) (fun _ _ _ h => h) (by rfl) ?_ (by assumption) ?_
          case refine_2 => (intro w'; go_simp; first | done | with_reducible rfl)
          try simp only [Act.put, List.setIfInBounds_toArray, List.set_cons_zero, List.set_cons_succ]
          refine takeP (i := 5) (v := ?_) rfl (by kernel_rfl) (fun _ _ _ h => h) (by rfl) ?_ (by assumption) ?_
          case refine_2 => (intro w'; go_simp; first | done | with_reducible rfl)
          try simp only [Act.put, List.setIfInBounds_toArray, List.set_cons_zero, List.set_cons_succ]
          refine takeP (i := 6) (v := ?_) rfl (by kernel_rfl) (fun _ _ _ h => h) (by rfl) ?_ (by assumption) ?_
          case refine_2 => (intro w'; go_simp; first | done | with_reducible rfl)
          try simp only [Act.put, List.setIfInBounds_toArray, List.set_cons_zero, List.set_cons_succ]
          refine takeP (i := 7) (v := ?_) rfl (by kernel_rfl) (fun _ _ _ h => h) (by rfl) ?_ (by assumption) ?_
          case refine_2 => (intro w'; go_simp; first | done | with_reducible rfl)
          try simp only [Act.put, List.setIfInBounds_toArray, List.set_cons_zero, List.set_cons_succ]
          refine takeP (i := 8) (v := ?_) rfl (by kernel_rfl) (fun _ _ _ h => h) (by rfl) ?_ (by assumption) ?_
          case refine_2 => (intro w'; go_simp; first | done | with_reducible rfl)
          try simp only [Act.put, List.setIfInBounds_toArray, List.set_cons_zero, List.set_cons_succ]
          refine takeP (i := 9) (v := ?_) rfl (by kernel_rfl) (fun _ _ _ h => h) (by rfl) ?_ (by assumption) ?_
          case refine_2 => (intro w'; go_simp; first | done | with_reducible rfl)
          try simp only [Act.put, List.setIfInBounds_toArray, List.set_cons_zero, List.set_cons_succ]
          refine takeP (i := 10) (v := ?_) rfl (by kernel_rfl) (fun _ _ _ h => h) (by rfl) ?_ (by assumption) ?_
          case refine_2 => (intro w'; go_simp; first | done | with_reducible rfl)
          try simp only [Act.put, List.setIfInBounds_toArray, List.set_cons_zero, List.set_cons_succ]
          refine takeH (i := 11) [15, 16, 17, 29] (v := ?_) rfl (by kernel_rfl) (fun _ _ _ h => h) (by rfl) ?_ (by assumption) ?_
          case refine_2 => (intro w' hSw; (try dsimp only at hSw); go_simp; first | done | with_reducible rfl)
          try simp only [Act.put, List.setIfInBounds_toArray, List.set_cons_zero, List.set_cons_succ]
          refine takeP (i := 12) (v := ?_) rfl (by kernel_rfl) (fun _ _ _ h => h) (by rfl) ?_ (by assumption) ?_
          case refine_2 => (intro w'; go_simp; first | done | with_reducible rfl)
          try simp only [Act.put, List.setIfInBounds_toArray, List.set_cons_zero, List.set_cons_succ]
          refine takeP (i := 13) (v := ?_) rfl (by kernel_rfl) (fun _ _ _ h => h) (by rfl) ?_ (by assumption) ?_
          case refine_2 => (intro w'; go_simp; first | done | with_reducible rfl)
          try simp only [Act.put, List.setIfInBounds_toArray, List.set_cons_zero, List.set_cons_succ]
          refine takeP (i := 14) (v := ?_) rfl (by kernel_rfl) (fun _ _ _ h => h) (by rfl) ?_ (by assumption) ?_
          case refine_2 => (intro w'; go_simp; first | done | with_reducible rfl)
          try simp only [Act.put, List.setIfInBounds_toArray, List.set_cons_zero, List.set_cons_succ]
          refine takeP (i := 15) (v := ?_) rfl (by kernel_rfl) (fun _ _ _ h => h) (by rfl) ?_ (by assumption) ?_
          case refine_2 => (intro w'; go_simp; first | done | with_reducible rfl)
          try simp only [Act.put, List.setIfInBounds_toArray, List.set_cons_zero, List.set_cons_succ]
          refine takeH (i := 16) [17, 29] (v := ?_) rfl (by kernel_rfl) (fun _ _ _ h => h) (by rfl) ?_ (by assumption) ?_
          case refine_2 => (intro w' hSw; (try dsimp only at hSw); go_simp; first | done | with_reducible rfl)
          try simp only [Act.put, List.setIfInBounds_toArray, List.set_cons_zero, List.set_cons_succ]
          refine takeP (i := 17) (v := ?_) rfl (by kernel_rfl) (fun _ _ _ h => h) (by rfl) ?_ (by assumption) ?_
          case refine_2 => (intro w'; go_simp; first | done | with_reducible rfl)
          try simp only [Act.put, List.setIfInBounds_toArray, List.set_cons_zero, List.set_cons_succ]
          refine takeP (i := 18) (v := ?_) rfl (by kernel_rfl) (fun _ _ _ h => h) (by rfl) ?_ (by assumption) ?_
          case refine_2 => (intro w'; go_simp; first | done | with_reducible rfl)
          try simp only [Act.put, List.setIfInBounds_toArray, List.set_cons_zero, List.set_cons_succ]
          refine takeP (i := 19) (v := ?_) rfl (by kernel_rfl) (fun _ _ _ h => h) (by rfl) ?_ (by assumption) ?_
          case refine_2 => (intro w'; go_simp; first | done | with_reducible rfl)
          try simp only [Act.put, List.setIfInBounds_toArray, List.set_cons_zero, List.set_cons_succ]
          refine takeP (i := 20) (v := ?_) rfl (by kernel_rfl) (fun _ _ _ h => h) (by rfl) ?_ (by assumption) ?_
          case refine_2 => (intro w'; go_simp; first | done | with_reducible rfl)
          try simp only [Act.put, List.setIfInBounds_toArray, List.set_cons_zero, List.set_cons_succ]
          refine takeP (i := 21) (v := ?_) rfl (by kernel_rfl) (fun _ _ _ h => h) (by rfl) ?_ (by assumption) ?_
          case refine_2 => (intro w'; go_simp; first | done | with_reducible rfl)
          try simp only [Act.put, List.setIfInBounds_toArray, List.set_cons_zero, List.set_cons_succ]
          refine takeP (i := 22) (v := ?_) rfl (by kernel_rfl) (fun _ _ _ h => h) (by rfl) ?_ (by assumption) ?_
          case refine_2 => (intro w'; go_simp; first | done | with_reducible rfl)
          try simp only [Act.put, List.setIfInBounds_toArray, List.set_cons_zero, List.set_cons_succ]
          refine takeH (i := 23) [27, 28, 29] (v := ?_) rfl (by kernel_rfl) (fun _ _ _ h => h) (by rfl) ?_ (by assumption) ?_
          case refine_2 => (intro w' hSw; (try dsimp only at hSw); go_simp; first | done | with_reducible rfl)
          try simp only [Act.put, List.setIfInBounds_toArray, List.set_cons_zero, List.set_cons_succ]
          refine takeP (i := 24) (v := ?_) rfl (by kernel_rfl) (fun _ _ _ h => h) (by rfl) ?_ (by assumption) ?_
          case refine_2 => (intro w'; go_simp; first | done | with_reducible rfl)
          try simp only [Act.put, List.setIfInBounds_toArray, List.set_cons_zero, List.set_cons_succ]
          refine takeP (i := 25) (v := ?_) rfl (by kernel_rfl) (fun _ _ _ h => h) (by rfl) ?_ (by assumption) ?_
          case refine_2 => (intro w'; go_simp; first | done | with_reducible rfl)
          try simp only [Act.put, List.setIfInBounds_toArray, List.set_cons_zero, List.set_cons_succ]
          refine takeP (i := 26) (v := ?_) rfl (by kernel_rfl) (fun _ _ _ h => h) (by rfl) ?_ (by assumption) ?_
          case refine_2 => (intro w'; go_simp; first | done | with_reducible rfl)
          try simp only [Act.put, List.setIfInBounds_toArray, List.set_cons_zero, List.set_cons_succ]
          refine takeP (i := 27) (v := ?_) rfl (by kernel_rfl) (fun _ _ _ h => h) (by rfl) ?_ (by assumption) ?_
          case refine_2 => (intro w'; go_simp; first | done | with_reducible rfl)
          try simp only [Act.put, List.setIfInBounds_toArray, List.set_cons_zero, List.set_cons_succ]
          refine takeH (i := 28) [29] (v := ?_) rfl (by kernel_rfl) (fun _ _ _ h => h) (by rfl) ?_ (by assumption) ?_
          case refine_2 => (intro w' hSw; (try dsimp only at hSw); go_simp; first | done | with_reducible rfl)
          try simp only [Act.put, List.setIfInBounds_toArray, List.set_cons_zero, List.set_cons_succ]
          refine takeP (i := 29) (v := ?_) rfl (by kernel_rfl) (fun _ _ _ h => h) (by rfl) ?_ (by assumption) ?_
          case refine_2 => (intro w'; go_simp; first | done | with_reducible rfl)
          try simp only [Act.put, List.setIfInBounds_toArray, List.set_cons_zero, List.set_cons_succ]
          refine takeP (i := 30) (v := ?_) rfl (by kernel_rfl) (fun _ _ _ h => h) (by rfl) ?_ (by assumption) ?_
          case refine_2 => (intro w'; go_simp; first | done | with_reducible rfl)
          try simp only [Act.put, List.setIfInBounds_toArray, List.set_cons_zero, List.set_cons_succ]
          refine readyG (rs := [31]) (by kernel_rfl) (by simp) ?_
          refine AllG.last rfl (by kernel_rfl) (fun K hK => ?_) AllG.nil
          go_simp
          refine hK.out _ _ ?_
          clear hK K
          try simp only [Act.put, List.setIfInBounds_toArray, List.set_cons_zero, List.set_cons_succ]
          refine doneG (by kernel_rfl) ?_ _
          refine NoPanic.normal ?_
          have hS9 := HS9.out
          rw [iv_set, Hset.out] at hS9
          go_wp2_with fail
          go_roundw
          case rel => exact ⟨y + 1, _, by omega, by go_num, Hst2.out, hS9⟩
          case measure => simp [intOf]; omega
        · obtain rfl : y = N := by omega
          go_wp2_with fail
          go_roundw
          case rel => exact ⟨k + 1, S, by omega, by go_num, hI.out, hS⟩
          case measure => simp [intOf]; omega
    · rw [List.append_nil] at hS
      go_wp2_with fail
      go_ret
      exact ⟨o, uo, S, rfl, hI.out, Hl.out, hS⟩
end Go.Proofs.Ytpfgbbbjldpnnaa
