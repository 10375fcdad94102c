/- Walks: CyclesOf, SignOf and OrderOfPermutation of any list, powers, permutations made of cycles, types. -/
import Derived.Test.YtcenabaklokhhaaPPm2
import Derived.Test.YtcenabaklokhhaaPm5
import Derived.Test.YtcenabaklokhhaaNum2
namespace Go.Proofs.Ytcenabaklokhhaa
set_option linter.unusedSimpArgs false
set_option linter.unusedVariables false
open Go.RowKit
attribute [local go_sem ↓] Go.wp_at_zero Go.wp_at_succ

theorem sz_c (v : Value) (xs : List Int) (w : World) (hv : RdI w v xs) : Calls Try.prog 106 #[v] w fun e w' => e = .returned (.int .i64 xs.length) ∧ w = w' := by
  have hln := hv.len
  go_enter Try.func106, Try.ntmps106
  go_wp2_with fail
  go_ret
  exact ⟨rfl, rfl⟩
/-- the cycles, none of a list that is no permutation -/
noncomputable def cyV (xs : List Int) : List (List Int) := if pvB xs then cyM xs xs.length else []
set_option maxHeartbeats 2000000 in
set_option maxRecDepth 100000 in
theorem CyclesOf_c (v : Value) (xs : List Int) (w : World) (hv : RdI w v xs) (hx : xs.length ≤ 1048576) : Calls Try.prog 84 #[v] w (MakesII w (cyV xs)) := by
  have HX := Lib.hid (ValidPermutation_c v xs w hv hx)
  cases hp : pvB xs
  · have HV := Lib.hid (show cyV xs = [] by unfold cyV; rw [hp]; rfl)
    rw [hp] at HX
    clear hp
    go_enter Try.func84, Try.ntmps84
    go_wp2_with fail
    refine HX.out.mono ?_
    rintro e w1 ⟨rfl, hS1⟩
    go_wp2_with fail
    go_ret
    refine ⟨_, [], rfl, by rw [HV.out]; rfl, ?_⟩
    rw [HV.out]
    exact hS1.newnil 23
  · have HV := Lib.hid (show cyV xs = cyM xs xs.length by unfold cyV; rw [hp]; rfl)
    rw [hp] at HX
    have HC := fun W (hv : RdI W v xs) => Lib.hid (cyclesOf_c v xs W hv (pvB_t hp).2 (by have := (pvB_t hp).1; omega))
    clear hp
    go_enter Try.func84, Try.ntmps84
    go_wp2_with fail
    refine HX.out.mono ?_
    rintro e w1 ⟨rfl, hS1⟩
    go_wp2_with fail
    refine (HC _ (hS1.oldI hv)).out.mono ?_
    rintro e w2 ⟨u, us, rfl, hl, h2⟩
    have hS2 := hS1.trans h2
    have Hl := Lib.hid hl
    clear hl h2
    go_wp2_with fail
    go_ret
    exact ⟨_, us, rfl, by rw [HV.out]; exact Hl.out, by rw [HV.out]; exact hS2⟩
theorem SignOf_no (v : Value) (xs : List Int) (w : World) (hv : RdI w v xs) (hx : xs.length ≤ 1048576) (hp : pvB xs = false) : Calls Try.prog 70 #[v] w (GivesI w 0) := by
  have HX := Lib.hid (ValidPermutation_c v xs w hv hx)
  rw [hp] at HX
  clear hp
  go_enter Try.func70, Try.ntmps70
  go_wp2_with fail
  refine HX.out.mono ?_
  rintro e w1 ⟨rfl, hS1⟩
  go_wp2_with fail
  go_ret
  exact ⟨rfl, hS1⟩
theorem take_fl {C : List (List Int)} {t : Nat} (ht : t < C.length) : (C.take (t + 1)).flatten = (C.take t).flatten ++ xat C t := by
  rw [take_xat ht, List.flatten_append]; simp
theorem take_fl_le (C : List (List Int)) (t : Nat) : (C.take t).flatten.length ≤ C.flatten.length := by
  conv => rhs; rw [← List.take_append_drop t C, List.flatten_append, List.length_append]
  omega
/-- what an order is -/
def OrdV (w : World) (xs : List Int) (e : Ending) (w' : World) : Prop := ∃ E : Nat, e = .returned (.int .i64 E) ∧ 1 ≤ E ∧ E ≤ 200000 ∧ AllDv (cyM xs xs.length) E ∧ St w.heap.size w w' []
theorem OrderOf_no (v : Value) (xs : List Int) (w : World) (hv : RdI w v xs) (hx : xs.length ≤ 1048576) (hp : pvB xs = false) : Calls Try.prog 85 #[v] w (GivesI w 0) := by
  have HX := Lib.hid (ValidPermutation_c v xs w hv hx)
  rw [hp] at HX
  clear hp
  go_enter Try.func85, Try.ntmps85
  go_wp2_with fail
  refine HX.out.mono ?_
  rintro e w1 ⟨rfl, hS1⟩
  go_wp2_with fail
  go_ret
  exact ⟨rfl, hS1⟩
theorem gcdI_nat (a b : Nat) : gcdI a b = (Nat.gcd a b : Nat) := by simp [gcdI, Int.gcd]
set_option maxHeartbeats 4000000 in
set_option maxRecDepth 100000 in
theorem OrderOf_c (v : Value) (xs : List Int) (w : World) (hv : RdI w v xs) (hp : pvB xs = true) : Calls Try.prog 85 #[v] w (OrdV w xs) := by
  have hpp := pvB_t hp
  have h32 := hpp.1
  have HX := Lib.hid (ValidPermutation_c v xs w hv (by omega))
  rw [hp] at HX
  have HC := fun W (hv : RdI W v xs) => Lib.hid (cyclesOf_c v xs W hv hpp.2 (by omega))
  have HO := Lib.hid (cyOk hpp.2)
  have HY := fun t (ht : t < (cyM xs xs.length).length) => Lib.hid ((cyOk hpp.2).cyc hpp.2 ht)
  have hcl := cyM_len xs xs.length
  have Hdef := Lib.hid (show ∀ E, AllDv (cyM xs xs.length) E → AllDv (cyM xs xs.length) E from fun _ h => h)
  clear hp hpp
  unfold OrdV
  generalize cyM xs xs.length = C at *
  go_enter Try.func85, Try.ntmps85
  go_wp2_with fail
  refine HX.out.mono ?_
  rintro e w1 ⟨rfl, hS1⟩
  go_wp2_with fail
  refine (HC _ (hS1.oldI hv)).out.mono ?_
  rintro e w2 ⟨u, us, rfl, hl, h2⟩
  have hS2 := hS1.trans h2
  have Hl := Lib.hid hl
  have hln := (h2.rii hl).len
  have hix := (h2.rii hl).ix
  clear hl h2 hS1
  go_wp2_with fail
  go_loopw [3, 5, 12] (fun o _ i wr => ∃ (t E : Nat), t ≤ C.length ∧ i = .int .i64 t ∧ o = .int .i64 E ∧ Hid (1 ≤ E) ∧ Hid (E * E * E ≤ 3 ^ (C.take t).flatten.length) ∧ Hid (∀ s, s < t → E % (xat C s).length = 0) ∧ St w.heap.size w wr (own2 u us C)) (fun _ _ i _ => C.length - (intOf i).toNat)
  case atStart => exact ⟨0, 1, by omega, rfl, rfl, Nat.le_refl _, by unfold Hid; simp, fun s hs => by omega, hS2⟩
  case round =>
    clear hS2
    obtain ⟨t, E, ht, rfl, rfl, hE1, hE3, hEd, hS⟩ := hrel
    have Hsm : Hid (E ≤ 200000) := by
      have h1 := take_fl_le C t
      rw [HO.out.sum] at h1
      exact cube_small (Nat.le_trans hE3.out (Nat.pow_le_pow_right (by omega) (by omega)))
    by_cases hlt : t < C.length
    · have hct := (hS.rii Hl.out).cell t hlt
      have hrw := (hS.rii Hl.out).row t hlt
      have hlc := hrw.len
      have HYt := HY t hlt
      have hstep := lcm_step hE1.out HYt.out.pos hE3.out
      have hlen1 := HYt.out.pos
      have hlen2 := HYt.out.le
      have Hfl := Lib.hid (take_fl hlt)
      have hg1 := gcdI_pos (m := (E : Int)) (n := ((xat C t).length : Int)) (by have := hE1.out; omega)
      have hgn := gcdI_nat E (xat C t).length
      have hEi := hE1.out
      have hEs := Hsm.out
      have Hz := fun W (h : RdI W (vat us t) (xat C t)) => Lib.hid (sz_c (vat us t) (xat C t) W h)
      have HG := fun W => Lib.hid (gcd_c (E : Int) ((xat C t).length : Int) W (by omega) (by omega) (by omega) (by omega))
      have Hq := Lib.hid (show ((E / Nat.gcd E (xat C t).length : Nat) : Int) = (E : Int) / gcdI E (xat C t).length by rw [hgn]; exact Int.natCast_ediv _ _)
      have hq1 : E / Nat.gcd E (xat C t).length ≤ 200000 := Nat.le_trans (Nat.div_le_self _ _) hEs
      have hsm2 : E / Nat.gcd E (xat C t).length * (xat C t).length ≤ 200000 := by
        have h1 := take_fl_le C (t + 1)
        rw [HO.out.sum, Hfl.out, List.length_append] at h1
        exact cube_small (Nat.le_trans hstep.2.2.2 (Nat.pow_le_pow_right (by omega) (by omega)))
      have Hst := Lib.hid hstep
      clear hstep hgn
      have f0 : (gcdI (E : Int) ((xat C t).length : Int) == 0) = false := eq_f (by omega)
      generalize hQ : E / Nat.gcd E (xat C t).length = Q at *
      generalize hG : gcdI (E : Int) ((xat C t).length : Int) = G at *
      have hQ0 : (E : Int) / G = (Q : Int) := Hq.out.symm
      have hgz : ¬ (G = 0) := by omega
      have hm0 : 0 ≤ (Q : Int) * ((xat C t).length : Int) := by rw [← Int.natCast_mul]; omega
      have hm1 : (Q : Int) * ((xat C t).length : Int) ≤ 200000 := by rw [← Int.natCast_mul]; omega
      clear hQ hG
      go_wp2_with fail
      have hR := hS.drew
      have hrR := (hR.rii Hl.out).row t hlt
      go_region_held3 (fun _ => True) (trivial) (first
        | (have hz := hX; clear hz; go_at_call 106; refine (Hz _ ((hX.rii Hl.out).row t hlt)).out.mono ?_; rintro e w4 ⟨rfl, rfl⟩)
        | (go_at_call 172; refine (HG _).out.mono ?_; rintro e w3 ⟨rfl, h3⟩; have hX := hR.call0 h3)
        | (go_at_call 106; refine (Hz _ hrR).out.mono ?_; rintro e w4 ⟨rfl, rfl⟩))
      all_goals
        go_wp2_with fail
        go_roundw
        case rel =>
          refine ⟨t + 1, Q * (xat C t).length, by omega, by go_num, by
            have hw : ∀ M : Nat, M ≤ 200000 → IntKind.i64.wrap (M : Int) = M := fun M h => by simp [IntKind.wrap, IntKind.bits, IntKind.signed]; omega
            rw [hw _ hq1, ← Int.natCast_mul, hw _ hsm2], Hst.out.1, ?_, ?_, hX⟩
          · unfold Hid; rw [Hfl.out, List.length_append]; exact Hst.out.2.2.2
          · intro s hs
            by_cases e : s = t
            · rw [e]; exact Hst.out.2.2.1
            · have h1 := hEd.out s (by omega)
              have h2 := Hst.out.2.1
              exact Nat.mod_eq_zero_of_dvd (Nat.dvd_trans (Nat.dvd_of_mod_eq_zero h1) (Nat.dvd_of_mod_eq_zero h2))
        case measure => simp [intOf]; omega
    · obtain rfl : t = C.length := by omega
      go_wp2_with fail
      go_ret
      exact ⟨E, rfl, hE1.out, Hsm.out, fun s hs => hEd.out s hs, hS.out⟩
end Go.Proofs.Ytcenabaklokhhaa
