/- Walks: remainders of the reference, irreducible polynomials. -/
import Derived.Test.YtmkfafhgcnbcaaaFld1
namespace Go.Proofs.Ytmkfafhgcnbcaaa
set_option linter.unusedSimpArgs false
set_option linter.unusedVariables false
open Go.RowKit

theorem rsl_hi' {w : World} {v : Value} {xs : List Int} (h : RdI w v xs) (i : Int) (hi : Nat) (e : i = (hi : Int)) (h2 : hi ≤ xs.length) (W : World) :
    (Instr.slice 22 v none (some (.int .i64 i)) none).run Try.prog W = .ok (rsl v 0 hi) W := by
  subst e; exact rsl_hi h hi h2 W
def sliceLen : Value → Nat
  | .slice _ n _ => n
  | _ => 0
theorem sliceLen_sl {v : Value} {n : Nat} (h : IsSl v n) : sliceLen v = n := by obtain ⟨a, c, rfl, _⟩ := h; rfl

set_option maxHeartbeats 2000000 in
set_option maxRecDepth 100000 in
theorem l03Rest_c (v vb : Value) (xs ys : List Int) (p : Int) (w : World) (hv : RdI w v xs) (hb : RdI w vb ys) (p2 : 2 ≤ p) (p64 : p ≤ 64) (hx : In p xs) (hy : In p ys) (hxl : xs.length ≤ 4096) (hyl : ys.length ≤ 4096) (hy1 : 1 ≤ ys.length) :
    Calls Try.prog 148 #[v, vb, .int .i64 p] w (MakesI w (remL p xs ys)) := by
  have hlb := hb.len
  have hib := hb.ix
  have hcl := fun W h => Lib.hid (l00Own_c v xs W h (by omega))
  obtain ⟨deg, hdeg⟩ : ∃ d, ys.length = d + 1 := ⟨ys.length - 1, by omega⟩
  have Hdeg := Lib.hid hdeg
  have Hx := Lib.hid hx
  have Hy := Lib.hid hy
  have fp : (p == 0) = false := eq_f (by omega)
  rw [hdeg] at hlb hib
  have hd4 : deg ≤ 4095 := by omega
  clear hx hy hy1
  go_enter Try.func148, Try.ntmps148
  go_wp2_with fail
  refine (hcl _ hv).out.mono ?_
  rintro e w1 ⟨v1, rfl, hS⟩
  have hl1 := (hS.rdI 0 rfl).len
  clear hdeg
  go_wp2_with fail
  go_loopw [9, 10, 11, 12] (fun kk _ _ _ wr => ∃ (κ : Int) (cur : List Int), -1 ≤ κ ∧ κ ≤ (xs.length : Int) - 1 ∧ kk = .int .i64 κ ∧ Hid (cur.length = xs.length) ∧ Hid (In p cur) ∧ Hid (remN p ys deg (κ + 1 - deg).toNat cur = remN p ys deg (xs.length - deg) xs) ∧ St w.heap.size w wr [row 2 v1 (iv cur)]) (fun kk _ _ _ _ => (intOf kk + 1).toNat)
  case atStart => exact ⟨_, xs, by omega, by omega, rfl, rfl, Hx.out, by unfold Hid; congr 1; omega, hS⟩
  case round =>
    obtain ⟨κ, cur, k0, k1, rfl, hcl, hin, hI, hS⟩ := hrel
    by_cases hge : (deg : Int) ≤ κ
    · obtain ⟨k, rfl⟩ := Int.eq_ofNat_of_zero_le (show 0 ≤ κ by omega)
      have hr := hS.rdI 0 rfl
      have hdc : k < cur.length := by have := hcl.out; omega
      have hck := hr.cell k hdc
      have hxk := hr.ixe (k : Int) k rfl hdc
      obtain ⟨f, hf⟩ : ∃ f, f = nth cur k := ⟨_, rfl⟩
      rw [← hf] at hck
      have hfb := hin.out _ (nth_mem hdc)
      rw [← hf] at hfb
      obtain ⟨f0, f1⟩ := hfb
      have Hf := Lib.hid hf
      have hdc2 : k < xs.length := by have := hcl.out; omega
      have hdk : deg ≤ k := by omega
      clear hf hr
      go_wp2_with fail
      go_loopw [11, 12] (fun jj _ wx => ∃ j : Nat, j ≤ deg + 1 ∧ jj = .int .i64 j ∧ St w.heap.size w wx [row 2 v1 (iv (subT p cur ys (k - deg) f j))]) (fun jj _ _ => (deg + 1) - (intOf jj).toNat)
      case atStart => exact ⟨0, by omega, rfl, by rw [subT_0]; exact hS⟩
      case round =>
        obtain ⟨j, hj, rfl, hS⟩ := hrel
        have hr := hS.rdI 0 rfl
        by_cases hlt : j < deg + 1
        · have hcb := (hS.oldI hb).cell j (by rw [Hdeg.out]; exact hlt)
          have hat : k - deg + j < (subT p cur ys (k - deg) f j).length := by rw [subT_len]; omega
          have hca := hr.cell (k - deg + j) hat
          have hxa := hr.ixe ((k : Int) - deg + j) (k - deg + j) (by omega) hat
          have hxa2 := hr.ixe ((k : Int) - ((deg : Int) + 1) + 1 + j) (k - deg + j) (by omega) hat
          have hyb := Hy.out _ (nth_mem (show j < ys.length by rw [Hdeg.out]; exact hlt))
          have hab := (In.subT (by omega) hin.out (by' := ys) (k - deg) f j) _ (nth_mem hat)
          obtain ⟨y0, y1⟩ := hyb
          obtain ⟨a0, a1⟩ := hab
          have hstep := Lib.hid (subT_step (p := p) (rest := cur) (by' := ys) (s := k - deg) (f := f) (j := j) (by have := hcl.out; omega))
          generalize hA : nth (subT p cur ys (k - deg) f j) (k - deg + j) = A at hca a0 a1
          generalize hB : nth ys j = B at hcb y0 y1
          have HA := Lib.hid hA
          have HB := Lib.hid hB
          have m0 := Int.mul_nonneg f0 y0
          have m1 : f * B ≤ 64 * 64 := Int.mul_le_mul (by omega) (by omega) (by omega) (by omega)
          have n0 := Int.mul_nonneg (show 0 ≤ p - f by omega) y0
          have n1 : (p - f) * B ≤ 64 * 64 := Int.mul_le_mul (by omega) (by omega) (by omega) (by omega)
          have hmd : Hid ((A + (p - f) * B) % p = (A - f * B) % p) := by
            unfold Hid
            rw [Int.sub_mul, show A + (p * B - f * B) = (A - f * B) + p * B by omega, Int.add_mul_emod_self_left]
          have u1 := hS.unfrozen 0 rfl (j := k - deg + j) (by rw [iv_len]; exact hat)
          have hs1 := hS.store 0 rfl (j := k - deg + j) (by rw [iv_len]; exact hat) (.int .i64 ((A + (p - f) * B) % p))
          have hs2 := Lib.hid hs1.drew
          clear hA hB hat hs1
          go_wp2_with fail
          go_region
          all_goals
            go_wp2_with fail
            go_roundw
            case rel =>
              refine ⟨j + 1, by omega, by go_num, ?_⟩
              rw [← hstep.out, show cf (subT p cur ys (k - deg) f j) (k - deg + j) = A from HA.out, show cf ys j = B from HB.out, ← hmd.out]
              have h := hs2.out
              rw [iv_set] at h
              exact h
            case measure => simp [intOf]; omega
        · have hj2 : j = deg + 1 := by omega
          subst hj2
          have hst : Hid (remN p ys deg ((k : Int) + 1 - deg).toNat cur = remN p ys deg ((k : Int) - 1 + 1 - deg).toNat (subT p cur ys (k - deg) f (deg + 1))) := by
            unfold Hid
            rw [show ((k : Int) + 1 - deg).toNat = (k - deg) + 1 by omega, remN, show ((k : Int) - 1 + 1 - deg).toNat = k - deg by omega, show deg + (k - deg) = k by omega, Hf.out]
            try rfl
          have hin2 := Lib.hid (In.subT (p := p) (by omega) hin.out (by' := ys) (k - deg) f (deg + 1))
          have hcl2 : Hid ((subT p cur ys (k - deg) f (deg + 1)).length = xs.length) := by unfold Hid; rw [subT_len]; exact hcl.out
          go_wp2_with fail
          go_roundw
          case rel => exact ⟨(k : Int) - 1, _, by omega, by omega, rfl, hcl2, hin2, by unfold Hid; rw [← hst.out]; exact hI.out, hS⟩
          case measure => simp [intOf]
    · have e0 : Hid (cur = remN p ys deg (xs.length - deg) xs) := by
        unfold Hid
        have h := hI.out
        rw [show (κ + 1 - (deg : Int)).toNat = 0 by omega] at h
        exact h
      have Hcl := hcl
      go_wp2_with fail
      go_loopw [7] (fun o wx => ∃ m : Nat, m ≤ xs.length ∧ Hid (deg ≤ m ∨ m = xs.length) ∧ St w.heap.size w wx [row 2 o (iv (cur.take m))]) (fun o _ => sliceLen o)
      case atStart => exact ⟨xs.length, by omega, .inr rfl, by rw [List.take_of_length_le (by rw [Hcl.out]; omega)]; exact hS⟩
      case round =>
        obtain ⟨m, hm, hmd, hS⟩ := hrel
        have hr := hS.rdI 0 rfl
        have hlm : (cur.take m).length = m := by rw [List.length_take, Hcl.out]; omega
        have hln := hr.len
        rw [hlm] at hln
        have Hlm := Lib.hid hlm
        clear hlm
        by_cases hgt : deg + 1 ≤ m
        · have hsl := rsl_hi' hr ((m : Int) - 1) (m - 1) (by omega) (by rw [Hlm.out]; omega)
          have hcut := hS.cut 0 rfl (m - 1) (by rw [iv_len, Hlm.out]; omega)
          have hsz := sliceLen_sl hr.sl
          rw [iv_len, Hlm.out] at hsz
          have hsz2 := sliceLen_sl (hcut.rd 0 rfl).sl
          have e2 : (iv (cur.take m)).take (m - 1) = iv (cur.take (m - 1)) := by simp only [iv, ← List.map_take]; rw [List.take_take, Nat.min_eq_left (by omega)]
          rw [e2] at hcut hsz2
          rw [iv_len, List.length_take, Hcl.out] at hsz2
          have Hsz := Lib.hid hsz
          have Hsz2 := Lib.hid hsz2
          clear hr hsz hsz2 e2
          go_wp2_with fail
          go_roundw
          case rel => exact ⟨m - 1, by omega, .inl (by omega), hcut⟩
          case measure => rw [Hsz.out, Hsz2.out]; omega
        · clear hr
          go_wp2_with fail
          go_ret
          refine ⟨_, rfl, ?_⟩
          have e1 : cur.take m = remL p xs ys := by
            rw [remL, Hdeg.out, show deg + 1 - 1 = deg by omega, ← e0.out]
            rcases hmd.out with h | h
            · rw [show m = deg by omega]
            · rw [List.take_of_length_le (by rw [Hcl.out]; omega), List.take_of_length_le (by rw [Hcl.out]; omega)]
          rw [e1] at hS
          exact hS
end Go.Proofs.Ytmkfafhgcnbcaaa
