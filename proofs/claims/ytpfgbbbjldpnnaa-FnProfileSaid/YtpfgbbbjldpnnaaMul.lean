/- Walks: products of elements. Walks: the statements' products of elements. -/
import Derived.Test.YtpfgbbbjldpnnaaSum
namespace Go.Proofs.Ytpfgbbbjldpnnaa
set_option linter.unusedSimpArgs false
set_option linter.unusedVariables false
open Go.RowKit
attribute [local go_sem ↓] Go.wp_at_zero Go.wp_at_succ


theorem cvr_in {p : Int} (hp : 0 < p) (x y : List Int) (D n i j : Nat) : In p (cvr p x y D n i j) := by
  refine In.tab fun t _ => ?_
  split
  · exact cvl_in hp x y D _ t
  · exact cvl_in hp x y D _ t
theorem cvr_inl {p : Int} (hp : 0 < p) (x y : List Int) (D n i : Nat) : In p (tab n (cvl p x y D i)) := In.tab fun t _ => cvl_in hp x y D i t

set_option maxHeartbeats 8000000 in
set_option maxRecDepth 100000 in
theorem product_c (p : Int) (D : Nat) (v : Value) (xs : List Int) (a b : Int) (w : World) (hv : RdI w v xs) (hf : FV p D xs) (a0 : 0 ≤ a) (a1 : a ≤ 1000000) (b0 : 0 ≤ b) (b1 : b ≤ 1000000) :
    Calls Try.prog 115 #[fv p D v, .int .i64 a, .int .i64 b] w (GivesI w (fmul p D xs a b)) := by
  have hS0 := (St.refl w).newboxF 109 #[.int .i64 p, .int .i64 D, v]
  have p2 := hf.p2
  have p64 := hf.p64
  have d6 := hf.d6
  have d1 := hf.d1
  have HQ := Lib.hid hf.len
  have hq := hf.q
  rw [Int.toNat_natCast] at hq
  have HP := Lib.hid hq
  clear hq
  have Hin := Lib.hid hf.inp
  have fp : (p == 0) = false := eq_f (by omega)
  have c0 := hS0.bcell 0 rfl 0 rfl
  have c1 := hS0.bcell 0 rfl 1 rfl
  have hda := fun W => Lib.hid (digitsOf_c a p D W a0 (by omega) p2 (by omega) (by omega))
  have hdb := fun W => Lib.hid (digitsOf_c b p D W b0 (by omega) p2 (by omega) (by omega))
  rw [lows_dgt] at hda hdb
  have Hx := Lib.hid (dgt_in (base := p) (by omega) D a)
  have Hy := Lib.hid (dgt_in (base := p) (by omega) D b)
  have Hxl := Lib.hid (dgt_len p D a)
  have Hyl := Lib.hid (dgt_len p D b)
  have Hend := Lib.hid (fmul_eq (p := p) (by omega) (D := D) (by omega) (poly := xs) (by have := hf.len; omega) a b)
  generalize fmul p D xs a b = R at Hend ⊢
  clear hf
  generalize dgt p D a = x at hda Hx Hxl Hend
  generalize dgt p D b = y at hdb Hy Hyl Hend
  unfold fv
  go_enter Try.func115, Try.ntmps115
  go_wp2_with fail
  go_region_held3 (fun w' => w'.cell? ⟨w.heap.size, 0, none⟩ = some (.int .i64 p) ∧ w'.cell? ⟨w.heap.size, 1, none⟩ = some (.int .i64 D)) (go_keep)
    (first
    | (go_at_call_of 140 (Value.int .i64 a); refine (hda _).out.mono ?_; rintro e w1 ⟨vx, rfl, h1⟩; have hS1 := hS0.drew.call h1; have g0 := hS1.bcell 0 rfl 0 rfl; have g1 := hS1.bcell 0 rfl 1 rfl)
    | (go_at_call_of 140 (Value.int .i64 b); refine (hdb _).out.mono ?_; rintro e w2 ⟨vy, rfl, h2⟩; have hS2 := hS1.call h2; have k0 := hS2.bcell 0 rfl 0 rfl; have k1 := hS2.bcell 0 rfl 1 rfl))
  simp only [List.cons_append, List.nil_append] at hS2
  clear hS1 h1 h2 g0 g1 hda hdb c0 c1 k0
  have hlx := (hS2.rdI 1 rfl).len
  have hly := (hS2.rdI 2 rfl).len
  rw [Hxl.out] at hlx
  rw [Hyl.out] at hly
  go_wp2_with (at_make; refine mkI hS2 rfl _ _ rfl _ _ (2 * D) (by go_num) (by go_num) (by omega) ?_; intro vz w3 hS3)
  simp only [List.cons_append, List.nil_append] at hS3
  clear k1 hS2
  go_wp2_with fail
  go_loopw [10, 30] (fun _ i wr => ∃ j : Nat, j ≤ D ∧ i = .int .i64 j ∧ St w.heap.size w wr [box 109 w.heap.size [.int .i64 p, .int .i64 D, v], row 2 vx (iv x), row 2 vy (iv y), row 2 vz (iv (tab (2 * D) (cvl p x y D j)))]) (fun _ i _ => D - (intOf i).toNat)
  case atStart => exact ⟨0, by omega, rfl, by rw [cvl_0]; exact hS3⟩
  case round =>
    obtain ⟨i, hi, rfl, hS⟩ := hrel
    by_cases hlt : i < D
    · rw [← cvr_0 p x y D (2 * D) i] at hS
      go_wp2_with fail
      go_loopw [11, 35] (fun _ u wr => ∃ j : Nat, j ≤ D ∧ u = .int .i64 j ∧ St w.heap.size w wr [box 109 w.heap.size [.int .i64 p, .int .i64 D, v], row 2 vx (iv x), row 2 vy (iv y), row 2 vz (iv (cvr p x y D (2 * D) i j))]) (fun _ u _ => D - (intOf u).toNat)
      case atStart => exact ⟨0, by omega, rfl, hS⟩
      case round =>
        obtain ⟨j, hj, rfl, hT⟩ := hrel
        by_cases hlu : j < D
        · have hat : i + j < (cvr p x y D (2 * D) i j).length := by rw [cvr_len]; omega
          have hxt : i < x.length := by rw [Hxl.out]; exact hlt
          have hyt : j < y.length := by rw [Hyl.out]; exact hlu
          have hcz := (hT.rdI 3 rfl).cell (i + j) hat
          have hcx := (hT.rdI 1 rfl).cell i hxt
          have hcy := (hT.rdI 2 rfl).cell j hyt
          have hiz := (hT.rdI 3 rfl).ixe ((i : Int) + (j : Int)) (i + j) (by omega) hat
          have hix := (hT.rdI 1 rfl).ixe (i : Int) i rfl hxt
          have hiy := (hT.rdI 2 rfl).ixe (j : Int) j rfl hyt
          have hab := Hx.out _ (nth_mem hxt)
          have hbb := Hy.out _ (nth_mem hyt)
          have hcc := cvr_in (by omega) x y D (2 * D) i j _ (nth_mem hat)
          have hst := Lib.hid (cvr_step (p := p) (x := x) (y := y) (D := D) (n := 2 * D) (i := i) (j := j) hlu (by omega))
          have u1 := hT.unfrozen 3 rfl (j := i + j) (by rw [iv_len]; exact hat)
          have e0 := hT.bcell 0 rfl 0 rfl
          generalize hA : nth x i = A at hcx hab
          generalize hB : nth y j = B at hcy hbb
          generalize hC : nth (cvr p x y D (2 * D) i j) (i + j) = C at hcz hcc
          have HA := Lib.hid hA
          have HB := Lib.hid hB
          have HC := Lib.hid hC
          obtain ⟨a2, a3⟩ := hab
          obtain ⟨b2, b3⟩ := hbb
          obtain ⟨e2, e3⟩ := hcc
          have n0 : 0 ≤ A * B := Int.mul_nonneg a2 b2
          have n1 : A * B ≤ 4096 := Int.le_trans (Int.mul_le_mul (show A ≤ 64 by omega) (show B ≤ 64 by omega) b2 (by omega)) (by omega)
          have hs1 := hT.store 3 rfl (j := i + j) (by rw [iv_len]; exact hat) (.int .i64 ((C + A * B) % p))
          have hs2 := Lib.hid hs1.drew
          clear hA hB hC hat hyt hxt hs1
          go_wp2_with fail
          go_region
          all_goals
            go_wp2_with fail
            go_roundw
            case rel =>
              refine ⟨j + 1, by omega, by go_num, ?_⟩
              have h := hs2.out
              rw [iv_set] at h
              rw [← hst.out, show cf x i = A from HA.out, show cf y j = B from HB.out, show cf (cvr p x y D (2 * D) i j) (i + j) = C from HC.out]
              exact h
            case measure => simp [intOf]; omega
        · obtain rfl : j = D := by omega
          rw [cvr_end] at hT
          go_wp2_with fail
          go_roundw
          case rel => exact ⟨i + 1, by omega, by go_num, hT⟩
          case measure => simp [intOf]; omega
    · obtain rfl : D = i := by omega
      have hrem := Lib.hid (remainder_c vz v _ xs p _ (hS.drew.rdI 3 rfl) (hS.drew.oldI hv) p2 p64 (cvr_inl (by omega) x y D (2 * D) D) Hin.out (by rw [tab_len]; omega) (by have := HQ.out; omega) (by have := HQ.out; omega))
      have c0 := hS.bcell 0 rfl 0 rfl
      have c2 := hS.bcell 0 rfl 2 rfl
      have Hri : Hid (In p (remL p (tab (2 * D) (cvl p x y D D)) xs)) := Lib.hid (In.remL (by omega) (cvr_inl (by omega) x y D (2 * D) D))
      have Hrl : Hid ((remL p (tab (2 * D) (cvl p x y D D)) xs).length ≤ xs.length - 1) := Lib.hid remL_len
      generalize remL p (tab (2 * D) (cvl p x y D D)) xs = rr at hrem Hri Hrl Hend
      go_wp2_with fail
      go_region_held3 (fun w' => w'.cell? ⟨w.heap.size, 0, none⟩ = some (.int .i64 p) ∧ w'.cell? ⟨w.heap.size, 2, none⟩ = some v) (go_keep)
        (first
        | (go_at_call_of 142 vz; refine (hrem.out).mono ?_; rintro e w5 ⟨vr, rfl, h5⟩; have hS5 := hS.drew.call h5; have k0 := hS5.bcell 0 rfl 0 rfl; have k2 := hS5.bcell 0 rfl 2 rfl)
        | (go_at_call_of 141 vr; refine (numberOf_c vr rr p _ (hS5.rdI 4 rfl) (by omega) p64 Hri.out (by have h1 := Hrl.out; have h2 := HQ.out; have h3 := HP.out; exact Int.le_trans (Int.le_trans (pow_mono (by omega) (show rr.length ≤ D by omega)) h3) (by omega))).mono ?_; rintro e w6 ⟨rfl, rfl⟩))
      simp only [List.cons_append, List.nil_append] at hS5
      go_wp2_with fail
      go_ret
      exact ⟨Hend.out ▸ rfl, hS5.out⟩


set_option maxHeartbeats 8000000 in
set_option maxRecDepth 100000 in
theorem l03Mul_c (p : Int) (D : Nat) (g : Nat) (v : Value) (xs : List Int) (a b : Int) (w : World) (hv : RdI w v xs) (hbx : BoxF w g p D v) (hf : FV p D xs) (a0 : 0 ≤ a) (a1 : a ≤ 1000000) (b0 : 0 ≤ b) (b1 : b ≤ 1000000) :
    Calls Try.prog 169 #[.pointer (some ⟨g, 0, none⟩), .int .i64 a, .int .i64 b] w (GivesI w (fmul p D xs a b)) := by
  have hS0 := St.refl w
  have p2 := hf.p2
  have p64 := hf.p64
  have d6 := hf.d6
  have d1 := hf.d1
  have HQ := Lib.hid hf.len
  have hq := hf.q
  rw [Int.toNat_natCast] at hq
  have HP := Lib.hid hq
  clear hq
  have Hin := Lib.hid hf.inp
  have fp : (p == 0) = false := eq_f (by omega)
  have c0 := hbx.1
  have c1 := hbx.2.1
  have HBX := Lib.hid hbx
  have hda := fun W => Lib.hid (l03Digits_c a p D W a0 (by omega) p2 (by omega) (by omega))
  have hdb := fun W => Lib.hid (l03Digits_c b p D W b0 (by omega) p2 (by omega) (by omega))
  rw [lows_dgt] at hda hdb
  have Hx := Lib.hid (dgt_in (base := p) (by omega) D a)
  have Hy := Lib.hid (dgt_in (base := p) (by omega) D b)
  have Hxl := Lib.hid (dgt_len p D a)
  have Hyl := Lib.hid (dgt_len p D b)
  have Hend := Lib.hid (show numL p (remL p (tab (2 * D - 1) (cvl p (dgt p D a) (dgt p D b) D D)) xs) = fmul p D xs a b from rfl)
  generalize fmul p D xs a b = R at Hend ⊢
  clear hf
  generalize dgt p D a = x at hda Hx Hxl Hend
  generalize dgt p D b = y at hdb Hy Hyl Hend
  go_enter Try.func169, Try.ntmps169
  go_wp2_with fail
  go_region_held3 (fun w' => w'.cell? ⟨g, 0, none⟩ = some (.int .i64 p) ∧ w'.cell? ⟨g, 1, none⟩ = some (.int .i64 D)) (go_keep)
    ((go_at_call_of 166 (Value.int .i64 a); refine (hda _).out.mono ?_; rintro e w1 ⟨vx, rfl, h1⟩; have hS1 := hS0.drew.call h1; have g0 := (hS1.oldF HBX.out).1; have g1 := (hS1.oldF HBX.out).2.1))
  go_wp2_with fail
  go_region_held3 (fun w' => w'.cell? ⟨g, 0, none⟩ = some (.int .i64 p) ∧ w'.cell? ⟨g, 1, none⟩ = some (.int .i64 D)) (go_keep)
    ((go_at_call_of 166 (Value.int .i64 b); refine (hdb _).out.mono ?_; rintro e w2 ⟨vy, rfl, h2⟩; have hS2 := hS1.drew.call h2; have k0 := (hS2.oldF HBX.out).1; have k1 := (hS2.oldF HBX.out).2.1))
  simp only [List.cons_append, List.nil_append] at hS2
  clear hS1 h1 h2 g0 g1 hda hdb c0 c1 k0
  have hlx := (hS2.rdI 0 rfl).len
  have hly := (hS2.rdI 1 rfl).len
  have hM : ((2 * D - 1 : Nat) : Int) = 2 * (D : Int) - 1 := by omega
  rw [Hxl.out] at hlx
  rw [Hyl.out] at hly
  go_wp2_with (at_make; refine mkI hS2 rfl _ _ rfl _ _ (2 * D - 1) (by rw [hM]; go_num) (by rw [hM]; go_num) (by omega) ?_; intro vz w3 hS3)
  simp only [List.cons_append, List.nil_append] at hS3
  clear k1 hS2 hM
  go_wp2_with fail
  go_loopw [10] (fun i wr => ∃ j : Nat, j ≤ D ∧ i = .int .i64 j ∧ St w.heap.size w wr [row 2 vx (iv x), row 2 vy (iv y), row 2 vz (iv (tab (2 * D - 1) (cvl p x y D j)))]) (fun i _ => D - (intOf i).toNat)
  case atStart => exact ⟨0, by omega, rfl, by rw [cvl_0]; exact hS3⟩
  case round =>
    obtain ⟨i, hi, rfl, hS⟩ := hrel
    by_cases hlt : i < D
    · rw [← cvr_0 p x y D (2 * D - 1) i] at hS
      go_wp2_with fail
      go_loopw [11] (fun u wr => ∃ j : Nat, j ≤ D ∧ u = .int .i64 j ∧ St w.heap.size w wr [row 2 vx (iv x), row 2 vy (iv y), row 2 vz (iv (cvr p x y D (2 * D - 1) i j))]) (fun u _ => D - (intOf u).toNat)
      case atStart => exact ⟨0, by omega, rfl, hS⟩
      case round =>
        obtain ⟨j, hj, rfl, hT⟩ := hrel
        by_cases hlu : j < D
        · have hat : i + j < (cvr p x y D (2 * D - 1) i j).length := by rw [cvr_len]; omega
          have hxt : i < x.length := by rw [Hxl.out]; exact hlt
          have hyt : j < y.length := by rw [Hyl.out]; exact hlu
          have hcz := (hT.rdI 2 rfl).cell (i + j) hat
          have hcx := (hT.rdI 0 rfl).cell i hxt
          have hcy := (hT.rdI 1 rfl).cell j hyt
          have hiz := (hT.rdI 2 rfl).ixe ((i : Int) + (j : Int)) (i + j) (by omega) hat
          have hix := (hT.rdI 0 rfl).ixe (i : Int) i rfl hxt
          have hiy := (hT.rdI 1 rfl).ixe (j : Int) j rfl hyt
          have hab := Hx.out _ (nth_mem hxt)
          have hbb := Hy.out _ (nth_mem hyt)
          have hcc := cvr_in (by omega) x y D (2 * D - 1) i j _ (nth_mem hat)
          have hst := Lib.hid (cvr_step (p := p) (x := x) (y := y) (D := D) (n := 2 * D - 1) (i := i) (j := j) hlu (by omega))
          have u1 := hT.unfrozen 2 rfl (j := i + j) (by rw [iv_len]; exact hat)
          have e0 := (hT.oldF HBX.out).1
          generalize hA : nth x i = A at hcx hab
          generalize hB : nth y j = B at hcy hbb
          generalize hC : nth (cvr p x y D (2 * D - 1) i j) (i + j) = C at hcz hcc
          have HA := Lib.hid hA
          have HB := Lib.hid hB
          have HC := Lib.hid hC
          obtain ⟨a2, a3⟩ := hab
          obtain ⟨b2, b3⟩ := hbb
          obtain ⟨e2, e3⟩ := hcc
          have n0 : 0 ≤ A * B := Int.mul_nonneg a2 b2
          have n1 : A * B ≤ 4096 := Int.le_trans (Int.mul_le_mul (show A ≤ 64 by omega) (show B ≤ 64 by omega) b2 (by omega)) (by omega)
          have hs1 := hT.store 2 rfl (j := i + j) (by rw [iv_len]; exact hat) (.int .i64 ((C + A * B) % p))
          have hs2 := Lib.hid hs1.drew
          clear hA hB hC hat hyt hxt hs1
          go_wp2_with fail
          go_region
          all_goals
            go_wp2_with fail
            go_roundw
            case rel =>
              refine ⟨j + 1, by omega, by go_num, ?_⟩
              have h := hs2.out
              rw [iv_set] at h
              rw [← hst.out, show cf x i = A from HA.out, show cf y j = B from HB.out, show cf (cvr p x y D (2 * D - 1) i j) (i + j) = C from HC.out]
              exact h
            case measure => simp [intOf]; omega
        · obtain rfl : j = D := by omega
          rw [cvr_end] at hT
          go_wp2_with fail
          go_roundw
          case rel => exact ⟨i + 1, by omega, by go_num, hT⟩
          case measure => simp [intOf]; omega
    · obtain rfl : D = i := by omega
      have hrem := Lib.hid (l03Rest_c vz v _ xs p _ (hS.drew.rdI 2 rfl) (hS.drew.oldI hv) p2 p64 (cvr_inl (by omega) x y D (2 * D - 1) D) Hin.out (by rw [tab_len]; omega) (by have := HQ.out; omega) (by have := HQ.out; omega))
      have c0 := (hS.oldF HBX.out).1
      have c2 := (hS.oldF HBX.out).2.2
      have Hri : Hid (In p (remL p (tab (2 * D - 1) (cvl p x y D D)) xs)) := Lib.hid (In.remL (by omega) (cvr_inl (by omega) x y D (2 * D - 1) D))
      have Hrl : Hid ((remL p (tab (2 * D - 1) (cvl p x y D D)) xs).length ≤ xs.length - 1) := Lib.hid remL_len
      generalize remL p (tab (2 * D - 1) (cvl p x y D D)) xs = rr at hrem Hri Hrl Hend
      go_wp2_with fail
      go_region_held3 (fun w' => w'.cell? ⟨g, 0, none⟩ = some (.int .i64 p) ∧ w'.cell? ⟨g, 2, none⟩ = some v) (go_keep)
        (first
        | (go_at_call_of 179 vz; refine (hrem.out).mono ?_; rintro e w5 ⟨vr, rfl, h5⟩; have hS5 := hS.drew.call h5; have k0 := (hS5.oldF HBX.out).1; have k2 := (hS5.oldF HBX.out).2.2)
        | (go_at_call_of 170 vr; refine (l03Number_c vr rr p _ (hS5.rdI 3 rfl) (by omega) p64 Hri.out (by have h1 := Hrl.out; have h2 := HQ.out; have h3 := HP.out; exact Int.le_trans (Int.le_trans (pow_mono (by omega) (show rr.length ≤ D by omega)) h3) (by omega))).mono ?_; rintro e w6 ⟨rfl, rfl⟩))
      simp only [List.cons_append, List.nil_append] at hS5
      go_wp2_with fail
      go_ret
      exact ⟨Hend.out ▸ rfl, hS5.out⟩

end Go.Proofs.Ytpfgbbbjldpnnaa
