/- Walks: the program's operations on elements of a valid field. -/
import Derived.Test.YtcenabaklokhhaaMul
import Derived.Test.YtcenabaklokhhaaSum
import Derived.Test.YtcenabaklokhhaaFx
import Derived.Test.YtcenabaklokhhaaVMat
import Derived.Test.YtcenabaklokhhaaPFp
import Derived.Test.YtcenabaklokhhaaDot
import Derived.IntWalk
import Derived.Deep.RegionHeld3
import Derived.Deep.DrawnRows
namespace Go.Proofs.Ytcenabaklokhhaa
set_option linter.unusedSimpArgs false
set_option linter.unusedVariables false
open Go.RowKit
attribute [local go_sem ↓] Go.wp_at_zero Go.wp_at_succ

theorem FV.ok {p d : Int} {xs : List Int} (h : FV p d xs) : fOk p d xs = true := by
  have h3 : pu p 64 d.toNat 1 ≤ 64 := by
    rw [pu_le (by have := h.p2; omega) d.toNat 1 (by omega) (by rw [Int.one_mul]; exact h.q), Int.one_mul]; exact h.q
  rw [fOk_yes h.pr h.d1 h3 h.len h.top (allIn_iff.2 h.inp)]
  exact h.irr
theorem vecOk_of {q : Int} {xs : List Int} (h : In q xs) : vecOk q xs = true := by
  simp only [vecOk, anyP, Bool.not_eq_true', List.any_eq_false]
  intro x hx
  have := h x hx
  rw [inB_true (by omega)]; simp
theorem St.lits {B : Nat} {w0 w : World} {L : List Ent} (h : St B w0 w L) (xs : List Int) (hm : xs.length ≤ 1000) :
    St B w0 (w.alloc (.cells (iv xs).toArray 2)) (L ++ [row 2 (.slice (some ⟨w.heap.size, 0, none⟩) xs.length xs.length) (iv xs)]) := by
  have h2 := h.new 2 (iv xs).toArray (by simp [iv_len]; unfold maxLen; omega)
  simpa only [List.size_toArray, iv_len] using h2

theorem areElements1_c (x q : Int) (g : Nat) (w : World) (hb : w.cell? ⟨g, 0, none⟩ = some (.int .i64 q)) (q0 : 0 ≤ q) (q1 : q ≤ 1000000) :
    Calls Try.prog 202 #[.int .i64 x, .pointer (some ⟨g, 0, none⟩)] w (GivesB w (!inB x 0 (q - 1))) := by
  go_enter Try.func202, Try.ntmps202
  go_wp2_with fail
  refine (within_c _ _ _ _).mono ?_
  rintro e w1 ⟨rfl, rfl⟩
  go_wp2_with fail
  go_ret
  exact ⟨rfl, St.refl w⟩

set_option maxHeartbeats 1000000 in
set_option maxRecDepth 100000 in
theorem areElements_c (p : Int) (D : Nat) (v : Value) (fs : List Int) (vl : Value) (xs : List Int) (w : World) (hv : RdI w v fs) (hl : RdI w vl xs) (hf : FV p D fs) (hx : In (p ^ D) xs) :
    Calls Try.prog 115 #[fv p D v, vl] w (GivesB w true) := by
  have hS0 := (St.refl w).newboxF 25 #[.int .i64 p, .int .i64 D, v]
  have hd : (D : Int) ≤ 9223372036854775807 := by have := hf.d6; omega
  have HV := Lib.hid (ValidField_c p D v fs _ (hS0.oldI hv) hd)
  rw [hf.ok] at HV
  have HZ := fun W => Lib.hid (fieldSize_c p D v fs W hf)
  rw [Int.toNat_natCast] at HZ
  have hq := hf.q64
  have hq0 : 0 < p ^ D := Int.pow_pos hf.fa.pos
  have Hvec := Lib.hid (vecOk_of hx)
  clear hf hx hd
  generalize p ^ D = q at *
  have hcf := callFunc_go Try.func202 (by kernel_rfl) (by kernel_rfl)
  have hmf : ∀ (fn : Fn) (first cap : Array Value) (w : World), (Instr.makeFunc fn first cap).run Try.prog w = .ok (.func fn first cap) w := fun _ _ _ _ => rfl
  have hcall := fun (W : World) (g : Nat) (hv : RdI W vl xs) (hc : W.cell? ⟨g, 0, none⟩ = some (.int .i64 q)) => Lib.hid (ContainsFunc_c 202 #[.pointer (some ⟨g, 0, none⟩)] (fun x => !inB x 0 (q - 1)) vl xs W hv hcf (fun x W' hW _ => areElements1_c x q g W' (by
    rw [hW.below.cell (World.block_lt_of_cell? _ _ hc)]; exact hc) (by omega) (by omega)))
  clear hcf
  unfold fv at HV HZ ⊢
  go_enter Try.func115, Try.ntmps115
  go_wp2_with fail
  refine HV.out.mono ?_
  rintro e w1 ⟨rfl, h1⟩
  have hS1 := hS0.call0 h1
  have b0 := hS1.bcell 0 rfl 0 rfl
  have b1 := hS1.bcell 0 rfl 1 rfl
  have b2 := hS1.bcell 0 rfl 2 rfl
  go_wp2_with fail
  refine (HZ _).out.mono ?_
  rintro e w2 ⟨rfl, h2⟩
  have hS2 := (hS1.call0 h2).newboxF 2 #[.int .i64 q]
  go_wp2_with fail
  refine (hcall _ _ (hS2.oldI hl) (hS2.bcell 0 rfl 0 rfl)).out.mono ?_
  rw [show anyP (fun x => !inB x 0 (q - 1)) xs = false by have := Hvec.out; simpa [vecOk] using this]
  rintro e w3 ⟨rfl, h3⟩
  have hS3 := hS2.call0 h3
  go_wp2_with fail
  go_ret
  exact ⟨rfl, hS3.out⟩

theorem in2 {q a b : Int} (ha : 0 ≤ a ∧ a < q) (hb : 0 ≤ b ∧ b < q) : In q [a, b] := fun x hx => by
  simp only [List.mem_cons, List.not_mem_nil, or_false] at hx
  rcases hx with rfl | rfl <;> assumption
theorem in1 {q a : Int} (ha : 0 ≤ a ∧ a < q) : In q [a] := fun x hx => by
  simp only [List.mem_cons, List.not_mem_nil, or_false] at hx
  subst hx; exact ha
set_option maxHeartbeats 1000000 in
set_option maxRecDepth 100000 in
theorem FieldAdd_c (p : Int) (D : Nat) (v : Value) (fs : List Int) (a b : Int) (w : World) (hv : RdI w v fs) (hf : FV p D fs) (ha : El p D a) (hb : El p D b) :
    Calls Try.prog 24 #[fv p D v, .int .i64 a, .int .i64 b] w (GivesI w (fsum p D a b 1)) := by
  have hS0 := (St.refl w).newboxF 25 #[.int .i64 p, .int .i64 D, v]
  have hS1 := hS0.lits [a, b] (by simp)
  have HE := Lib.hid (areElements_c p D v fs _ [a, b] _ (hS1.oldI hv) (hS1.rdI 1 rfl) hf (in2 ha hb))
  have HC := fun W (hv : RdI W v fs) => Lib.hid (combine_c p D v fs a b 1 W hv hf (ha.lim hf).1 (ha.lim hf).2 (hb.lim hf).1 (hb.lim hf).2 (.inl rfl))
  simp only [World.size_alloc] at HE
  clear hf ha hb
  unfold fv at *
  go_enter Try.func24, Try.ntmps24
  go_wp2_with fail
  refine HE.out.mono ?_
  rintro e w1 ⟨rfl, h1⟩
  have hS2 := hS1.call0 h1
  have b0 := hS2.bcell 0 rfl 0 rfl
  have b1 := hS2.bcell 0 rfl 1 rfl
  have b2 := hS2.bcell 0 rfl 2 rfl
  go_wp2_with fail
  refine (HC _ (hS2.oldI hv)).out.mono ?_
  rintro e w2 ⟨rfl, h2⟩
  have hS3 := hS2.call0 h2
  go_wp2_with fail
  go_ret
  exact ⟨rfl, hS3.out⟩
set_option maxHeartbeats 1000000 in
set_option maxRecDepth 100000 in
theorem FieldSub_c (p : Int) (D : Nat) (v : Value) (fs : List Int) (a b : Int) (w : World) (hv : RdI w v fs) (hf : FV p D fs) (ha : El p D a) (hb : El p D b) :
    Calls Try.prog 26 #[fv p D v, .int .i64 a, .int .i64 b] w (GivesI w (fsum p D a b (-1))) := by
  have hS0 := (St.refl w).newboxF 25 #[.int .i64 p, .int .i64 D, v]
  have hS1 := hS0.lits [a, b] (by simp)
  have HE := Lib.hid (areElements_c p D v fs _ [a, b] _ (hS1.oldI hv) (hS1.rdI 1 rfl) hf (in2 ha hb))
  have HC := fun W (hv : RdI W v fs) => Lib.hid (combine_c p D v fs a b (-1) W hv hf (ha.lim hf).1 (ha.lim hf).2 (hb.lim hf).1 (hb.lim hf).2 (.inr rfl))
  simp only [World.size_alloc] at HE
  clear hf ha hb
  unfold fv at *
  go_enter Try.func26, Try.ntmps26
  go_wp2_with fail
  refine HE.out.mono ?_
  rintro e w1 ⟨rfl, h1⟩
  have hS2 := hS1.call0 h1
  have b0 := hS2.bcell 0 rfl 0 rfl
  have b1 := hS2.bcell 0 rfl 1 rfl
  have b2 := hS2.bcell 0 rfl 2 rfl
  go_wp2_with fail
  refine (HC _ (hS2.oldI hv)).out.mono ?_
  rintro e w2 ⟨rfl, h2⟩
  have hS3 := hS2.call0 h2
  go_wp2_with fail
  go_ret
  exact ⟨rfl, hS3.out⟩
set_option maxHeartbeats 1000000 in
set_option maxRecDepth 100000 in
theorem FieldMul_c (p : Int) (D : Nat) (v : Value) (fs : List Int) (a b : Int) (w : World) (hv : RdI w v fs) (hf : FV p D fs) (ha : El p D a) (hb : El p D b) :
    Calls Try.prog 25 #[fv p D v, .int .i64 a, .int .i64 b] w (GivesI w (fmul p D fs a b)) := by
  have hS0 := (St.refl w).newboxF 25 #[.int .i64 p, .int .i64 D, v]
  have hS1 := hS0.lits [a, b] (by simp)
  have HE := Lib.hid (areElements_c p D v fs _ [a, b] _ (hS1.oldI hv) (hS1.rdI 1 rfl) hf (in2 ha hb))
  have HC := fun W (hv : RdI W v fs) => Lib.hid (product_c p D v fs a b W hv hf (ha.lim hf).1 (ha.lim hf).2 (hb.lim hf).1 (hb.lim hf).2 )
  simp only [World.size_alloc] at HE
  clear hf ha hb
  unfold fv at *
  go_enter Try.func25, Try.ntmps25
  go_wp2_with fail
  refine HE.out.mono ?_
  rintro e w1 ⟨rfl, h1⟩
  have hS2 := hS1.call0 h1
  have b0 := hS2.bcell 0 rfl 0 rfl
  have b1 := hS2.bcell 0 rfl 1 rfl
  have b2 := hS2.bcell 0 rfl 2 rfl
  go_wp2_with fail
  refine (HC _ (hS2.oldI hv)).out.mono ?_
  rintro e w2 ⟨rfl, h2⟩
  have hS3 := hS2.call0 h2
  go_wp2_with fail
  go_ret
  exact ⟨rfl, hS3.out⟩
set_option maxHeartbeats 1000000 in
set_option maxRecDepth 100000 in
theorem FieldSize_c (p : Int) (D : Nat) (v : Value) (fs : List Int) (w : World) (hv : RdI w v fs) (hf : FV p D fs) : Calls Try.prog 23 #[fv p D v] w (GivesI w (p ^ D)) := by
  have hS0 := (St.refl w).newboxF 25 #[.int .i64 p, .int .i64 D, v]
  have hd : (D : Int) ≤ 9223372036854775807 := by have := hf.d6; omega
  have HV := Lib.hid (ValidField_c p D v fs _ (hS0.oldI hv) hd)
  rw [hf.ok] at HV
  have HZ := fun W => Lib.hid (fieldSize_c p D v fs W hf)
  rw [Int.toNat_natCast] at HZ
  clear hf hd
  generalize p ^ D = q at *
  unfold fv at HV HZ ⊢
  go_enter Try.func23, Try.ntmps23
  go_wp2_with fail
  refine HV.out.mono ?_
  rintro e w1 ⟨rfl, h1⟩
  have hS1 := hS0.call0 h1
  have b0 := hS1.bcell 0 rfl 0 rfl
  have b1 := hS1.bcell 0 rfl 1 rfl
  have b2 := hS1.bcell 0 rfl 2 rfl
  go_wp2_with fail
  refine (HZ _).out.mono ?_
  rintro e w2 ⟨rfl, h2⟩
  have hS2 := hS1.call0 h2
  go_wp2_with fail
  go_ret
  exact ⟨rfl, hS2.out⟩
set_option maxHeartbeats 2000000 in
set_option maxRecDepth 100000 in
theorem power_c (p : Int) (D : Nat) (v : Value) (fs : List Int) (a : Int) (n : Nat) (w : World) (hv : RdI w v fs) (hf : FV p D fs) (ha : El p D a) (hn : n ≤ 4611686018427387904) :
    Calls Try.prog 121 #[fv p D v, .int .i64 a, .int .i64 n] w (GivesI w (pw p D fs a n)) := by
  have hS0 := (St.refl w).newboxF 25 #[.int .i64 p, .int .i64 D, v]
  have HP := fun W (hv : RdI W v fs) x y (hx : El p D x) (hy : El p D y) => Lib.hid (product_c p D v fs x y W hv hf (hx.lim hf).1 (hx.lim hf).2 (hy.lim hf).1 (hy.lim hf).2)
  have HF := Lib.hid hf
  clear hf
  unfold fv at *
  go_enter Try.func121, Try.ntmps121
  go_wp2_with fail
  go_loopw [1, 2, 7] (fun x y z wr => ∃ (b r : Int) (m : Nat), x = .int .i64 b ∧ y = .int .i64 m ∧ z = .int .i64 r ∧ m ≤ n ∧ Hid (El p D b) ∧ Hid (El p D r) ∧ Hid (fmul p D fs r (pw p D fs b m) = pw p D fs a n) ∧ St w.heap.size w wr [box 25 w.heap.size [.int .i64 p, .int .i64 D, v]]) (fun _ y _ _ => (intOf y).toNat)
  case atStart => exact ⟨a, 1, n, rfl, rfl, rfl, Nat.le_refl _, ha, el_one HF.out.fa, one_fmul HF.out.fa (pw_el HF.out.fa a n), hS0⟩
  case round =>
    obtain ⟨b, r, m, rfl, rfl, rfl, hm, hb, hr, hI, hS⟩ := hrel
    have b0 := hS.bcell 0 rfl 0 rfl
    have b1 := hS.bcell 0 rfl 1 rfl
    have b2 := hS.bcell 0 rfl 2 rfl
    by_cases h0 : 0 < m
    · have Hh := Lib.hid (pw_half HF.out.fa hb.out r m)
      by_cases h1 : m % 2 = 1
      · have e1 : ((m : Int) % 2 == 1) = true := eq_t (by omega)
        rw [if_pos h1] at Hh
        go_wp2_with fail
        refine (HP _ (hS.oldI hv) r b hr hb).out.mono ?_
        rintro e w1 ⟨rfl, h2⟩
        have hS2 := hS.call0 h2
        have c0 := hS2.bcell 0 rfl 0 rfl
        have c1 := hS2.bcell 0 rfl 1 rfl
        have c2 := hS2.bcell 0 rfl 2 rfl
        go_wp2_with fail
        refine (HP _ (hS2.oldI hv) b b hb hb).out.mono ?_
        rintro e w2 ⟨rfl, h3⟩
        have hS3 := hS2.call0 h3
        go_wp2_with fail
        go_roundw
        case rel => exact ⟨_, _, m / 2, rfl, by go_num, rfl, by omega, fmul_el HF.out.fa _ _, fmul_el HF.out.fa _ _, Hh.out.symm.trans hI, hS3⟩
        case measure => simp [intOf]; omega
      · have e1 : ((m : Int) % 2 == 1) = false := eq_f (by omega)
        rw [if_neg h1] at Hh
        go_wp2_with fail
        refine (HP _ (hS.oldI hv) b b hb hb).out.mono ?_
        rintro e w2 ⟨rfl, h3⟩
        have hS3 := hS.call0 h3
        go_wp2_with fail
        go_roundw
        case rel => exact ⟨_, r, m / 2, rfl, by go_num, rfl, by omega, fmul_el HF.out.fa _ _, hr, Hh.out.symm.trans hI, hS3⟩
        case measure => simp [intOf]; omega
    · obtain rfl : m = 0 := by omega
      have e2 : Hid (r = pw p D fs a n) := by
        have := hI.out
        rw [show pw p D fs b 0 = 1 from rfl, fmul_one HF.out.fa hr.out] at this
        exact this
      go_wp2_with fail
      go_ret
      exact ⟨ret_i64 e2.out, hS.out⟩
set_option maxHeartbeats 1000000 in
set_option maxRecDepth 100000 in
theorem FieldPower_c (p : Int) (D : Nat) (v : Value) (fs : List Int) (a : Int) (n : Nat) (w : World) (hv : RdI w v fs) (hf : FV p D fs) (ha : El p D a) (hn : n ≤ 4611686018427387904) :
    Calls Try.prog 29 #[fv p D v, .int .i64 a, .int .i64 n] w (GivesI w (pw p D fs a n)) := by
  have hS0 := (St.refl w).newboxF 25 #[.int .i64 p, .int .i64 D, v]
  have hS1 := hS0.lits [a] (by simp)
  have HE := Lib.hid (areElements_c p D v fs _ [a] _ (hS1.oldI hv) (hS1.rdI 1 rfl) hf (in1 ha))
  have HC := fun W (hv : RdI W v fs) => Lib.hid (power_c p D v fs a n W hv hf ha hn)
  simp only [World.size_alloc] at HE
  clear hf ha
  unfold fv at *
  go_enter Try.func29, Try.ntmps29
  go_wp2_with fail
  refine HE.out.mono ?_
  rintro e w1 ⟨rfl, h1⟩
  have hS2 := hS1.call0 h1
  have b0 := hS2.bcell 0 rfl 0 rfl
  have b1 := hS2.bcell 0 rfl 1 rfl
  have b2 := hS2.bcell 0 rfl 2 rfl
  go_wp2_with fail
  refine (HC _ (hS2.oldI hv)).out.mono ?_
  rintro e w2 ⟨rfl, h2⟩
  have hS3 := hS2.call0 h2
  go_wp2_with fail
  go_ret
  exact ⟨rfl, hS3.out⟩
set_option maxHeartbeats 2000000 in
set_option maxRecDepth 100000 in
theorem orderIn_c (p : Int) (D : Nat) (v : Value) (fs : List Int) (a : Int) (w : World) (hv : RdI w v fs) (hf : FV p D fs) (ha : El p D a) (a0 : a ≠ 0) :
    Calls Try.prog 122 #[fv p D v, .int .i64 a] w (GivesI w (ordF p D fs a)) := by
  have hS0 := (St.refl w).newboxF 25 #[.int .i64 p, .int .i64 D, v]
  have HP := fun W (hv : RdI W v fs) x y (hx : El p D x) (hy : El p D y) => Lib.hid (product_c p D v fs x y W hv hf (hx.lim hf).1 (hx.lim hf).2 (hy.lim hf).1 (hy.lim hf).2)
  have HF := Lib.hid hf
  have Ho := Lib.hid (ord_ok hf ha a0)
  have HA := Lib.hid ha
  have hq1 : (q1 p D : Int) ≤ 64 := by have := q1_cast hf; have := hf.q64; omega
  have hoq := (ord_ok hf ha a0).le
  have ho1 := (ord_ok hf ha a0).pos
  clear hf ha
  generalize ordF p D fs a = N at *
  generalize q1 p D = Q at *
  unfold fv at *
  go_enter Try.func122, Try.ntmps122
  go_wp2_with fail
  go_loopw [5, 6] (fun x y wr => ∃ (m : Nat) (b : Int), x = .int .i64 m ∧ y = .int .i64 b ∧ 1 ≤ m ∧ m ≤ N ∧ Hid (El p D b) ∧ Hid (pw p D fs a m = b) ∧ St w.heap.size w wr [box 25 w.heap.size [.int .i64 p, .int .i64 D, v]]) (fun x _ _ => N - (intOf x).toNat)
  case atStart => exact ⟨1, a, rfl, rfl, by omega, by omega, HA.out, pw_1 HF.out.fa HA.out, hS0⟩
  case round =>
    obtain ⟨m, b, rfl, rfl, hm1, hm2, hb, hI, hS⟩ := hrel
    have b0 := hS.bcell 0 rfl 0 rfl
    have b1 := hS.bcell 0 rfl 1 rfl
    have b2 := hS.bcell 0 rfl 2 rfl
    by_cases h1 : b = 1
    · have e1 : (b != 1) = false := ne_f h1
      have hmN : m = N := by
        refine Classical.byContradiction fun hne => ?_
        exact Ho.out.min m hm1 (by omega) (by rw [hI.out]; exact h1)
      have HmN := Lib.hid hmN
      clear hmN
      go_wp2_with fail
      go_ret
      exact ⟨ret_i64 (by rw [HmN.out]), hS.out⟩
    · have e1 : (b != 1) = true := ne_t h1
      have hlt : m < N := by
        refine Nat.lt_of_le_of_ne hm2 fun e => h1 ?_
        rw [← hI.out, e]; exact Ho.out.one
      have HI := hI
      go_wp2_with fail
      refine (HP _ (hS.oldI hv) b a hb HA.out).out.mono ?_
      rintro e w1 ⟨rfl, h2⟩
      have hS2 := hS.call0 h2
      go_wp2_with fail
      go_roundw
      case rel => exact ⟨m + 1, _, by go_num, rfl, by omega, by omega, fmul_el HF.out.fa _ _, by unfold Hid; rw [pw, HI.out], hS2⟩
      case measure => simp [intOf]; omega
set_option maxHeartbeats 1000000 in
set_option maxRecDepth 100000 in
theorem FieldOrder_c (p : Int) (D : Nat) (v : Value) (fs : List Int) (a : Int) (w : World) (hv : RdI w v fs) (hf : FV p D fs) (ha : El p D a) (a0 : a ≠ 0) :
    Calls Try.prog 31 #[fv p D v, .int .i64 a] w (GivesI w (ordF p D fs a)) := by
  have hS0 := (St.refl w).newboxF 25 #[.int .i64 p, .int .i64 D, v]
  have hS1 := hS0.lits [a] (by simp)
  have HE := Lib.hid (areElements_c p D v fs _ [a] _ (hS1.oldI hv) (hS1.rdI 1 rfl) hf (in1 ha))
  have HC := fun W (hv : RdI W v fs) => Lib.hid (orderIn_c p D v fs a W hv hf ha a0)
  have e0 : (a == 0) = false := eq_f a0
  simp only [World.size_alloc] at HE
  clear hf ha
  unfold fv at *
  go_enter Try.func31, Try.ntmps31
  go_wp2_with fail
  refine HE.out.mono ?_
  rintro e w1 ⟨rfl, h1⟩
  have hS2 := hS1.call0 h1
  have b0 := hS2.bcell 0 rfl 0 rfl
  have b1 := hS2.bcell 0 rfl 1 rfl
  have b2 := hS2.bcell 0 rfl 2 rfl
  go_wp2_with fail
  refine (HC _ (hS2.oldI hv)).out.mono ?_
  rintro e w2 ⟨rfl, h2⟩
  have hS3 := hS2.call0 h2
  go_wp2_with fail
  go_ret
  exact ⟨rfl, hS3.out⟩
set_option maxHeartbeats 2000000 in
set_option maxRecDepth 100000 in
theorem FieldInverse_c (p : Int) (D : Nat) (v : Value) (fs : List Int) (a : Int) (w : World) (hv : RdI w v fs) (hf : FV p D fs) (ha : El p D a) :
    Calls Try.prog 30 #[fv p D v, .int .i64 a] w (GivesI w (if a = 0 then -1 else pw p D fs a (q1 p D - 1))) := by
  have hS0 := (St.refl w).newboxF 25 #[.int .i64 p, .int .i64 D, v]
  have hS1 := hS0.lits [a] (by simp)
  have HE := Lib.hid (areElements_c p D v fs _ [a] _ (hS1.oldI hv) (hS1.rdI 1 rfl) hf (in1 ha))
  have HC := fun W (hv : RdI W v fs) => Lib.hid (power_c p D v fs a (q1 p D - 1) W hv hf ha (by have := q1_cast hf; have := hf.q64; omega))
  have HZ := fun W => Lib.hid (fieldSize_c p D v fs W hf)
  rw [Int.toNat_natCast] at HZ
  have hq : ((q1 p D - 1 : Nat) : Int) = p ^ D - 2 := by have := q1_cast hf; have := q1_pos hf; omega
  have hq1 := hf.q64
  have hq2 : 2 ≤ p ^ D := by have := q1_cast hf; have := q1_pos hf; omega
  rw [hq] at HC
  simp only [World.size_alloc] at HE
  clear hf ha hq
  generalize p ^ D = q at *
  unfold fv at *
  by_cases a0 : a = 0
  · subst a0
    rw [if_pos rfl]
    go_enter Try.func30, Try.ntmps30
    go_wp2_with fail
    refine HE.out.mono ?_
    rintro e w1 ⟨rfl, h1⟩
    have hS2 := hS1.call0 h1
    go_wp2_with fail
    go_ret
    exact ⟨rfl, hS2.out⟩
  · rw [if_neg a0]
    have e0 : (a == 0) = false := eq_f a0
    generalize pw p D fs a (q1 p D - 1) = R at *
    go_enter Try.func30, Try.ntmps30
    go_wp2_with fail
    refine HE.out.mono ?_
    rintro e w1 ⟨rfl, h1⟩
    have hS2 := hS1.call0 h1
    have b0 := hS2.bcell 0 rfl 0 rfl
    have b1 := hS2.bcell 0 rfl 1 rfl
    have b2 := hS2.bcell 0 rfl 2 rfl
    go_wp2_with fail
    have e2 : IntKind.i64.wrap (q - 2) = q - 2 := IntWalk.i64_in (q - 2) (by omega)
    go_region_held3 (fun w' => w'.cell? ⟨w.heap.size, 0, none⟩ = some (.int .i64 p) ∧ w'.cell? ⟨w.heap.size, 1, none⟩ = some (.int .i64 D) ∧ w'.cell? ⟨w.heap.size, 2, none⟩ = some v) (((try dsimp only); (repeat' apply And.intro); all_goals (repeat (first | assumption | exact cell_dr (by assumption) | refine cell_dr ?_ | refine cell_al ?_ | refine cell_sc (by assumption) ?_))))
      (first
      | (go_at_call 114; refine (HZ _).out.mono ?_; rintro e w3 ⟨rfl, h3⟩; have hS3 := hS2.drew.call0 h3; have c0 := hS3.bcell 0 rfl 0 rfl; have c1 := hS3.bcell 0 rfl 1 rfl; have c2 := hS3.bcell 0 rfl 2 rfl)
      | (go_at_call 121; refine (HC _ (hS3.oldI hv)).out.mono ?_; rintro e w4 ⟨rfl, h4⟩; have hS4 := hS3.call0 h4; have d0 := hS4.bcell 0 rfl 0 rfl; have d1 := hS4.bcell 0 rfl 1 rfl; have d2 := hS4.bcell 0 rfl 2 rfl))
    all_goals
      go_wp2_with fail
      go_ret
      exact ⟨rfl, hS4.out⟩
end Go.Proofs.Ytcenabaklokhhaa
