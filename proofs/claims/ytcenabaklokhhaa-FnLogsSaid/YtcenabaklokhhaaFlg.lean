/- Walks: primitive elements, logarithms, traces and squares of a valid field. -/
import Derived.Test.YtcenabaklokhhaaFop
import Derived.Test.YtcenabaklokhhaaPLog
import Derived.Test.YtcenabaklokhhaaCpt
import Derived.Test.YtcenabaklokhhaaCopy
namespace Go.Proofs.Ytcenabaklokhhaa
set_option linter.unusedSimpArgs false
set_option linter.unusedVariables false
open Go.RowKit
attribute [local go_sem ↓] Go.wp_at_zero Go.wp_at_succ

theorem sizeI_c (v : Value) (xs : List Int) (w : World) (hv : RdI w v xs) : Calls Try.prog 106 #[v] w fun e w' => e = .returned (.int .i64 xs.length) ∧ w = w' := by
  have hln := hv.len
  go_enter Try.func106, Try.ntmps106
  go_wp2_with fail
  go_ret
  exact ⟨rfl, rfl⟩
set_option maxHeartbeats 2000000 in
set_option maxRecDepth 100000 in
theorem primitive_c (p : Int) (D : Nat) (v : Value) (fs : List Int) (w : World) (hv : RdI w v fs) (hf : FV p D fs) : Calls Try.prog 150 #[fv p D v] w (GivesI w (prF p D fs)) := by
  have hS0 := (St.refl w).newboxF 25 #[.int .i64 p, .int .i64 D, v]
  have HZ := fun W => Lib.hid (fieldSize_c p D v fs W hf)
  rw [Int.toNat_natCast] at HZ
  have hq := q1_cast hf
  have hq64 : q1 p D ≤ 64 := by have := hf.q64; omega
  have HO := fun W (hv : RdI W v fs) (m : Nat) (h1 : 1 ≤ m) (h2 : m ≤ q1 p D) => Lib.hid (orderIn_c p D v fs m W hv hf ⟨by omega, by omega⟩ (by omega))
  have HP := Lib.hid (prim_ok hf)
  have Hs := Lib.hid (show prS1 p D fs (q1 p D) 1 = prF p D fs from rfl)
  have Hq1 := Lib.hid (show q1 p D = q1 p D from rfl)
  have hqq : p ^ D = (q1 p D : Int) + 1 := by omega
  rw [hqq] at HZ
  have hle : prF p D fs ≤ q1 p D := by
    have := HP.out.el.2
    omega
  have hq1 := q1_pos hf
  clear hf hq hqq Hq1
  generalize prF p D fs = G at *
  have HQ := Lib.hid (fun m : Nat => show (ordF p D fs (m : Int) = q1 p D) → ∀ f, prS1 p D fs f m = m from fun h f => prS1_hit h)
  have HN := Lib.hid (fun m f : Nat => show (ordF p D fs (m : Int) ≠ q1 p D) → prS1 p D fs (f + 1) m = prS1 p D fs f (m + 1) from fun h => prS1_next h)
  have HG := Lib.hid HP.out.ord
  generalize hQ : q1 p D = Q at *
  have HQQ := Lib.hid hQ
  clear hQ
  unfold fv at *
  go_enter Try.func150, Try.ntmps150
  go_wp2_with fail
  refine (HZ _).out.mono ?_
  rintro e w1 ⟨rfl, h1⟩
  have hS1 := hS0.call0 h1
  clear hS0 h1
  go_wp2_with fail
  go_loopw [3] (fun x wr => ∃ m f : Nat, x = .int .i64 m ∧ 1 ≤ m ∧ m ≤ Q ∧ m + f = Q + 1 ∧ Hid (prS1 p D fs f m = G) ∧ St w.heap.size w wr [box 25 w.heap.size [.int .i64 p, .int .i64 D, v]]) (fun x _ => Q - (intOf x).toNat)
  case atStart => exact ⟨1, Q, rfl, by omega, by omega, by omega, Hs.out, hS1⟩
  case round =>
    clear hS1
    obtain ⟨m, f, rfl, hm1, hm2, hmf, hI, hS⟩ := hrel
    have b0 := hS.bcell 0 rfl 0 rfl
    have b1 := hS.bcell 0 rfl 1 rfl
    have b2 := hS.bcell 0 rfl 2 rfl
    have HO1 := fun W hv => HO W hv m hm1 hm2
    by_cases he : ordF p D fs (m : Int) = Q
    · have e1 : ((ordF p D fs (m : Int) : Int) != (Q : Int)) = false := ne_f (by omega)
      have Hm := Lib.hid (HQ.out m he f)
      clear he
      generalize ordF p D fs (m : Int) = N at *
      go_wp2_with fail
      refine (HO1 _ (hS.oldI hv)).out.mono ?_
      rintro e w2 ⟨rfl, h2⟩
      have hS2 := hS.call0 h2
      go_wp2_with fail
      go_ret
      exact ⟨ret_i64 (by have := hI.out; rw [Hm.out] at this; rw [this]), hS2.out⟩
    · have e1 : ((ordF p D fs (m : Int) : Int) != (Q : Int)) = true := ne_t (by omega)
      have Hne := Lib.hid he
      have hf1 : 1 ≤ f ∧ m < Q := by
        refine ⟨by omega, ?_⟩
        refine Nat.lt_of_le_of_ne hm2 fun e => ?_
        have hf1' : f = 1 := by omega
        subst hf1'
        have h3 := hI.out
        rw [HN.out m 0 Hne.out] at h3
        have h4 : m + 1 = G := h3
        omega
      obtain ⟨g, rfl⟩ := Nat.exists_eq_add_of_le' hf1.1
      have Hn := Lib.hid (HN.out m g Hne.out)
      have hlt := hf1.2
      clear he
      generalize ordF p D fs (m : Int) = N at *
      go_wp2_with fail
      refine (HO1 _ (hS.oldI hv)).out.mono ?_
      rintro e w2 ⟨rfl, h2⟩
      have hS2 := hS.call0 h2
      go_wp2_with fail
      go_roundw
      case rel => exact ⟨m + 1, g, by go_num, by omega, by omega, by omega, by unfold Hid; rw [← Hn.out]; exact hI.out, hS2⟩
      case measure => simp [intOf]; omega
set_option maxHeartbeats 1000000 in
set_option maxRecDepth 100000 in
theorem PrimitiveElement_c (p : Int) (D : Nat) (v : Value) (fs : List Int) (w : World) (hv : RdI w v fs) (hf : FV p D fs) : Calls Try.prog 60 #[fv p D v] w (GivesI w (prF p D fs)) := by
  have hS0 := (St.refl w).newboxF 25 #[.int .i64 p, .int .i64 D, v]
  have hd : (D : Int) ≤ 9223372036854775807 := by have := hf.d6; omega
  have HV := Lib.hid (ValidField_c p D v fs _ (hS0.oldI hv) hd)
  rw [hf.ok] at HV
  have HP := fun W hv => Lib.hid (primitive_c p D v fs W hv hf)
  clear hf hd
  unfold fv at *
  go_enter Try.func60, Try.ntmps60
  go_wp2_with fail
  refine HV.out.mono ?_
  rintro e w1 ⟨rfl, h1⟩
  have hS1 := hS0.call0 h1
  have b0 := hS1.bcell 0 rfl 0 rfl
  have b1 := hS1.bcell 0 rfl 1 rfl
  have b2 := hS1.bcell 0 rfl 2 rfl
  go_wp2_with fail
  refine (HP _ (hS1.oldI hv)).out.mono ?_
  rintro e w2 ⟨rfl, h2⟩
  have hS2 := hS1.call0 h2
  go_wp2_with fail
  go_ret
  exact ⟨rfl, hS2.out⟩
set_option maxHeartbeats 2000000 in
set_option maxRecDepth 100000 in
theorem FieldTrace_c (p : Int) (D : Nat) (v : Value) (fs : List Int) (a : Int) (w : World) (hv : RdI w v fs) (hf : FV p D fs) (ha : El p D a) : Calls Try.prog 61 #[fv p D v, .int .i64 a] w (GivesI w (trF p D fs D 0 a)) := by
  have hS0 := (St.refl w).newboxF 25 #[.int .i64 p, .int .i64 D, v]
  have hS1 := hS0.lits [a] (by simp)
  have HE := Lib.hid (areElements_c p D v fs _ [a] _ (hS1.oldI hv) (hS1.rdI 1 rfl) hf (in1 ha))
  have HC := fun W (hv : RdI W v fs) x y (hx : El p D x) (hy : El p D y) => Lib.hid (combine_c p D v fs x y 1 W hv hf (hx.lim hf).1 (hx.lim hf).2 (hy.lim hf).1 (hy.lim hf).2 (.inl rfl))
  have HP := fun W (hv : RdI W v fs) x (hx : El p D x) => Lib.hid (power_c p D v fs x p.toNat W hv hf hx (by have := hf.p64; omega))
  rw [Int.toNat_of_nonneg (by have := hf.p2; omega)] at HP
  have HF := Lib.hid hf
  have HA := Lib.hid ha
  have d6 := hf.d6
  simp only [World.size_alloc] at HE
  clear hf ha
  unfold fv at *
  go_enter Try.func61, Try.ntmps61
  go_wp2_with fail
  refine HE.out.mono ?_
  rintro e w1 ⟨rfl, h1⟩
  have hS2 : St w.heap.size w w1 [box 25 w.heap.size [.int .i64 p, .int .i64 D, v]] := (hS1.call0 h1).sub (List.sublist_append_left [_] _)
  clear hS0 hS1 h1
  go_wp2_with fail
  go_loopw [1, 5, 6] (fun x y z wr => ∃ (b s : Int) (k : Nat), x = .int .i64 b ∧ y = .int .i64 s ∧ z = .int .i64 k ∧ k ≤ D ∧ Hid (El p D b) ∧ Hid (El p D s) ∧ Hid (trF p D fs (D - k) s b = trF p D fs D 0 a) ∧ St w.heap.size w wr [box 25 w.heap.size [.int .i64 p, .int .i64 D, v]]) (fun _ _ z _ => D - (intOf z).toNat)
  case atStart => exact ⟨a, 0, 0, rfl, rfl, rfl, by omega, HA.out, el_zero HF.out.fa, rfl, hS2⟩
  case round =>
    clear hS2
    obtain ⟨b, s, k, rfl, rfl, rfl, hk, hb, hs, hI, hS⟩ := hrel
    have b0 := hS.bcell 0 rfl 0 rfl
    have b1 := hS.bcell 0 rfl 1 rfl
    have b2 := hS.bcell 0 rfl 2 rfl
    by_cases hlt : k < D
    · have Hst := Lib.hid (show trF p D fs (D - k) s b = trF p D fs (D - (k + 1)) (fsum p D s b 1) (pw p D fs b p.toNat) by rw [show D - k = (D - (k + 1)) + 1 by omega]; rfl)
      have hsum := Lib.hid (fsum_el (p := p) (D := D) HF.out.fa.pos s b 1)
      have hpw := Lib.hid (pw_el HF.out.fa b p.toNat)
      have HC1 := fun W hv => HC W hv s b hs.out hb.out
      have HP1 := fun W hv => HP W hv b hb.out
      generalize fsum p D s b 1 = s' at *
      generalize pw p D fs b p.toNat = b' at *
      go_wp2_with fail
      refine (HC1 _ (hS.oldI hv)).out.mono ?_
      rintro e w2 ⟨rfl, h2⟩
      have hS2 := hS.call0 h2
      clear b0 b1 b2
      have b0 := hS2.bcell 0 rfl 0 rfl
      have b1 := hS2.bcell 0 rfl 1 rfl
      have b2 := hS2.bcell 0 rfl 2 rfl
      go_wp2_with fail
      refine (HP1 _ (hS2.oldI hv)).out.mono ?_
      rintro e w3 ⟨rfl, h3⟩
      have hS3 := hS2.call0 h3
      go_wp2_with fail
      go_roundw
      case rel => exact ⟨b', s', k + 1, rfl, rfl, by go_num, by omega, hpw.out, hsum.out, Hst.out.symm.trans hI.out, hS3⟩
      case measure => simp [intOf]; omega
    · obtain rfl : k = D := by omega
      have e2 : Hid (s = trF p k fs k 0 a) := by
        have := hI.out
        rw [Nat.sub_self] at this
        exact this
      go_wp2_with fail
      go_ret
      exact ⟨ret_i64 e2.out, hS.out⟩
/-- the list of squares of its own -/
def MakesSq (w : World) (p : Int) (D : Nat) (fs : List Int) (e : Ending) (w' : World) : Prop := ∃ v S, e = .returned v ∧ SqOk p D fs S ∧ St w.heap.size w w' [row 2 v (iv S)]
set_option maxHeartbeats 2000000 in
set_option maxRecDepth 100000 in
theorem FieldSquares_c (p : Int) (D : Nat) (v : Value) (fs : List Int) (w : World) (hv : RdI w v fs) (hf : FV p D fs) : Calls Try.prog 63 #[fv p D v] w (MakesSq w p D fs) := by
  have hS0 := (St.refl w).newboxF 25 #[.int .i64 p, .int .i64 D, v]
  have hd : (D : Int) ≤ 9223372036854775807 := by have := hf.d6; omega
  have HV := Lib.hid (ValidField_c p D v fs _ (hS0.oldI hv) hd)
  rw [hf.ok] at HV
  have HZ := fun W => Lib.hid (fieldSize_c p D v fs W hf)
  rw [Int.toNat_natCast] at HZ
  have hq := q1_cast hf
  have hqq : p ^ D = (q1 p D : Int) + 1 := by omega
  have hq64 : q1 p D ≤ 64 := by have := hf.q64; omega
  have HP := fun W (hv : RdI W v fs) (k : Nat) (hk : k < q1 p D) => Lib.hid (product_c p D v fs ((k + 1 : Nat) : Int) ((k + 1 : Nat) : Int) W hv hf (by omega) (by omega) (by omega) (by omega))
  rw [hqq] at HZ
  have Hok := Lib.hid (fun S hn hm => sq_ok hf (S := S) hn hm)
  clear hf hd hq hqq
  have HL := Lib.hid (fun k => show (sqsL p D fs k).length = k by simp [sqsL])
  generalize hQ : q1 p D = Q at *
  have HQQ := Lib.hid hQ
  clear hQ
  unfold fv at *
  go_enter Try.func63, Try.ntmps63
  go_wp2_with fail
  refine HV.out.mono ?_
  rintro e w1 ⟨rfl, h1⟩
  have hS1 := (hS0.call0 h1).newnil 2
  clear hS0 h1
  go_wp2_with fail
  go_loopw [3, 4] (fun o x wr => ∃ k : Nat, x = .int .i64 ((k : Int) + 1) ∧ k ≤ Q ∧ St w.heap.size w wr [box 25 w.heap.size [.int .i64 p, .int .i64 D, v], row 2 o (iv (sqsL p D fs k))]) (fun _ x _ => Q + 1 - (intOf x).toNat)
  case atStart => exact ⟨0, rfl, by omega, hS1⟩
  case round =>
    clear hS1
    obtain ⟨k, rfl, hk, hS⟩ := hrel
    have b0 := hS.bcell 0 rfl 0 rfl
    have b1 := hS.bcell 0 rfl 1 rfl
    have b2 := hS.bcell 0 rfl 2 rfl
    by_cases hlt : k < Q
    · have HP1 := fun W hv => HP W hv k hlt
      have Hs := Lib.hid (sqsL_succ (p := p) (D := D) (fs := fs) k)
      have hlk := HL.out k
      have HlK := Lib.hid hlk
      clear hlk
      rw [show ((k + 1 : Nat) : Int) = (k : Int) + 1 by omega] at HP1 Hs
      generalize fmul p D fs ((k : Int) + 1) ((k : Int) + 1) = y at *
      go_wp2_with fail
      refine (HZ _).out.mono ?_
      rintro e w2 ⟨rfl, h2⟩
      have hS2 := hS.call0 h2
      clear b0 b1 b2
      have b0 := hS2.bcell 0 rfl 0 rfl
      have b1 := hS2.bcell 0 rfl 1 rfl
      have b2 := hS2.bcell 0 rfl 2 rfl
      go_wp2_with fail
      refine (HP1 _ (hS2.oldI hv)).out.mono ?_
      rintro e w3 ⟨rfl, h3⟩
      have hS3 := hS2.call0 h3
      go_wp2_with (at_builtin; refine appI hS3 1 rfl (by rw [HlK.out]; omega) rfl _ _ rfl rfl _ rfl ?_; intro v4 w4 hS4)
      go_roundw
      case rel => exact ⟨k + 1, by go_num, by omega, by rw [Hs.out]; exact hS4⟩
      case measure => simp [intOf]; omega
    · obtain rfl : k = Q := by omega
      go_wp2_with fail
      refine (HZ _).out.mono ?_
      rintro e w2 ⟨rfl, h2⟩
      have hS2 := hS.call0 h2
      go_wp2_with fail
      refine (Sort_c hS2 1 rfl (by rw [HL.out]; omega)).mono ?_
      rintro e w3 ⟨rfl, hS3⟩
      simp only [List.set_cons_zero, List.set_cons_succ] at hS3
      go_wp2_with fail
      refine (Compact_c hS3 1 rfl (by rw [srt_len, HL.out]; omega)).mono ?_
      rintro e w4 ⟨u, rfl, hS4⟩
      simp only [List.set_cons_zero, List.set_cons_succ] at hS4
      go_wp2_with fail
      go_ret
      refine ⟨_, _, rfl, Hok.out _ (compact_nodup (msort_up _)) (fun x => ?_), hS4.sub (List.sublist_cons_self _ _)⟩
      rw [mem_compact]
      exact (srt_perm _).mem_iff
set_option maxHeartbeats 4000000 in
set_option maxRecDepth 100000 in
theorem LogTable_c (p : Int) (D : Nat) (v : Value) (fs : List Int) (w : World) (hv : RdI w v fs) (hf : FV p D fs) : Calls Try.prog 59 #[fv p D v] w (MakesI w (logL p D fs)) := by
  have hS0 := (St.refl w).newboxF 25 #[.int .i64 p, .int .i64 D, v]
  have hd : (D : Int) ≤ 9223372036854775807 := by have := hf.d6; omega
  have HV := Lib.hid (ValidField_c p D v fs _ (hS0.oldI hv) hd)
  rw [hf.ok] at HV
  have HZ := fun W => Lib.hid (fieldSize_c p D v fs W hf)
  rw [Int.toNat_natCast] at HZ
  have HP := fun W hv => Lib.hid (primitive_c p D v fs W hv hf)
  have HM := fun W (hv : RdI W v fs) x y (hx : El p D x) (hy : El p D y) => Lib.hid (product_c p D v fs x y W hv hf (hx.lim hf).1 (hx.lim hf).2 (hy.lim hf).1 (hy.lim hf).2)
  have HG := Lib.hid (prim_ok hf)
  have HF := Lib.hid hf
  have HL := Lib.hid (show logL p D fs = logP p D fs (prF p D fs) (q1 p D) from rfl)
  obtain ⟨n, hn⟩ : ∃ n, n = q1 p D + 1 := ⟨_, rfl⟩
  have hqq : p ^ D = (n : Int) := by have := q1_cast hf; omega
  have hn64 : n ≤ 64 := by have := hf.q64; omega
  have hn2 : 2 ≤ n := by have := q1_pos hf; omega
  rw [hqq] at HZ
  have Hlen := Lib.hid (fun k => show (logP p D fs (prF p D fs) k).length = n by rw [logP_len, hn])
  have H0 := Lib.hid (show (List.replicate n (0 : Int)).set 0 (-1) = logP p D fs (prF p D fs) 0 by rw [logP, hn])
  have Hq1 := Lib.hid (show q1 p D = n - 1 by omega)
  have Hlt := Lib.hid (fun k => show (pw p D fs (prF p D fs) k).toNat < n ∧ ((pw p D fs (prF p D fs) k).toNat : Int) = pw p D fs (prF p D fs) k by rw [hn]; exact pw_lt hf _ k)
  have HA := Lib.hid HG.out.el
  clear hf hd hn hqq HG
  generalize prF p D fs = g at *
  unfold fv at *
  go_enter Try.func59, Try.ntmps59
  go_wp2_with fail
  refine HV.out.mono ?_
  rintro e w1 ⟨rfl, h1⟩
  have hS1 := hS0.call0 h1
  have b0 := hS1.bcell 0 rfl 0 rfl
  have b1 := hS1.bcell 0 rfl 1 rfl
  have b2 := hS1.bcell 0 rfl 2 rfl
  clear hS0 h1
  go_wp2_with fail
  refine (HZ _).out.mono ?_
  rintro e w2 ⟨rfl, h2⟩
  have hS2 := hS1.call0 h2
  clear hS1 h2 b0 b1 b2
  go_wp2_with (first
    | (refine stoI hS3 1 rfl 0 (by rw [List.length_replicate]; omega) rfl _ _ rfl rfl _ rfl ?_; intro w4 hS4; rw [H0.out] at hS4; have b0 := hS4.bcell 0 rfl 0 rfl; have b1 := hS4.bcell 0 rfl 1 rfl; have b2 := hS4.bcell 0 rfl 2 rfl)
    | (at_make; refine mkI hS2 rfl _ _ rfl _ _ n rfl rfl (by omega) ?_; intro t3 w3 hS3; have hr := hS3.rdI 1 rfl; have hln := hr.len; have hix := hr.ix; simp only [List.length_replicate] at hln hix; clear hr; have hi0 := hix .i64 0 (by omega) (by omega)))
  refine (HP _ (hS4.oldI hv)).out.mono ?_
  rintro e w5 ⟨rfl, h5⟩
  have hS5 : St w.heap.size w w5 [box 25 w.heap.size [.int .i64 p, .int .i64 D, v], row 2 t3 (iv (logP p D fs g 0))] := hS4.call0 h5
  clear hS2 hS3 hS4 h5 b0 b1 b2
  go_wp2_with fail
  go_loopw [5, 6] (fun x y wr => ∃ k : Nat, x = .int .i64 (pw p D fs g k) ∧ y = .int .i64 k ∧ k ≤ n - 1 ∧ St w.heap.size w wr [box 25 w.heap.size [.int .i64 p, .int .i64 D, v], row 2 t3 (iv (logP p D fs g k))]) (fun _ y _ => n - (intOf y).toNat)
  case atStart => exact ⟨0, rfl, rfl, by omega, hS5⟩
  case round =>
    clear hS5
    obtain ⟨k, rfl, rfl, hk, hS⟩ := hrel
    have b0 := hS.bcell 0 rfl 0 rfl
    have b1 := hS.bcell 0 rfl 1 rfl
    have b2 := hS.bcell 0 rfl 2 rfl
    have hr := hS.rdI 1 rfl
    have HSz := Lib.hid (sizeI_c t3 _ wr hr)
    rw [Hlen.out] at HSz
    by_cases hlt : k < n - 1
    · obtain ⟨hx1, hx2⟩ := Hlt.out k
      have hi1 := hr.ixe (pw p D fs g k) (pw p D fs g k).toNat hx2.symm (by rw [Hlen.out]; exact hx1)
      have HM1 := fun W hv => HM W hv (pw p D fs g k) g (pw_el HF.out.fa _ _) HA.out
      have Hsu := Lib.hid (show fmul p D fs (pw p D fs g k) g = pw p D fs g (k + 1) from rfl)
      rw [Hsu.out] at HM1
      have Hsl := Lib.hid (show (logP p D fs g k).set (pw p D fs g k).toNat (k : Int) = logP p D fs g (k + 1) from rfl)
      have Hx1 := Lib.hid hx1
      clear hr hx2 hx1
      generalize pw p D fs g k = x at *
      generalize hx' : pw p D fs g (k + 1) = x' at *
      have Hx' := Lib.hid hx'
      clear hx'
      have hk1 : (k : Int) < (n : Int) - 1 := by omega
      go_wp2_with (first
        | (have hz := hS2; clear hz; go_at_call 117; refine (HM1 _ (hS2.oldI hv)).out.mono ?_; rintro e w3 ⟨rfl, h3⟩; have hS3 := hS2.call0 h3)
        | (refine stoI hS1 1 rfl x.toNat (by rw [Hlen.out]; exact Hx1.out) rfl _ _ rfl rfl _ rfl ?_; intro w2 hS2; simp only [List.set_cons_zero, List.set_cons_succ] at hS2; rw [Hsl.out] at hS2; have c0 := hS2.bcell 0 rfl 0 rfl; have c1 := hS2.bcell 0 rfl 1 rfl; have c2 := hS2.bcell 0 rfl 2 rfl)
        | (go_at_call 106; refine HSz.out.mono ?_; rintro e w1' ⟨rfl, rfl⟩; have hS1 := hS))
      go_roundw
      case rel => exact ⟨k + 1, by rw [Hx'.out], by go_num, by omega, hS3⟩
      case measure => simp [intOf]; omega
    · obtain rfl : k = n - 1 := by omega
      have hk1 : ¬ (((n - 1 : Nat) : Int) < (n : Int) - 1) := by omega
      clear hr
      go_wp2_with (go_at_call 106; refine HSz.out.mono ?_; rintro e w1' ⟨rfl, rfl⟩)
      go_ret
      refine ⟨_, rfl, ?_⟩
      rw [HL.out, Hq1.out]
      exact hS.sub (List.sublist_cons_self _ _)
end Go.Proofs.Ytcenabaklokhhaa
