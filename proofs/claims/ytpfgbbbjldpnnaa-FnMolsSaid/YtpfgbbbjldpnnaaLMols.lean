/- The law FnMols, walked. -/
import Derived.Test.YtpfgbbbjldpnnaaFm3
namespace Go.Proofs.Ytpfgbbbjldpnnaa
set_option linter.unusedSimpArgs false
set_option linter.unusedVariables false
open Go.RowKit
attribute [local go_sem ↓] Go.wp_at_zero Go.wp_at_succ

/-- some order -/
def OrdD (w : World) (e : Ending) (w' : World) : Prop := ∃ q : Int, e = .returned (.int .i64 q) ∧ -1 ≤ q ∧ q ≤ 16 ∧ St w.heap.size w w' []
theorem DrawFieldMols_c (w : World) (cv : Value) (bs : List UInt8) (hb : RdB w cv bs) : Calls Try.prog 29 #[cv] w (OrdD w) := by
  have HO : ∀ W g (h : Src w W cv g 0 []), Calls Try.prog 81 #[.pointer (some ⟨g, 0, none⟩)] W fun e w' => ∃ q : Int, e = .returned (.int .i64 q) ∧ (-1 ≤ q ∧ q ≤ 16) ∧ Src w w' cv g 10 [] := fun W g h => by
    go_enter Try.func81, Try.ntmps81
    go_wp2_with fail
    refine (one_c w _ cv bs _ _ _ 8 hb h (by omega)).mono ?_
    rintro e w2 ⟨b, rfl, h2⟩
    clear h
    cases b
    · go_wp2_with fail
      refine (among_lit [2, 3, 4, 5, 7, 8, 9] w _ cv bs _ _ _ hb h2 (by simp) (by omega)).mono ?_
      rintro e w3 ⟨z, hz, rfl, h3⟩
      have hz2 : -1 ≤ z ∧ z ≤ 16 := by
        simp only [List.mem_cons, List.not_mem_nil, or_false] at hz
        omega
      have Hz := Lib.hid hz2
      clear hz hz2 h2
      go_wp2_with fail
      go_ret
      exact ⟨z, rfl, Hz.out, h3.mono (by omega)⟩
    · go_wp2_with fail
      refine (among_lit [0, 1, 6, 10, 11, 16, -1] w _ cv bs _ _ _ hb h2 (by simp) (by omega)).mono ?_
      rintro e w3 ⟨z, hz, rfl, h3⟩
      have hz2 : -1 ≤ z ∧ z ≤ 16 := by
        simp only [List.mem_cons, List.not_mem_nil, or_false] at hz
        omega
      have Hz := Lib.hid hz2
      clear hz hz2 h2
      go_wp2_with fail
      go_ret
      exact ⟨z, rfl, Hz.out, h3.mono (by omega)⟩
  have HO := Lib.hid HO
  go_enter Try.func29, Try.ntmps29
  go_wp2_with fail
  refine (l00From_c w cv bs hb).mono ?_
  rintro e w1 ⟨rfl, h1⟩
  go_wp2_with fail
  refine (HO.out _ _ h1).mono ?_
  rintro e w2 ⟨q, rfl, hq, h2⟩
  have Hq := Lib.hid hq
  have hS := h2.st
  clear hq h1 h2
  go_wp2_with fail
  go_ret
  exact ⟨q, rfl, Hq.out.1, Hq.out.2, hS⟩
theorem mk2 : mkOk 2 = true := by decide +kernel
theorem mk3 : mkOk 3 = true := by decide +kernel
theorem sml_of {Z : List (List (List Int))} (hZ : Mols Z) : Sml Z := fun k hk x hx => by
  have h := hZ.lat k hk
  rw [h.len x hx]; have := h.le; omega
theorem ProductMols_yes (v v' : Value) (vs vs' : List Value) (uss uss' : List (List Value)) (X Y : List (List (List Int))) (n m : Nat) (w : World) (hv : RIII w v vs uss X) (hv' : RIII w v' vs' uss' Y) (hX : Mols X) (hY : Mols Y) (hn : n = (x3at X 0).length) (hm : m = (x3at Y 0).length) (h : n * m ≤ 10) :
    Calls Try.prog 35 #[v, v'] w (IIIK w (pmL n m X Y (min X.length Y.length)) 0) := by
  have := ProductMols_c v v' vs vs' uss uss' X Y n m w hv hv' hX hY hn hm
  rwa [if_pos h] at this
theorem ProductMols_no (v v' : Value) (vs vs' : List Value) (uss uss' : List (List Value)) (X Y : List (List (List Int))) (n m : Nat) (w : World) (hv : RIII w v vs uss X) (hv' : RIII w v' vs' uss' Y) (hX : Mols X) (hY : Mols Y) (hn : n = (x3at X 0).length) (hm : m = (x3at Y 0).length) (h : ¬ n * m ≤ 10) :
    Calls Try.prog 35 #[v, v'] w (IIIK w [] 2) := by
  have := ProductMols_c v v' vs vs' uss uss' X Y n m w hv hv' hX hY hn hm
  rwa [if_neg h] at this
set_option maxHeartbeats 16000000 in
set_option maxRecDepth 100000 in
theorem FnMols_law (w : World) (cv : Value) (bs : List UInt8) (cm : Value) (ms : List UInt8) (hb : RdB w cv bs) (hm : RdB w cm ms) :
    Calls Try.prog 6 #[cv, cm] w (GivesB w true) := by
  by_cases hlong : 1048576 < bs.length ∨ 1048576 < ms.length
  · by_cases h1 : 1048576 < bs.length
    · have hl' : decide (1048576 < bs.length) = true := by simpa using h1
      go_enter Try.func6, Try.ntmps6
      go_wp2_with fail
      refine (b10Long_c w cv bs hb).mono ?_
      rw [hl']
      rintro e w1 ⟨rfl, rfl⟩
      go_wp2_with fail
      go_ret
      exact ⟨rfl, St.refl _⟩
    · have hl' : decide (1048576 < bs.length) = false := by simpa using h1
      have hl2 : decide (1048576 < ms.length) = true := by simp; omega
      go_enter Try.func6, Try.ntmps6
      go_wp2_with fail
      refine (b10Long_c w cv bs hb).mono ?_
      rw [hl']
      rintro e w1 ⟨rfl, rfl⟩
      go_wp2_with (go_at_call 9; refine (b10Long_c w cm ms hm).mono ?_; rw [hl2]; rintro e w1 ⟨rfl, rfl⟩)
      go_ret
      exact ⟨rfl, St.refl _⟩
  · have hl' : decide (1048576 < bs.length) = false := by simp; omega
    have hl2 : decide (1048576 < ms.length) = false := by simp; omega
    go_enter Try.func6, Try.ntmps6
    go_wp2_with fail
    refine (b10Long_c w cv bs hb).mono ?_
    rw [hl']
    rintro e w1 ⟨rfl, rfl⟩
    go_wp2_with (go_at_call 9; refine (b10Long_c w cm ms hm).mono ?_; rw [hl2]; rintro e w1 ⟨rfl, rfl⟩)
    refine (DrawFieldMols_c w cv bs hb).mono ?_
    rintro e w1 ⟨q, rfl, q0, q1, h1⟩
    have rm := hm.keep h1.below
    have hT0 := h1
    clear h1 hlong
    by_cases hbad : 10 < q ∨ mkOk q = false
    · have K1 := fun W => Lib.hid (FieldMols_no q W hbad)
      have KP := fun W => Lib.hid (PrimePower_c q W)
      have hP : (pp (factors q)).1 = 0 ∨ 10 < q := by
        rcases hbad with h | h
        · exact .inr h
        · rcases pp_bad h with h | h
          · exact .inl h
          · exact .inr (by omega)
      generalize pp (factors q) = P at *
      clear hbad
      by_cases hz : P.1 = 0
      · have f1 : (P.1 == 0) = true := eq_t hz
        clear hP hz
        go_wp2_with fail
        refine (K1 _).out.mono ?_
        rintro e w2 ⟨v2, vs2, uss2, rfl, _, h2⟩
        have hT1 := hT0.call0 h2.out
        go_wp2_with fail
        refine (KP _).out.mono ?_
        rintro e w3 ⟨rfl, h3⟩
        have hT2 := hT1.call0 h3
        go_wp2_with fail
        go_ret
        exact ⟨rfl, hT2⟩
      · have f1 : (P.1 == 0) = false := eq_f hz
        have h10 : 10 < q := hP.resolve_left hz
        clear hP hz
        go_wp2_with fail
        refine (K1 _).out.mono ?_
        rintro e w2 ⟨v2, vs2, uss2, rfl, _, h2⟩
        have hT1 := hT0.call0 h2.out
        go_wp2_with fail
        refine (KP _).out.mono ?_
        rintro e w3 ⟨rfl, h3⟩
        have hT2 := hT1.call0 h3
        go_wp2_with fail
        go_ret
        exact ⟨rfl, hT2⟩
    · have hok : mkOk q = true := by
        cases h : mkOk q
        · exact absurd (.inr h) hbad
        · rfl
      obtain ⟨n, p, D, fs, rfl, hFQ, hP, hD, hL, hC⟩ := mk_fq hok (by omega)
      have K1 := fun W => Lib.hid (FieldMols_c n p D fs W hFQ hP hD hL hC)
      have n2 := hFQ.n2
      have n10 := hFQ.n10
      have HM := Lib.hid (fmL_mols hFQ.fv hFQ.pow n2 n10)
      have HXl := Lib.hid (fmL_len p D fs n (n - 1))
      have HXa := Lib.hid (show ∀ i, i < n - 1 → x3at (fmL p D fs n (n - 1)) i = fsq p D fs n ((i : Int) + 1) from fun i hi => fmL_at hi)
      have HXn := Lib.hid (show ∀ i, i < n - 1 → (x3at (fmL p D fs n (n - 1)) i).length = n from fun i hi => by rw [fmL_at hi]; exact (fsq_sq0 hFQ.fv hFQ.pow _).len)
      generalize fmL p D fs n (n - 1) = X at *
      have KV := fun W v vs uss a => Lib.hid (ValidMols_c v vs uss X W a (sml_of HM.out))
      rw [molB_yes HM.out] at KV
      clear hbad hok hP hD hL hC hFQ HXa q0 q1
      go_wp2_with fail
      refine (K1 _).out.mono ?_
      rintro e w2 ⟨v, vs, uss, rfl, hf, h2⟩
      have rX := IIIK.riii hf h2
      have rm := rm.keep h2.below
      have hT1 := hT0.call0 h2.out
      have hln := rX.len
      rw [HXl.out, show ((n - 1 : Nat) : Int) = (n : Int) - 1 by omega] at hln
      have hix := rX.ixe
      rw [HXl.out] at hix
      have f1 : (((n : Int) - 1) != ((n : Int) - 1)) = false := ne_f rfl
      clear h2 hf hT0 K1
      go_wp2_with (go_at_call 32; refine (KV _ _ _ _ rX).out.mono ?_; rintro e w3 ⟨rfl, h3⟩; have rX := rX.keep h3.below; have rm := rm.keep h3.below; have hT2 := hT1.call0 h3; clear h3 hT1)
      refine (b10Perm_c _ cm ms n rm (by omega)).mono ?_
      rintro e w4 ⟨vr, r, rfl, rl, rp, h4⟩
      have rX := rX.keep h4.below
      have rm := rm.keep h4.below
      have rr := h4.rdI 0 rfl
      have hT3 := hT2.call0 h4.out
      have Rr := Lib.hid (And.intro rl rp)
      clear h4 hT2 rl rp
      go_wp2_with fail
      refine (b10Perm_c _ cm ms n rm (by omega)).mono ?_
      rintro e w5 ⟨vy, y, rfl, yl, yp, h5⟩
      have rX := rX.keep h5.below
      have rm := rm.keep h5.below
      have rr := rr.keep h5.below
      have ry := h5.rdI 0 rfl
      have hT4 := hT3.call0 h5.out
      have Ry := Lib.hid (And.intro yl yp)
      clear h5 hT3 yl yp
      go_wp2_with fail
      refine (IdentityPermutation_c n _ (by omega)).mono ?_
      rintro e w6 ⟨vi, rfl, h6⟩
      have rX := rX.keep h6.below
      have rm := rm.keep h6.below
      have rr := rr.keep h6.below
      have ry := ry.keep h6.below
      have ri := h6.rdI 0 rfl
      have hT5 := hT4.call0 h6.out
      have Ri := Lib.hid (And.intro (iot_len n) (iot_isP n))
      clear h6 hT4
      generalize iot n = I at *
      go_wp2_with fail
      refine (b10At_c _ cm ms 30 ((n : Int) - 1) rm (by omega) (by omega) (by omega)).mono ?_
      rintro e w7 ⟨i, rfl, i0, i1, rfl⟩
      obtain ⟨i, rfl⟩ := Int.eq_ofNat_of_zero_le i0
      have hi : i < n - 1 := by omega
      clear i0 i1
      go_wp2_with fail
      refine (b10At_c _ cm ms 31 ((n : Int) - 1) rm (by omega) (by omega) (by omega)).mono ?_
      rintro e w8 ⟨k, rfl, k0, k1, rfl⟩
      obtain ⟨k, rfl⟩ := Int.eq_ofNat_of_zero_le k0
      have hk : k < n - 1 := by omega
      clear k0 k1
      have ci := rX.cell i (by rw [HXl.out]; exact hi)
      have xi := hix (i : Int) i rfl hi
      have LA := Lib.hid (HM.out.lat i (by rw [HXl.out]; exact hi))
      have LB := Lib.hid (HM.out.lat k (by rw [HXl.out]; exact hk))
      have nA := Lib.hid (HXn.out i hi)
      have nB := Lib.hid (HXn.out k hk)
      have pA := Lib.hid (show pv3 (x3at X i).length r I y = true by rw [nA.out]; exact pv3_of (by omega) Rr.out ⟨Ri.out.1, Ri.out.2⟩ Ry.out)
      have pB := Lib.hid (show pv3 (x3at X k).length r I I = true by rw [nB.out]; exact pv3_of (by omega) Rr.out ⟨Ri.out.1, Ri.out.2⟩ ⟨Ri.out.1, Ri.out.2⟩)
      have hr33 : r.length ≤ 1048576 := by rw [Rr.out.1]; omega
      have hy33 : y.length ≤ 1048576 := by rw [Ry.out.1]; omega
      have hI33 : I.length ≤ 1048576 := by rw [Ri.out.1]; omega
      have KA := Lib.hid (Isotope_yes (vat vs i) vr vi vy (vsat uss i) (x3at X i) r I y _ (rX.row i (by rw [HXl.out]; exact hi)) rr ri ry (latB_yes LA.out) hr33 hI33 hy33 pA.out)
      have KB := fun W (a : RIII W v vs uss X) b c => Lib.hid (Isotope_yes (vat vs k) vr vi vi (vsat uss k) (x3at X k) r I I W (a.row k (by rw [HXl.out]; exact hk)) b c c (latB_yes LB.out) hr33 hI33 hI33 pB.out)
      have LA2 := Lib.hid (LA.out.iso (r := r) (c := I) (s := y) Rr.out.2 Ri.out.2 Ry.out.2 (by rw [nA.out]; exact Rr.out.1) (by rw [nA.out]; exact Ri.out.1) (by rw [nA.out]; exact Ry.out.1))
      have LB2 := Lib.hid (LB.out.iso (r := r) (c := I) (s := I) Rr.out.2 Ri.out.2 Ri.out.2 (by rw [nB.out]; exact Rr.out.1) (by rw [nB.out]; exact Ri.out.1) (by rw [nB.out]; exact Ri.out.1))
      have HO : ∃ b : Bool, orB (isoL (x3at X i) r I y) (isoL (x3at X k) r I I) = b ∧ (((i : Int) != (k : Int)) = b) := by
        by_cases e : i = k
        · refine ⟨false, ?_, ne_f (by omega)⟩
          subst e
          refine orB_no fun h => ?_
          have h2 := h.2
          rw [isoL_len] at h2
          exact not_ort LA.out (by rw [nA.out]; exact n2) Rr.out.2 Ri.out.2 (by rw [nA.out]; exact Rr.out.1) (by rw [nA.out]; exact Ri.out.1) h2
        · refine ⟨true, ?_, ne_t (by omega)⟩
          have ho : Ort n (x3at X i) (x3at X k) := by
            rcases Nat.lt_or_ge k i with h | h
            · have := (orB_t (HM.out.ort i k h (by rw [HXl.out]; exact hi))).2
              rwa [nA.out] at this
            · have := (orB_t (HM.out.ort k i (by omega) (by rw [HXl.out]; exact hk))).2
              rw [nB.out] at this
              exact this.symm
          have qA := LA.out.sq0
          have qB := LB.out.sq0
          rw [nB.out, ← nA.out] at qB
          have h3 := Ort.iso (r := r) (c := I) (s := y) (s' := I) qA qB (by rw [nA.out, nB.out]) Rr.out.2 Ri.out.2 Ry.out.2 Ri.out.2 (by rw [nA.out]; exact Rr.out.1) (by rw [nA.out]; exact Ri.out.1) (by rw [nA.out]; exact Ry.out.1) (by rw [nA.out]; exact Ri.out.1) (by rw [nA.out]; exact ho)
          exact orB_yes (by rw [isoL_len, isoL_len, nA.out, nB.out]) (by rw [isoL_len]; exact h3)
      obtain ⟨ob, ho1, ho2⟩ := HO
      have KO := fun W va ua vb ub a b => Lib.hid (Orthogonal_c va vb ua ub _ _ W a b LA2.out LB2.out)
      rw [ho1] at KO
      generalize isoL (x3at X i) r I y = A2 at *
      generalize isoL (x3at X k) r I I = B2 at *
      clear ho1 pA pB LA LB LA2 LB2 nA nB hr33 hy33 hI33
      go_wp2_with fail
      refine KA.out.mono ?_
      rintro e w9 ⟨va, ua, rfl, hla, h9⟩
      have rX := rX.keep h9.below
      have rm := rm.keep h9.below
      have rr := rr.keep h9.below
      have ri := ri.keep h9.below
      have rA := h9.rii hla
      have hT6 := hT5.call0 h9.out
      have ck := rX.cell k (by rw [HXl.out]; exact hk)
      have xk := hix (k : Int) k rfl hk
      clear h9 hla hT5 KA ci xi ry
      go_wp2_with fail
      refine (KB _ rX rr ri).out.mono ?_
      rintro e w10 ⟨vb, ub, rfl, hlb, h10⟩
      have rX := rX.keep h10.below
      have rm := rm.keep h10.below
      have rA := rA.keep h10.below
      have rB := h10.rii hlb
      have hT7 := hT6.call0 h10.out
      clear h10 hlb hT6 KB ck xk rr ri
      have hn2f : ¬ (n : Int) < 2 := by omega
      -- the second field
      have HY : ∀ x : Int, 0 ≤ x → x ≤ 1 → ∃ (m : Nat) (p : Int) (D : Nat) (fs : List Int), 2 + x = (m : Int) ∧ FQ m p D fs ∧ mkfP m = p ∧ mkfD m = D ∧ mkfL m = fs ∧ mkfC m = 0 := fun x x0 x1 => by
        have hxx : mkOk (2 + x) = true := by
          rcases (show x = 0 ∨ x = 1 by omega) with rfl | rfl
          · exact mk2
          · exact mk3
        obtain ⟨m, p, D, fs, e, hF, h1, h2, h3, h4⟩ := mk_fq hxx (by omega)
        rw [e] at h1 h2 h3 h4
        exact ⟨m, p, D, fs, e, hF, h1, h2, h3, h4⟩
      have HYh := Lib.hid HY
      clear HY
      cases ob
      all_goals
        go_wp2_with (go_at_call 34; refine (KO _ _ _ _ _ rA rB).out.mono ?_; rintro e w11 ⟨rfl, h11⟩; have rX := rX.keep h11.below; have rm := rm.keep h11.below; have hT8 := hT7.call0 h11; clear h11 hT7)
        refine (b10At_c _ cm ms 32 2 rm (by omega) (by omega) (by omega)).mono ?_
        rintro e w12 ⟨x, rfl, x0, x1, rfl⟩
        obtain ⟨m, p', D', fs', hxm, hF, hP', hD', hL', hC'⟩ := HYh.out x x0 (by omega)
        have m2 := hF.n2
        have m3 : m ≤ 3 := by omega
        have K2 := fun W => Lib.hid (FieldMols_c m p' D' fs' W hF hP' hD' hL' hC')
        have HM' := Lib.hid (fmL_mols hF.fv hF.pow m2 (by omega))
        have HYl := Lib.hid (fmL_len p' D' fs' m (m - 1))
        have HY0 := Lib.hid (show (x3at (fmL p' D' fs' m (m - 1)) 0).length = m by rw [fmL_at (by omega)]; exact (fsq_sq0 hF.fv hF.pow _).len)
        generalize fmL p' D' fs' m (m - 1) = Y at *
        have hw : IntKind.i64.wrap (m : Int) = (m : Int) := IntWalk.i64_in _ (by omega)
        clear hF hP' hD' hL' hC' x1 x0 HYh
        go_wp2_with fail
        clear hxm
        refine (K2 _).out.mono ?_
        rintro e w13 ⟨v', vs', uss', rfl, hf', h13⟩
        have rX := rX.keep h13.below
        have rY := IIIK.riii hf' h13
        have hT9 := hT8.call0 h13.out
        have hlY := rY.len
        rw [HYl.out] at hlY
        have cY := rY.cell 0 (by rw [HYl.out]; omega)
        have xY := rY.ixe 0 0 rfl (by rw [HYl.out]; omega)
        have lY0 := (rY.row 0 (by rw [HYl.out]; omega)).len
        rw [HY0.out] at lY0
        have f2 : (((m - 1 : Nat) : Int) == 0) = false := eq_f (by omega)
        have f3 : ((m : Int) == 0) = false := eq_f (by omega)
        have hn0 := Lib.hid (HXn.out 0 (by omega))
        clear h13 hf' hT8 K2
        obtain ⟨N, hN⟩ : ∃ N, N = n * m := ⟨_, rfl⟩
        have hmul : (m : Int) * (n : Int) = (N : Int) := by rw [hN, Int.mul_comm]; rfl
        have hNle : N ≤ 30 := by rw [hN]; exact Nat.mul_le_mul n10 m3
        by_cases h10 : N ≤ 10
        · have KP := fun W a b => Lib.hid (ProductMols_yes v v' vs vs' uss uss' X Y n m W a b HM.out HM'.out hn0.out.symm HY0.out.symm (by rw [← hN]; exact h10))
          have HMP := Lib.hid (pmL_mols (n := n) (m := m) HM.out HM'.out hn0.out.symm HY0.out.symm (by rw [← hN]; exact h10) (k := min X.length Y.length) (by rw [HXl.out, HYl.out]; omega) (Nat.min_le_left _ _) (Nat.min_le_right _ _))
          generalize pmL n m X Y (min X.length Y.length) = Z at *
          have KZ := fun W v vs uss a => Lib.hid (ValidMols_c v vs uss Z W a (sml_of HMP.out))
          rw [molB_yes HMP.out] at KZ
          have h10' : ¬ 10 < N := by omega
          clear hN HMP
          go_wp2_with fail
          refine (KP _ rX rY).out.mono ?_
          rintro e w14 ⟨vz, vsz, ussz, rfl, hfz, h14⟩
          have rZ := IIIK.riii hfz h14
          have rY2 := rY.keep h14.below
          have cY2 := rY2.cell 0 (by rw [HYl.out]; omega)
          have hT10 := hT9.call0 h14.out
          clear h14 hfz hT9 KP cY rY rY2
          go_wp2_with (go_at_call 32; refine (KZ _ _ _ _ rZ).out.mono ?_; rintro e w15 ⟨rfl, h15⟩; have hT11 := hT10.call0 h15)
          go_ret
          exact ⟨rfl, hT11⟩
        · have KP := fun W a b => Lib.hid (ProductMols_no v v' vs vs' uss uss' X Y n m W a b HM.out HM'.out hn0.out.symm HY0.out.symm (by rw [← hN]; exact h10))
          have h10' : 10 < N := by omega
          clear hN h10
          go_wp2_with fail
          refine (KP _ rX rY).out.mono ?_
          rintro e w14 ⟨vz, vsz, ussz, rfl, hfz, h14⟩
          have rY2 := rY.keep h14.below
          have cY2 := rY2.cell 0 (by rw [HYl.out]; omega)
          have hT10 := hT9.call0 h14.out
          clear h14 hfz hT9 KP cY rY rY2
          go_wp2_with fail
          go_ret
          exact ⟨rfl, hT10⟩
end Go.Proofs.Ytpfgbbbjldpnnaa
