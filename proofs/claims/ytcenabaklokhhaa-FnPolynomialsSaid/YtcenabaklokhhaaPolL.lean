/- Polynomial arrays, as the law asks for them, in plain terms. -/
import Derived.Test.YtcenabaklokhhaaPolS
import Derived.Test.YtcenabaklokhhaaJoin
namespace Go.Proofs.Ytcenabaklokhhaa
set_option linter.unusedSimpArgs false
set_option linter.unusedVariables false
theorem derRows_dr (c : Nat) (x : Int) (rows : List (List Int)) : derRows c x rows = drRows c x rows := rfl
theorem OA1.okA {Q m T : Nat} {rows : List (List Int)} (h : OA1 Q m T rows) (hs : shapeB Q m = true) (hl : rows.length ≤ 256) : Go.Proofs.Ytcenabaklokhhaa.okA Q m rows = true := by
  unfold Go.Proofs.Ytcenabaklokhhaa.okA
  rw [hs, decide_eq_true hl]
  simp only [Bool.and_true, Bool.true_and, List.all_eq_true]
  intro r hr
  have h1 := h.len r hr
  unfold rowOk
  rw [decide_eq_true (by omega)]
  simp only [Bool.true_and, anyP, Bool.not_eq_true', List.any_eq_false]
  intro x hx
  obtain ⟨j, hj, rfl⟩ := List.getElem_of_mem hx
  have := h.bd r hr j (by omega)
  have e : pn r j = r[j] := by simp [pn, hj]
  rw [e] at this
  rw [inB_true (by omega)]; simp
theorem okA_app {lv co : Int} {a b : List (List Int)} (ha : okA lv co a = true) (hb : okA lv co b = true) (h : a.length + b.length ≤ 256) : okA lv co (a ++ b) = true := by
  unfold okA at *
  simp only [Bool.and_eq_true, decide_eq_true_eq, List.all_append, List.length_append] at *
  exact ⟨⟨ha.1.1, h⟩, ha.2, hb.2⟩
theorem drRows_len (c : Nat) (x : Int) (rows : List (List Int)) : (drRows c x rows).length ≤ rows.length := by
  unfold drRows; rw [List.length_map]; exact List.length_filter_le _ _
/-- what the law asks of an array that is made -/
structure PolLaw (q t c : Int) (A : AV) : Prop where
  lv : A.lv = q
  co : A.co = c
  len : A.rows.length ≤ 256
  si : strC q c A.rows t = 0 ∧ strI q c A.rows t = 1
  so : t ≤ strO q c A.rows
  q2 : 2 ≤ q
  q16 : q ≤ 16
  t1 : 1 ≤ t
  t8 : t ≤ 8
  c1 : 1 ≤ c
  c8 : c ≤ 8
  dr : 1 < c → 1 < t → ∀ c0 x, 0 ≤ c0 → c0 ≤ c - 1 → 0 ≤ x → x ≤ q - 1 → ∃ R, derC q c A.rows c0 x = 0 ∧ derA q c A.rows c0 x = ⟨q, c - 1, R⟩ ∧
    strC q (c - 1) R (t - 1) = 0 ∧ strI q (c - 1) R (t - 1) = 1
  jn5 : 128 < A.rows.length → joinC q c A.rows q c A.rows = 5
  jn : ¬ 128 < A.rows.length → joinC q c A.rows q c A.rows = 0 ∧ (joinA q c A.rows q c A.rows).lv = q ∧ (joinA q c A.rows q c A.rows).co = c ∧
    strC q c (joinA q c A.rows q c A.rows).rows t = 0 ∧ strI q c (joinA q c A.rows q c A.rows).rows t = 2
theorem polLaw {q t c : Int} (h : polyC q t c = 0) : PolLaw q t c (polyA q t c) := by
  have hok : polyOk q t c = true := by
    cases e : polyOk q t c
    · rw [polyC, e] at h; simp at h
    · rfl
  have hp : ¬ pu q 256 t.toNat 1 > 256 := fun e => by rw [polyC, if_pos hok, if_pos e] at h; cases h
  obtain ⟨Q, T, m, rfl, rfl, rfl, hQ2, hT1, hTm, hm8, hQ16, hTQ, hmQ, hpu, hK, hoa⟩ := poly_oa hok hp
  have hA : polyA Q T m = ⟨Q, m, polyRows (Q : Int).toNat (T : Int).toNat (m : Int).toNat (pu Q 256 (T : Int).toNat 1).toNat⟩ := by rw [polyA, if_pos hok, if_neg hp]
  have hlen : (polyRows (Q : Int).toNat (T : Int).toNat (m : Int).toNat (pu Q 256 (T : Int).toNat 1).toNat).length = Q ^ T := by rw [polyRows_len, hpu, Int.toNat_natCast]
  rw [hA]
  generalize polyRows (Q : Int).toNat (T : Int).toNat (m : Int).toNat (pu Q 256 (T : Int).toNat 1).toNat = rows at *
  have hsh : shapeB (Q : Int) (m : Int) = true := by unfold shapeB; rw [inB_true (by omega), inB_true (by omega)]; rfl
  have hA' := hoa.okA hsh (by omega)
  have hs := strC_0 (t := (T : Int)) hA' (inB_true (by omega))
  have hstr := hoa.strN hQ2 hT1 hTm hm8 hK
  refine ⟨rfl, rfl, by show rows.length ≤ 256; omega, ⟨hs.1, by rw [hs.2, Int.toNat_natCast]; exact hstr⟩, ?_, by omega, by omega, by omega, by omega, by omega, by omega, ?_, ?_, ?_⟩
  · unfold strO; rw [if_pos hA', Int.toNat_natCast]
    exact strF_ge hT1 (by rw [hstr]; omega) m hTm
  · intro hc1 ht1 c0 x h0 h1 x0 x1
    obtain ⟨c0, rfl⟩ := Int.eq_ofNat_of_zero_le h0
    obtain ⟨m', rfl⟩ := Nat.exists_eq_add_of_le' (show 1 ≤ m by omega)
    obtain ⟨T', rfl⟩ := Nat.exists_eq_add_of_le' hT1
    have hd := hoa.der hQ2 (c := c0) (by omega) x0 x1
    have hdl := drRows_len c0 x rows
    have hne : ((m' + 1 : Nat) : Int) ≠ 1 := by omega
    have hg : derGood Q ((m' + 1 : Nat) : Int) rows c0 x = true := by
      unfold derGood; rw [hA', inB_true (by omega), inB_true (by omega), decide_eq_true hne]; rfl
    have hdA : derA Q ((m' + 1 : Nat) : Int) rows c0 x = ⟨Q, ((m' + 1 : Nat) : Int) - 1, drRows c0 x rows⟩ := by rw [derA, if_pos hg, Int.toNat_natCast]; rfl
    have hdC : derC Q ((m' + 1 : Nat) : Int) rows c0 x = 0 := by
      unfold derC; rw [if_neg (by rw [hA']; simp), if_neg (by rw [inB_true (by omega), inB_true (by omega)]; simp), if_neg hne]
    have e1 : ((m' + 1 : Nat) : Int) - 1 = (m' : Int) := by omega
    have e2 : ((T' + 1 : Nat) : Int) - 1 = (T' : Int) := by omega
    have hsh' : shapeB (Q : Int) (m' : Int) = true := by unfold shapeB; rw [inB_true (by omega), inB_true (by omega)]; rfl
    have hdO := hd.okA hsh' (by omega)
    have hK' : Q ^ T' ≤ 256 := Nat.le_trans (Nat.pow_le_pow_right (by omega) (by omega)) hK
    have hs' := strC_0 (t := (T' : Int)) hdO (inB_true (by omega))
    refine ⟨_, hdC, hdA, ?_, ?_⟩
    · rw [e1, e2]; exact hs'.1
    · rw [e1, e2, hs'.2, Int.toNat_natCast]; exact hd.strN hQ2 (by omega) (by omega) (by omega) hK'
  · intro h128
    exact joinC_5 hA' hA' ⟨rfl, rfl⟩ (by show 256 < rows.length + rows.length; have : 128 < rows.length := h128; omega)
  · intro h128
    have h128' : ¬ 128 < rows.length := h128
    have hj := joinC_0 hA' hA' ⟨rfl, rfl⟩ (show ¬ 256 < rows.length + rows.length by omega)
    have hjA : joinA Q m rows Q m rows = ⟨Q, m, rows ++ rows⟩ := by rw [joinA, if_pos hj]
    have hjO := okA_app hA' hA' (show rows.length + rows.length ≤ 256 by omega)
    have hs2 := strC_0 (t := (T : Int)) hjO (inB_true (by omega))
    refine ⟨hj, by rw [hjA], by rw [hjA], ?_, ?_⟩
    · rw [hjA]; exact hs2.1
    · rw [hjA, hs2.2, Int.toNat_natCast]; exact hoa.strN2 hQ2 hT1 hTm hm8 hK
theorem polyA_no {q t c : Int} (h : polyC q t c ≠ 0) : polyA q t c = noA := by
  unfold polyC at h
  unfold polyA
  split
  · rename_i h1
    rw [if_pos h1] at h
    split
    · rfl
    · rename_i h2; rw [if_neg h2] at h; exact absurd rfl h
  · rfl
end Go.Proofs.Ytcenabaklokhhaa
