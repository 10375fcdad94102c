/- The law's plain part: polynomial arrays, derived and joined, have their strengths. -/
import Derived.Test.YtcenabaklokhhaaPDr
import Derived.Test.YtcenabaklokhhaaPoly
import Derived.Test.YtcenabaklokhhaaStr3
namespace Go.Proofs.Ytcenabaklokhhaa
set_option linter.unusedSimpArgs false
set_option linter.unusedVariables false
theorem polyRows_eq (q t m n : Nat) : polyRows q t m n = rowsP q t m n := by
  unfold polyRows rowsP
  refine List.map_congr_left fun k _ => ?_
  unfold digs
  rw [lows_dgt]; rfl
/-- what a polynomial array is -/
theorem poly_oa {q t c : Int} (h : polyOk q t c = true) (hp : ¬ pu q 256 t.toNat 1 > 256) : ∃ (Q T m : Nat), q = Q ∧ t = T ∧ c = m ∧ 2 ≤ Q ∧ 1 ≤ T ∧ T ≤ m ∧ m ≤ 8 ∧ Q ≤ 16 ∧ T ≤ Q ∧ m ≤ Q + 1 ∧ pu q 256 t.toNat 1 = ((Q ^ T : Nat) : Int) ∧ Q ^ T ≤ 256 ∧
    OA1 Q m T (polyRows q.toNat t.toNat c.toNat (pu q 256 t.toNat 1).toNat) := by
  unfold polyOk at h
  rw [Bool.and_eq_true, Bool.and_eq_true, Bool.and_eq_true] at h
  obtain ⟨h1, h2, h3, h4⟩ := h
  obtain ⟨Q, rfl, hQ2, hQ64, hmk⟩ := mkOk_t h1
  simp only [inB, Bool.and_eq_true, decide_eq_true_eq] at h2 h3 h4
  obtain ⟨T, rfl⟩ := Int.eq_ofNat_of_zero_le (show 0 ≤ t by omega)
  obtain ⟨m, rfl⟩ := Int.eq_ofNat_of_zero_le (show 0 ≤ c by omega)
  have e := pu_pow (base := (Q : Int)) (lim := 256) (by omega) T 1 (by omega) (by rw [Int.toNat_natCast] at hp; omega)
  rw [Int.one_mul, ← Int.natCast_pow] at e
  simp only [Int.toNat_natCast] at hp ⊢
  refine ⟨Q, T, m, rfl, rfl, rfl, hQ2, by omega, by omega, by omega, by omega, by omega, by omega, e, by omega, ?_⟩
  rw [e, Int.toNat_natCast, polyRows_eq]
  exact rowsP_oa hQ2 hQ64 hmk (by omega) (by omega)
/-- the index of the strength T is 1 -/
theorem OA1.strN {Q m T : Nat} {rows : List (List Int)} (h : OA1 Q m T rows) (hlv : 2 ≤ Q) (hT : 1 ≤ T) (hTm : T ≤ m) (hm8 : m ≤ 8) (hK : Q ^ T ≤ 256) : Go.Proofs.Ytcenabaklokhhaa.strN Q m rows T = 1 := by
  have e := pu_le (base := (Q : Int)) (lim := 256) (by omega) T 1 (by omega) (by rw [Int.one_mul, ← Int.natCast_pow]; omega)
  rw [Int.one_mul, ← Int.natCast_pow] at e
  unfold Go.Proofs.Ytcenabaklokhhaa.strN
  rw [e]; exact h.str hlv hT hTm hm8
theorem OA1.strN2 {Q m T : Nat} {rows : List (List Int)} (h : OA1 Q m T rows) (hlv : 2 ≤ Q) (hT : 1 ≤ T) (hTm : T ≤ m) (hm8 : m ≤ 8) (hK : Q ^ T ≤ 256) : Go.Proofs.Ytcenabaklokhhaa.strN Q m (rows ++ rows) T = 2 := by
  have e := pu_le (base := (Q : Int)) (lim := 256) (by omega) T 1 (by omega) (by rw [Int.one_mul, ← Int.natCast_pow]; omega)
  rw [Int.one_mul, ← Int.natCast_pow] at e
  unfold Go.Proofs.Ytcenabaklokhhaa.strN
  rw [e]; exact h.twice hlv hT hTm hm8
/-- the greatest strength is at least T -/
theorem strF_ge {lv co : Int} {rows : List (List Int)} {T : Nat} (hT : 1 ≤ T) (h : 0 < Go.Proofs.Ytcenabaklokhhaa.strN lv co rows T) : ∀ m, T ≤ m → (T : Int) ≤ strF lv co rows m
  | 0, h0 => by omega
  | m + 1, hm => by
    rw [strF]
    split
    · omega
    · rename_i hno
      have hne : T ≠ m + 1 := fun e => hno (e ▸ h)
      exact strF_ge hT h m (by omega)
end Go.Proofs.Ytcenabaklokhhaa
