/- Laws of a finite field, as the laws of the program ask for them; a field of the same size. -/
import Derived.Test.YtcenabaklokhhaaMf
import Derived.Test.YtcenabaklokhhaaFop
namespace Go.Proofs.Ytcenabaklokhhaa
set_option linter.unusedSimpArgs false
set_option linter.unusedVariables false
open Go.RowKit
structure FieldLaw (p : Int) (D : Nat) (fs : List Int) (a b c : Int) : Prop where
  ab : fsum p D b a 1 = fsum p D a b 1
  mb : fmul p D fs b a = fmul p D fs a b
  aa : fsum p D (fsum p D a b 1) c 1 = fsum p D a (fsum p D b c 1) 1
  ma : fmul p D fs (fmul p D fs a b) c = fmul p D fs a (fmul p D fs b c)
  ds : fmul p D fs a (fsum p D b c 1) = fsum p D (fmul p D fs a b) (fmul p D fs a c) 1
  sb : fsum p D (fsum p D a b 1) b (-1) = a
theorem fieldLaw {p : Int} {D : Nat} {fs : List Int} {a b c : Int} (h : FV p D fs) (ha : El p D a) (hb : El p D b) (_ : El p D c) : FieldLaw p D fs a b c where
  ab := fsum_comm _ _
  mb := fmul_comm h.fa _ _
  aa := fadd_assoc h.fa a hb c
  ma := fmul_assoc h.fa a b c
  ds := fmul_fsum h.fa a b c 1
  sb := fsum_undo h.fa.pos ha b 1 (-1) rfl
/-- a field of the same size, and the code 0 -/
def SameSz (w : World) (q : Int) (e : Ending) (w' : World) : Prop := ∃ (p : Int) (D : Nat) (v : Value) (fs : List Int), e = .returned (.tuple #[fv p D v, .int .i64 0]) ∧ FV p D fs ∧ p ^ D = q ∧ St w.heap.size w w' [row 2 v (iv fs)]
theorem makeLaw {p : Int} {D : Nat} {fs : List Int} (h : FV p D fs) (w : World) : Calls Try.prog 27 #[.int .i64 (p ^ D)] w (SameSz w (p ^ D)) := by
  have hq64 := h.q64
  have hq2 : 2 ≤ p ^ D := by have := q1_cast h; have := q1_pos h; omega
  obtain ⟨q, hq⟩ := Int.eq_ofNat_of_zero_le (show 0 ≤ p ^ D by omega)
  have hs := (split_ok h.p2 h.p64 h.d1 h.d6 h.q).2 h.pr
  rw [Int.toNat_natCast, hq, Int.toNat_natCast] at hs
  rw [hq] at hq64 hq2 ⊢
  have h0 : (spl q).1 ≠ 0 := by have := h.p2; omega
  have hmk := mk_of (q := q) (by omega) (by omega) h0
  have hok : mkOk (q : Int) = true := by
    unfold mkOk
    rw [decide_eq_true (by omega), decide_eq_true (by omega), Int.toNat_natCast]
    simpa using h0
  refine (MakeField_c (q : Int) w).mono fun e w' ⟨v, he, h'⟩ => ?_
  refine ⟨((spl q).1 : Nat), (spl q).2, v, mkF q, ?_, hmk.fv (by omega), ?_, ?_⟩
  · rw [he, mkfP, mkfD, mkfC, if_pos hok, if_pos hok, if_pos hok, Int.toNat_natCast]
  · rw [← Int.natCast_pow, hmk.pw]
  · rw [mkfL, if_pos hok, Int.toNat_natCast] at h'; exact h'
theorem sValidField_c (p d : Int) (v : Value) (xs : List Int) (w : World) (hv : RdI w v xs) : Calls Try.prog 28 #[fv p d v] w (GivesB w (fOk p d xs)) := by
  have hS0 := (St.refl w).newboxF 25 #[.int .i64 p, .int .i64 d, v]
  have HV := Lib.hid (l03Ok_c p d _ v xs _ (hS0.oldI hv) ⟨hS0.bcell 0 rfl 0 rfl, hS0.bcell 0 rfl 1 rfl, hS0.bcell 0 rfl 2 rfl⟩)
  unfold fv
  go_enter Try.func28, Try.ntmps28
  go_wp2_with fail
  refine HV.out.mono ?_
  rintro e w1 ⟨rfl, h1⟩
  have hS1 := hS0.call0 h1
  go_wp2_with fail
  go_ret
  exact ⟨rfl, hS1.out⟩
end Go.Proofs.Ytcenabaklokhhaa
