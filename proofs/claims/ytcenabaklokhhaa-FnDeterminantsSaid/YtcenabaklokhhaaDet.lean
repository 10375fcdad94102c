/- Walks: DeterminantOf of both sides. Walks: DeterminantOf of both sides. -/
import Derived.Test.YtcenabaklokhhaaRR
import Derived.Test.YtcenabaklokhhaaPInv
namespace Go.Proofs.Ytcenabaklokhhaa
set_option linter.unusedSimpArgs false
set_option linter.unusedVariables false
open Go.RowKit
attribute [local go_sem ↓] Go.wp_at_zero Go.wp_at_succ


theorem detS_none {p : Int} {D : Nat} {fs : List Int} {S : List (List Int)} {det : Int} {n c : Nat} (hc : c < n) (h : fnz S c c = none) : detS p D fs (n - c) c S det = 0 := by
  obtain ⟨k, hk⟩ : ∃ k, n - c = k + 1 := ⟨n - c - 1, by omega⟩
  rw [hk, detS, h]
theorem detS_some {p : Int} {D : Nat} {fs : List Int} {S : List (List Int)} {det : Int} {n c i : Nat} (hc : c < n) (h : fnz S c c = some i) : detS p D fs (n - c) c S det = detS p D fs (n - (c + 1)) (c + 1) (elimD p D fs (swp S c i) (ra S i) c (finv p D fs (cf (ra S i) c)) S.length) (fmul p D fs (if i = c then det else fsum p D 0 det (-1)) (cf (ra S i) c)) := by
  obtain ⟨k, hk⟩ : ∃ k, n - c = k + 1 := ⟨n - c - 1, by omega⟩
  rw [hk, detS, h, show n - (c + 1) = k by omega]

def detC (p d : Int) (xs : List Int) (m : List (List Int)) : Int := if matOk p d xs m = true then (if m.length = (xat m 0).length then 0 else 6) else 1
def detM (p d : Int) (xs : List Int) (m : List (List Int)) : Int := if detC p d xs m = 0 then (redM p d xs m).2.2 else 0

set_option maxHeartbeats 4000000 in
set_option maxRecDepth 100000 in
theorem DeterminantOf_c (p d : Int) (v : Value) (xs : List Int) (vm : Value) (us : List Value) (xss : List (List Int)) (w : World) (hv : RdI w v xs) (hm : RII w vm us xss) (hd : d ≤ 9223372036854775807) :
    Calls Try.prog 16 #[fv p d v, vm] w (Gives2I w (detM p d xs xss) (detC p d xs xss)) := by
  have hS0 := (St.refl w).newboxF 25 #[.int .i64 p, .int .i64 d, v]
  have HV := Lib.hid (ValidMatrix_c p d v xs vm us xss _ (hS0.oldI hv) (hS0.oldII hm) hd)
  have a0 := hS0.bcell 0 rfl 0 rfl
  have a1 := hS0.bcell 0 rfl 1 rfl
  have a2 := hS0.bcell 0 rfl 2 rfl
  unfold fv at HV ⊢
  cases h1 : matOk p d xs xss
  · have HC := Lib.hid (show detC p d xs xss = 1 by rw [detC, if_neg (by rw [h1]; simp)])
    have HM := Lib.hid (show detM p d xs xss = 0 by rw [detM, HC.out]; rfl)
    have H1 := Lib.hid h1; clear h1
    go_enter Try.func16, Try.ntmps16
    go_wp2_with fail
    refine HV.out.mono ?_
    rw [H1.out]
    rintro e w1 ⟨rfl, h1⟩
    have hS1 := hS0.call0 h1
    go_wp2_with fail
    go_ret2
    rw [HM.out, HC.out]
    exact ⟨rfl, hS1.out⟩
  · have hmv := matOk_t h1
    obtain ⟨D, rfl⟩ := Int.eq_ofNat_of_zero_le (show 0 ≤ d by have := hmv.f.d1; omega)
    have hr1 := hmv.rows1
    have hx0 := hm.ixe 0 0 rfl hr1
    have hl0 := (hm.row 0 hr1).len
    have hlm := hm.len
    by_cases hsq : xss.length = (xat xss 0).length
    · have f1 := ne_f (show (xss.length : Int) = ((xat xss 0).length : Int) by omega)
      have HC := Lib.hid (show detC p D xs xss = 0 by rw [detC, if_pos h1, if_pos hsq])
      have HM := Lib.hid (show detM p D xs xss = (red p D xs (xat xss 0).length 0 xss [] 1).2.2 by rw [detM, if_pos HC.out]; rfl)
      have H1 := Lib.hid h1; clear h1
      have HT := fun W (hv : RdI W v xs) => Lib.hid (tablesOf_c p D v xs W hv hmv.f)
      have HR := fun va ua vs us' vm' um vi W (ht : TB W p D xs va ua vs us' vm' um vi) (h : RII W vm us xss) => Lib.hid (reduce_c p D xs va ua vs us' vm' um vi vm us xss (xat xss 0).length W ht h hmv.f (by have := hmv.cols; omega) (by have := hmv.rows; omega) hmv.rct)
      generalize red p D xs (xat xss 0).length 0 xss [] 1 = X at HM HR
      clear hmv hsq
      unfold fv at HT
      unfold tv at HR
      go_enter Try.func16, Try.ntmps16
      go_wp2_with fail
      refine HV.out.mono ?_
      rw [H1.out]
      rintro e w1 ⟨rfl, h1⟩
      have hS1 := hS0.call0 h1
      have c0 := hS1.bcell 0 rfl 0 rfl
      have c1 := hS1.bcell 0 rfl 1 rfl
      have c2 := hS1.bcell 0 rfl 2 rfl
      have hc0 := (hS1.oldII hm).cell 0 hr1
      go_wp2_with fail
      refine (HT _ (hS1.oldI hv)).out.mono ?_
      rintro e w3 ⟨va, ua, vs, us', vm', um, vi, rfl, hua, hus, hum, h3⟩
      have hS3 := hS1.call0 h3.out
      have hTB := tb_of h3 hua hus hum
      go_wp2_with fail
      refine (HR va ua vs us' vm' um vi _ hTB (hS3.oldII hm)).out.mono ?_
      rintro e w4 ⟨v4, u4, p4, rfl, hl4, hk4, h4⟩
      have hS4 := hS3.call h4
      clear hl4 hk4
      go_wp2_with fail
      go_ret2
      rw [HM.out, HC.out]
      exact ⟨rfl, hS4.out⟩
    · have f1 := ne_t (show (xss.length : Int) ≠ ((xat xss 0).length : Int) by omega)
      have HC := Lib.hid (show detC p D xs xss = 6 by rw [detC, if_pos h1, if_neg hsq])
      have HM := Lib.hid (show detM p D xs xss = 0 by rw [detM, HC.out]; rfl)
      have H1 := Lib.hid h1; clear h1
      clear hmv hsq
      go_enter Try.func16, Try.ntmps16
      go_wp2_with fail
      refine HV.out.mono ?_
      rw [H1.out]
      rintro e w1 ⟨rfl, h1⟩
      have hS1 := hS0.call0 h1
      have hc0 := (hS1.oldII hm).cell 0 hr1
      go_wp2_with fail
      go_ret2
      rw [HM.out, HC.out]
      exact ⟨rfl, hS1.out⟩

end Go.Proofs.Ytcenabaklokhhaa
