/- Walks: RowReduce, PivotsOf, RankOf of both sides. -/
import Derived.Test.YtcenabaklokhhaaRS
namespace Go.Proofs.Ytcenabaklokhhaa
set_option linter.unusedSimpArgs false
set_option linter.unusedVariables false
open Go.RowKit
attribute [local go_sem ↓] Go.wp_at_zero Go.wp_at_succ

theorem tb_of {w w' : World} {p : Int} {D : Nat} {fs : List Int} {va vs vm vi : Value} {ua us um : List Value}
    (h : St w.heap.size w w' (own2 va ua (tb (qn p D) (fAdd p D)) ++ own2 vs us (tb (qn p D) (fSub p D)) ++ own2 vm um (tb (qn p D) (fMul p D fs)) ++ [row 2 vi (iv (invT p D fs))]))
    (h1 : ua.length = qn p D) (h2 : us.length = qn p D) (h3 : um.length = qn p D) : TB w' p D fs va ua vs us vm um vi :=
  ⟨(h.sub (by simp [List.append_assoc])).rii (by rw [tb_len]; exact h1),
   (h.perm (L' := own2 vs us (tb (qn p D) (fSub p D)) ++ (own2 va ua (tb (qn p D) (fAdd p D)) ++ own2 vm um (tb (qn p D) (fMul p D fs)) ++ [row 2 vi (iv (invT p D fs))])) (by (try simp only [own2, List.cons_append, List.nil_append, List.append_nil]); classical exact List.perm_iff_count.2 (fun a => by simp only [List.cons_append, List.nil_append, List.append_nil, List.count_append, List.count_cons, List.count_nil] <;> omega)) |>.sub (List.sublist_append_left _ _)).rii (by rw [tb_len]; exact h2),
   (h.perm (L' := own2 vm um (tb (qn p D) (fMul p D fs)) ++ (own2 va ua (tb (qn p D) (fAdd p D)) ++ own2 vs us (tb (qn p D) (fSub p D)) ++ [row 2 vi (iv (invT p D fs))])) (by (try simp only [own2, List.cons_append, List.nil_append, List.append_nil]); classical exact List.perm_iff_count.2 (fun a => by simp only [List.cons_append, List.nil_append, List.append_nil, List.count_append, List.count_cons, List.count_nil] <;> omega)) |>.sub (List.sublist_append_left _ _)).rii (by rw [tb_len]; exact h3),
   (h.sub (List.sublist_append_right _ _)).rdI 0 rfl⟩
theorem MV.rct {p : Int} {D : Nat} {xs : List Int} {m : List (List Int)} (h : MV p D xs m) : Rect p D (xat m 0).length m := fun r hr => ⟨h.rect r hr, by have := h.inp r hr; rwa [Int.toNat_natCast] at this⟩
/-- the reduced form of a matrix -/
def redM (p d : Int) (xs : List Int) (m : List (List Int)) : List (List Int) × List Int × Int := red p d.toNat xs (xat m 0).length 0 m [] 1
def rrM (p d : Int) (xs : List Int) (m : List (List Int)) : List (List Int) := if matOk p d xs m = true then (redM p d xs m).1.take (redM p d xs m).2.1.length else []
def pvM (p d : Int) (xs : List Int) (m : List (List Int)) : List Int := if matOk p d xs m = true then (redM p d xs m).2.1 else []
def rkM (p d : Int) (xs : List Int) (m : List (List Int)) : Int := (pvM p d xs m).length
/-- a list and a code -/
def MakesLC (w : World) (xs : List Int) (c : Int) (e : Ending) (w' : World) : Prop := ∃ v, e = .returned (.tuple #[v, .int .i64 c]) ∧ St w.heap.size w w' [row 2 v (iv xs)]

theorem red_pre {p : Int} {D : Nat} {fs : List Int} (hf : FA p D fs) {N : Nat} : ∀ (n c : Nat) {R : List (List Int)} {piv : List Int} {det : Int}, Rect p D N R → piv.length ≤ R.length →
    Rect p D N (red p D fs n c R piv det).1 ∧ (red p D fs n c R piv det).1.length = R.length ∧ (red p D fs n c R piv det).2.1.length ≤ R.length
  | 0, _, _, _, _, h, hp => ⟨h, rfl, hp⟩
  | n + 1, c, R, piv, det, h, hp => by
    rw [red]
    by_cases h0 : R.length ≤ piv.length
    · rw [if_pos h0]; exact ⟨h, rfl, hp⟩
    · rw [if_neg h0]
      cases hz : fnz R piv.length c with
      | none => exact red_pre hf n (c + 1) h hp
      | some i =>
        have hi := (fnz_some hz).2.1
        have := red_pre hf n (c + 1) (R := stepR p D fs R piv.length c i) (piv := piv ++ [(c : Int)]) (det := fmul p D fs (if i = piv.length then det else fsum p D 0 det (-1)) (cf (ra R i) c)) (h.stepR hf (by omega) hi) (by rw [stepR_len]; simp; omega)
        rw [stepR_len] at this
        exact this

set_option maxHeartbeats 4000000 in
set_option maxRecDepth 100000 in
theorem PivotsOf_c (p d : Int) (v : Value) (xs : List Int) (vm : Value) (us : List Value) (xss : List (List Int)) (w : World) (hv : RdI w v xs) (hm : RII w vm us xss) (hd : d ≤ 9223372036854775807) :
    Calls Try.prog 105 #[fv p d v, vm] w (MakesLC w (pvM p d xs xss) (matC p d xs xss)) := by
  have hS0 := (St.refl w).newboxF 25 #[.int .i64 p, .int .i64 d, v]
  have HV := Lib.hid (ValidMatrix_c p d v xs vm us xss _ (hS0.oldI hv) (hS0.oldII hm) hd)
  have a0 := hS0.bcell 0 rfl 0 rfl
  have a1 := hS0.bcell 0 rfl 1 rfl
  have a2 := hS0.bcell 0 rfl 2 rfl
  unfold fv at HV ⊢
  cases h1 : matOk p d xs xss
  · have HM := Lib.hid (show pvM p d xs xss = [] by rw [pvM, if_neg (by rw [h1]; simp)])
    have HC := Lib.hid (show matC p d xs xss = 1 by rw [matC, if_neg (by rw [h1]; simp)])
    have H1 := Lib.hid h1; clear h1
    go_enter Try.func105, Try.ntmps105
    go_wp2_with fail
    refine HV.out.mono ?_
    rw [H1.out]
    rintro e w1 ⟨rfl, h1⟩
    have hS1 := hS0.call0 h1
    go_wp2_with fail
    go_ret2
    rw [HM.out, HC.out]
    exact ⟨_, rfl, hS1.out.newnil _⟩
  · have hmv := matOk_t h1
    obtain ⟨D, rfl⟩ := Int.eq_ofNat_of_zero_le (show 0 ≤ d by have := hmv.f.d1; omega)
    have HM := Lib.hid (show pvM p D xs xss = (red p D xs (xat xss 0).length 0 xss [] 1).2.1 by rw [pvM, if_pos h1]; rfl)
    have HC := Lib.hid (show matC p D xs xss = 0 by rw [matC, if_pos h1])
    have H1 := Lib.hid h1; clear h1
    have HT := fun W (hv : RdI W v xs) => Lib.hid (tablesOf_c p D v xs W hv hmv.f)
    have HR := fun va ua vs us' vm' um vi W (ht : TB W p D xs va ua vs us' vm' um vi) (h : RII W vm us xss) => Lib.hid (reduce_c p D xs va ua vs us' vm' um vi vm us xss (xat xss 0).length W ht h hmv.f (by have := hmv.cols; omega) (by have := hmv.rows; omega) hmv.rct)
    generalize red p D xs (xat xss 0).length 0 xss [] 1 = X at HM HR
    clear hmv
    unfold fv at HT
    unfold tv at HR
    go_enter Try.func105, Try.ntmps105
    go_wp2_with fail
    refine HV.out.mono ?_
    rw [H1.out]
    rintro e w1 ⟨rfl, h1⟩
    have hS1 := hS0.call0 h1
    have c0 := hS1.bcell 0 rfl 0 rfl
    have c1 := hS1.bcell 0 rfl 1 rfl
    have c2 := hS1.bcell 0 rfl 2 rfl
    go_wp2_with fail
    refine (HT _ (hS1.oldI hv)).out.mono ?_
    rintro e w3 ⟨va, ua, vs, us', vm', um, vi, rfl, hua, hus, hum, h3⟩
    have hS3 := hS1.call0 h3.out
    have hTB := tb_of h3 hua hus hum
    go_wp2_with fail
    refine (HR va ua vs us' vm' um vi _ hTB (hS3.oldII hm)).out.mono ?_
    rintro e w4 ⟨v4, u4, p4, rfl, hl4, hk4, h4⟩
    have hS4 := hS3.call h4
    clear hl4 hk4
    go_wp2_with fail
    go_ret2
    rw [HM.out, HC.out]
    exact ⟨p4, rfl, hS4.sub (List.Sublist.trans (List.Sublist.cons_cons _ (List.nil_sublist _)) (List.sublist_append_right _ _))⟩
set_option maxHeartbeats 4000000 in
set_option maxRecDepth 100000 in
theorem RankOf_c (p d : Int) (v : Value) (xs : List Int) (vm : Value) (us : List Value) (xss : List (List Int)) (w : World) (hv : RdI w v xs) (hm : RII w vm us xss) (hd : d ≤ 9223372036854775807) :
    Calls Try.prog 18 #[fv p d v, vm] w (Gives2I w (rkM p d xs xss) (matC p d xs xss)) := by
  have hS0 := (St.refl w).newboxF 25 #[.int .i64 p, .int .i64 d, v]
  have HV := Lib.hid (PivotsOf_c p d v xs vm us xss _ (hS0.oldI hv) (hS0.oldII hm) hd)
  have a0 := hS0.bcell 0 rfl 0 rfl
  have a1 := hS0.bcell 0 rfl 1 rfl
  have a2 := hS0.bcell 0 rfl 2 rfl
  have HK := Lib.hid (show rkM p d xs xss = (pvM p d xs xss).length from rfl)
  generalize pvM p d xs xss = P at HV HK
  generalize matC p d xs xss = C at HV ⊢
  unfold fv at HV ⊢
  go_enter Try.func18, Try.ntmps18
  go_wp2_with fail
  refine HV.out.mono ?_
  rintro e w1 ⟨v1, rfl, h1⟩
  have hS1 := hS0.call h1
  have hsz := Lib.hid (size_c v1 P w1 (h1.rdI 0 rfl))
  go_wp2_with fail
  refine hsz.out.mono ?_
  rintro e w2 ⟨rfl, rfl⟩
  go_wp2_with fail
  go_ret2
  exact ⟨by rw [HK.out]; rfl, hS1.out⟩

end Go.Proofs.Ytcenabaklokhhaa
