/- Walks: JoinArrays of both sides. -/
import Derived.Test.YtcenabaklokhhaaDer
import Derived.Deep.RegionHeld3
import Derived.Deep.DrawnRows
namespace Go.Proofs.Ytcenabaklokhhaa
set_option linter.unusedSimpArgs false
set_option linter.unusedVariables false
open Go.RowKit

attribute [local go_sem ↓] Go.wp_at_zero Go.wp_at_succ

def joinC (lv co : Int) (xss : List (List Int)) (lv' co' : Int) (yss : List (List Int)) : Int :=
  if okA lv co xss = false ∨ okA lv' co' yss = false then 1 else if lv ≠ lv' ∨ co ≠ co' then 6 else if 256 < xss.length + yss.length then 5 else 0
def joinA (lv co : Int) (xss : List (List Int)) (lv' co' : Int) (yss : List (List Int)) : AV := if joinC lv co xss lv' co' yss = 0 then ⟨lv, co, xss ++ yss⟩ else noA

theorem RII.shp {w : World} {v : Value} {us : List Value} {xss : List (List Int)} (h : RII w v us xss) : ∃ a c, v = .slice a xss.length c := by
  obtain ⟨a, c, hv⟩ := h.1.sl.sh
  rw [h.2.1] at hv
  exact ⟨a, c, hv⟩
theorem RII.one {w : World} {v : Value} {us : List Value} {xss : List (List Int)} (h : RII w v us xss) : ∀ u ∈ us, u.oneCell' = true := by
  intro u hu
  obtain ⟨j, hj, rfl⟩ := List.getElem_of_mem hu
  have := (h.row j (by rw [← h.2.1]; exact hj)).sl.one
  rwa [vat_eq hj] at this
theorem RII.app {w : World} {u v v' : Value} {us us' : List Value} {xss yss : List (List Int)} (h : Rd w u (us ++ us')) (h1 : RII w v us xss) (h2 : RII w v' us' yss) : RII w u (us ++ us') (xss ++ yss) := by
  refine ⟨h, by simp [h1.2.1, h2.2.1], fun j hj => ?_⟩
  have e1 := h1.2.1
  have e2 := h2.2.1
  simp only [List.length_append] at hj
  by_cases hlt : j < xss.length
  · have h3 := h1.row j hlt
    have e3 : vat (us ++ us') j = vat us j := by simp [vat, List.getElem?_append_left (show j < us.length by omega)]
    have e4 : xat (xss ++ yss) j = xat xss j := by simp [xat, List.getElem?_append_left hlt]
    rw [e3, e4]; exact h3
  · have h3 := h2.row (j - xss.length) (by omega)
    have e3 : vat (us ++ us') j = vat us' (j - xss.length) := by simp [vat, List.getElem?_append_right (show us.length ≤ j by omega), e1]
    have e4 : xat (xss ++ yss) j = xat yss (j - xss.length) := by simp [xat, List.getElem?_append_right (show xss.length ≤ j by omega)]
    rw [e3, e4]; exact h3

theorem joinC_1 {lv co lv' co' : Int} {xss yss : List (List Int)} (h : okA lv co xss = false ∨ okA lv' co' yss = false) : joinC lv co xss lv' co' yss = 1 := by rw [joinC, if_pos h]
theorem joinC_6 {lv co lv' co' : Int} {xss yss : List (List Int)} (h : okA lv co xss = true) (h' : okA lv' co' yss = true) (h2 : lv ≠ lv' ∨ co ≠ co') : joinC lv co xss lv' co' yss = 6 := by rw [joinC, if_neg (by simp [h, h']), if_pos h2]
theorem joinC_5 {lv co lv' co' : Int} {xss yss : List (List Int)} (h : okA lv co xss = true) (h' : okA lv' co' yss = true) (h2 : lv = lv' ∧ co = co') (h3 : 256 < xss.length + yss.length) : joinC lv co xss lv' co' yss = 5 := by
  rw [joinC, if_neg (by simp [h, h']), if_neg (by simp [h2]), if_pos h3]
theorem joinC_0 {lv co lv' co' : Int} {xss yss : List (List Int)} (h : okA lv co xss = true) (h' : okA lv' co' yss = true) (h2 : lv = lv' ∧ co = co') (h3 : ¬ 256 < xss.length + yss.length) : joinC lv co xss lv' co' yss = 0 := by
  rw [joinC, if_neg (by simp [h, h']), if_neg (by simp [h2]), if_neg h3]
theorem joinA_no {lv co lv' co' c : Int} {xss yss : List (List Int)} (h : joinC lv co xss lv' co' yss = c) (hc : c ≠ 0) : joinA lv co xss lv' co' yss = noA := by rw [joinA, if_neg (by rw [h]; exact hc)]

set_option maxHeartbeats 4000000 in
set_option maxRecDepth 100000 in
theorem JoinArrays_c (lv co lv' co' : Int) (v v' : Value) (us us' : List Value) (xss yss : List (List Int)) (w : World) (hv : RII w v us xss) (hv' : RII w v' us' yss) :
    Calls Try.prog 48 #[av lv co v, av lv' co' v'] w (MakesA w (joinA lv co xss lv' co' yss) (joinC lv co xss lv' co' yss)) := by
  obtain ⟨va, vc, rfl⟩ := hv.shp
  obtain ⟨va', vc', rfl⟩ := hv'.shp
  have hS0 := (((St.refl w).newboxF 47 #[.int .i64 lv, .int .i64 co, .slice va xss.length vc]).newboxF 47 #[.int .i64 lv', .int .i64 co', .slice va' yss.length vc']).newboxF 47 #[.int .i64 0, .int .i64 0, .slice none 0 0]
  simp only [World.size_alloc] at hS0
  have HV := fun w hv => Lib.hid (ValidArray_c lv co (.slice va xss.length vc) us xss w hv)
  have HV' := fun w hv => Lib.hid (ValidArray_c lv' co' (.slice va' yss.length vc') us' yss w hv)
  unfold av at HV HV' ⊢
  go_enter Try.func48, Try.ntmps48
  go_wp2_with fail
  refine ((HV _ (hS0.oldII hv))).out.mono ?_
  rintro e w1 ⟨rfl, h1⟩
  have hS1 := hS0.call0 h1
  clear hS0 h1 HV
  have b0 := hS1.bcell 0 rfl 0 rfl
  have b1 := hS1.bcell 0 rfl 1 rfl
  have b2 := hS1.bcell 0 rfl 2 rfl
  have c0 := hS1.bcell 1 rfl 0 rfl
  have c1 := hS1.bcell 1 rfl 1 rfl
  have c2 := hS1.bcell 1 rfl 2 rfl
  have d0 := hS1.bcell 2 rfl 0 rfl
  have d1 := hS1.bcell 2 rfl 1 rfl
  have d2 := hS1.bcell 2 rfl 2 rfl
  have f0 := hS1.bfree 0 rfl
  cases hok : okA lv co xss
  · have hS9 := ((hS1.bstore 0 rfl 0 (.int .i64 0)).bstore 0 rfl 1 (.int .i64 0)).bstore 0 rfl 2 (.slice none 0 0)
    have HC := Lib.hid (joinC_1 (lv' := lv') (co' := co') (yss := yss) (.inl hok))
    go_wp2_with fail
    refine bodyPost_ret (v := .tuple #[.agg #[.int .i64 0, .int .i64 0, .slice none 0 0], .int .i64 1]) (by simp [results, Try.results48, go_sem, b0, b1, b2]) rfl ?_
    exact MakesA.no (joinA_no HC.out (by omega)) HC.out hS9
  · have Hok := Lib.hid hok
    clear hok
    go_wp2_with fail
    refine ((HV' _ (hS1.oldII hv'))).out.mono ?_
    rintro e w2 ⟨rfl, h2⟩
    have hS2 := hS1.call0 h2
    clear hS1 h2 HV' b0 b1 b2 c0 c1 c2 d0 d1 d2 f0
    have b0 := hS2.bcell 0 rfl 0 rfl
    have b1 := hS2.bcell 0 rfl 1 rfl
    have b2 := hS2.bcell 0 rfl 2 rfl
    have c0 := hS2.bcell 1 rfl 0 rfl
    have c1 := hS2.bcell 1 rfl 1 rfl
    have c2 := hS2.bcell 1 rfl 2 rfl
    have d0 := hS2.bcell 2 rfl 0 rfl
    have d1 := hS2.bcell 2 rfl 1 rfl
    have d2 := hS2.bcell 2 rfl 2 rfl
    have f0 := hS2.bfree 0 rfl
    have hS9 := ((hS2.bstore 0 rfl 0 (.int .i64 0)).bstore 0 rfl 1 (.int .i64 0)).bstore 0 rfl 2 (.slice none 0 0)
    cases hok : okA lv' co' yss
    · have HC := Lib.hid (joinC_1 (lv := lv) (co := co) (xss := xss) (.inr hok))
      go_wp2_with fail
      refine bodyPost_ret (v := .tuple #[.agg #[.int .i64 0, .int .i64 0, .slice none 0 0], .int .i64 1]) (by simp [results, Try.results48, go_sem, b0, b1, b2]) rfl ?_
      exact MakesA.no (joinA_no HC.out (by omega)) HC.out hS9
    · have Hok' := Lib.hid hok
      clear hok
      obtain ⟨hsh, hlen, hrow⟩ := okA_t Hok.out
      obtain ⟨hsh', hlen', hrow'⟩ := okA_t Hok'.out
      have Hrow := Lib.hid (show ∀ xs ∈ xss ++ yss, xs.length ≤ 1048576 from fun xs hx => by
        have s1 := shapeB_t hsh
        have s2 := shapeB_t hsh'
        rcases List.mem_append.1 hx with h | h
        · have := (hrow xs h).1; omega
        · have := (hrow' xs h).1; omega)
      clear hsh hsh' hrow hrow'
      by_cases hl : lv = lv'
      · have f1 := ne_f hl
        have Hl := Lib.hid hl; clear hl
        by_cases hc : co = co'
        · have f2 := ne_f hc
          have Hc := Lib.hid hc; clear hc
          by_cases hn : 256 < xss.length + yss.length
          · have HC := Lib.hid (joinC_5 Hok.out Hok'.out ⟨Hl.out, Hc.out⟩ hn)
            go_wp2_with fail
            refine bodyPost_ret (v := .tuple #[.agg #[.int .i64 0, .int .i64 0, .slice none 0 0], .int .i64 5]) (by simp [results, Try.results48, go_sem, b0, b1, b2]) rfl ?_
            exact MakesA.no (joinA_no HC.out (by omega)) HC.out hS9
          · have HC := Lib.hid (joinC_0 Hok.out Hok'.out ⟨Hl.out, Hc.out⟩ hn)
            go_wp2_with fail
            clear b0 b1 b2 c0 c1 c2 d0 d1 d2 f0 f1 f2 hS9
            have e2 := hS2.drew
            have e3 := hS2.alloc' (.cells #[.slice va xss.length vc, .slice va' yss.length vc'] 26)
            have e0 := e3.drew
            have hrv := (rvv_two (hS2.oldII hv).1 (hS2.oldII hv').1 26).keep (St.refl _).drew.below
            have hone := (hS2.oldII hv).one
            have hone' := (hS2.oldII hv').one
            have hcat := Lib.hid (ConcatII_c _ _ _ _ hrv (by intro us2 h u hu; simp only [List.mem_cons, List.not_mem_nil, or_false] at h; rcases h with rfl | rfl; exact hone u hu; exact hone' u hu) (by simp [totV, hv.2.1, hv'.2.1]; omega))
            have q0 := hS2.bcell 2 rfl 0 rfl
            have q1 := hS2.bcell 2 rfl 1 rfl
            have q2 := hS2.bcell 2 rfl 2 rfl
            have q3 := hS2.bcell 1 rfl 2 rfl
            have r0 := e3.bcell 2 rfl 0 rfl
            have r1 := e3.bcell 2 rfl 1 rfl
            have Hone := Lib.hid hone
            have Hone' := Lib.hid hone'
            have hne1 : ¬ w.heap.size = w.heap.size + 1 + 1 := by omega
            have hne2 : ¬ w.heap.size + 1 + 1 = w.heap.size := by omega
            go_region_held3 (fun w' => w'.cell? ⟨w.heap.size, 0, none⟩ = some (.int .i64 lv) ∧ w'.cell? ⟨w.heap.size, 1, none⟩ = some (.int .i64 co) ∧ w'.cell? ⟨w.heap.size, 2, none⟩ = some (.slice va xss.length vc) ∧ w'.cell? ⟨w.heap.size + 1, 2, none⟩ = some (.slice va' yss.length vc'))
              (go_keep)
              (first
              | (go_at_call 141; refine hcat.out.mono ?_; rintro e w3 ⟨u, rfl, h3⟩; have hru := h3.rd 0 rfl; have hS3 := e0.call0 h3.out; have hR : RII w3 u (us ++ us') (xss ++ yss) := RII.app (by simpa using hru) (hS3.oldII hv) (hS3.oldII hv'); clear hru; have g0 := hS3.bcell 2 rfl 0 rfl; have g1 := hS3.bcell 2 rfl 1 rfl; have g2 := hS3.bcell 2 rfl 2 rfl; have g3 := hS3.bcell 1 rfl 2 rfl)
              | (go_at_call 109; refine (copyLists_c _ _ _ _ hR (by simp; omega) Hrow.out).mono ?_; rintro e w4 ⟨u4, us4, rfl, hl4, h4⟩; have hS4 := hS3.call h4; have Hl4 := Lib.hid hl4; clear hl4; obtain ⟨a4, c4, hu4⟩ := (h4.rii Hl4.out).shp; rw [List.length_append] at hu4; subst hu4; have hS5 := (((hS4.bstore 0 rfl 0 (.int .i64 lv)).bstore 0 rfl 1 (.int .i64 co)).bstore 0 rfl 2 (.slice a4 (xss.length + yss.length) c4)).sub (L' := [box 47 w.heap.size [.int .i64 lv, .int .i64 co, .slice va xss.length vc]] ++ own2 _ us4 (xss ++ yss)) ((List.Sublist.refl _).cons _ |>.cons _); have k0 := hS4.bcell 2 rfl 0 rfl; have k1 := hS4.bcell 2 rfl 1 rfl; have k2 := hS4.bcell 2 rfl 2 rfl; have k3 := hS4.bcell 1 rfl 2 rfl; have m0 := hS4.bcell 0 rfl 0 rfl; have m1 := hS4.bcell 0 rfl 1 rfl; have m2 := hS4.bcell 0 rfl 2 rfl; have f0 := hS4.bfree 0 rfl))
            go_wp2_with fail
            refine bodyPost_ret (v := .tuple #[.agg #[.int .i64 lv, .int .i64 co, .slice a4 (xss.length + yss.length) c4], .int .i64 0]) (by simp [results, Try.results48, go_sem, m0, m1, m2]) rfl ?_
            exact MakesA.yes (by rw [joinA, if_pos HC.out]) HC.out Hl4.out (List.sublist_append_right _ _) hS5
        · have f2 := ne_t hc
          have HC := Lib.hid (joinC_6 Hok.out Hok'.out (.inr hc)); clear hc
          go_wp2_with fail
          refine bodyPost_ret (v := .tuple #[.agg #[.int .i64 0, .int .i64 0, .slice none 0 0], .int .i64 6]) (by simp [results, Try.results48, go_sem, b0, b1, b2]) rfl ?_
          exact MakesA.no (joinA_no HC.out (by omega)) HC.out hS9
      · have f2 := ne_t hl
        have HC := Lib.hid (joinC_6 Hok.out Hok'.out (.inl hl)); clear hl
        go_wp2_with fail
        refine bodyPost_ret (v := .tuple #[.agg #[.int .i64 0, .int .i64 0, .slice none 0 0], .int .i64 6]) (by simp [results, Try.results48, go_sem, b0, b1, b2]) rfl ?_
        exact MakesA.no (joinA_no HC.out (by omega)) HC.out hS9
end Go.Proofs.Ytcenabaklokhhaa
