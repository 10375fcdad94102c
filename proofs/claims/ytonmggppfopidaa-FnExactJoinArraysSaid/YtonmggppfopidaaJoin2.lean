/- Walks: JoinArrays of the reference. -/
import Derived.Test.YtonmggppfopidaaJoin
namespace Go.Proofs.Ytonmggppfopidaa
set_option linter.unusedSimpArgs false
set_option linter.unusedVariables false
open Go.RowKit
attribute [local go_sem ↓] Go.wp_at_zero Go.wp_at_succ

/-- what the joined rows own -/
theorem join_own {B : Nat} {w0 w : World} {x0 x1 x2 : Ent} {v3 v4 v5 : Value} {us3 us4 : List Value} {xss yss : List (List Int)} (h3 : us3.length = xss.length) (h4 : us4.length = yss.length)
    (h : St B w0 w ((([x0, x1, x2] ++ own2 v3 us3 xss) ++ own2 v4 us4 yss).set 3 (row 25 v5 (us3 ++ us4)))) :
    St B w0 w ([x0, x1, x2] ++ own2 v5 (us3 ++ us4) (xss ++ yss)) := by
  have e : rowsI (us3 ++ us4) (xss ++ yss) = rowsI us3 xss ++ rowsI us4 yss := by unfold rowsI; rw [List.zipWith_append h3]
  rw [own2, e]
  refine h.sub ?_
  simp only [own2, List.cons_append, List.nil_append, List.set_cons_succ, List.set_cons_zero]
  refine List.Sublist.cons_cons _ (List.Sublist.cons_cons _ (List.Sublist.cons_cons _ (List.Sublist.cons_cons _ ?_)))
  exact List.Sublist.append (List.Sublist.refl _) (List.sublist_cons_self _ _)

set_option maxHeartbeats 4000000 in
set_option maxRecDepth 100000 in
theorem sJoinArrays_c (lv co lv' co' : Int) (v v' : Value) (us us' : List Value) (xss yss : List (List Int)) (w : World) (hv : RII w v us xss) (hv' : RII w v' us' yss) :
    Calls Try.prog 59 #[av lv co v, av lv' co' v'] w (MakesA w (joinA lv co xss lv' co' yss) (joinC lv co xss lv' co' yss)) := by
  obtain ⟨va, vc, rfl⟩ := hv.shp
  obtain ⟨va', vc', rfl⟩ := hv'.shp
  have hS0 := (((St.refl w).newboxF 45 #[.int .i64 lv, .int .i64 co, .slice va xss.length vc]).newboxF 45 #[.int .i64 lv', .int .i64 co', .slice va' yss.length vc']).newboxF 45 #[.int .i64 0, .int .i64 0, .slice none 0 0]
  simp only [World.size_alloc] at hS0
  have HV := fun W hv hb => Lib.hid (l16Ok_c lv co w.heap.size (.slice va xss.length vc) us xss W hv hb)
  have HV' := fun W hv hb => Lib.hid (l16Ok_c lv' co' (w.heap.size + 1) (.slice va' yss.length vc') us' yss W hv hb)
  unfold av
  go_enter Try.func59, Try.ntmps59
  go_wp2_with fail
  refine ((HV _ (hS0.oldII hv) ⟨hS0.bcell 2 rfl 0 rfl, hS0.bcell 2 rfl 1 rfl, hS0.bcell 2 rfl 2 rfl⟩)).out.mono ?_
  rintro e w1 ⟨rfl, h1⟩
  have hS1 := hS0.call0 h1
  clear hS0 h1 HV
  have b0 := hS1.bcell 0 rfl 0 rfl
  have b1 := hS1.bcell 0 rfl 1 rfl
  have b2 := hS1.bcell 0 rfl 2 rfl
  have c0 := hS1.bcell 1 rfl 0 rfl
  have c1 := hS1.bcell 1 rfl 1 rfl
  have c2 := hS1.bcell 1 rfl 2 rfl
  have d0 := hS1.bcell 2 rfl 0 rfl
  have d1 := hS1.bcell 2 rfl 1 rfl
  have d2 := hS1.bcell 2 rfl 2 rfl
  have f0 := hS1.bfree 0 rfl
  cases hok : okA lv co xss
  · have hS9 := ((hS1.bstore 0 rfl 0 (.int .i64 0)).bstore 0 rfl 1 (.int .i64 0)).bstore 0 rfl 2 (.slice none 0 0)
    have HC := Lib.hid (joinC_1 (lv' := lv') (co' := co') (yss := yss) (.inl hok))
    go_wp2_with fail
    refine bodyPost_ret (v := .tuple #[.agg #[.int .i64 0, .int .i64 0, .slice none 0 0], .int .i64 1]) (by simp [results, Try.results59, go_sem, b0, b1, b2]) rfl ?_
    exact MakesA.no (joinA_no HC.out (by omega)) HC.out hS9
  · have Hok := Lib.hid hok
    clear hok
    go_wp2_with fail
    refine ((HV' _ (hS1.oldII hv') ⟨hS1.bcell 1 rfl 0 rfl, hS1.bcell 1 rfl 1 rfl, hS1.bcell 1 rfl 2 rfl⟩)).out.mono ?_
    rintro e w2 ⟨rfl, h2⟩
    have hS2 := hS1.call0 h2
    clear hS1 h2 HV' b0 b1 b2 c0 c1 c2 d0 d1 d2 f0
    have b0 := hS2.bcell 0 rfl 0 rfl
    have b1 := hS2.bcell 0 rfl 1 rfl
    have b2 := hS2.bcell 0 rfl 2 rfl
    have c0 := hS2.bcell 1 rfl 0 rfl
    have c1 := hS2.bcell 1 rfl 1 rfl
    have c2 := hS2.bcell 1 rfl 2 rfl
    have d0 := hS2.bcell 2 rfl 0 rfl
    have d1 := hS2.bcell 2 rfl 1 rfl
    have d2 := hS2.bcell 2 rfl 2 rfl
    have f0 := hS2.bfree 0 rfl
    have hS9 := ((hS2.bstore 0 rfl 0 (.int .i64 0)).bstore 0 rfl 1 (.int .i64 0)).bstore 0 rfl 2 (.slice none 0 0)
    cases hok : okA lv' co' yss
    · have HC := Lib.hid (joinC_1 (lv := lv) (co := co) (xss := xss) (.inr hok))
      go_wp2_with fail
      refine bodyPost_ret (v := .tuple #[.agg #[.int .i64 0, .int .i64 0, .slice none 0 0], .int .i64 1]) (by simp [results, Try.results59, go_sem, b0, b1, b2]) rfl ?_
      exact MakesA.no (joinA_no HC.out (by omega)) HC.out hS9
    · have Hok' := Lib.hid hok
      clear hok
      obtain ⟨hsh, hlen, hrow⟩ := okA_t Hok.out
      obtain ⟨hsh', hlen', hrow'⟩ := okA_t Hok'.out
      have Hrow := Lib.hid (show ∀ xs ∈ xss ++ yss, xs.length ≤ 1048576 from fun xs hx => by
        have s1 := shapeB_t hsh
        have s2 := shapeB_t hsh'
        rcases List.mem_append.1 hx with h | h
        · have := (hrow xs h).1; omega
        · have := (hrow' xs h).1; omega)
      clear hsh hsh' hrow hrow'
      by_cases hl : lv = lv'
      · have f1 := ne_f hl
        have Hl := Lib.hid hl; clear hl
        by_cases hc : co = co'
        · have f2 := ne_f hc
          have Hc := Lib.hid hc; clear hc
          by_cases hn : 256 < xss.length + yss.length
          · have HC := Lib.hid (joinC_5 Hok.out Hok'.out ⟨Hl.out, Hc.out⟩ hn)
            go_wp2_with fail
            refine bodyPost_ret (v := .tuple #[.agg #[.int .i64 0, .int .i64 0, .slice none 0 0], .int .i64 5]) (by simp [results, Try.results59, go_sem, b0, b1, b2]) rfl ?_
            exact MakesA.no (joinA_no HC.out (by omega)) HC.out hS9
          · have HC := Lib.hid (joinC_0 Hok.out Hok'.out ⟨Hl.out, Hc.out⟩ hn)
            go_wp2_with fail
            clear b0 b1 b2 c0 c1 c2 d0 d1 d2 f0 f1 f2 hS9
            have e2 := hS2.drew
            have q0 := hS2.bcell 2 rfl 0 rfl
            have q1 := hS2.bcell 2 rfl 1 rfl
            have q2 := hS2.bcell 2 rfl 2 rfl
            have q3 := hS2.bcell 1 rfl 2 rfl
            have hne1 : ¬ w.heap.size = w.heap.size + 1 + 1 := by omega
            have hne2 : ¬ w.heap.size + 1 + 1 = w.heap.size := by omega
            have Hx := Lib.hid (show ∀ xs ∈ xss, xs.length ≤ 1048576 from fun xs h => Hrow.out xs (List.mem_append_left _ h))
            have Hy := Lib.hid (show ∀ xs ∈ yss, xs.length ≤ 1048576 from fun xs h => Hrow.out xs (List.mem_append_right _ h))
            go_region_held3 (fun w' => w'.cell? ⟨w.heap.size, 0, none⟩ = some (.int .i64 lv) ∧ w'.cell? ⟨w.heap.size, 1, none⟩ = some (.int .i64 co) ∧ w'.cell? ⟨w.heap.size, 2, none⟩ = some (.slice va xss.length vc) ∧ w'.cell? ⟨w.heap.size + 1, 2, none⟩ = some (.slice va' yss.length vc'))
              (go_keep)
              (first
              | (go_at_call_of 108 (Value.slice va xss.length vc); refine (l06Own_c _ _ _ _ (e2.oldII hv) (by omega) Hx.out).mono ?_; rintro e w3 ⟨u3, us3, rfl, hl3, h3⟩; have hS3 := e2.call h3; have Hl3 := Lib.hid hl3; clear hl3; obtain ⟨a3, c3, hu3⟩ := (h3.rii Hl3.out).shp; subst hu3; have g0 := hS3.bcell 2 rfl 0 rfl; have g1 := hS3.bcell 2 rfl 1 rfl; have g2 := hS3.bcell 2 rfl 2 rfl; have g3 := hS3.bcell 1 rfl 2 rfl)
              | (go_at_call_of 108 (Value.slice va' yss.length vc'); refine (l06Own_c _ _ _ _ (hS3.oldII hv') (by omega) Hy.out).mono ?_; rintro e w4 ⟨u4, us4, rfl, hl4, h4⟩; have hS4 := hS3.call h4; have Hl4 := Lib.hid hl4; clear hl4; have R4 := h4.rii Hl4.out; obtain ⟨a4, c4, hu4⟩ := R4.shp; subst hu4; have R1 := Lib.hid R4.1; have R2 := Lib.hid R4.one; have N1 := Lib.hid (show us3.length + us4.length ≤ 4294967296 by rw [Hl3.out, Hl4.out]; omega); clear R4; have k0 := hS4.bcell 2 rfl 0 rfl; have k1 := hS4.bcell 2 rfl 1 rfl; have k2 := hS4.bcell 2 rfl 2 rfl; have k3 := hS4.bcell 1 rfl 2 rfl)
              | (refine stepsII hS4 3 rfl _ us4 R1.out R2.out N1.out (by rfl) _ _ (by rfl) (by rfl) (by rfl) ?_; intro v5 w5 hS5; have L5 := Lib.hid (join_own Hl3.out Hl4.out hS5); obtain ⟨a5, c5, hu5⟩ := (hS5.rd 3 rfl).sl.sh; rw [List.length_append, Hl3.out, Hl4.out] at hu5; subst hu5; have m0 := hS5.bcell 0 rfl 0 rfl; have m1 := hS5.bcell 0 rfl 1 rfl; have m2 := hS5.bcell 0 rfl 2 rfl; have f0 := hS5.bfree 0 rfl; have n0 := hS5.bcell 2 rfl 0 rfl; have n1 := hS5.bcell 2 rfl 1 rfl; have n2 := hS5.bcell 2 rfl 2 rfl; have n3 := hS5.bcell 1 rfl 2 rfl))
            go_wp2_with fail
            have hS6 := ((L5.out.bstore 0 rfl 0 (.int .i64 lv)).bstore 0 rfl 1 (.int .i64 co)).bstore 0 rfl 2 (.slice a5 (xss.length + yss.length) c5)
            refine bodyPost_ret (v := .tuple #[.agg #[.int .i64 lv, .int .i64 co, .slice a5 (xss.length + yss.length) c5], .int .i64 0]) (by simp [results, Try.results59, go_sem, m0, m1, m2]) rfl ?_
            exact MakesA.yes (by rw [joinA, if_pos HC.out]) HC.out (by rw [List.length_append, Hl3.out, Hl4.out, List.length_append]) (((List.Sublist.refl _).cons _).cons _ |>.cons _) hS6
        · have f2 := ne_t hc
          have HC := Lib.hid (joinC_6 Hok.out Hok'.out (.inr hc)); clear hc
          go_wp2_with fail
          refine bodyPost_ret (v := .tuple #[.agg #[.int .i64 0, .int .i64 0, .slice none 0 0], .int .i64 6]) (by simp [results, Try.results59, go_sem, b0, b1, b2]) rfl ?_
          exact MakesA.no (joinA_no HC.out (by omega)) HC.out hS9
      · have f2 := ne_t hl
        have HC := Lib.hid (joinC_6 Hok.out Hok'.out (.inl hl)); clear hl
        go_wp2_with fail
        refine bodyPost_ret (v := .tuple #[.agg #[.int .i64 0, .int .i64 0, .slice none 0 0], .int .i64 6]) (by simp [results, Try.results59, go_sem, b0, b1, b2]) rfl ?_
        exact MakesA.no (joinA_no HC.out (by omega)) HC.out hS9
end Go.Proofs.Ytonmggppfopidaa
