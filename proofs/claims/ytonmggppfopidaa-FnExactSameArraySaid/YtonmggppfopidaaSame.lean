/- Walks: equal lists, equal lists of lists, equal arrays. -/
import Derived.Test.YtonmggppfopidaaArr2
namespace Go.Proofs.Ytonmggppfopidaa
open Go.RowKit

set_option maxHeartbeats 1000000 in
set_option maxRecDepth 100000 in
theorem l00Same_c (va vb : Value) (xs ys : List Int) (w : World) (ha : RdI w va xs) (hb : RdI w vb ys) :
    Calls Try.prog 118 #[va, vb] w (GivesB w (decide (xs = ys))) := by
  have hla := ha.len
  have hlb := hb.len
  have hia := ha.ix
  have hib := hb.ix
  have hma := ha.le
  by_cases hne : xs.length = ys.length
  · have f0 : ((xs.length : Int) != (ys.length : Int)) = false := ne_f (by omega)
    have hle : xs.length ≤ ys.length := by omega
    have Hne := Lib.hid hne; clear hne
    go_enter Try.func118, Try.ntmps118
    go_wp2_with fail
    go_loopw [5] (fun i wr => ∃ k : Nat, k ≤ xs.length ∧ i = .int .i64 k ∧ Hid (∀ j, j < k → nth xs j = nth ys j) ∧ St w.heap.size w wr []) (fun i _ => xs.length - (intOf i).toNat)
    case atStart => exact ⟨0, by omega, rfl, fun j hj => by omega, St.refl w⟩
    case round =>
      obtain ⟨k, hk, rfl, hI, hS⟩ := hrel
      by_cases hlt : k < xs.length
      · have hqa := fun s : SS w.heap.size w [] => (s.st.oldI ha).cell k hlt
        have hqb := fun s : SS w.heap.size w [] => (s.st.oldI hb).cell k (by omega)
        have hk2 : k < ys.length := by omega
        by_cases h1 : nth xs k = nth ys k
        · have f1 := ne_f h1
          have H1 := Lib.hid h1; clear h1
          go_wp2_with fail
          have hne : Nonempty (SS _ _ _) := ⟨⟨_, hS⟩⟩
          refine wp_region_st (by kernel_rfl) (by kernel_rfl) hS ?_
          repeat (go_big_quiet_step (fail))
          refine wpQuiet_nil ?_
          rintro _ ⟨s2, rfl⟩
          have hS2 := s2.st
          generalize s2.w = w2 at hS2 ⊢
          go_wp2_with fail
          go_roundw
          case rel => exact ⟨k + 1, by omega, by go_num, fun j hj => by
            by_cases e : j = k
            · subst e; exact H1.out
            · exact hI.out j (by omega), hS2⟩
          case measure => simp [intOf]; omega
        · have f1 := ne_t h1
          have H1 := Lib.hid h1; clear h1
          go_wp2_with fail
          have hne : Nonempty (SS _ _ _) := ⟨⟨_, hS⟩⟩
          refine wp_region_st (by kernel_rfl) (by kernel_rfl) hS ?_
          repeat (go_big_quiet_step (fail))
          refine wpQuiet_nil ?_
          rintro _ ⟨s2, rfl⟩
          have hS2 := s2.st
          generalize s2.w = w2 at hS2 ⊢
          go_wp2_with fail
          go_ret
          exact ⟨ret_bool (by symm; rw [decide_eq_false_iff_not]; intro e; subst e; exact H1.out rfl), hS2⟩
      · go_wp2_with fail
        go_ret
        refine ⟨ret_bool ?_, hS⟩
        symm; rw [decide_eq_true_iff]
        apply List.ext_getElem Hne.out
        intro j h1 h2
        have := hI.out j (by omega)
        rwa [nth_eq h1, nth_eq h2] at this
  · have f0 : ((xs.length : Int) != (ys.length : Int)) = true := ne_t (by omega)
    have Hne := Lib.hid hne; clear hne
    go_enter Try.func118, Try.ntmps118
    go_wp2_with fail
    go_ret
    exact ⟨ret_bool (by symm; rw [decide_eq_false_iff_not]; intro e; exact Hne.out (by rw [e])), St.refl w⟩

set_option maxHeartbeats 1000000 in
set_option maxRecDepth 100000 in
theorem l06Same_c (va vb : Value) (us ws : List Value) (xs ys : List (List Int)) (w : World) (ha : RII w va us xs) (hb : RII w vb ws ys) :
    Calls Try.prog 86 #[va, vb] w (GivesB w (decide (xs = ys))) := by
  have hla := ha.len
  have hlb := hb.len
  have hia := ha.ix
  have hib := hb.ix
  have hma := ha.le
  by_cases hne : xs.length = ys.length
  · have f0 : ((xs.length : Int) != (ys.length : Int)) = false := ne_f (by omega)
    have hle : xs.length ≤ ys.length := by omega
    have Hne := Lib.hid hne; clear hne
    go_enter Try.func86, Try.ntmps86
    go_wp2_with fail
    go_loopw [5] (fun i wr => ∃ k : Nat, k ≤ xs.length ∧ i = .int .i64 k ∧ Hid (∀ j, j < k → xat xs j = xat ys j) ∧ St w.heap.size w wr []) (fun i _ => xs.length - (intOf i).toNat)
    case atStart => exact ⟨0, by omega, rfl, fun j hj => by omega, St.refl w⟩
    case round =>
      obtain ⟨k, hk, rfl, hI, hS⟩ := hrel
      by_cases hlt : k < xs.length
      · have hqa := fun s : SS w.heap.size w [] => (s.st.oldII ha).cell k hlt
        have hqb := fun s : SS w.heap.size w [] => (s.st.oldII hb).cell k (by omega)
        have hk2 : k < ys.length := by omega
        by_cases h1 : xat xs k = xat ys k
        · have f1 : decide (xat xs k = xat ys k) = true := decide_eq_true h1
          have H1 := Lib.hid h1; clear h1
          go_wp2_with fail
          have hne : Nonempty (SS _ _ _) := ⟨⟨_, hS⟩⟩
          refine wp_region_st (by kernel_rfl) (by kernel_rfl) hS ?_
          repeat (go_big_quiet_step ((go_at_call 118; exact st_quiet (l00Same_c _ _ _ _ _ (((SS.st _).oldII ha).row k hlt) (((SS.st _).oldII hb).row k hk2)))))
          refine wpQuiet_nil ?_
          rintro _ ⟨s2, rfl⟩
          have hS2 := s2.st
          generalize s2.w = w2 at hS2 ⊢
          go_wp2_with fail
          go_roundw
          case rel => exact ⟨k + 1, by omega, by go_num, fun j hj => by
            by_cases e : j = k
            · subst e; exact H1.out
            · exact hI.out j (by omega), hS2⟩
          case measure => simp [intOf]; omega
        · have f1 : decide (xat xs k = xat ys k) = false := decide_eq_false h1
          have H1 := Lib.hid h1; clear h1
          go_wp2_with fail
          have hne : Nonempty (SS _ _ _) := ⟨⟨_, hS⟩⟩
          refine wp_region_st (by kernel_rfl) (by kernel_rfl) hS ?_
          repeat (go_big_quiet_step ((go_at_call 118; exact st_quiet (l00Same_c _ _ _ _ _ (((SS.st _).oldII ha).row k hlt) (((SS.st _).oldII hb).row k hk2)))))
          refine wpQuiet_nil ?_
          rintro _ ⟨s2, rfl⟩
          have hS2 := s2.st
          generalize s2.w = w2 at hS2 ⊢
          go_wp2_with fail
          go_ret
          exact ⟨ret_bool (by symm; rw [decide_eq_false_iff_not]; intro e; subst e; exact H1.out rfl), hS2⟩
      · go_wp2_with fail
        go_ret
        refine ⟨ret_bool ?_, hS⟩
        symm; rw [decide_eq_true_iff]
        apply List.ext_getElem Hne.out
        intro j h1 h2
        have := hI.out j (by omega)
        rwa [xat_eq h1, xat_eq h2] at this
  · have f0 : ((xs.length : Int) != (ys.length : Int)) = true := ne_t (by omega)
    have Hne := Lib.hid hne; clear hne
    go_enter Try.func86, Try.ntmps86
    go_wp2_with fail
    go_ret
    exact ⟨ret_bool (by symm; rw [decide_eq_false_iff_not]; intro e; exact Hne.out (by rw [e])), St.refl w⟩
set_option maxHeartbeats 1000000 in
set_option maxRecDepth 100000 in
theorem Equal_c (va vb : Value) (xs ys : List Int) (w : World) (ha : RdI w va xs) (hb : RdI w vb ys) :
    Calls Try.prog 120 #[va, vb] w (GivesB w (decide (xs = ys))) := by
  have hla := ha.len
  have hlb := hb.len
  have hia := ha.ix
  have hib := hb.ix
  have hma := ha.le
  by_cases hne : xs.length = ys.length
  · have f0 : ((xs.length : Int) != (ys.length : Int)) = false := ne_f (by omega)
    have hle : xs.length ≤ ys.length := by omega
    have Hne := Lib.hid hne; clear hne
    go_enter Try.func120, Try.ntmps120
    go_wp2_with fail
    go_loopw [5, 13] (fun _ i wr => ∃ k : Nat, k ≤ xs.length ∧ i = .int .i64 k ∧ Hid (∀ j, j < k → nth xs j = nth ys j) ∧ St w.heap.size w wr []) (fun _ i _ => xs.length - (intOf i).toNat)
    case atStart => exact ⟨0, by omega, rfl, fun j hj => by omega, St.refl w⟩
    case round =>
      obtain ⟨k, hk, rfl, hI, hS⟩ := hrel
      by_cases hlt : k < xs.length
      · have hqa := fun s : SS w.heap.size w [] => (s.st.oldI ha).cell k hlt
        have hqb := fun s : SS w.heap.size w [] => (s.st.oldI hb).cell k (by omega)
        have hk2 : k < ys.length := by omega
        by_cases h1 : nth xs k = nth ys k
        · have f1 := ne_f h1
          have H1 := Lib.hid h1; clear h1
          go_wp2_with fail
          have hne : Nonempty (SS _ _ _) := ⟨⟨_, hS⟩⟩
          refine wp_region_st (by kernel_rfl) (by kernel_rfl) hS ?_
          repeat (go_big_quiet_step (fail))
          refine wpQuiet_nil ?_
          rintro _ ⟨s2, rfl⟩
          have hS2 := s2.st
          generalize s2.w = w2 at hS2 ⊢
          go_wp2_with fail
          go_roundw
          case rel => exact ⟨k + 1, by omega, by go_num, fun j hj => by
            by_cases e : j = k
            · subst e; exact H1.out
            · exact hI.out j (by omega), hS2⟩
          case measure => simp [intOf]; omega
        · have f1 := ne_t h1
          have H1 := Lib.hid h1; clear h1
          go_wp2_with fail
          have hne : Nonempty (SS _ _ _) := ⟨⟨_, hS⟩⟩
          refine wp_region_st (by kernel_rfl) (by kernel_rfl) hS ?_
          repeat (go_big_quiet_step (fail))
          refine wpQuiet_nil ?_
          rintro _ ⟨s2, rfl⟩
          have hS2 := s2.st
          generalize s2.w = w2 at hS2 ⊢
          go_wp2_with fail
          go_ret
          exact ⟨ret_bool (by symm; rw [decide_eq_false_iff_not]; intro e; subst e; exact H1.out rfl), hS2⟩
      · go_wp2_with fail
        go_ret
        refine ⟨ret_bool ?_, hS⟩
        symm; rw [decide_eq_true_iff]
        apply List.ext_getElem Hne.out
        intro j h1 h2
        have := hI.out j (by omega)
        rwa [nth_eq h1, nth_eq h2] at this
  · have f0 : ((xs.length : Int) != (ys.length : Int)) = true := ne_t (by omega)
    have Hne := Lib.hid hne; clear hne
    go_enter Try.func120, Try.ntmps120
    go_wp2_with fail
    go_ret
    exact ⟨ret_bool (by symm; rw [decide_eq_false_iff_not]; intro e; exact Hne.out (by rw [e])), St.refl w⟩

set_option maxHeartbeats 1000000 in
set_option maxRecDepth 100000 in
theorem EqualFunc_c (va vb : Value) (us ws : List Value) (xs ys : List (List Int)) (w : World) (ha : RII w va us xs) (hb : RII w vb ws ys) :
    Calls Try.prog 119 #[va, vb, .func (.func 120) #[] #[]] w (GivesB w (decide (xs = ys))) := by
  have hla := ha.len
  have hlb := hb.len
  have hia := ha.ix
  have hib := hb.ix
  have hma := ha.le
  by_cases hne : xs.length = ys.length
  · have f0 : ((xs.length : Int) != (ys.length : Int)) = false := ne_f (by omega)
    have hle : xs.length ≤ ys.length := by omega
    have Hne := Lib.hid hne; clear hne
    go_enter Try.func119, Try.ntmps119
    go_wp2_with fail
    go_loopw [7, 8, 9, 17] (fun _ _ _ i wr => ∃ k : Nat, k ≤ xs.length ∧ i = .int .i64 k ∧ Hid (∀ j, j < k → xat xs j = xat ys j) ∧ St w.heap.size w wr []) (fun _ _ _ i _ => xs.length - (intOf i).toNat)
    case atStart => exact ⟨0, by omega, rfl, fun j hj => by omega, St.refl w⟩
    case round =>
      obtain ⟨k, hk, rfl, hI, hS⟩ := hrel
      by_cases hlt : k < xs.length
      · have hk2 : k < ys.length := by omega
        have hqa := (hS.oldII ha).cell k hlt
        have hqb := (hS.oldII hb).cell k hk2
        by_cases h1 : xat xs k = xat ys k
        · have f1 : decide (xat xs k = xat ys k) = true := decide_eq_true h1
          have H1 := Lib.hid h1; clear h1
          go_wp2_with fail
          refine (Equal_c _ _ _ _ wr ((hS.oldII ha).row k hlt) ((hS.oldII hb).row k hk2)).mono ?_
          rw [f1]
          rintro e w2 ⟨rfl, h2⟩
          have hS2 := hS.call0 h2
          go_wp2_with fail
          go_roundw
          case rel => exact ⟨k + 1, by omega, by go_num, fun j hj => by
            by_cases e : j = k
            · subst e; exact H1.out
            · exact hI.out j (by omega), hS2⟩
          case measure => simp [intOf]; omega
        · have f1 : decide (xat xs k = xat ys k) = false := decide_eq_false h1
          have H1 := Lib.hid h1; clear h1
          go_wp2_with fail
          refine (Equal_c _ _ _ _ wr ((hS.oldII ha).row k hlt) ((hS.oldII hb).row k hk2)).mono ?_
          rw [f1]
          rintro e w2 ⟨rfl, h2⟩
          have hS2 := hS.call0 h2
          go_wp2_with fail
          go_ret
          exact ⟨ret_bool (by symm; rw [decide_eq_false_iff_not]; intro e; subst e; exact H1.out rfl), hS2⟩
      · go_wp2_with fail
        go_ret
        refine ⟨ret_bool ?_, hS⟩
        symm; rw [decide_eq_true_iff]
        apply List.ext_getElem Hne.out
        intro j h1 h2
        have := hI.out j (by omega)
        rwa [xat_eq h1, xat_eq h2] at this
  · have f0 : ((xs.length : Int) != (ys.length : Int)) = true := ne_t (by omega)
    have Hne := Lib.hid hne; clear hne
    go_enter Try.func119, Try.ntmps119
    go_wp2_with fail
    go_ret
    exact ⟨ret_bool (by symm; rw [decide_eq_false_iff_not]; intro e; exact Hne.out (by rw [e])), St.refl w⟩

theorem areSame_c (va vb : Value) (us ws : List Value) (xs ys : List (List Int)) (w : World) (ha : RII w va us xs) (hb : RII w vb ws ys) :
    Calls Try.prog 87 #[va, vb] w (GivesB w (decide (xs = ys))) := by
  have H := Lib.hid (EqualFunc_c va vb us ws xs ys w ha hb)
  generalize hd : decide (xs = ys) = d at H ⊢
  clear hd
  go_enter Try.func87, Try.ntmps87
  go_wp2_with fail
  refine H.out.mono ?_
  rintro e w1 ⟨rfl, h⟩
  go_wp2_with fail
  go_ret
  exact ⟨rfl, h⟩

set_option maxHeartbeats 1000000 in
set_option maxRecDepth 100000 in
theorem SameArray_c (lv co lv' co' : Int) (v v' : Value) (us us' : List Value) (xss yss : List (List Int)) (w : World) (hv : RII w v us xss) (hv' : RII w v' us' yss) :
    Calls Try.prog 39 #[av lv co v, av lv' co' v'] w (GivesB w (eqA lv co lv' co' xss yss)) := by
  have hS1 := ((St.refl w).newbox 45 #[.int .i64 lv, .int .i64 co, v]).newbox 45 #[.int .i64 lv', .int .i64 co', v']
  unfold av
  by_cases h1 : lv = lv'
  · have f1 := eq_t h1
    have H1 := Lib.hid h1; clear h1
    by_cases h2 : co = co'
    · have f2 := eq_t h2
      have H2 := Lib.hid h2; clear h2
      go_enter Try.func39, Try.ntmps39
      go_wp2_with fail
      have H := Lib.hid (areSame_c v v' us us' xss yss _ (hS1.oldII hv) (hS1.oldII hv'))
      have He : Hid (eqA lv co lv' co' xss yss = decide (xss = yss)) := by
        unfold Hid eqA; rw [H1.out, H2.out]; simp
      generalize decide (xss = yss) = d at H He
      refine H.out.mono ?_
      rintro e w1 ⟨rfl, h⟩
      have hS2 := hS1.call0 (w' := w1) h
      go_wp2_with fail
      go_ret
      exact ⟨ret_bool He.out.symm, hS2.out⟩
    · have f2 := eq_f h2
      have H2 := Lib.hid h2; clear h2
      go_enter Try.func39, Try.ntmps39
      go_wp2_with fail
      go_ret
      exact ⟨ret_bool (decide_eq_false (fun h => H2.out h.2.1)).symm, hS1.out⟩
  · have f1 := eq_f h1
    have H1 := Lib.hid h1; clear h1
    go_enter Try.func39, Try.ntmps39
    go_wp2_with fail
    go_ret
    exact ⟨ret_bool (decide_eq_false (fun h => H1.out h.1)).symm, hS1.out⟩

set_option maxHeartbeats 1000000 in
set_option maxRecDepth 100000 in
theorem sSameArray_c (lv co lv' co' : Int) (v v' : Value) (us us' : List Value) (xss yss : List (List Int)) (w : World) (hv : RII w v us xss) (hv' : RII w v' us' yss) :
    Calls Try.prog 38 #[av lv co v, av lv' co' v'] w (GivesB w (eqA lv co lv' co' xss yss)) := by
  have hS1 := ((St.refl w).newbox 45 #[.int .i64 lv, .int .i64 co, v]).newbox 45 #[.int .i64 lv', .int .i64 co', v']
  unfold av
  by_cases h1 : lv = lv'
  · have f1 := eq_t h1
    have H1 := Lib.hid h1; clear h1
    by_cases h2 : co = co'
    · have f2 := eq_t h2
      have H2 := Lib.hid h2; clear h2
      go_enter Try.func38, Try.ntmps38
      go_wp2_with fail
      have H := Lib.hid (l06Same_c v v' us us' xss yss _ (hS1.oldII hv) (hS1.oldII hv'))
      have He : Hid (eqA lv co lv' co' xss yss = decide (xss = yss)) := by
        unfold Hid eqA; rw [H1.out, H2.out]; simp
      generalize decide (xss = yss) = d at H He
      refine H.out.mono ?_
      rintro e w1 ⟨rfl, h⟩
      have hS2 := hS1.call0 (w' := w1) h
      go_wp2_with fail
      go_ret
      exact ⟨ret_bool He.out.symm, hS2.out⟩
    · have f2 := eq_f h2
      have H2 := Lib.hid h2; clear h2
      go_enter Try.func38, Try.ntmps38
      go_wp2_with fail
      go_ret
      exact ⟨ret_bool (decide_eq_false (fun h => H2.out h.2.1)).symm, hS1.out⟩
  · have f1 := eq_f h1
    have H1 := Lib.hid h1; clear h1
    go_enter Try.func38, Try.ntmps38
    go_wp2_with fail
    go_ret
    exact ⟨ret_bool (decide_eq_false (fun h => H1.out h.1)).symm, hS1.out⟩

end Go.Proofs.Ytonmggppfopidaa
