/- The law FnFactors, walked. -/
import Derived.Test.YtonmggppfopidaaDrw
namespace Go.Proofs.Ytonmggppfopidaa
open Go.RowKit

theorem prod_take {xs : List Int} {k : Nat} (hk : k < xs.length) : prod (xs.take (k + 1)) = prod (xs.take k) * nth xs k := by
  rw [take_nth hk, prod_app]; simp [prod]
theorem prod_take_bd {xs : List Int} (h : ∀ x ∈ xs, Pr x) (k : Nat) : 1 ≤ prod (xs.take k) ∧ prod (xs.take k) ≤ prod xs := by
  have h1 := prod_ge (xs.take k) (fun x hx => h x (List.mem_of_mem_take hx))
  have h2 := prod_ge (xs.drop k) (fun x hx => h x (List.mem_of_mem_drop hx))
  have h3 : prod xs = prod (xs.take k) * prod (xs.drop k) := by rw [← prod_app, List.take_append_drop]
  have := Int.mul_le_mul_of_nonneg_left h2 (show 0 ≤ prod (xs.take k) by omega)
  exact ⟨h1, by rw [h3]; omega⟩

set_option maxHeartbeats 2000000 in
set_option maxRecDepth 100000 in
theorem FnFactors_law (w : World) (cv : Value) (bs : List UInt8) (hb : RdB w cv bs) :
    Calls Try.prog 3 #[cv] w (GivesB w true) := by
  by_cases hlong : 1048576 < bs.length
  · have hl' : decide (1048576 < bs.length) = true := by simpa using hlong
    go_enter Try.func3, Try.ntmps3
    go_wp2_with fail
    refine (b10Long_c w cv bs hb).mono ?_
    rintro e w1 ⟨rfl, rfl⟩
    go_wp2_with fail
    go_ret
    exact ⟨rfl, St.refl _⟩
  · have hl' : decide (1048576 < bs.length) = false := by simpa using hlong
    go_enter Try.func3, Try.ntmps3
    go_wp2_with fail
    refine (b10Long_c w cv bs hb).mono ?_
    rintro e w1 ⟨rfl, rfl⟩
    go_wp2_with fail
    refine (DrawFactorsOf_c w cv bs hb).mono ?_
    rintro e w1 ⟨n, rfl, h1⟩
    go_wp2_with fail
    refine (FactorsOf_c n w1).mono ?_
    rintro e w2 ⟨v, rfl, h2⟩
    have h3 := h1.trans h2
    clear h1 h2
    go_wp2_with fail
    refine (PrimePower_c n w2).mono ?_
    rintro e w3 ⟨rfl, h4⟩
    have hS := h3.call0 h4
    clear h3 h4
    by_cases hn : 1 ≤ n ∧ n ≤ 1000000
    · obtain ⟨o1, o2, o3⟩ := factors_ok hn
      have hPI := Lib.hid (isPr_int n)
      obtain ⟨hn1, hn2⟩ := hn
      generalize factors n = xs at *
      have O3 := Lib.hid o3; clear o3
      have O1 := Lib.hid o1; clear o1
      have hr := hS.rdI 0 rfl
      have hln := hr.len
      have hix := hr.ix
      have hle := hr.le
      clear hr
      go_wp2_with fail
      go_loopw [7, 8] (fun a i wr => ∃ k : Nat, k ≤ xs.length ∧ i = .int .i64 k ∧ a = .int .i64 (prod (xs.take k)) ∧ St w.heap.size w wr [row 2 v (iv xs)]) (fun _ i _ => xs.length - (intOf i).toNat)
      case atStart => exact ⟨0, by omega, rfl, rfl, hS⟩
      case round =>
        clear hS
        obtain ⟨k, hk, rfl, rfl, hS⟩ := hrel
        have hc := (hS.rdI 0 rfl).cell
        obtain ⟨hp1, hp2⟩ := prod_take_bd O1.out k
        rw [O3.out] at hp2
        by_cases hlt : k < xs.length
        · have hPr := O1.out _ (nth_mem hlt)
          have hdiv : nth xs k ≤ 1000000 := by
            have := (prod_take_bd O1.out (k + 1)).2
            rw [prod_take hlt, O3.out] at this
            have h2 := hPr.1
            have := Int.mul_le_mul_of_nonneg_right hp1 (show 0 ≤ nth xs k by omega)
            omega
          have hip : isPr (nth xs k) = true := (isPr_iff (pr_le hPr hdiv)).2 hPr
          have hq := fun s : SS w.heap.size w _ => (s.st.rdI (xs := xs) (v := v) (L := [row 2 v (iv xs)]) 0 rfl).cell
          have hmul := (prod_take_bd O1.out (k + 1))
          rw [prod_take hlt, O3.out] at hmul
          obtain ⟨hm1, hm2⟩ := hmul
          have hP := Lib.hid (prod_take hlt)
          have hP0 := Lib.hid (show prod (xs.take k) = prod (xs.take k) from rfl)
          clear hP0
          generalize prod (xs.take k) = P at *
          by_cases h0 : 0 < k
          · have hup := up_step xs 2 o2 (k - 1) (by omega)
            rw [← nth_eq, ← nth_eq] at hup
            have ek : k - 1 + 1 = k := by omega
            rw [ek] at hup
            clear ek
            have hix1 := (hS.rdI 0 rfl).ixe ((k : Int) - 1) (k - 1) (by omega) (by omega)
            have hq1 := fun s => hq s (k - 1) (by omega)
            have hup' : decide (nth xs k < nth xs (k - 1)) = false := decide_eq_false (by omega)
            go_wp2_with fail
            have hne : Nonempty (SS _ _ _) := ⟨⟨_, hS⟩⟩
            refine wp_region_st (by kernel_rfl) (by kernel_rfl) hS ?_
            repeat (go_big_quiet_step ((go_at_call 20; exact st_quiet (IsPrime_c _ _))))
            refine wpQuiet_nil ?_
            rintro _ ⟨s2, rfl⟩
            have hS2 := s2.st
            generalize s2.w = w2 at hS2 ⊢
            have hc2 := (hS2.rdI 0 rfl).cell
            go_wp2_with fail
            go_roundw
            case rel => exact ⟨k + 1, by omega, by go_num, by rw [hP.out], hS2⟩
            case measure => simp [intOf]; omega
          · go_wp2_with fail
            have hne : Nonempty (SS _ _ _) := ⟨⟨_, hS⟩⟩
            refine wp_region_st (by kernel_rfl) (by kernel_rfl) hS ?_
            repeat (go_big_quiet_step ((go_at_call 20; exact st_quiet (IsPrime_c _ _))))
            refine wpQuiet_nil ?_
            rintro _ ⟨s2, rfl⟩
            have hS2 := s2.st
            generalize s2.w = w2 at hS2 ⊢
            have hc2 := (hS2.rdI 0 rfl).cell
            go_wp2_with fail
            go_roundw
            case rel => exact ⟨k + 1, by omega, by go_num, by rw [hP.out], hS2⟩
            case measure => simp [intOf]; omega
        · have ekl : prod (xs.take k) = n := by rw [List.take_of_length_le (by omega)]; exact O3.out
          rw [ekl]
          clear ekl hp1 hp2
          have hne : (isPr n == ((xs.length : Int) == 1)) = true := by rw [hPI.out]; simp
          have hnn : (n != n) = false := by simp
          go_wp2_with fail
          refine (IsPrime_c _ _).mono ?_
          rintro e w5 ⟨rfl, h5⟩
          have hS5 := hS.call0 h5
          clear hc hS h5
          have hq := fun s : SS w.heap.size w _ => (s.st.rdI (xs := xs) (v := v) (L := [row 2 v (iv xs)]) 0 rfl).cell
          by_cases hl0 : 0 < xs.length
          · have hix0 := hix .i64 0 (by omega) (by omega)
            have hix1 := (hS5.rdI 0 rfl).ixe ((xs.length : Int) - 1) (xs.length - 1) (by omega) (by omega)
            have hq0 := fun s => hq s 0 (by omega)
            have hq1 := fun s => hq s (xs.length - 1) (by omega)
            by_cases hee : nth xs 0 = nth xs (xs.length - 1)
            · have hee' : (nth xs 0 == nth xs (xs.length - 1)) = true := eq_t hee
              have hall : ∀ j, j < xs.length → nth xs j = nth xs 0 := fun j hj => by
                have u1 := up_le_last xs 2 o2 j hj
                have u2 := up_nth xs 2 o2
                rw [← nth_eq hj, ← nth_eq (by omega)] at u1
                have u3 : nth xs 0 ≤ nth xs j := by
                  clear u1 hee' hee
                  induction j with
                  | zero => omega
                  | succ j ih =>
                    have := up_step xs 2 o2 j hj
                    rw [← nth_eq, ← nth_eq] at this
                    have := ih (by omega)
                    omega
                omega
              have hpp := pp_yes hl0 hall
              have Hpp := Lib.hid hpp
              have Hee := Lib.hid hee
              clear hall hpp hee
              have hp1 : ((pp xs).1 == nth xs 0) = true := by rw [Hpp.out]; simp
              have hp2 : ((pp xs).2 == (xs.length : Int)) = true := by rw [Hpp.out]; simp
              go_wp2_with fail
              have hne : Nonempty (SS _ _ _) := ⟨⟨_, hS5⟩⟩
              refine wp_region_st (by kernel_rfl) (by kernel_rfl) hS5 ?_
              repeat (go_big_quiet_step (fail))
              refine wpQuiet_nil ?_
              rintro _ ⟨s2, rfl⟩
              have hS6 := s2.st
              generalize s2.w = w6 at hS6 ⊢
              have hc6 := (hS6.rdI 0 rfl).cell 0 (by omega)
              go_wp2_with fail
              go_ret
              exact ⟨rfl, hS6.out⟩
            · have hee' : (nth xs 0 == nth xs (xs.length - 1)) = false := eq_f hee
              have Hpp := Lib.hid (pp_no (xs := xs) (k := xs.length - 1) (by omega) (fun h => hee h.symm))
              have Hee := Lib.hid hee
              clear hee
              have hp1 : ((pp xs).1 == 0) = true := by rw [Hpp.out]; rfl
              have hp2 : ((pp xs).2 == 0) = true := by rw [Hpp.out]; rfl
              go_wp2_with fail
              have hne : Nonempty (SS _ _ _) := ⟨⟨_, hS5⟩⟩
              refine wp_region_st (by kernel_rfl) (by kernel_rfl) hS5 ?_
              repeat (go_big_quiet_step (fail))
              refine wpQuiet_nil ?_
              rintro _ ⟨s2, rfl⟩
              have hS6 := s2.st
              generalize s2.w = w6 at hS6 ⊢
              go_wp2_with fail
              go_ret
              exact ⟨rfl, hS6.out⟩
          · have Hpp := Lib.hid (show pp xs = (0, 0) by rw [List.eq_nil_of_length_eq_zero (show xs.length = 0 by omega)]; rfl)
            have hp1 : ((pp xs).1 == 0) = true := by rw [Hpp.out]; rfl
            have hp2 : ((pp xs).2 == 0) = true := by rw [Hpp.out]; rfl
            go_wp2_with fail
            have hne : Nonempty (SS _ _ _) := ⟨⟨_, hS5⟩⟩
            refine wp_region_st (by kernel_rfl) (by kernel_rfl) hS5 ?_
            repeat (go_big_quiet_step (fail))
            refine wpQuiet_nil ?_
            rintro _ ⟨s2, rfl⟩
            have hS6 := s2.st
            generalize s2.w = w6 at hS6 ⊢
            go_wp2_with fail
            go_ret
            exact ⟨rfl, hS6.out⟩
    · have hf : factors n = [] := by simp [factors, hn]
      rw [hf] at hS ⊢
      rw [pp_nil]
      have hln := (hS.rdI 0 rfl).len
      by_cases hn1 : n < 1
      · go_wp2_with fail
        go_ret
        exact ⟨rfl, hS.out⟩
      · have hn2 : 1000000 < n := by omega
        go_wp2_with fail
        go_ret
        exact ⟨rfl, hS.out⟩
end Go.Proofs.Ytonmggppfopidaa
