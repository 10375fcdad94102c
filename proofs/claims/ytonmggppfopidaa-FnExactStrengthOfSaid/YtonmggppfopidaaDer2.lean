/- Walks: DeriveArray of the reference. -/
import Derived.Test.YtonmggppfopidaaDer
namespace Go.Proofs.Ytonmggppfopidaa
set_option linter.unusedSimpArgs false
set_option linter.unusedVariables false
open Go.RowKit

set_option maxHeartbeats 4000000 in
set_option maxRecDepth 100000 in
theorem sDeriveArray_c (lv co c x : Int) (v : Value) (us : List Value) (xss : List (List Int)) (w : World) (hv : RII w v us xss) :
    Calls Try.prog 57 #[av lv co v, .int .i64 c, .int .i64 x] w (MakesA w (derA lv co xss c x) (derC lv co xss c x)) := by
  have hS0 := ((St.refl w).newboxF 45 #[.int .i64 lv, .int .i64 co, v]).newboxF 45 #[.int .i64 0, .int .i64 0, .slice none 0 0]
  simp only [World.size_alloc] at hS0
  have HV := Lib.hid (l16Ok_c lv co w.heap.size v us xss _ (hS0.oldII hv) ⟨hS0.bcell 1 rfl 0 rfl, hS0.bcell 1 rfl 1 rfl, hS0.bcell 1 rfl 2 rfl⟩)
  unfold av
  go_enter Try.func57, Try.ntmps57
  go_wp2_with fail
  refine HV.out.mono ?_
  rintro e w1 ⟨rfl, h1⟩
  have hS1 := hS0.call0 h1
  clear hS0 h1 HV
  have b0 := hS1.bcell 0 rfl 0 rfl
  have b1 := hS1.bcell 0 rfl 1 rfl
  have b2 := hS1.bcell 0 rfl 2 rfl
  have c0 := hS1.bcell 1 rfl 0 rfl
  have c1 := hS1.bcell 1 rfl 1 rfl
  have c2 := hS1.bcell 1 rfl 2 rfl
  have f0 := hS1.bfree 0 rfl
  have t0 := (hS1.blt 0 rfl).2
  have t1 := (hS1.blt 1 rfl).2
  have hS9 := ((hS1.bstore 0 rfl 0 (.int .i64 0)).bstore 0 rfl 1 (.int .i64 0)).bstore 0 rfl 2 (.slice none 0 0)
  cases hok : okA lv co xss
  · go_wp2_with fail
    refine bodyPost_ret (v := .tuple #[.agg #[.int .i64 0, .int .i64 0, .slice none 0 0], .int .i64 1]) (by simp [results, Try.results57, go_sem, b0, b1, b2]) rfl ?_
    exact MakesA.no (by simp [derA, derGood, hok]) (by simp [derC, hok]) hS9
  · obtain ⟨hsh, hlen, hrow⟩ := okA_t hok
    obtain ⟨l1, l2, k1, k2⟩ := shapeB_t hsh
    have Hok := Lib.hid hok
    have Hrow := Lib.hid hrow
    clear hok hrow hsh
    cases hc : inB c 0 (co - 1)
    · go_wp2_with (go_at_call 93; refine (l00In_c _ _ _ _).mono ?_; rintro e w3 ⟨rfl, rfl⟩)
      refine bodyPost_ret (v := .tuple #[.agg #[.int .i64 0, .int .i64 0, .slice none 0 0], .int .i64 2]) (by simp [results, Try.results57, go_sem, b0, b1, b2]) rfl ?_
      exact MakesA.no (by simp [derA, derGood, hc]) (by simp [derC, hc, Hok.out]) hS9
    · cases hx : inB x 0 (lv - 1)
      · go_wp2_with (go_at_call 93; refine (l00In_c _ _ _ _).mono ?_; rintro e w3 ⟨rfl, rfl⟩)
        refine bodyPost_ret (v := .tuple #[.agg #[.int .i64 0, .int .i64 0, .slice none 0 0], .int .i64 2]) (by simp [results, Try.results57, go_sem, b0, b1, b2]) rfl ?_
        exact MakesA.no (by simp [derA, derGood, hx]) (by simp [derC, hc, hx, Hok.out]) hS9
      · obtain ⟨q0, q1⟩ : 0 ≤ c ∧ c ≤ co - 1 := by simpa [inB] using hc
        obtain ⟨x0, x1⟩ : 0 ≤ x ∧ x ≤ lv - 1 := by simpa [inB] using hx
        by_cases h1 : co = 1
        · have f1 := eq_t h1
          have H1 := Lib.hid h1; clear h1
          go_wp2_with (go_at_call 93; refine (l00In_c _ _ _ _).mono ?_; rintro e w3 ⟨rfl, rfl⟩)
          refine bodyPost_ret (v := .tuple #[.agg #[.int .i64 0, .int .i64 0, .slice none 0 0], .int .i64 6]) (by simp [results, Try.results57, go_sem, b0, b1, b2]) rfl ?_
          exact MakesA.no (by simp [derA, derGood, H1.out]) (by rw [derC, if_neg (by rw [Hok.out]; simp), if_neg (by simp [hc, hx]), if_pos H1.out]) hS9
        · have f1 := eq_f h1
          have H1 := Lib.hid h1; clear h1
          have HA := Lib.hid (show derA lv co xss c x = ⟨lv, co - 1, derRows c.toNat x xss⟩ by rw [derA, if_pos]; simp [derGood, hc, hx, Hok.out, H1.out])
          have HC := Lib.hid (show derC lv co xss c x = 0 by rw [derC, if_neg (by rw [Hok.out]; simp), if_neg (by simp [hc, hx]), if_neg H1.out])
          have Hc := Lib.hid hc; clear hc
          have Hx := Lib.hid hx; clear hx
          obtain ⟨cn, rfl⟩ : ∃ n : Nat, c = n := ⟨c.toNat, by omega⟩
          rw [Int.toNat_natCast] at HA
          have hlv := (hS1.oldII hv).len
          have hix := hv.ix
          have Gc : inB (cn : Int) 0 (co - 1) = true := Hc.out
          have Gx : inB x 0 (lv - 1) = true := Hx.out
          go_wp2_with (go_at_call 93; refine (l00In_c _ _ _ _).mono ?_; rintro e w3 ⟨rfl, rfl⟩)
          clear Gc Gx
          have hS2 := (hS1.new 25 #[] (by simp)).newboxF 45 #[.int .i64 lv, .int .i64 (co - 1), .slice (some ⟨w1.heap.size, 0, none⟩) 0 0]
          simp only [List.cons_append, List.nil_append, World.size_alloc] at hS2
          have hln := hv.len
          clear b0 b1 b2 c0 c1 c2 f0 t0 t1 hS9
          go_loopw [9, 10] (fun i _ wr => ∃ (k m : Nat) (a : Option Addr) (d : Nat) (us' : List Value), k ≤ xss.length ∧ i = .int .i64 k ∧ m ≤ k ∧ Hid (us'.length = m) ∧ Hid ((derRows cn x (xss.take k)).length = m) ∧ St w.heap.size w wr (box 45 (w1.heap.size + 1) [.int .i64 lv, .int .i64 (co - 1), .slice a m d] :: box 45 (w.heap.size + 1) [.int .i64 0, .int .i64 0, .slice none 0 0] :: box 45 w.heap.size [.int .i64 lv, .int .i64 co, v] :: own2 (.slice a m d) us' (derRows cn x (xss.take k)))) (fun i _ _ => xss.length - (intOf i).toNat)
          case atStart => exact ⟨0, 0, _, 0, [], by omega, rfl, by omega, rfl, rfl, hS2.perm (by simp only [own2]; exact List.Perm.refl _)⟩
          case round =>
            obtain ⟨k, m, a, d, us', hk, rfl, hmk, hl, hl2, hS⟩ := hrel
            have a2 := hS.bcell 2 rfl 2 rfl
            by_cases hlt : k < xss.length
            · have hck := (hS.oldII hv).cell k hlt
              have hr := (hS.oldII hv).row k hlt
              have Hlen := Lib.hid (Hrow.out _ (xat_mem hlt)).1
              have hcn : cn < (xat xss k).length := by have := Hlen.out; omega
              have hx1 := hr.ixe cn cn rfl hcn
              have hx2 := hr.cell cn hcn
              have hsn := Lib.hid (derRows_snoc (c := cn) (x := x) hlt)
              cases he : (nth (xat xss k) cn == x)
              · go_wp2_with fail
                go_roundw
                case rel =>
                  have e : derRows cn x (xss.take (k + 1)) = derRows cn x (xss.take k) := by rw [hsn.out, he]; rfl
                  exact ⟨k + 1, m, a, d, us', by omega, by go_num, by omega, hl, by rw [e]; exact hl2, by rw [e]; exact hS⟩
                case measure => simp [intOf]; omega
              · have hc1 := rsl_hi hr cn (by omega)
                have hc2 := rsl_lo hr (cn + 1) (by omega)
                have r1 : RdI wr (rsl (vat us k) 0 cn) ((xat xss k).take cn) := by have := rsl_rd hr (lo := 0) (hi := cn) (by omega) (by omega); rwa [List.drop_zero] at this
                have r2 : RdI wr (rsl (vat us k) (cn + 1) (xat xss k).length) ((xat xss k).drop (cn + 1)) := by have := rsl_rd hr (lo := cn + 1) (hi := (xat xss k).length) (by omega) (by omega); rwa [List.take_length] at this
                obtain ⟨a1, d1, e1⟩ := r1.shp cn (by simp; omega)
                obtain ⟨a2', d2, e2⟩ := r2.shp ((xat xss k).length - (cn + 1)) (by simp)
                rw [e1] at hc1 r1
                rw [e2] at hc2 r2
                clear e1 e2
                have hw1 := IntWalk.i64_in ((cn : Int) + 1) (by omega)
                push_cast at hc2
                have hown := Lib.hid (l00Own_c _ _ _ r1 (by simp; have := Hlen.out; omega))
                have hm4 : m < 4294967296 := by omega
                go_wp2_with fail
                refine hown.out.mono ?_
                rintro e w2 ⟨u, rfl, h2⟩
                have hS3 := (hS.call h2).perm List.perm_append_comm
                simp only [List.cons_append, List.nil_append] at hS3
                have r3 := (r2.keep h2.below).keep (St.refl w2).drew.below
                have hS4 := hS3.drew
                have hck4 := (hS4.oldII hv).cell k hlt
                have b2 := hS4.bcell 1 rfl 2 rfl
                have a3 := hS4.bcell 3 rfl 2 rfl
                have hN1 := Lib.hid (show ((xat xss k).take cn).length + ((xat xss k).drop (cn + 1)).length ≤ 4294967296 by simp; have := Hlen.out; omega)
                clear hck a2 r1 hown hS hS3 h2
                go_wp2_with fail
                go_region_law (first
                  | (refine stepsI hS4 0 rfl _ _ r3 hN1.out rfl (.tmp 67) (.tmp 75) rfl (by simp [Act.eval, Act.put]) (by simp [Act.eval, Act.put]) ?_; intro v' w5 hS5; have hr5 : RdI w5 v' (derRow cn (xat xss k)) := hS5.rdI 0 rfl; have hsl := hr5.sl; obtain ⟨ua, uc, hu⟩ := hr5.shp _ rfl; subst hu; have b5 := hS5.bcell 1 rfl 2 rfl; have b6 := (hS5.alloc' (.cells #[.slice ua (derRow cn (xat xss k)).length uc] 25)).bcell 1 rfl 2 rfl; have a5 := hS5.bcell 3 rfl 2 rfl; have hck5 := (hS5.oldII hv).cell k hlt)
                  | (refine stepII hS5 4 rfl (by rw [hl.out]; exact hm4) rfl (.tmp 66) (.tmp 77) rfl (by simp [Act.eval, Act.put]) _ hsl.one (by simp [Act.eval, Act.put]) ?_; intro v' w6 hS6; obtain ⟨va, vc, hv'⟩ := (hS6.rd 4 rfl).sl.sh; rw [List.length_append, hl.out, List.length_singleton] at hv'; subst hv'; have d2 := hS6.bcell 1 rfl 2 rfl; have f2 := hS6.bfree 1 rfl 2))
                all_goals
                  go_wp2_with fail
                  go_roundw
                  case rel =>
                    have e : derRows cn x (xss.take (k + 1)) = derRows cn x (xss.take k) ++ [derRow cn (xat xss k)] := by rw [hsn.out, he]; rfl
                    refine ⟨k + 1, m + 1, va, vc, us' ++ [.slice ua (derRow cn (xat xss k)).length uc], by omega, by go_num, by omega, by simp [Hid, hl.out], by rw [e]; simp [Hid, hl2.out], ?_⟩
                    rw [e, own2, rowsI_app (by rw [hl.out, hl2.out])]
                    have hS7 := hS6.bstore 1 rfl 2 (.slice va (m + 1) vc)
                    refine hS7.perm ?_
                    simp only [List.set_cons_zero, List.set_cons_succ, List.cons_append, own2]
                    exact List.perm_append_comm (l₁ := [_])
                  case measure => simp [intOf]; omega
            · obtain rfl : k = xss.length := by omega
              rw [List.take_length] at hS hl2
              have b0 := hS.bcell 0 rfl 0 rfl
              have b1 := hS.bcell 0 rfl 1 rfl
              have b2 := hS.bcell 0 rfl 2 rfl
              have c0 := hS.bcell 1 rfl 0 rfl
              have c1 := hS.bcell 1 rfl 1 rfl
              have c2 := hS.bcell 1 rfl 2 rfl
              have f1 := hS.bfree 1 rfl
              go_wp2_with fail
              have hS9 := ((hS.bstore 1 rfl 0 (.int .i64 lv)).bstore 1 rfl 1 (.int .i64 (co - 1))).bstore 1 rfl 2 (.slice a m d)
              refine bodyPost_ret (v := .tuple #[.agg #[.int .i64 lv, .int .i64 (co - 1), .slice a m d], .int .i64 0]) (by simp [results, Try.results57, go_sem, c0, c1, c2]) rfl ?_
              exact MakesA.yes HA.out HC.out (by rw [hl.out, hl2.out]) ((((List.Sublist.refl _).cons _).cons _).cons _) hS9
end Go.Proofs.Ytonmggppfopidaa
