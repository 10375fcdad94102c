/- Walks: PolynomialArray of the reference. -/
import Derived.Test.YtmkfafhgcnbcaaaPoly
namespace Go.Proofs.Ytmkfafhgcnbcaaa
set_option linter.unusedSimpArgs false
set_option linter.unusedVariables false
open Go.RowKit
attribute [local go_sem ↓] Go.wp_at_zero Go.wp_at_succ

set_option maxHeartbeats 16000000 in
set_option maxRecDepth 100000 in
theorem l16Poly_c (n T m R : Nat) (w : World) (h2 : 2 ≤ n) (h16 : n ≤ 16) (hmk : MK n) (hT1 : 1 ≤ T) (hT8 : T ≤ 8) (hm8 : m ≤ 8) (hmn : m ≤ n + 1) (hR : pu n 256 T 1 = R) (hR2 : R ≤ 256) :
    Calls Try.prog 94 #[.int .i64 n, .int .i64 T, .int .i64 m] w fun e w' => ∃ a cp us, e = .returned (.agg #[.int .i64 n, .int .i64 m, .slice a R cp]) ∧ us.length = R ∧ St w.heap.size w w' (own2 (.slice a R cp) us (polyRows n T m R)) := by
  have hS0 := (St.refl w).newboxF 51 #[.int .i64 0, .int .i64 0, .slice none 0 0]
  have HM := fun W => Lib.hid (l03Make_c n W h2 (by omega) hmk)
  have hfv := hmk.fv (by omega)
  have Hdl := fun (k : Nat) => Lib.hid (show (digs n T k).length = T from digs_len _ _ _)
  have Hde := Lib.hid (fun (k : Nat) => digs_el (t := T) (k := k) h2 hmk)
  have Hel := Lib.hid (fun (j : Nat) (hj : j < n) => (show El ((spl n).1 : Nat) (spl n).2 (j : Int) from ⟨by omega, by rw [← Int.natCast_pow, hmk.pw]; omega⟩))
  have Hhf := fun (k : Nat) (hk : k ≤ 256) W => Lib.hid (l16Digits_c k n T W (by omega) (by omega) (by omega) (by omega) (by omega))
  have Hps := Lib.hid (fun (cs : List Int) (j : Nat) => polyRow_succ n cs j)
  have HC := fun W => Lib.hid (show Calls Try.prog 93 #[.int .i64 n, .int .i64 T] W fun e w' => e = .returned (.int .i64 R) ∧ W = w' by
    have := l16Count_c n T W (by omega) (by omega) (by omega) (by omega)
    rw [cnt_pu _ _ (by omega), Int.toNat_natCast, if_neg (by omega), hR] at this
    exact this)
  clear hR hmk
  generalize (spl n).1 = P at *
  generalize (spl n).2 = D at *
  generalize mkF n = F at *
  have Hfv := Lib.hid hfv
  clear hfv
  go_enter Try.func94, Try.ntmps94
  go_wp2_with fail
  refine (HM _).out.mono ?_
  rintro e w1 ⟨v1, rfl, h1⟩
  obtain ⟨a1, c1, he1⟩ := (h1.rdI 0 rfl).shp'
  subst he1
  have hS1 := hS0.call h1
  have hS2 := ((hS1.newboxF 29 #[.int .i64 P, .int .i64 D, .slice a1 F.length c1]).new 22 #[] (by simp)).newboxF 51 #[.int .i64 n, .int .i64 m, .slice (some ⟨w1.heap.size + 1, 0, none⟩) 0 0]
  simp only [World.size_alloc, List.cons_append, List.nil_append] at hS2
  unfold fv
  clear hS0 hS1 h1 HM
  go_wp2_with fail
  refine (HC _).out.mono ?_
  rintro e w3 ⟨rfl, rfl⟩
  go_wp2_with fail
  go_loopw [10, 11, 12, 13, 14, 15] (fun ii _ _ _ _ _ wr => ∃ (k : Nat) (a : Option Addr) (cp : Nat) (us : List Value), k ≤ R ∧ ii = .int .i64 k ∧ Hid (us.length = k) ∧ St w.heap.size w wr (box 51 (w1.heap.size + 2) [.int .i64 n, .int .i64 m, .slice a k cp] :: box 29 w1.heap.size [.int .i64 P, .int .i64 D, .slice a1 F.length c1] :: box 51 w.heap.size [.int .i64 0, .int .i64 0, .slice none 0 0] :: row 2 (.slice a1 F.length c1) (iv F) :: own2 (.slice a k cp) us (polyRows n T m k))) (fun ii _ _ _ _ _ _ => R - (intOf ii).toNat)
  case atStart => exact ⟨0, _, 0, [], by omega, rfl, rfl, hS2⟩
  case round =>
    obtain ⟨k, a, cp, us, hk, rfl, hl, hS⟩ := hrel
    by_cases hlt : k < R
    · have hk256 : k ≤ 256 := by omega
      go_wp2_with fail
      refine (Hhf k hk256 _).out.mono ?_
      rintro e w4 ⟨vc, rfl, h4⟩
      have hS4b : St w.heap.size w (w4.alloc (.cells #[] 2)) ((box 51 (w1.heap.size + 2) [.int .i64 n, .int .i64 m, .slice a k cp] :: box 29 w1.heap.size [.int .i64 P, .int .i64 D, .slice a1 F.length c1] :: box 51 w.heap.size [.int .i64 0, .int .i64 0, .slice none 0 0] :: row 2 (.slice a1 F.length c1) (iv F) :: own2 (.slice a k cp) us (polyRows n T m k)) ++ [row 2 vc (iv (digs n T k))] ++ [row 2 (.slice (some ⟨w4.heap.size, 0, none⟩) 0 0) []]) := (hS.call h4).new 2 #[] (by simp)
      have hS4 := hS4b.perm (L' := row 2 (.slice (some ⟨w4.heap.size, 0, none⟩) 0 0) [] :: row 2 vc (iv (digs n T k)) :: box 51 (w1.heap.size + 2) [.int .i64 n, .int .i64 m, .slice a k cp] :: box 29 w1.heap.size [.int .i64 P, .int .i64 D, .slice a1 F.length c1] :: box 51 w.heap.size [.int .i64 0, .int .i64 0, .slice none 0 0] :: row 2 (.slice a1 F.length c1) (iv F) :: own2 (.slice a k cp) us (polyRows n T m k)) (by (try simp only [own2, List.cons_append, List.nil_append, List.append_nil]); classical exact List.perm_iff_count.2 (fun a => by simp only [List.cons_append, List.nil_append, List.append_nil, List.count_append, List.count_cons, List.count_nil] <;> omega))
      clear h4 hS4b
      go_wp2_with fail
      go_loopw [12, 13, 14, 15] (fun r jj _ _ wx => ∃ j : Nat, j ≤ m ∧ jj = .int .i64 j ∧ St w.heap.size w wx (row 2 r (iv (polyRow n (digs n T k) j)) :: row 2 vc (iv (digs n T k)) :: box 51 (w1.heap.size + 2) [.int .i64 n, .int .i64 m, .slice a k cp] :: box 29 w1.heap.size [.int .i64 P, .int .i64 D, .slice a1 F.length c1] :: box 51 w.heap.size [.int .i64 0, .int .i64 0, .slice none 0 0] :: row 2 (.slice a1 F.length c1) (iv F) :: own2 (.slice a k cp) us (polyRows n T m k))) (fun _ jj _ _ _ => m - (intOf jj).toNat)
      case atStart => exact ⟨0, by omega, rfl, hS4⟩
      case round =>
        obtain ⟨j, hj, rfl, hS⟩ := hrel
        have Hpl := Lib.hid (show (polyRow n (digs n T k) j).length < 4294967296 by rw [polyRow_len]; omega)
        by_cases hjm : j < m
        · have h0 : 0 < (digs n T k).length := by rw [(Hdl k).out]; omega
          have c0 := (hS.rdI 1 rfl).cell 0 h0
          have x0 := (hS.rdI 1 rfl).ixe 0 0 rfl h0
          by_cases hjn : j < n
          · have Hst := Lib.hid (show polyRow n (digs n T k) (j + 1) = polyRow n (digs n T k) j ++ [hor P D F j (digs n T k)] by rw [Hps.out, if_neg (by omega)])
            have hln := (hS.rdI 1 rfl).len
            have hle := (hS.rdI 1 rfl).le
            have hjl := (Hel.out j hjn).lim Hfv.out
            clear h0
            go_wp2_with fail
            go_loopw [14, 15] (fun vv ii wz => ∃ i : Nat, i ≤ (digs n T k).length ∧ ii = .int .i64 i ∧ vv = .int .i64 (hor P D F j ((digs n T k).take i)) ∧ St w.heap.size w wz (row 2 u12 (iv (polyRow n (digs n T k) j)) :: row 2 vc (iv (digs n T k)) :: box 51 (w1.heap.size + 2) [.int .i64 n, .int .i64 m, .slice a k cp] :: box 29 w1.heap.size [.int .i64 P, .int .i64 D, .slice a1 F.length c1] :: box 51 w.heap.size [.int .i64 0, .int .i64 0, .slice none 0 0] :: row 2 (.slice a1 F.length c1) (iv F) :: own2 (.slice a k cp) us (polyRows n T m k))) (fun _ ii _ => (digs n T k).length - (intOf ii).toNat)
            case atStart => exact ⟨0, by omega, rfl, rfl, hS⟩
            case round =>
              obtain ⟨i, hi, rfl, rfl, hS⟩ := hrel
              by_cases hil : i < (digs n T k).length
              · have ci := (hS.rdI 1 rfl).cell i hil
                have xi := (hS.rdI 1 rfl).ixe (i : Int) i rfl hil
                have hBf : BoxF _ w1.heap.size P D _ := ⟨hS.drew.bcell 3 rfl 0 rfl, hS.drew.bcell 3 rfl 1 rfl, hS.drew.bcell 3 rfl 2 rfl⟩
                have hrf := hS.drew.rdI 5 (v := .slice a1 F.length c1) (xs := F) rfl
                have hel : El P D (hor P D F j ((digs n T k).take i)) := by
                  rcases List.eq_nil_or_concat ((digs n T k).take i) with e | ⟨l, a, e⟩
                  · rw [e]; exact el_zero Hfv.out.fa
                  · rw [e, List.concat_eq_append, hor_snoc]; exact fsum_el Hfv.out.fa.pos _ _ _
                have hh := hel.lim Hfv.out
                have hpl := (fmul_el Hfv.out.fa (hor P D F j ((digs n T k).take i)) j).lim Hfv.out
                have hcl := (Hde.out k _ (nth_mem hil)).lim Hfv.out
                have Hst2 := Lib.hid (show fsum P D (fmul P D F (hor P D F j ((digs n T k).take i)) j) (nth (digs n T k) i) 1 = hor P D F j ((digs n T k).take (i + 1)) by rw [take_nth hil, hor_snoc])
                have Hmul := Lib.hid (l03Mul_c P D w1.heap.size _ F (hor P D F j ((digs n T k).take i)) j _ hrf hBf Hfv.out hh.1 hh.2 hjl.1 hjl.2)
                have Hsum := fun W (hb : BoxF W w1.heap.size P D (.slice a1 F.length c1)) => Lib.hid (l03Sum_c P D w1.heap.size _ F (fmul P D F (hor P D F j ((digs n T k).take i)) j) (nth (digs n T k) i) 1 W hb Hfv.out hpl.1 hpl.2 hcl.1 hcl.2 (by omega) (by omega))
                clear hel hh hpl hcl hBf hrf
                generalize hor P D F j ((digs n T k).take i) = V at *
                go_wp2_with fail
                go_region_held3 (fun w' => w'.cell? (el vc i) = some (.int .i64 (nth (digs n T k) i))) (((try dsimp only); (repeat' apply And.intro); all_goals (repeat (first | assumption | exact cell_dr (by assumption) | refine cell_dr ?_ | refine cell_al ?_ | refine cell_sc (by assumption) ?_))))
                  (first
                  | (go_at_call 112; refine Hmul.out.mono ?_; rintro e w5 ⟨rfl, h5⟩; have hS5 := hS.drew.call0 h5; have d0 := (hS5.rdI 1 rfl).cell i hil; have hBf : BoxF _ w1.heap.size P D _ := ⟨hS5.bcell 3 rfl 0 rfl, hS5.bcell 3 rfl 1 rfl, hS5.bcell 3 rfl 2 rfl⟩)
                  | (go_at_call 111; refine (Hsum _ hBf).out.mono ?_; rintro e w6 ⟨rfl, h6⟩; have hS6 := hS5.call0 h6; have e0 := (hS6.rdI 1 rfl).cell i hil))
                go_wp2_with fail
                go_roundw
                case rel => exact ⟨i + 1, by omega, by go_num, by rw [Hst2.out], hS6⟩
                case measure => simp [intOf]; omega
              · have hie : i = (digs n T k).length := by omega
                have Hve := Lib.hid (show hor P D F j ((digs n T k).take i) = hor P D F j (digs n T k) by rw [hie, List.take_length])
                clear hie
                go_wp2_with (at_builtin; refine appI hS 0 rfl Hpl.out rfl _ _ rfl rfl _ rfl ?_; intro v6 w6 hS6)
                go_roundw
                case rel => exact ⟨j + 1, by omega, by go_num, by rw [Hst.out, ← Hve.out]; exact hS6⟩
                case measure => simp [intOf]; omega
          · have Hst := Lib.hid (show polyRow n (digs n T k) (j + 1) = polyRow n (digs n T k) j ++ [nth (digs n T k) 0] by rw [Hps.out, if_pos (by omega)])
            clear h0
            go_wp2_with (at_builtin; refine appI hS 0 rfl Hpl.out rfl _ _ rfl rfl _ rfl ?_; intro v6 w6 hS6)
            go_roundw
            case rel => exact ⟨j + 1, by omega, by go_num, by rw [Hst.out]; exact hS6⟩
            case measure => simp [intOf]; omega
        · have hje : j = m := by omega
          rw [hje] at hS
          clear hje Hpl
          obtain ⟨ar, cr, hre⟩ := (hS.rdI 0 rfl).shp'
          subst hre
          have Hprl := Lib.hid (show (polyRow n (digs n T k) m).length = m from polyRow_len _ _ _)
          have c2 := hS.bcell 2 rfl 2 rfl
          go_wp2_with (at_builtin; refine appII hS 6 rfl (by rw [hl.out]; omega) rfl _ _ rfl rfl _ rfl rfl ?_; intro v6 w6 hS6; obtain ⟨va, vc2, hv'⟩ := (hS6.rd 6 rfl).sl.sh; rw [List.length_append, hl.out, List.length_singleton] at hv'; subst hv'; have d2 := hS6.bcell 2 rfl 2 rfl; have e2 := hS6.bfree 2 rfl)
          have hS7 := hS6.bstore 2 rfl 2 (.slice va (k + 1) vc2)
          go_roundw
          case rel =>
            refine ⟨k + 1, va, vc2, us ++ [.slice ar (polyRow n (digs n T k) m).length cr], by omega, by go_num, by simp [Hid, hl.out], ?_⟩
            rw [polyRows_succ, own2, rowsI_app (by rw [hl.out, polyRows_len])]
            simp only [own2, List.set_cons_succ, List.set_cons_zero] at hS7
            refine (hS7.perm (L' := (box 51 (w1.heap.size + 2) [.int .i64 n, .int .i64 m, .slice va (k + 1) vc2] :: box 29 w1.heap.size [.int .i64 P, .int .i64 D, .slice a1 F.length c1] :: box 51 w.heap.size [.int .i64 0, .int .i64 0, .slice none 0 0] :: row 2 (.slice a1 F.length c1) (iv F) :: (row 22 (.slice va (k + 1) vc2) (us ++ [.slice ar (polyRow n (digs n T k) m).length cr]) :: (rowsI us (polyRows n T m k) ++ [row 2 (.slice ar (polyRow n (digs n T k) m).length cr) (iv (polyRow n (digs n T k) m))]))) ++ [row 2 vc (iv (digs n T k))]) (by (try simp only [own2, List.cons_append, List.nil_append, List.append_nil]); classical exact List.perm_iff_count.2 (fun a => by simp only [List.cons_append, List.nil_append, List.append_nil, List.count_append, List.count_cons, List.count_nil] <;> omega))).sub (List.sublist_append_left _ _)
          case measure => simp [intOf]; omega
    · have hke : k = R := by omega
      have HL := Lib.hid (show us.length = R by rw [hl.out, hke])
      rw [hke] at hS
      clear hke
      have b0 := hS.bcell 0 rfl 0 rfl
      have b1 := hS.bcell 0 rfl 1 rfl
      have b2 := hS.bcell 0 rfl 2 rfl
      have z0 := hS.bcell 2 rfl 0 rfl
      have z1 := hS.bcell 2 rfl 1 rfl
      have z2 := hS.bcell 2 rfl 2 rfl
      have f1 := hS.bfree 2 rfl
      go_wp2_with fail
      have hS9 := ((hS.bstore 2 rfl 0 (.int .i64 n)).bstore 2 rfl 1 (.int .i64 m)).bstore 2 rfl 2 (.slice a R cp)
      refine bodyPost_ret (v := .agg #[.int .i64 n, .int .i64 m, .slice a R cp]) (by simp [results, Try.results94, go_sem, z0, z1, z2]) rfl ?_
      exact ⟨a, cp, us, rfl, HL.out, hS9.sub (by simp only [List.set_cons_succ, List.set_cons_zero]; exact (((List.Sublist.refl _).cons _).cons _).cons _ |>.cons _)⟩

theorem l00Min_c (a b : Int) (w : World) : Calls Try.prog 92 #[.int .i64 a, .int .i64 b] w fun e w' => e = .returned (.int .i64 (min a b)) ∧ w = w' := by
  by_cases h : a < b
  · go_enter Try.func92, Try.ntmps92
    go_wp2_with fail
    go_ret
    exact ⟨ret_i64 (by omega), rfl⟩
  · go_enter Try.func92, Try.ntmps92
    go_wp2_with fail
    go_ret
    exact ⟨ret_i64 (by omega), rfl⟩
/-- what the reference's split answers first -/
theorem split_first (q : Int) (w : World) : ∃ b : Int, (Calls Try.prog 90 #[.int .i64 q] w fun e w' => ∃ a : Int, e = .returned (.tuple #[.int .i64 a, .int .i64 b]) ∧ (a = 0 ↔ mkOk q = false) ∧ w = w') := by
  by_cases h : inB q 2 64 = true
  · have h' := h
    simp [inB] at h'
    obtain ⟨n, rfl⟩ := Int.eq_ofNat_of_zero_le (show 0 ≤ q by omega)
    refine ⟨((spl n).2 : Nat), (l03Split_c n w (by omega) (by omega)).mono ?_⟩
    rintro e w' ⟨rfl, rfl⟩
    refine ⟨_, rfl, ?_, rfl⟩
    unfold mkOk
    rw [decide_eq_true (by omega), decide_eq_true (by omega), Int.toNat_natCast]
    simp
  · have h0 : inB q 2 64 = false := by simpa using h
    refine ⟨0, (l03Split_no q w h0).mono ?_⟩
    rintro e w' ⟨rfl, rfl⟩
    refine ⟨0, rfl, ?_, rfl⟩
    have : ¬ (2 ≤ q ∧ q ≤ 64) := by simpa [inB] using h
    have : mkOk q = false := by
      unfold mkOk
      by_cases h2 : 2 ≤ q
      · rw [decide_eq_false (show ¬ q ≤ 64 by omega)]; simp
      · rw [decide_eq_false h2]; simp
    simp [this]

set_option maxHeartbeats 8000000 in
set_option maxRecDepth 100000 in
theorem sPolynomialArray_c (q t c : Int) (w : World) : Calls Try.prog 51 #[.int .i64 q, .int .i64 t, .int .i64 c] w (MakesA w (polyA q t c) (polyC q t c)) := by
  have hS0 := (St.refl w).newboxF 51 #[.int .i64 0, .int .i64 0, .slice none 0 0]
  have b0 := hS0.bcell 0 rfl 0 rfl
  have b1 := hS0.bcell 0 rfl 1 rfl
  have b2 := hS0.bcell 0 rfl 2 rfl
  obtain ⟨sb, hsp⟩ := split_first q (w.alloc (.cells #[.int .i64 0, .int .i64 0, .slice none 0 0] 51))
  have Hsp := Lib.hid hsp
  clear hsp
  cases hm : mkOk q
  · have HA := Lib.hid (show polyA q t c = noA by simp [polyA, polyOk, hm])
    have HC := Lib.hid (show polyC q t c = 2 by simp [polyC, polyOk, hm])
    have Hm := Lib.hid hm
    clear hm
    go_enter Try.func51, Try.ntmps51
    go_wp2_with fail
    refine Hsp.out.mono ?_
    rintro e w1 ⟨p, rfl, hp, rfl⟩
    have f1 := eq_t (hp.2 Hm.out)
    clear hp
    go_wp2_with fail
    refine bodyPost_ret (v := .tuple #[.agg #[.int .i64 0, .int .i64 0, .slice none 0 0], .int .i64 2]) (by simp [results, Try.results51, go_sem, b0, b1, b2]) rfl ?_
    exact MakesA.no HA.out HC.out hS0
  · have hM := mkOk_t hm
    have Hm := Lib.hid (show ¬ mkOk q = false by rw [hm]; simp)
    by_cases h16 : 16 < q
    · have HA := Lib.hid (show polyA q t c = noA by simp [polyA, polyOk, decide_eq_false (show ¬ q ≤ 16 by omega)])
      have HC := Lib.hid (show polyC q t c = 2 by simp [polyC, polyOk, decide_eq_false (show ¬ q ≤ 16 by omega)])
      clear hm hM
      go_enter Try.func51, Try.ntmps51
      go_wp2_with fail
      refine Hsp.out.mono ?_
      rintro e w1 ⟨p, rfl, hp, rfl⟩
      have f1 := eq_f (fun e => Hm.out (hp.1 e))
      clear hp
      go_wp2_with fail
      refine bodyPost_ret (v := .tuple #[.agg #[.int .i64 0, .int .i64 0, .slice none 0 0], .int .i64 2]) (by simp [results, Try.results51, go_sem, b0, b1, b2]) rfl ?_
      exact MakesA.no HA.out HC.out hS0
    · by_cases ht : inB t 1 q = true
      · have hq2 : 2 ≤ q := by obtain ⟨n, rfl, h2, _⟩ := hM; omega
        by_cases hcc : inB c t (min (q + 1) 8) = true
        · obtain ⟨n, hqn, h2, h64, hmk⟩ := hM
          subst hqn
          simp only [inB, Bool.and_eq_true, decide_eq_true_eq] at ht
          obtain ⟨T, rfl⟩ := Int.eq_ofNat_of_zero_le (show 0 ≤ t by omega)
          have hcb : (T : Int) ≤ c ∧ c ≤ min ((n : Int) + 1) 8 := by simpa [inB] using hcc
          obtain ⟨m, rfl⟩ := Int.eq_ofNat_of_zero_le (show 0 ≤ c by omega)
          have hT1 : 1 ≤ T := by omega
          have hm8 : m ≤ 8 := by omega
          have hmn : m ≤ n + 1 := by omega
          have Ht := Lib.hid (show inB (T : Int) 1 n = true by simp [inB]; omega)
          have Hcc := Lib.hid hcc
          have Hok := Lib.hid (show polyOk n T m = true by simp only [polyOk, hm, hcc, Ht.out, decide_eq_true (show (n : Int) ≤ 16 by omega), Bool.and_self])
          have hTm : T ≤ 8 := by omega
          clear ht hcc
          by_cases hp : pu n 256 T 1 > 256
          · have HA := Lib.hid (show polyA n T m = noA by rw [polyA, if_pos Hok.out, Int.toNat_natCast, if_pos hp])
            have HC := Lib.hid (show polyC n T m = 5 by rw [polyC, if_pos Hok.out, Int.toNat_natCast, if_pos hp])
            have HK := fun W => Lib.hid (show Calls Try.prog 93 #[.int .i64 n, .int .i64 T] W fun e w' => e = .returned (.int .i64 257) ∧ W = w' by
              have := l16Count_c n T W (by omega) (by omega) (by omega) (by omega)
              rw [cnt_pu _ _ (by omega), Int.toNat_natCast, if_pos hp] at this
              exact this)
            clear hm hcb hp
            go_enter Try.func51, Try.ntmps51
            go_wp2_with fail
            refine Hsp.out.mono ?_
            rintro e w1 ⟨p, rfl, hp, rfl⟩
            have f1 := eq_f (fun e => Hm.out (hp.1 e))
            clear hp
            go_wp2_with fail
            refine (l00In_c _ _ _ _).mono ?_
            rw [Ht.out]
            rintro e w3 ⟨rfl, rfl⟩
            go_wp2_with fail
            refine (l00Min_c _ _ _).mono ?_
            rintro e w3 ⟨rfl, rfl⟩
            go_wp2_with fail
            refine (l00In_c _ _ _ _).mono ?_
            rw [Hcc.out]
            rintro e w3 ⟨rfl, rfl⟩
            go_wp2_with fail
            refine (HK _).out.mono ?_
            rintro e w3 ⟨rfl, rfl⟩
            go_wp2_with fail
            refine bodyPost_ret (v := .tuple #[.agg #[.int .i64 0, .int .i64 0, .slice none 0 0], .int .i64 5]) (by simp [results, Try.results51, go_sem, b0, b1, b2]) rfl ?_
            exact MakesA.no HA.out HC.out hS0
          · have hp0 : 0 ≤ pu n 256 T 1 := by
              have := pu_pos (base := n) (lim := 256) (by omega) T (p := 1) (by omega); omega
            obtain ⟨R, hR⟩ : ∃ R : Nat, pu n 256 T 1 = R := ⟨(pu n 256 T 1).toNat, by omega⟩
            have hR2 : R ≤ 256 := by omega
            have HA := Lib.hid (show polyA n T m = ⟨n, m, polyRows n T m R⟩ by rw [polyA, if_pos Hok.out, Int.toNat_natCast, if_neg hp, hR]; rfl)
            have HC := Lib.hid (show polyC n T m = 0 by rw [polyC, if_pos Hok.out, Int.toNat_natCast, if_neg hp])
            have HK := fun W => Lib.hid (show Calls Try.prog 93 #[.int .i64 n, .int .i64 T] W fun e w' => e = .returned (.int .i64 R) ∧ W = w' by
              have := l16Count_c n T W (by omega) (by omega) (by omega) (by omega)
              rw [cnt_pu _ _ (by omega), Int.toNat_natCast, if_neg (by omega), hR] at this
              exact this)
            have HL := fun W => Lib.hid (l16Poly_c n T m R W h2 (by omega) hmk hT1 hTm hm8 hmn hR hR2)
            clear hm hcb hp hp0 hR
            go_enter Try.func51, Try.ntmps51
            go_wp2_with fail
            refine Hsp.out.mono ?_
            rintro e w1 ⟨p, rfl, hp, rfl⟩
            have f1 := eq_f (fun e => Hm.out (hp.1 e))
            clear hp
            go_wp2_with fail
            refine (l00In_c _ _ _ _).mono ?_
            rw [Ht.out]
            rintro e w3 ⟨rfl, rfl⟩
            go_wp2_with fail
            refine (l00Min_c _ _ _).mono ?_
            rintro e w3 ⟨rfl, rfl⟩
            go_wp2_with fail
            refine (l00In_c _ _ _ _).mono ?_
            rw [Hcc.out]
            rintro e w3 ⟨rfl, rfl⟩
            go_wp2_with fail
            refine (HK _).out.mono ?_
            rintro e w3 ⟨rfl, rfl⟩
            go_wp2_with fail
            refine (HL _).out.mono ?_
            rintro e w4 ⟨a, cp, us, rfl, hl, h4⟩
            have Hl := Lib.hid (show us.length = (polyRows n T m R).length by rw [hl, polyRows_len])
            have hS4 := hS0.call h4
            have z0 := hS4.bcell 0 rfl 0 rfl
            have z1 := hS4.bcell 0 rfl 1 rfl
            have z2 := hS4.bcell 0 rfl 2 rfl
            have f2 := hS4.bfree 0 rfl
            clear b0 b1 b2 hl h4
            go_wp2_with fail
            have hS9 := ((hS4.bstore 0 rfl 0 (.int .i64 n)).bstore 0 rfl 1 (.int .i64 m)).bstore 0 rfl 2 (.slice a R cp)
            refine bodyPost_ret (v := .tuple #[.agg #[.int .i64 n, .int .i64 m, .slice a R cp], .int .i64 0]) (by simp [results, Try.results51, go_sem, z0, z1, z2]) rfl ?_
            exact MakesA.yes HA.out HC.out Hl.out (by simp only [List.cons_append, List.nil_append, List.set_cons_zero]; exact (List.Sublist.refl _).cons _) hS9
        · have Hcc := Lib.hid (show inB c t (min (q + 1) 8) = false by simpa using hcc)
          have HA := Lib.hid (show polyA q t c = noA by simp [polyA, polyOk, Hcc.out])
          have HC := Lib.hid (show polyC q t c = 2 by simp [polyC, polyOk, Hcc.out])
          have Ht := Lib.hid ht
          clear hm hM ht hcc
          go_enter Try.func51, Try.ntmps51
          go_wp2_with fail
          refine Hsp.out.mono ?_
          rintro e w1 ⟨p, rfl, hp, rfl⟩
          have f1 := eq_f (fun e => Hm.out (hp.1 e))
          clear hp
          go_wp2_with fail
          refine (l00In_c _ _ _ _).mono ?_
          rw [Ht.out]
          rintro e w3 ⟨rfl, rfl⟩
          go_wp2_with fail
          refine (l00Min_c _ _ _).mono ?_
          rintro e w3 ⟨rfl, rfl⟩
          go_wp2_with fail
          refine (l00In_c _ _ _ _).mono ?_
          rw [Hcc.out]
          rintro e w3 ⟨rfl, rfl⟩
          go_wp2_with fail
          refine bodyPost_ret (v := .tuple #[.agg #[.int .i64 0, .int .i64 0, .slice none 0 0], .int .i64 2]) (by simp [results, Try.results51, go_sem, b0, b1, b2]) rfl ?_
          exact MakesA.no HA.out HC.out hS0
      · have Ht := Lib.hid (show inB t 1 q = false by simpa using ht)
        have HA := Lib.hid (show polyA q t c = noA by simp [polyA, polyOk, Ht.out])
        have HC := Lib.hid (show polyC q t c = 2 by simp [polyC, polyOk, Ht.out])
        clear hm hM ht
        go_enter Try.func51, Try.ntmps51
        go_wp2_with fail
        refine Hsp.out.mono ?_
        rintro e w1 ⟨p, rfl, hp, rfl⟩
        have f1 := eq_f (fun e => Hm.out (hp.1 e))
        clear hp
        go_wp2_with fail
        refine (l00In_c _ _ _ _).mono ?_
        rw [Ht.out]
        rintro e w3 ⟨rfl, rfl⟩
        go_wp2_with fail
        refine bodyPost_ret (v := .tuple #[.agg #[.int .i64 0, .int .i64 0, .slice none 0 0], .int .i64 2]) (by simp [results, Try.results51, go_sem, b0, b1, b2]) rfl ?_
        exact MakesA.no HA.out HC.out hS0
end Go.Proofs.Ytmkfafhgcnbcaaa
