/- Walks: PolynomialArray of both sides. -/
import Derived.Test.YtcenabaklokhhaaFull2
import Derived.Test.YtcenabaklokhhaaMf
namespace Go.Proofs.Ytcenabaklokhhaa
set_option linter.unusedSimpArgs false
set_option linter.unusedVariables false
open Go.RowKit
attribute [local go_sem ↓] Go.wp_at_zero Go.wp_at_succ

def polyOk (q t c : Int) : Bool := mkOk q && (decide (q ≤ 16) && (inB t 1 q && inB c t (min (q + 1) 8)))
def polyRow (q : Nat) (cs : List Int) (m : Nat) : List Int := (List.range m).map fun j : Nat => if j = q then nth cs 0 else hor ((spl q).1 : Nat) (spl q).2 (mkF q) j cs
def polyRows (q : Nat) (t m n : Nat) : List (List Int) := (List.range n).map fun k : Nat => polyRow q (digs q t k) m
def polyA (q t c : Int) : AV := if polyOk q t c = true then (if pu q 256 t.toNat 1 > 256 then noA else ⟨q, c, polyRows q.toNat t.toNat c.toNat (pu q 256 t.toNat 1).toNat⟩) else noA
def polyC (q t c : Int) : Int := if polyOk q t c = true then (if pu q 256 t.toNat 1 > 256 then 5 else 0) else 2
theorem polyRow_succ (q : Nat) (cs : List Int) (j : Nat) : polyRow q cs (j + 1) = polyRow q cs j ++ [if j = q then nth cs 0 else hor ((spl q).1 : Nat) (spl q).2 (mkF q) j cs] := by simp [polyRow, List.range_succ]
theorem polyRow_len (q : Nat) (cs : List Int) (m : Nat) : (polyRow q cs m).length = m := by simp [polyRow]
theorem polyRows_succ (q t m n : Nat) : polyRows q t m (n + 1) = polyRows q t m n ++ [polyRow q (digs q t n) m] := by simp [polyRows, List.range_succ]
theorem polyRows_len (q t m n : Nat) : (polyRows q t m n).length = n := by simp [polyRows]
theorem mkfC_t {q : Int} (h : mkOk q = true) : mkfC q = 0 := by rw [mkfC, if_pos h]
theorem mkfC_f {q : Int} (h : mkOk q = false) : mkfC q = 2 := by rw [mkfC, if_neg (by rw [h]; simp)]
theorem digs_el {q t : Nat} {k : Nat} (h2 : 2 ≤ q) (hmk : MK q) : ∀ c ∈ digs q t k, El ((spl q).1 : Nat) (spl q).2 c := fun c hc => by
  unfold digs at hc
  rw [lows_dgt] at hc
  have h := dgt_in (base := q) (by omega) t k c (List.mem_reverse.1 hc)
  refine ⟨h.1, ?_⟩
  rw [← Int.natCast_pow, hmk.pw]; exact h.2

set_option maxHeartbeats 16000000 in
set_option maxRecDepth 100000 in
theorem PolynomialArray_c (q t c : Int) (w : World) : Calls Try.prog 43 #[.int .i64 q, .int .i64 t, .int .i64 c] w (MakesA w (polyA q t c) (polyC q t c)) := by
  have hS0 := (St.refl w).newboxF 47 #[.int .i64 0, .int .i64 0, .slice none 0 0]
  have HM := fun W => Lib.hid (MakeField_c q W)
  cases hm : mkOk q
  · have HA := Lib.hid (show polyA q t c = noA by simp [polyA, polyOk, hm])
    have HC := Lib.hid (show polyC q t c = 2 by simp [polyC, polyOk, hm])
    rw [mkfC_f hm] at HM
    clear hm
    go_enter Try.func43, Try.ntmps43
    go_wp2_with fail
    refine (HM _).out.mono ?_
    rintro e w1 ⟨v1, rfl, h1⟩
    obtain ⟨a1, c1, he1⟩ := (h1.rdI 0 rfl).shp'
    subst he1
    have hS1 := hS0.call h1
    have hS2 := hS1.newboxF 25 #[.int .i64 (mkfP q), .int .i64 (mkfD q), .slice a1 (mkfL q).length c1]
    have b0 := hS2.bcell 1 rfl 0 rfl
    have b1 := hS2.bcell 1 rfl 1 rfl
    have b2 := hS2.bcell 1 rfl 2 rfl
    have f2 := hS2.bfree 1 rfl
    unfold fv
    go_wp2_with fail
    have hS9 := ((hS2.bstore 1 rfl 0 (.int .i64 0)).bstore 1 rfl 1 (.int .i64 0)).bstore 1 rfl 2 (.slice none 0 0)
    refine bodyPost_ret (v := .tuple #[.agg #[.int .i64 0, .int .i64 0, .slice none 0 0], .int .i64 2]) (by simp [results, Try.results43, go_sem, b0, b1, b2]) rfl ?_
    exact MakesA.no HA.out HC.out hS9
  · have hM := mkOk_t hm
    rw [mkfC_t hm] at HM
    by_cases h16 : 16 < q
    · have HA := Lib.hid (show polyA q t c = noA by simp [polyA, polyOk, decide_eq_false (show ¬ q ≤ 16 by omega)])
      have HC := Lib.hid (show polyC q t c = 2 by simp [polyC, polyOk, decide_eq_false (show ¬ q ≤ 16 by omega)])
      clear hm hM
      go_enter Try.func43, Try.ntmps43
      go_wp2_with fail
      refine (HM _).out.mono ?_
      rintro e w1 ⟨v1, rfl, h1⟩
      obtain ⟨a1, c1, he1⟩ := (h1.rdI 0 rfl).shp'
      subst he1
      have hS1 := hS0.call h1
      have hS2 := hS1.newboxF 25 #[.int .i64 (mkfP q), .int .i64 (mkfD q), .slice a1 (mkfL q).length c1]
      have b0 := hS2.bcell 1 rfl 0 rfl
      have b1 := hS2.bcell 1 rfl 1 rfl
      have b2 := hS2.bcell 1 rfl 2 rfl
      have f2 := hS2.bfree 1 rfl
      unfold fv
      go_wp2_with fail
      have hS9 := ((hS2.bstore 1 rfl 0 (.int .i64 0)).bstore 1 rfl 1 (.int .i64 0)).bstore 1 rfl 2 (.slice none 0 0)
      refine bodyPost_ret (v := .tuple #[.agg #[.int .i64 0, .int .i64 0, .slice none 0 0], .int .i64 2]) (by simp [results, Try.results43, go_sem, b0, b1, b2]) rfl ?_
      exact MakesA.no HA.out HC.out hS9
    · by_cases ht : inB t 1 q = true
      · have hq2 : 2 ≤ q := by obtain ⟨n, rfl, h2, _⟩ := hM; omega
        by_cases h8 : 8 < q + 1
        · have hmin : min (q + 1) 8 = 8 := by omega
          by_cases hcc : inB c t 8 = true
          · obtain ⟨n, hqn, h2, h64, hmk⟩ := hM
            subst hqn
            simp only [inB, Bool.and_eq_true, decide_eq_true_eq] at ht
            obtain ⟨T, rfl⟩ := Int.eq_ofNat_of_zero_le (show 0 ≤ t by omega)
            have hcb : (T : Int) ≤ c ∧ c ≤ 8 := by simpa [inB] using hcc
            obtain ⟨m, rfl⟩ := Int.eq_ofNat_of_zero_le (show 0 ≤ c by omega)
            have hT1 : 1 ≤ T := by omega
            have hm8 : m ≤ 8 := by omega
            have hmn : m ≤ n + 1 := by omega
            have Ht := Lib.hid (show inB (T : Int) 1 n = true by simp [inB]; omega)
            have Hcc := Lib.hid hcc
            have Hok := Lib.hid (show polyOk n T m = true by simp only [polyOk, hm, hmin, hcc, Ht.out, decide_eq_true (show (n : Int) ≤ 16 by omega), Bool.and_self])
            have hTm : T ≤ 8 := by omega
            clear ht hcc hmin
            by_cases hp : pu n 256 T 1 > 256
            · have HA := Lib.hid (show polyA n T m = noA by rw [polyA, if_pos Hok.out, Int.toNat_natCast, if_pos hp])
              have HC := Lib.hid (show polyC n T m = 5 by rw [polyC, if_pos Hok.out, Int.toNat_natCast, if_pos hp])
              clear hm hcb
              go_enter Try.func43, Try.ntmps43
              go_wp2_with fail
              refine (HM _).out.mono ?_
              rintro e w1 ⟨v1, rfl, h1⟩
              obtain ⟨a1, c1, he1⟩ := (h1.rdI 0 rfl).shp'
              subst he1
              have hS1 := hS0.call h1
              have hS2 := hS1.newboxF 25 #[.int .i64 (mkfP n), .int .i64 (mkfD n), .slice a1 (mkfL n).length c1]
              have b0 := hS2.bcell 1 rfl 0 rfl
              have b1 := hS2.bcell 1 rfl 1 rfl
              have b2 := hS2.bcell 1 rfl 2 rfl
              have f2 := hS2.bfree 1 rfl
              unfold fv
              go_wp2_with fail
              refine (within_c _ _ _ _).mono ?_
              rw [Ht.out]
              rintro e w3 ⟨rfl, rfl⟩
              go_wp2_with fail
              refine (within_c _ _ _ _).mono ?_
              rw [Hcc.out]
              rintro e w3 ⟨rfl, rfl⟩
              go_wp2_with fail
              refine (powerUpTo_c n T 256 _ (by omega) (by omega) (by omega) (by omega) (by omega) (by omega)).mono ?_
              rintro e w3 ⟨rfl, rfl⟩
              go_wp2_with fail
              have hS9 := ((hS2.bstore 1 rfl 0 (.int .i64 0)).bstore 1 rfl 1 (.int .i64 0)).bstore 1 rfl 2 (.slice none 0 0)
              refine bodyPost_ret (v := .tuple #[.agg #[.int .i64 0, .int .i64 0, .slice none 0 0], .int .i64 5]) (by simp [results, Try.results43, go_sem, b0, b1, b2]) rfl ?_
              exact MakesA.no HA.out HC.out hS9
            · have hp0 : 0 ≤ pu n 256 T 1 := by
                have := pu_pos (base := n) (lim := 256) (by omega) T (p := 1) (by omega); omega
              obtain ⟨R, hR⟩ : ∃ R : Nat, pu n 256 T 1 = R := ⟨(pu n 256 T 1).toNat, by omega⟩
              have HR := Lib.hid hR
              have hR2 : R ≤ 256 := by omega
              have HA := Lib.hid (show polyA n T m = ⟨n, m, polyRows n T m R⟩ by rw [polyA, if_pos Hok.out, Int.toNat_natCast, if_neg hp, hR]; rfl)
              have HC := Lib.hid (show polyC n T m = 0 by rw [polyC, if_pos Hok.out, Int.toNat_natCast, if_neg hp])
              have hfv := hmk.fv h64
              have Hfd := Lib.hid (show mkfP n = ((spl n).1 : Nat) ∧ mkfD n = ((spl n).2 : Nat) ∧ mkfL n = mkF n by simp [mkfP, mkfD, mkfL, hm])
              have Hva := fun W vf (hvf : RdI W vf (mkfL n)) vc (k j : Nat) (hj : j < n) (hvc : RdI W vc (digs n T k)) => Lib.hid (show Calls Try.prog 137 #[.agg #[.int .i64 (mkfP n), .int .i64 (mkfD n), vf], vc, .int .i64 j] W (GivesI W (hor ((spl n).1 : Nat) (spl n).2 (mkF n) j (digs n T k))) by
                rw [Hfd.out.1, Hfd.out.2.1]
                rw [Hfd.out.2.2] at hvf
                exact valueAt_c ((spl n).1 : Nat) (spl n).2 vf (mkF n) vc (digs n T k) j W hvf hfv hvc (digs_el h2 hmk) ⟨by omega, by rw [← Int.natCast_pow, hmk.pw]; omega⟩)
              have Hhf := fun (k : Nat) (hk : k ≤ 256) W => Lib.hid (highFirst_c k n T W (by omega) (by omega) (by omega) (by omega) (by omega))
              clear hm hcb hp hp0 hR hfv
              go_enter Try.func43, Try.ntmps43
              go_wp2_with fail
              refine (HM _).out.mono ?_
              rintro e w1 ⟨v1, rfl, h1⟩
              obtain ⟨a1, c1, he1⟩ := (h1.rdI 0 rfl).shp'
              subst he1
              have hS1 := hS0.call h1
              have hS2 := hS1.newboxF 25 #[.int .i64 (mkfP n), .int .i64 (mkfD n), .slice a1 (mkfL n).length c1]
              have b0 := hS2.bcell 1 rfl 0 rfl
              have b1 := hS2.bcell 1 rfl 1 rfl
              have b2 := hS2.bcell 1 rfl 2 rfl
              have f2 := hS2.bfree 1 rfl
              unfold fv
              go_wp2_with fail
              refine (within_c _ _ _ _).mono ?_
              rw [Ht.out]
              rintro e w3 ⟨rfl, rfl⟩
              go_wp2_with fail
              refine (within_c _ _ _ _).mono ?_
              rw [Hcc.out]
              rintro e w3 ⟨rfl, rfl⟩
              go_wp2_with fail
              refine (powerUpTo_c n T 256 _ (by omega) (by omega) (by omega) (by omega) (by omega) (by omega)).mono ?_
              rw [Int.toNat_natCast, HR.out]
              rintro e w3 ⟨rfl, rfl⟩
              have hS3b := (hS2.newboxF 47 #[.int .i64 n, .int .i64 m, .slice none 0 0]).nilrow 23
              simp only [World.size_alloc, List.cons_append, List.nil_append] at hS3b
              clear b0 b1 b2 f2 hS0 hS1 hS2 h1
              go_wp2_with fail
              go_loopw [12, 13, 14, 15, 53, 61] (fun _ _ _ _ ii _ wr => ∃ (k : Nat) (a : Option Addr) (cp : Nat) (us : List Value), k ≤ R ∧ ii = .int .i64 k ∧ Hid (us.length = k) ∧ St w.heap.size w wr (box 47 (w1.heap.size + 1) [.int .i64 n, .int .i64 m, .slice a k cp] :: box 25 w1.heap.size [.int .i64 (mkfP n), .int .i64 (mkfD n), .slice a1 (mkfL n).length c1] :: box 47 w.heap.size [.int .i64 0, .int .i64 0, .slice none 0 0] :: row 2 (.slice a1 (mkfL n).length c1) (iv (mkfL n)) :: own2 (.slice a k cp) us (polyRows n T m k))) (fun _ _ _ _ ii _ _ => R - (intOf ii).toNat)
              case atStart => exact ⟨0, none, 0, [], by omega, rfl, rfl, hS3b⟩
              case round =>
                obtain ⟨k, a, cp, us, hk, rfl, hl, hS⟩ := hrel
                by_cases hlt : k < R
                · have hk256 : k ≤ 256 := by omega
                  go_wp2_with fail
                  refine (Hhf k hk256 _).out.mono ?_
                  rintro e w4 ⟨vc, rfl, h4⟩
                  have hS4 := ((hS.call h4).nilrw 2).perm (L' := row 2 (.slice none 0 0) [] :: row 2 vc (iv (digs n T k)) :: box 47 (w1.heap.size + 1) [.int .i64 n, .int .i64 m, .slice a k cp] :: box 25 w1.heap.size [.int .i64 (mkfP n), .int .i64 (mkfD n), .slice a1 (mkfL n).length c1] :: box 47 w.heap.size [.int .i64 0, .int .i64 0, .slice none 0 0] :: row 2 (.slice a1 (mkfL n).length c1) (iv (mkfL n)) :: own2 (.slice a k cp) us (polyRows n T m k)) (by (try simp only [own2, List.cons_append, List.nil_append, List.append_nil]); classical exact List.perm_iff_count.2 (fun a => by simp only [List.cons_append, List.nil_append, List.append_nil, List.count_append, List.count_cons, List.count_nil] <;> omega))
                  have hdl : (digs n T k).length = T := digs_len _ _ _
                  have Hdl := Lib.hid hdl
                  clear h4 hdl
                  go_wp2_with fail
                  go_loopw [14, 15, 61] (fun r _ jj wx => ∃ j : Nat, j ≤ m ∧ jj = .int .i64 j ∧ St w.heap.size w wx (row 2 r (iv (polyRow n (digs n T k) j)) :: row 2 vc (iv (digs n T k)) :: box 47 (w1.heap.size + 1) [.int .i64 n, .int .i64 m, .slice a k cp] :: box 25 w1.heap.size [.int .i64 (mkfP n), .int .i64 (mkfD n), .slice a1 (mkfL n).length c1] :: box 47 w.heap.size [.int .i64 0, .int .i64 0, .slice none 0 0] :: row 2 (.slice a1 (mkfL n).length c1) (iv (mkfL n)) :: own2 (.slice a k cp) us (polyRows n T m k))) (fun _ _ jj _ => m - (intOf jj).toNat)
                  case atStart => exact ⟨0, by omega, rfl, hS4⟩
                  case round =>
                    obtain ⟨j, hj, rfl, hS⟩ := hrel
                    have Hpl := Lib.hid (show (polyRow n (digs n T k) j).length < 4294967296 by rw [polyRow_len]; omega)
                    by_cases hjm : j < m
                    · by_cases hjn : j = n
                      · have g1 := eq_t (show (j : Int) = (n : Int) by omega)
                        have Hst := Lib.hid (show polyRow n (digs n T k) (j + 1) = polyRow n (digs n T k) j ++ [nth (digs n T k) 0] by rw [polyRow_succ, if_pos hjn])
                        have h0 : 0 < (digs n T k).length := by rw [Hdl.out]; omega
                        have c0 := (hS.rdI 1 rfl).cell 0 h0
                        have x0 := (hS.rdI 1 rfl).ixe 0 0 rfl h0
                        clear hjn h0
                        go_wp2_with (at_builtin; refine appI hS 0 rfl Hpl.out rfl _ _ rfl rfl _ rfl ?_; intro v6 w6 hS6)
                        go_roundw
                        case rel => exact ⟨j + 1, by omega, by go_num, by rw [Hst.out]; exact hS6⟩
                        case measure => simp [intOf]; omega
                      · have g1 := eq_f (show (j : Int) ≠ (n : Int) by omega)
                        have hjn' : j < n := by omega
                        have Hst := Lib.hid (show polyRow n (digs n T k) (j + 1) = polyRow n (digs n T k) j ++ [hor ((spl n).1 : Nat) (spl n).2 (mkF n) j (digs n T k)] by rw [polyRow_succ, if_neg hjn])
                        have y0 := hS.bcell 3 rfl 0 rfl
                        have y1 := hS.bcell 3 rfl 1 rfl
                        have y2 := hS.bcell 3 rfl 2 rfl
                        have hrc := Lib.hid (hS.rdI 1 rfl)
                        have hrf := Lib.hid (hS.rdI 5 (v := .slice a1 (mkfL n).length c1) (xs := mkfL n) rfl)
                        clear hjn
                        go_wp2_with fail
                        refine (Hva _ _ hrf.out _ k j hjn' hrc.out).out.mono ?_
                        rintro e w5 ⟨rfl, h5⟩
                        have hS5 := hS.call0 h5
                        clear h5
                        go_wp2_with (at_builtin; refine appI hS5 0 rfl Hpl.out rfl _ _ rfl rfl _ rfl ?_; intro v6 w6 hS6)
                        go_roundw
                        case rel => exact ⟨j + 1, by omega, by go_num, by rw [Hst.out]; exact hS6⟩
                        case measure => simp [intOf]; omega
                    · have hje : j = m := by omega
                      rw [hje] at hS
                      clear hje Hpl
                      obtain ⟨ar, cr, hre⟩ := (hS.rdI 0 rfl).shp'
                      subst hre
                      have Hprl := Lib.hid (show (polyRow n (digs n T k) m).length = m from polyRow_len _ _ _)
                      have c2 := hS.bcell 2 rfl 2 rfl
                      go_wp2_with (at_builtin; refine appII hS 6 rfl (by rw [hl.out]; omega) rfl _ _ rfl rfl _ rfl rfl ?_; intro v6 w6 hS6; obtain ⟨va, vc2, hv'⟩ := (hS6.rd 6 rfl).sl.sh; rw [List.length_append, hl.out, List.length_singleton] at hv'; subst hv'; have d2 := hS6.bcell 2 rfl 2 rfl; have e2 := hS6.bfree 2 rfl)
                      have hS7 := hS6.bstore 2 rfl 2 (.slice va (k + 1) vc2)
                      go_roundw
                      case rel =>
                        refine ⟨k + 1, va, vc2, us ++ [.slice ar (polyRow n (digs n T k) m).length cr], by omega, by go_num, by simp [Hid, hl.out], ?_⟩
                        rw [polyRows_succ, own2, rowsI_app (by rw [hl.out, polyRows_len])]
                        simp only [own2, List.set_cons_succ, List.set_cons_zero] at hS7
                        refine (hS7.perm (L' := (box 47 (w1.heap.size + 1) [.int .i64 n, .int .i64 m, .slice va (k + 1) vc2] :: box 25 w1.heap.size [.int .i64 (mkfP n), .int .i64 (mkfD n), .slice a1 (mkfL n).length c1] :: box 47 w.heap.size [.int .i64 0, .int .i64 0, .slice none 0 0] :: row 2 (.slice a1 (mkfL n).length c1) (iv (mkfL n)) :: (row 23 (.slice va (k + 1) vc2) (us ++ [.slice ar (polyRow n (digs n T k) m).length cr]) :: (rowsI us (polyRows n T m k) ++ [row 2 (.slice ar (polyRow n (digs n T k) m).length cr) (iv (polyRow n (digs n T k) m))]))) ++ [row 2 vc (iv (digs n T k))]) (by (try simp only [own2, List.cons_append, List.nil_append, List.append_nil]); classical exact List.perm_iff_count.2 (fun a => by simp only [List.cons_append, List.nil_append, List.append_nil, List.count_append, List.count_cons, List.count_nil] <;> omega))).sub (List.sublist_append_left _ _)
                      case measure => simp [intOf]; omega
                · have hke : k = R := by omega
                  have HL := Lib.hid (show us.length = (polyRows n T m R).length by rw [hl.out, polyRows_len, hke])
                  rw [hke] at hS
                  clear hke
                  have b0 := hS.bcell 0 rfl 0 rfl
                  have b1 := hS.bcell 0 rfl 1 rfl
                  have b2 := hS.bcell 0 rfl 2 rfl
                  have z0 := hS.bcell 2 rfl 0 rfl
                  have z1 := hS.bcell 2 rfl 1 rfl
                  have z2 := hS.bcell 2 rfl 2 rfl
                  have f1 := hS.bfree 2 rfl
                  go_wp2_with fail
                  have hS9 := ((hS.bstore 2 rfl 0 (.int .i64 n)).bstore 2 rfl 1 (.int .i64 m)).bstore 2 rfl 2 (.slice a R cp)
                  refine bodyPost_ret (v := .tuple #[.agg #[.int .i64 n, .int .i64 m, .slice a R cp], .int .i64 0]) (by simp [results, Try.results43, go_sem, z0, z1, z2]) rfl ?_
                  exact MakesA.yes HA.out HC.out HL.out (by simp only [List.set_cons_succ, List.set_cons_zero]; exact (((List.Sublist.refl _).cons _).cons _).cons _ |>.cons _) hS9
          · have Hcc := Lib.hid (show inB c t 8 = false by simpa using hcc)
            have HA := Lib.hid (show polyA q t c = noA by simp [polyA, polyOk, hmin, Hcc.out])
            have HC := Lib.hid (show polyC q t c = 2 by simp [polyC, polyOk, hmin, Hcc.out])
            have Ht := Lib.hid ht
            clear hm hM ht hcc hmin
            go_enter Try.func43, Try.ntmps43
            go_wp2_with fail
            refine (HM _).out.mono ?_
            rintro e w1 ⟨v1, rfl, h1⟩
            obtain ⟨a1, c1, he1⟩ := (h1.rdI 0 rfl).shp'
            subst he1
            have hS1 := hS0.call h1
            have hS2 := hS1.newboxF 25 #[.int .i64 (mkfP q), .int .i64 (mkfD q), .slice a1 (mkfL q).length c1]
            have b0 := hS2.bcell 1 rfl 0 rfl
            have b1 := hS2.bcell 1 rfl 1 rfl
            have b2 := hS2.bcell 1 rfl 2 rfl
            have f2 := hS2.bfree 1 rfl
            unfold fv
            go_wp2_with fail
            refine (within_c _ _ _ _).mono ?_
            rw [Ht.out]
            rintro e w3 ⟨rfl, rfl⟩
            go_wp2_with fail
            refine (within_c _ _ _ _).mono ?_
            rw [Hcc.out]
            rintro e w3 ⟨rfl, rfl⟩
            go_wp2_with fail
            have hS9 := ((hS2.bstore 1 rfl 0 (.int .i64 0)).bstore 1 rfl 1 (.int .i64 0)).bstore 1 rfl 2 (.slice none 0 0)
            refine bodyPost_ret (v := .tuple #[.agg #[.int .i64 0, .int .i64 0, .slice none 0 0], .int .i64 2]) (by simp [results, Try.results43, go_sem, b0, b1, b2]) rfl ?_
            exact MakesA.no HA.out HC.out hS9
        · have hmin : min (q + 1) 8 = (q + 1) := by omega
          by_cases hcc : inB c t (q + 1) = true
          · obtain ⟨n, hqn, h2, h64, hmk⟩ := hM
            subst hqn
            simp only [inB, Bool.and_eq_true, decide_eq_true_eq] at ht
            obtain ⟨T, rfl⟩ := Int.eq_ofNat_of_zero_le (show 0 ≤ t by omega)
            have hcb : (T : Int) ≤ c ∧ c ≤ ((n : Int) + 1) := by simpa [inB] using hcc
            obtain ⟨m, rfl⟩ := Int.eq_ofNat_of_zero_le (show 0 ≤ c by omega)
            have hT1 : 1 ≤ T := by omega
            have hm8 : m ≤ 8 := by omega
            have hmn : m ≤ n + 1 := by omega
            have Ht := Lib.hid (show inB (T : Int) 1 n = true by simp [inB]; omega)
            have Hcc := Lib.hid hcc
            have Hok := Lib.hid (show polyOk n T m = true by simp only [polyOk, hm, hmin, hcc, Ht.out, decide_eq_true (show (n : Int) ≤ 16 by omega), Bool.and_self])
            have hTm : T ≤ 8 := by omega
            clear ht hcc hmin
            by_cases hp : pu n 256 T 1 > 256
            · have HA := Lib.hid (show polyA n T m = noA by rw [polyA, if_pos Hok.out, Int.toNat_natCast, if_pos hp])
              have HC := Lib.hid (show polyC n T m = 5 by rw [polyC, if_pos Hok.out, Int.toNat_natCast, if_pos hp])
              clear hm hcb
              go_enter Try.func43, Try.ntmps43
              go_wp2_with fail
              refine (HM _).out.mono ?_
              rintro e w1 ⟨v1, rfl, h1⟩
              obtain ⟨a1, c1, he1⟩ := (h1.rdI 0 rfl).shp'
              subst he1
              have hS1 := hS0.call h1
              have hS2 := hS1.newboxF 25 #[.int .i64 (mkfP n), .int .i64 (mkfD n), .slice a1 (mkfL n).length c1]
              have b0 := hS2.bcell 1 rfl 0 rfl
              have b1 := hS2.bcell 1 rfl 1 rfl
              have b2 := hS2.bcell 1 rfl 2 rfl
              have f2 := hS2.bfree 1 rfl
              unfold fv
              go_wp2_with fail
              refine (within_c _ _ _ _).mono ?_
              rw [Ht.out]
              rintro e w3 ⟨rfl, rfl⟩
              go_wp2_with fail
              refine (within_c _ _ _ _).mono ?_
              rw [Hcc.out]
              rintro e w3 ⟨rfl, rfl⟩
              go_wp2_with fail
              refine (powerUpTo_c n T 256 _ (by omega) (by omega) (by omega) (by omega) (by omega) (by omega)).mono ?_
              rintro e w3 ⟨rfl, rfl⟩
              go_wp2_with fail
              have hS9 := ((hS2.bstore 1 rfl 0 (.int .i64 0)).bstore 1 rfl 1 (.int .i64 0)).bstore 1 rfl 2 (.slice none 0 0)
              refine bodyPost_ret (v := .tuple #[.agg #[.int .i64 0, .int .i64 0, .slice none 0 0], .int .i64 5]) (by simp [results, Try.results43, go_sem, b0, b1, b2]) rfl ?_
              exact MakesA.no HA.out HC.out hS9
            · have hp0 : 0 ≤ pu n 256 T 1 := by
                have := pu_pos (base := n) (lim := 256) (by omega) T (p := 1) (by omega); omega
              obtain ⟨R, hR⟩ : ∃ R : Nat, pu n 256 T 1 = R := ⟨(pu n 256 T 1).toNat, by omega⟩
              have HR := Lib.hid hR
              have hR2 : R ≤ 256 := by omega
              have HA := Lib.hid (show polyA n T m = ⟨n, m, polyRows n T m R⟩ by rw [polyA, if_pos Hok.out, Int.toNat_natCast, if_neg hp, hR]; rfl)
              have HC := Lib.hid (show polyC n T m = 0 by rw [polyC, if_pos Hok.out, Int.toNat_natCast, if_neg hp])
              have hfv := hmk.fv h64
              have Hfd := Lib.hid (show mkfP n = ((spl n).1 : Nat) ∧ mkfD n = ((spl n).2 : Nat) ∧ mkfL n = mkF n by simp [mkfP, mkfD, mkfL, hm])
              have Hva := fun W vf (hvf : RdI W vf (mkfL n)) vc (k j : Nat) (hj : j < n) (hvc : RdI W vc (digs n T k)) => Lib.hid (show Calls Try.prog 137 #[.agg #[.int .i64 (mkfP n), .int .i64 (mkfD n), vf], vc, .int .i64 j] W (GivesI W (hor ((spl n).1 : Nat) (spl n).2 (mkF n) j (digs n T k))) by
                rw [Hfd.out.1, Hfd.out.2.1]
                rw [Hfd.out.2.2] at hvf
                exact valueAt_c ((spl n).1 : Nat) (spl n).2 vf (mkF n) vc (digs n T k) j W hvf hfv hvc (digs_el h2 hmk) ⟨by omega, by rw [← Int.natCast_pow, hmk.pw]; omega⟩)
              have Hhf := fun (k : Nat) (hk : k ≤ 256) W => Lib.hid (highFirst_c k n T W (by omega) (by omega) (by omega) (by omega) (by omega))
              clear hm hcb hp hp0 hR hfv
              go_enter Try.func43, Try.ntmps43
              go_wp2_with fail
              refine (HM _).out.mono ?_
              rintro e w1 ⟨v1, rfl, h1⟩
              obtain ⟨a1, c1, he1⟩ := (h1.rdI 0 rfl).shp'
              subst he1
              have hS1 := hS0.call h1
              have hS2 := hS1.newboxF 25 #[.int .i64 (mkfP n), .int .i64 (mkfD n), .slice a1 (mkfL n).length c1]
              have b0 := hS2.bcell 1 rfl 0 rfl
              have b1 := hS2.bcell 1 rfl 1 rfl
              have b2 := hS2.bcell 1 rfl 2 rfl
              have f2 := hS2.bfree 1 rfl
              unfold fv
              go_wp2_with fail
              refine (within_c _ _ _ _).mono ?_
              rw [Ht.out]
              rintro e w3 ⟨rfl, rfl⟩
              go_wp2_with fail
              refine (within_c _ _ _ _).mono ?_
              rw [Hcc.out]
              rintro e w3 ⟨rfl, rfl⟩
              go_wp2_with fail
              refine (powerUpTo_c n T 256 _ (by omega) (by omega) (by omega) (by omega) (by omega) (by omega)).mono ?_
              rw [Int.toNat_natCast, HR.out]
              rintro e w3 ⟨rfl, rfl⟩
              have hS3b := (hS2.newboxF 47 #[.int .i64 n, .int .i64 m, .slice none 0 0]).nilrow 23
              simp only [World.size_alloc, List.cons_append, List.nil_append] at hS3b
              clear b0 b1 b2 f2 hS0 hS1 hS2 h1
              go_wp2_with fail
              go_loopw [12, 13, 14, 15, 53, 61] (fun _ _ _ _ ii _ wr => ∃ (k : Nat) (a : Option Addr) (cp : Nat) (us : List Value), k ≤ R ∧ ii = .int .i64 k ∧ Hid (us.length = k) ∧ St w.heap.size w wr (box 47 (w1.heap.size + 1) [.int .i64 n, .int .i64 m, .slice a k cp] :: box 25 w1.heap.size [.int .i64 (mkfP n), .int .i64 (mkfD n), .slice a1 (mkfL n).length c1] :: box 47 w.heap.size [.int .i64 0, .int .i64 0, .slice none 0 0] :: row 2 (.slice a1 (mkfL n).length c1) (iv (mkfL n)) :: own2 (.slice a k cp) us (polyRows n T m k))) (fun _ _ _ _ ii _ _ => R - (intOf ii).toNat)
              case atStart => exact ⟨0, none, 0, [], by omega, rfl, rfl, hS3b⟩
              case round =>
                obtain ⟨k, a, cp, us, hk, rfl, hl, hS⟩ := hrel
                by_cases hlt : k < R
                · have hk256 : k ≤ 256 := by omega
                  go_wp2_with fail
                  refine (Hhf k hk256 _).out.mono ?_
                  rintro e w4 ⟨vc, rfl, h4⟩
                  have hS4 := ((hS.call h4).nilrw 2).perm (L' := row 2 (.slice none 0 0) [] :: row 2 vc (iv (digs n T k)) :: box 47 (w1.heap.size + 1) [.int .i64 n, .int .i64 m, .slice a k cp] :: box 25 w1.heap.size [.int .i64 (mkfP n), .int .i64 (mkfD n), .slice a1 (mkfL n).length c1] :: box 47 w.heap.size [.int .i64 0, .int .i64 0, .slice none 0 0] :: row 2 (.slice a1 (mkfL n).length c1) (iv (mkfL n)) :: own2 (.slice a k cp) us (polyRows n T m k)) (by (try simp only [own2, List.cons_append, List.nil_append, List.append_nil]); classical exact List.perm_iff_count.2 (fun a => by simp only [List.cons_append, List.nil_append, List.append_nil, List.count_append, List.count_cons, List.count_nil] <;> omega))
                  have hdl : (digs n T k).length = T := digs_len _ _ _
                  have Hdl := Lib.hid hdl
                  clear h4 hdl
                  go_wp2_with fail
                  go_loopw [14, 15, 61] (fun r _ jj wx => ∃ j : Nat, j ≤ m ∧ jj = .int .i64 j ∧ St w.heap.size w wx (row 2 r (iv (polyRow n (digs n T k) j)) :: row 2 vc (iv (digs n T k)) :: box 47 (w1.heap.size + 1) [.int .i64 n, .int .i64 m, .slice a k cp] :: box 25 w1.heap.size [.int .i64 (mkfP n), .int .i64 (mkfD n), .slice a1 (mkfL n).length c1] :: box 47 w.heap.size [.int .i64 0, .int .i64 0, .slice none 0 0] :: row 2 (.slice a1 (mkfL n).length c1) (iv (mkfL n)) :: own2 (.slice a k cp) us (polyRows n T m k))) (fun _ _ jj _ => m - (intOf jj).toNat)
                  case atStart => exact ⟨0, by omega, rfl, hS4⟩
                  case round =>
                    obtain ⟨j, hj, rfl, hS⟩ := hrel
                    have Hpl := Lib.hid (show (polyRow n (digs n T k) j).length < 4294967296 by rw [polyRow_len]; omega)
                    by_cases hjm : j < m
                    · by_cases hjn : j = n
                      · have g1 := eq_t (show (j : Int) = (n : Int) by omega)
                        have Hst := Lib.hid (show polyRow n (digs n T k) (j + 1) = polyRow n (digs n T k) j ++ [nth (digs n T k) 0] by rw [polyRow_succ, if_pos hjn])
                        have h0 : 0 < (digs n T k).length := by rw [Hdl.out]; omega
                        have c0 := (hS.rdI 1 rfl).cell 0 h0
                        have x0 := (hS.rdI 1 rfl).ixe 0 0 rfl h0
                        clear hjn h0
                        go_wp2_with (at_builtin; refine appI hS 0 rfl Hpl.out rfl _ _ rfl rfl _ rfl ?_; intro v6 w6 hS6)
                        go_roundw
                        case rel => exact ⟨j + 1, by omega, by go_num, by rw [Hst.out]; exact hS6⟩
                        case measure => simp [intOf]; omega
                      · have g1 := eq_f (show (j : Int) ≠ (n : Int) by omega)
                        have hjn' : j < n := by omega
                        have Hst := Lib.hid (show polyRow n (digs n T k) (j + 1) = polyRow n (digs n T k) j ++ [hor ((spl n).1 : Nat) (spl n).2 (mkF n) j (digs n T k)] by rw [polyRow_succ, if_neg hjn])
                        have y0 := hS.bcell 3 rfl 0 rfl
                        have y1 := hS.bcell 3 rfl 1 rfl
                        have y2 := hS.bcell 3 rfl 2 rfl
                        have hrc := Lib.hid (hS.rdI 1 rfl)
                        have hrf := Lib.hid (hS.rdI 5 (v := .slice a1 (mkfL n).length c1) (xs := mkfL n) rfl)
                        clear hjn
                        go_wp2_with fail
                        refine (Hva _ _ hrf.out _ k j hjn' hrc.out).out.mono ?_
                        rintro e w5 ⟨rfl, h5⟩
                        have hS5 := hS.call0 h5
                        clear h5
                        go_wp2_with (at_builtin; refine appI hS5 0 rfl Hpl.out rfl _ _ rfl rfl _ rfl ?_; intro v6 w6 hS6)
                        go_roundw
                        case rel => exact ⟨j + 1, by omega, by go_num, by rw [Hst.out]; exact hS6⟩
                        case measure => simp [intOf]; omega
                    · have hje : j = m := by omega
                      rw [hje] at hS
                      clear hje Hpl
                      obtain ⟨ar, cr, hre⟩ := (hS.rdI 0 rfl).shp'
                      subst hre
                      have Hprl := Lib.hid (show (polyRow n (digs n T k) m).length = m from polyRow_len _ _ _)
                      have c2 := hS.bcell 2 rfl 2 rfl
                      go_wp2_with (at_builtin; refine appII hS 6 rfl (by rw [hl.out]; omega) rfl _ _ rfl rfl _ rfl rfl ?_; intro v6 w6 hS6; obtain ⟨va, vc2, hv'⟩ := (hS6.rd 6 rfl).sl.sh; rw [List.length_append, hl.out, List.length_singleton] at hv'; subst hv'; have d2 := hS6.bcell 2 rfl 2 rfl; have e2 := hS6.bfree 2 rfl)
                      have hS7 := hS6.bstore 2 rfl 2 (.slice va (k + 1) vc2)
                      go_roundw
                      case rel =>
                        refine ⟨k + 1, va, vc2, us ++ [.slice ar (polyRow n (digs n T k) m).length cr], by omega, by go_num, by simp [Hid, hl.out], ?_⟩
                        rw [polyRows_succ, own2, rowsI_app (by rw [hl.out, polyRows_len])]
                        simp only [own2, List.set_cons_succ, List.set_cons_zero] at hS7
                        refine (hS7.perm (L' := (box 47 (w1.heap.size + 1) [.int .i64 n, .int .i64 m, .slice va (k + 1) vc2] :: box 25 w1.heap.size [.int .i64 (mkfP n), .int .i64 (mkfD n), .slice a1 (mkfL n).length c1] :: box 47 w.heap.size [.int .i64 0, .int .i64 0, .slice none 0 0] :: row 2 (.slice a1 (mkfL n).length c1) (iv (mkfL n)) :: (row 23 (.slice va (k + 1) vc2) (us ++ [.slice ar (polyRow n (digs n T k) m).length cr]) :: (rowsI us (polyRows n T m k) ++ [row 2 (.slice ar (polyRow n (digs n T k) m).length cr) (iv (polyRow n (digs n T k) m))]))) ++ [row 2 vc (iv (digs n T k))]) (by (try simp only [own2, List.cons_append, List.nil_append, List.append_nil]); classical exact List.perm_iff_count.2 (fun a => by simp only [List.cons_append, List.nil_append, List.append_nil, List.count_append, List.count_cons, List.count_nil] <;> omega))).sub (List.sublist_append_left _ _)
                      case measure => simp [intOf]; omega
                · have hke : k = R := by omega
                  have HL := Lib.hid (show us.length = (polyRows n T m R).length by rw [hl.out, polyRows_len, hke])
                  rw [hke] at hS
                  clear hke
                  have b0 := hS.bcell 0 rfl 0 rfl
                  have b1 := hS.bcell 0 rfl 1 rfl
                  have b2 := hS.bcell 0 rfl 2 rfl
                  have z0 := hS.bcell 2 rfl 0 rfl
                  have z1 := hS.bcell 2 rfl 1 rfl
                  have z2 := hS.bcell 2 rfl 2 rfl
                  have f1 := hS.bfree 2 rfl
                  go_wp2_with fail
                  have hS9 := ((hS.bstore 2 rfl 0 (.int .i64 n)).bstore 2 rfl 1 (.int .i64 m)).bstore 2 rfl 2 (.slice a R cp)
                  refine bodyPost_ret (v := .tuple #[.agg #[.int .i64 n, .int .i64 m, .slice a R cp], .int .i64 0]) (by simp [results, Try.results43, go_sem, z0, z1, z2]) rfl ?_
                  exact MakesA.yes HA.out HC.out HL.out (by simp only [List.set_cons_succ, List.set_cons_zero]; exact (((List.Sublist.refl _).cons _).cons _).cons _ |>.cons _) hS9
          · have Hcc := Lib.hid (show inB c t (q + 1) = false by simpa using hcc)
            have HA := Lib.hid (show polyA q t c = noA by simp [polyA, polyOk, hmin, Hcc.out])
            have HC := Lib.hid (show polyC q t c = 2 by simp [polyC, polyOk, hmin, Hcc.out])
            have Ht := Lib.hid ht
            clear hm hM ht hcc hmin
            go_enter Try.func43, Try.ntmps43
            go_wp2_with fail
            refine (HM _).out.mono ?_
            rintro e w1 ⟨v1, rfl, h1⟩
            obtain ⟨a1, c1, he1⟩ := (h1.rdI 0 rfl).shp'
            subst he1
            have hS1 := hS0.call h1
            have hS2 := hS1.newboxF 25 #[.int .i64 (mkfP q), .int .i64 (mkfD q), .slice a1 (mkfL q).length c1]
            have b0 := hS2.bcell 1 rfl 0 rfl
            have b1 := hS2.bcell 1 rfl 1 rfl
            have b2 := hS2.bcell 1 rfl 2 rfl
            have f2 := hS2.bfree 1 rfl
            unfold fv
            go_wp2_with fail
            refine (within_c _ _ _ _).mono ?_
            rw [Ht.out]
            rintro e w3 ⟨rfl, rfl⟩
            go_wp2_with fail
            refine (within_c _ _ _ _).mono ?_
            rw [Hcc.out]
            rintro e w3 ⟨rfl, rfl⟩
            go_wp2_with fail
            have hS9 := ((hS2.bstore 1 rfl 0 (.int .i64 0)).bstore 1 rfl 1 (.int .i64 0)).bstore 1 rfl 2 (.slice none 0 0)
            refine bodyPost_ret (v := .tuple #[.agg #[.int .i64 0, .int .i64 0, .slice none 0 0], .int .i64 2]) (by simp [results, Try.results43, go_sem, b0, b1, b2]) rfl ?_
            exact MakesA.no HA.out HC.out hS9
      · have Ht := Lib.hid (show inB t 1 q = false by simpa using ht)
        have HA := Lib.hid (show polyA q t c = noA by simp [polyA, polyOk, Ht.out])
        have HC := Lib.hid (show polyC q t c = 2 by simp [polyC, polyOk, Ht.out])
        clear hm hM ht
        go_enter Try.func43, Try.ntmps43
        go_wp2_with fail
        refine (HM _).out.mono ?_
        rintro e w1 ⟨v1, rfl, h1⟩
        obtain ⟨a1, c1, he1⟩ := (h1.rdI 0 rfl).shp'
        subst he1
        have hS1 := hS0.call h1
        have hS2 := hS1.newboxF 25 #[.int .i64 (mkfP q), .int .i64 (mkfD q), .slice a1 (mkfL q).length c1]
        have b0 := hS2.bcell 1 rfl 0 rfl
        have b1 := hS2.bcell 1 rfl 1 rfl
        have b2 := hS2.bcell 1 rfl 2 rfl
        have f2 := hS2.bfree 1 rfl
        unfold fv
        go_wp2_with fail
        refine (within_c _ _ _ _).mono ?_
        rw [Ht.out]
        rintro e w3 ⟨rfl, rfl⟩
        go_wp2_with fail
        have hS9 := ((hS2.bstore 1 rfl 0 (.int .i64 0)).bstore 1 rfl 1 (.int .i64 0)).bstore 1 rfl 2 (.slice none 0 0)
        refine bodyPost_ret (v := .tuple #[.agg #[.int .i64 0, .int .i64 0, .slice none 0 0], .int .i64 2]) (by simp [results, Try.results43, go_sem, b0, b1, b2]) rfl ?_
        exact MakesA.no HA.out HC.out hS9
end Go.Proofs.Ytcenabaklokhhaa
