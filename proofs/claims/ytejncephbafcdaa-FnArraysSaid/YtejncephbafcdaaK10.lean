/- The texts of this claim, run 10: Poly2 Ar3 Str1 Der Str2 Str3. -/
import Derived.Test.YtejncephbafcdaaK3
import Derived.Test.YtejncephbafcdaaK4
import Derived.Test.YtejncephbafcdaaK5
import Derived.Test.YtejncephbafcdaaK6
import Derived.Test.YtejncephbafcdaaK9
import Derived.Deep.CutBlock
import Derived.IntWalk
import Derived.Deep.RegionHeld3
import Derived.Deep.DrawnRows
section
/- Walks: PolynomialArray of the reference. -/
namespace Go.Proofs.Ytejncephbafcdaa
set_option linter.unusedSimpArgs false
set_option linter.unusedVariables false
open Go.RowKit
attribute [local go_sem ↓] Go.wp_at_zero Go.wp_at_succ

set_option maxHeartbeats 16000000 in
set_option maxRecDepth 100000 in
theorem l16Poly_c (n T m R : Nat) (w : World) (h2 : 2 ≤ n) (h16 : n ≤ 16) (hmk : MK n) (hT1 : 1 ≤ T) (hT8 : T ≤ 8) (hm8 : m ≤ 8) (hmn : m ≤ n + 1) (hR : pu n 256 T 1 = R) (hR2 : R ≤ 256) :
    Calls Try.prog 94 #[.int .i64 n, .int .i64 T, .int .i64 m] w fun e w' => ∃ a cp us, e = .returned (.agg #[.int .i64 n, .int .i64 m, .slice a R cp]) ∧ us.length = R ∧ St w.heap.size w w' (own2 (.slice a R cp) us (polyRows n T m R)) := by
  have hS0 := (St.refl w).newboxF 28 #[.int .i64 0, .int .i64 0, .slice none 0 0]
  have HM := fun W => Lib.hid (l03Make_c n W h2 (by omega) hmk)
  have hfv := hmk.fv (by omega)
  have Hdl := fun (k : Nat) => Lib.hid (show (digs n T k).length = T from digs_len _ _ _)
  have Hde := Lib.hid (fun (k : Nat) => digs_el (t := T) (k := k) h2 hmk)
  have Hel := Lib.hid (fun (j : Nat) (hj : j < n) => (show El ((spl n).1 : Nat) (spl n).2 (j : Int) from ⟨by omega, by rw [← Int.natCast_pow, hmk.pw]; omega⟩))
  have Hhf := fun (k : Nat) (hk : k ≤ 256) W => Lib.hid (l16Digits_c k n T W (by omega) (by omega) (by omega) (by omega) (by omega))
  have Hps := Lib.hid (fun (cs : List Int) (j : Nat) => polyRow_succ n cs j)
  have HC := fun W => Lib.hid (show Calls Try.prog 96 #[.int .i64 n, .int .i64 T] W fun e w' => e = .returned (.int .i64 R) ∧ W = w' by
    have := l16Count_c n T W (by omega) (by omega) (by omega) (by omega)
    rw [cnt_pu _ _ (by omega), Int.toNat_natCast, if_neg (by omega), hR] at this
    exact this)
  clear hR hmk
  generalize (spl n).1 = P at *
  generalize (spl n).2 = D at *
  generalize mkF n = F at *
  have Hfv := Lib.hid hfv
  clear hfv
  go_enter Try.func94, Try.ntmps94
  go_wp2_with fail
  refine (HM _).out.mono ?_
  rintro e w1 ⟨v1, rfl, h1⟩
  obtain ⟨a1, c1, he1⟩ := (h1.rdI 0 rfl).shp'
  subst he1
  have hS1 := hS0.call h1
  have hS2 := ((hS1.newboxF 138 #[.int .i64 P, .int .i64 D, .slice a1 F.length c1]).new 52 #[] (by simp)).newboxF 28 #[.int .i64 n, .int .i64 m, .slice (some ⟨w1.heap.size + 1, 0, none⟩) 0 0]
  simp only [World.size_alloc, List.cons_append, List.nil_append] at hS2
  unfold fv
  clear hS0 hS1 h1 HM
  go_wp2_with fail
  refine (HC _).out.mono ?_
  rintro e w3 ⟨rfl, rfl⟩
  go_wp2_with fail
  go_loopw [10, 11, 12, 13, 14, 15] (fun ii _ _ _ _ _ wr => ∃ (k : Nat) (a : Option Addr) (cp : Nat) (us : List Value), k ≤ R ∧ ii = .int .i64 k ∧ Hid (us.length = k) ∧ St w.heap.size w wr (box 28 (w1.heap.size + 2) [.int .i64 n, .int .i64 m, .slice a k cp] :: box 138 w1.heap.size [.int .i64 P, .int .i64 D, .slice a1 F.length c1] :: box 28 w.heap.size [.int .i64 0, .int .i64 0, .slice none 0 0] :: row 2 (.slice a1 F.length c1) (iv F) :: own2 (.slice a k cp) us (polyRows n T m k))) (fun ii _ _ _ _ _ _ => R - (intOf ii).toNat)
  case atStart => exact ⟨0, _, 0, [], by omega, rfl, rfl, hS2⟩
  case round =>
    obtain ⟨k, a, cp, us, hk, rfl, hl, hS⟩ := hrel
    by_cases hlt : k < R
    · have hk256 : k ≤ 256 := by omega
      go_wp2_with fail
      refine (Hhf k hk256 _).out.mono ?_
      rintro e w4 ⟨vc, rfl, h4⟩
      have hS4b : St w.heap.size w (w4.alloc (.cells #[] 2)) ((box 28 (w1.heap.size + 2) [.int .i64 n, .int .i64 m, .slice a k cp] :: box 138 w1.heap.size [.int .i64 P, .int .i64 D, .slice a1 F.length c1] :: box 28 w.heap.size [.int .i64 0, .int .i64 0, .slice none 0 0] :: row 2 (.slice a1 F.length c1) (iv F) :: own2 (.slice a k cp) us (polyRows n T m k)) ++ [row 2 vc (iv (digs n T k))] ++ [row 2 (.slice (some ⟨w4.heap.size, 0, none⟩) 0 0) []]) := (hS.call h4).new 2 #[] (by simp)
      have hS4 := hS4b.perm (L' := row 2 (.slice (some ⟨w4.heap.size, 0, none⟩) 0 0) [] :: row 2 vc (iv (digs n T k)) :: box 28 (w1.heap.size + 2) [.int .i64 n, .int .i64 m, .slice a k cp] :: box 138 w1.heap.size [.int .i64 P, .int .i64 D, .slice a1 F.length c1] :: box 28 w.heap.size [.int .i64 0, .int .i64 0, .slice none 0 0] :: row 2 (.slice a1 F.length c1) (iv F) :: own2 (.slice a k cp) us (polyRows n T m k)) (by (try simp only [own2, List.cons_append, List.nil_append, List.append_nil]); classical exact List.perm_iff_count.2 (fun a => by simp only [List.cons_append, List.nil_append, List.append_nil, List.count_append, List.count_cons, List.count_nil] <;> omega))
      clear h4 hS4b
      go_wp2_with fail
      go_loopw [12, 13, 14, 15] (fun r jj _ _ wx => ∃ j : Nat, j ≤ m ∧ jj = .int .i64 j ∧ St w.heap.size w wx (row 2 r (iv (polyRow n (digs n T k) j)) :: row 2 vc (iv (digs n T k)) :: box 28 (w1.heap.size + 2) [.int .i64 n, .int .i64 m, .slice a k cp] :: box 138 w1.heap.size [.int .i64 P, .int .i64 D, .slice a1 F.length c1] :: box 28 w.heap.size [.int .i64 0, .int .i64 0, .slice none 0 0] :: row 2 (.slice a1 F.length c1) (iv F) :: own2 (.slice a k cp) us (polyRows n T m k))) (fun _ jj _ _ _ => m - (intOf jj).toNat)
      case atStart => exact ⟨0, by omega, rfl, hS4⟩
      case round =>
        obtain ⟨j, hj, rfl, hS⟩ := hrel
        have Hpl := Lib.hid (show (polyRow n (digs n T k) j).length < 4294967296 by rw [polyRow_len]; omega)
        by_cases hjm : j < m
        · have h0 : 0 < (digs n T k).length := by rw [(Hdl k).out]; omega
          have c0 := (hS.rdI 1 rfl).cell 0 h0
          have x0 := (hS.rdI 1 rfl).ixe 0 0 rfl h0
          by_cases hjn : j < n
          · have Hst := Lib.hid (show polyRow n (digs n T k) (j + 1) = polyRow n (digs n T k) j ++ [hor P D F j (digs n T k)] by rw [Hps.out, if_neg (by omega)])
            have hln := (hS.rdI 1 rfl).len
            have hle := (hS.rdI 1 rfl).le
            have hjl := (Hel.out j hjn).lim Hfv.out
            clear h0
            go_wp2_with fail
            go_loopw [14, 15] (fun vv ii wz => ∃ i : Nat, i ≤ (digs n T k).length ∧ ii = .int .i64 i ∧ vv = .int .i64 (hor P D F j ((digs n T k).take i)) ∧ St w.heap.size w wz (row 2 u12 (iv (polyRow n (digs n T k) j)) :: row 2 vc (iv (digs n T k)) :: box 28 (w1.heap.size + 2) [.int .i64 n, .int .i64 m, .slice a k cp] :: box 138 w1.heap.size [.int .i64 P, .int .i64 D, .slice a1 F.length c1] :: box 28 w.heap.size [.int .i64 0, .int .i64 0, .slice none 0 0] :: row 2 (.slice a1 F.length c1) (iv F) :: own2 (.slice a k cp) us (polyRows n T m k))) (fun _ ii _ => (digs n T k).length - (intOf ii).toNat)
            case atStart => exact ⟨0, by omega, rfl, rfl, hS⟩
            case round =>
              obtain ⟨i, hi, rfl, rfl, hS⟩ := hrel
              by_cases hil : i < (digs n T k).length
              · have ci := (hS.rdI 1 rfl).cell i hil
                have xi := (hS.rdI 1 rfl).ixe (i : Int) i rfl hil
                have hBf : BoxF _ w1.heap.size P D _ := ⟨hS.drew.bcell 3 rfl 0 rfl, hS.drew.bcell 3 rfl 1 rfl, hS.drew.bcell 3 rfl 2 rfl⟩
                have hrf := hS.drew.rdI 5 (v := .slice a1 F.length c1) (xs := F) rfl
                have hel : El P D (hor P D F j ((digs n T k).take i)) := by
                  rcases List.eq_nil_or_concat ((digs n T k).take i) with e | ⟨l, a, e⟩
                  · rw [e]; exact el_zero Hfv.out.fa
                  · rw [e, List.concat_eq_append, hor_snoc]; exact fsum_el Hfv.out.fa.pos _ _ _
                have hh := hel.lim Hfv.out
                have hpl := (fmul_el Hfv.out.fa (hor P D F j ((digs n T k).take i)) j).lim Hfv.out
                have hcl := (Hde.out k _ (nth_mem hil)).lim Hfv.out
                have Hst2 := Lib.hid (show fsum P D (fmul P D F (hor P D F j ((digs n T k).take i)) j) (nth (digs n T k) i) 1 = hor P D F j ((digs n T k).take (i + 1)) by rw [take_nth hil, hor_snoc])
                have Hmul := Lib.hid (l03Mul_c P D w1.heap.size _ F (hor P D F j ((digs n T k).take i)) j _ hrf hBf Hfv.out hh.1 hh.2 hjl.1 hjl.2)
                have Hsum := fun W (hb : BoxF W w1.heap.size P D (.slice a1 F.length c1)) => Lib.hid (l03Sum_c P D w1.heap.size _ F (fmul P D F (hor P D F j ((digs n T k).take i)) j) (nth (digs n T k) i) 1 W hb Hfv.out hpl.1 hpl.2 hcl.1 hcl.2 (by omega) (by omega))
                clear hel hh hpl hcl hBf hrf
                generalize hor P D F j ((digs n T k).take i) = V at *
                go_wp2_with fail
                go_region_held3 (fun w' => w'.cell? (el vc i) = some (.int .i64 (nth (digs n T k) i))) (((try dsimp only); (repeat' apply And.intro); all_goals (repeat (first | assumption | exact cell_dr (by assumption) | refine cell_dr ?_ | refine cell_al ?_ | refine cell_sc (by assumption) ?_))))
                  (first
                  | (go_at_call 137; refine Hmul.out.mono ?_; rintro e w5 ⟨rfl, h5⟩; have hS5 := hS.drew.call0 h5; have d0 := (hS5.rdI 1 rfl).cell i hil; have hBf : BoxF _ w1.heap.size P D _ := ⟨hS5.bcell 3 rfl 0 rfl, hS5.bcell 3 rfl 1 rfl, hS5.bcell 3 rfl 2 rfl⟩)
                  | (go_at_call 136; refine (Hsum _ hBf).out.mono ?_; rintro e w6 ⟨rfl, h6⟩; have hS6 := hS5.call0 h6; have e0 := (hS6.rdI 1 rfl).cell i hil))
                go_wp2_with fail
                go_roundw
                case rel => exact ⟨i + 1, by omega, by go_num, by rw [Hst2.out], hS6⟩
                case measure => simp [intOf]; omega
              · have hie : i = (digs n T k).length := by omega
                have Hve := Lib.hid (show hor P D F j ((digs n T k).take i) = hor P D F j (digs n T k) by rw [hie, List.take_length])
                clear hie
                go_wp2_with (at_builtin; refine appI hS 0 rfl Hpl.out rfl _ _ rfl rfl _ rfl ?_; intro v6 w6 hS6)
                go_roundw
                case rel => exact ⟨j + 1, by omega, by go_num, by rw [Hst.out, ← Hve.out]; exact hS6⟩
                case measure => simp [intOf]; omega
          · have Hst := Lib.hid (show polyRow n (digs n T k) (j + 1) = polyRow n (digs n T k) j ++ [nth (digs n T k) 0] by rw [Hps.out, if_pos (by omega)])
            clear h0
            go_wp2_with (at_builtin; refine appI hS 0 rfl Hpl.out rfl _ _ rfl rfl _ rfl ?_; intro v6 w6 hS6)
            go_roundw
            case rel => exact ⟨j + 1, by omega, by go_num, by rw [Hst.out]; exact hS6⟩
            case measure => simp [intOf]; omega
        · have hje : j = m := by omega
          rw [hje] at hS
          clear hje Hpl
          obtain ⟨ar, cr, hre⟩ := (hS.rdI 0 rfl).shp'
          subst hre
          have Hprl := Lib.hid (show (polyRow n (digs n T k) m).length = m from polyRow_len _ _ _)
          have c2 := hS.bcell 2 rfl 2 rfl
          go_wp2_with (at_builtin; refine appII hS 6 rfl (by rw [hl.out]; omega) rfl _ _ rfl rfl _ rfl rfl ?_; intro v6 w6 hS6; obtain ⟨va, vc2, hv'⟩ := (hS6.rd 6 rfl).sl.sh; rw [List.length_append, hl.out, List.length_singleton] at hv'; subst hv'; have d2 := hS6.bcell 2 rfl 2 rfl; have e2 := hS6.bfree 2 rfl)
          have hS7 := hS6.bstore 2 rfl 2 (.slice va (k + 1) vc2)
          go_roundw
          case rel =>
            refine ⟨k + 1, va, vc2, us ++ [.slice ar (polyRow n (digs n T k) m).length cr], by omega, by go_num, by simp [Hid, hl.out], ?_⟩
            rw [polyRows_succ, own2, rowsI_app (by rw [hl.out, polyRows_len])]
            simp only [own2, List.set_cons_succ, List.set_cons_zero] at hS7
            refine (hS7.perm (L' := (box 28 (w1.heap.size + 2) [.int .i64 n, .int .i64 m, .slice va (k + 1) vc2] :: box 138 w1.heap.size [.int .i64 P, .int .i64 D, .slice a1 F.length c1] :: box 28 w.heap.size [.int .i64 0, .int .i64 0, .slice none 0 0] :: row 2 (.slice a1 F.length c1) (iv F) :: (row 52 (.slice va (k + 1) vc2) (us ++ [.slice ar (polyRow n (digs n T k) m).length cr]) :: (rowsI us (polyRows n T m k) ++ [row 2 (.slice ar (polyRow n (digs n T k) m).length cr) (iv (polyRow n (digs n T k) m))]))) ++ [row 2 vc (iv (digs n T k))]) (by (try simp only [own2, List.cons_append, List.nil_append, List.append_nil]); classical exact List.perm_iff_count.2 (fun a => by simp only [List.cons_append, List.nil_append, List.append_nil, List.count_append, List.count_cons, List.count_nil] <;> omega))).sub (List.sublist_append_left _ _)
          case measure => simp [intOf]; omega
    · have hke : k = R := by omega
      have HL := Lib.hid (show us.length = R by rw [hl.out, hke])
      rw [hke] at hS
      clear hke
      have b0 := hS.bcell 0 rfl 0 rfl
      have b1 := hS.bcell 0 rfl 1 rfl
      have b2 := hS.bcell 0 rfl 2 rfl
      have z0 := hS.bcell 2 rfl 0 rfl
      have z1 := hS.bcell 2 rfl 1 rfl
      have z2 := hS.bcell 2 rfl 2 rfl
      have f1 := hS.bfree 2 rfl
      go_wp2_with fail
      have hS9 := ((hS.bstore 2 rfl 0 (.int .i64 n)).bstore 2 rfl 1 (.int .i64 m)).bstore 2 rfl 2 (.slice a R cp)
      refine bodyPost_ret (v := .agg #[.int .i64 n, .int .i64 m, .slice a R cp]) (by simp [results, Try.results94, go_sem, z0, z1, z2]) rfl ?_
      exact ⟨a, cp, us, rfl, HL.out, hS9.sub (by simp only [List.set_cons_succ, List.set_cons_zero]; exact (((List.Sublist.refl _).cons _).cons _).cons _ |>.cons _)⟩

end Go.Proofs.Ytejncephbafcdaa
end

section
/- Walks: arrays that the reference draws. -/
namespace Go.Proofs.Ytejncephbafcdaa
set_option linter.unusedSimpArgs false
set_option linter.unusedVariables false
open Go.RowKit
attribute [local go_sem ↓] Go.wp_at_zero Go.wp_at_succ


/-- rows of one length -/
structure AQ (co : Int) (R : List (List Int)) (us : List Value) : Prop where
  us : us.length = R.length
  le : R.length ≤ 256
  row : ∀ r ∈ R, (r.length : Int) = co
  pos : 0 < R.length → 1 ≤ co
  c9 : 0 ≤ co ∧ co ≤ 8
/-- the array in its box -/
def AR (w0 : World) (cv : Value) (g ga K : Nat) (L : List Ent) (w' : World) : Prop := ∃ (lv co : Int) (a : Option Addr) (cap : Nat) (us : List Value) (R : List (List Int)), Hid (AQ co R us ∧ 0 ≤ lv ∧ lv ≤ 16) ∧
  Src w0 w' cv g K (box 28 ga [.int .i64 lv, .int .i64 co, .slice a R.length cap] :: (own2 (.slice a R.length cap) us R ++ L))
/-- the array in its box, whatever it is -/
def AR2 (w0 : World) (cv : Value) (g ga K : Nat) (L : List Ent) (w' : World) : Prop := ∃ (lv co : Int) (a : Option Addr) (cap : Nat) (us : List Value) (R : List (List Int)), Hid (us.length = R.length) ∧
  Src w0 w' cv g K (box 28 ga [.int .i64 lv, .int .i64 co, .slice a R.length cap] :: (own2 (.slice a R.length cap) us R ++ L))
/-- it hands over an array of its own -/
def MakesArD (w0 : World) (cv : Value) (g K : Nat) (L : List Ent) (e : Ending) (w' : World) : Prop := ∃ lv co v us R, e = .returned (av lv co v) ∧ us.length = R.length ∧ Src w0 w' cv g K (own2 v us R ++ L)
theorem pu_3 {q t : Nat} (h1 : 2 ≤ q) (h2 : q ≤ 5) (h3 : 1 ≤ t) (h4 : t ≤ 3) : ∃ R : Nat, pu q 256 t 1 = R ∧ R ≤ 256 := by
  have : ∀ q, q < 6 → 2 ≤ q → ∀ t, t < 4 → 1 ≤ t → 0 ≤ pu (q : Nat) 256 t 1 ∧ pu (q : Nat) 256 t 1 ≤ 256 := by decide +kernel
  have := this q (by omega) h1 t (by omega) h3
  exact ⟨(pu q 256 t 1).toNat, by omega, by omega⟩
theorem AQ.nil (co : Int) (h0 : 0 ≤ co) (h8 : co ≤ 8) : AQ co [] [] := ⟨rfl, by simp, fun r hr => absurd hr (by simp), fun h => absurd h (by simp), h0, h8⟩
theorem Src.swapout {w0 W : World} {cv : Value} {g K : Nat} {b r : Ent} {LL N : List Ent} (h : Src w0 W cv g K (b :: r :: (LL ++ N))) : Src w0 W cv g K (b :: (N ++ LL)) :=
  (h.sub ((List.sublist_cons_self _ _).cons_cons _)).perm (List.perm_append_comm.cons _)
set_option maxHeartbeats 16000000 in
set_option maxRecDepth 100000 in
theorem l16Draw_c (w0 w : World) (cv : Value) (bs : List UInt8) (g K : Nat) (L : List Ent) (hb : RdB w0 cv bs) (h : Src w0 w cv g K L) (hK : K < 100000000) :
    Calls Try.prog 51 #[.pointer (some ⟨g, 0, none⟩)] w (MakesArD w0 cv g (K + 1000) L) := by
  have h0 := h.newboxF 28 #[.int .i64 0, .int .i64 0, .slice none 0 0]
  clear h
  go_enter Try.func51, Try.ntmps51
  go_wp2_with fail
  refine (pick_c w0 _ cv bs g _ _ 4 hb h0 (by omega)).mono ?_
  rintro e w1 ⟨x, x0, x1, rfl, h1⟩
  clear h0
  go_wp2_with fail
  refine (pick_c w0 _ cv bs g _ _ 5 hb h1 (by omega)).mono ?_
  rintro e w2 ⟨y, y0, y1, rfl, h2⟩
  clear h1
  have h3 := h2.empII.newboxF 28 #[.int .i64 (x + 2), .int .i64 (y + 1), .slice (some ⟨w2.heap.size, 0, none⟩) 0 0]
  simp only [World.size_alloc] at h3
  generalize hL0 : box 28 w.heap.size [.int .i64 0, .int .i64 0, .slice none 0 0] :: L = LL at *
  have HL0 := Lib.hid hL0
  have hx : 2 ≤ x + 2 ∧ x + 2 ≤ 5 := by omega
  have hy : 1 ≤ y + 1 ∧ y + 1 ≤ 5 := by omega
  clear h2 hL0
  go_upto_block 0 with fail
  generalize x + 2 = lv at *
  generalize y + 1 = co at *
  clear x0 x1 y0 y1
  obtain ⟨n, rfl⟩ := Int.eq_ofNat_of_zero_le (show 0 ≤ co by omega)
  have hq := AQ.nil (n : Int) (by omega) (by omega)
  refine (pick_c w0 _ cv bs g _ _ 5 hb h3 (by omega)).mono ?_
  rintro e w3 ⟨z, z0, z1, rfl, h4⟩
  clear h3
  go_upto_block 0 with fail
  go_cut [] from 12 (fun w' => AR w0 cv g (w2.heap.size + 1) (K + 300) LL w')
  case first =>
    have hbf := h4.bfree 0 (e := 28) rfl
    by_cases e0 : z = 0
    · subst e0
      go_wp2_with fail
      refine (among_lit [2, 3, 4, 5] w0 _ cv bs _ _ _ hb h4 (by simp) (by omega)).mono ?_
      rintro e w4 ⟨q, hq', rfl, h5⟩
      have hq2 : ∃ m : Nat, q = m ∧ 2 ≤ m ∧ m ≤ 5 := by
        simp only [List.mem_cons, List.not_mem_nil, or_false] at hq'
        exact ⟨q.toNat, by omega, by omega, by omega⟩
      obtain ⟨m, rfl, m2, m5⟩ := hq2
      have hM := Lib.hid (mk_small (q := m) (by omega))
      clear h4 hq' hbf
      go_wp2_with fail
      refine (l00Min_c _ _ _).mono ?_
      rintro e w5 ⟨rfl, rfl⟩
      go_wp2_with fail
      refine (pick_c w0 _ cv bs g _ _ _ hb h5 (by omega)).mono ?_
      rintro e w6 ⟨t, t0, t1, rfl, h6⟩
      obtain ⟨T, hT⟩ : ∃ T : Nat, t + 1 = T := ⟨(t + 1).toNat, by omega⟩
      have T1 : 1 ≤ T := by omega
      have T3 : T ≤ 3 := by omega
      have Tm : T ≤ m := by omega
      clear h5 
      go_wp2_with fail
      try rw [hT]
      clear hT t0 t1
      refine (pick_c w0 _ cv bs g _ _ _ hb h6 (by omega)).mono ?_
      rintro e w7 ⟨y, y0, y1, rfl, h7⟩
      obtain ⟨C, hC⟩ : ∃ C : Nat, (T : Int) + y = C := ⟨((T : Int) + y).toNat, by omega⟩
      have C1 : 1 ≤ C := by omega
      have C2 : C ≤ m + 1 := by omega
      clear h6
      go_wp2_with fail
      try rw [hC]
      clear hC y0 y1
      obtain ⟨R, hR, hR2⟩ := pu_3 m2 m5 T1 T3
      refine (l16Poly_c m T C R w7 m2 (by omega) hM.out T1 (by omega) (by omega) C2 hR hR2).mono ?_
      rintro e w8 ⟨a, cp, us, rfl, hl, h8⟩
      have h9 := h7.call h8
      have hf9 := h9.bfree 0 (e := 28) rfl
      have b0 := h9.box 0 (e := 28) rfl 0 rfl
      have b1 := h9.box 0 (e := 28) rfl 1 rfl
      have b2 := h9.box 0 (e := 28) rfl 2 rfl
      have h10 := ((h9.bstore 0 (e := 28) rfl 0 (.int .i64 m)).bstore 0 (e := 28) rfl 1 (.int .i64 C)).bstore 0 (e := 28) rfl 2 (.slice a R cp)
      simp only [List.cons_append, List.set_cons_zero, List.set_cons_succ] at h10
      have hpl := polyRows_len m T C R
      have HA := Lib.hid (show AQ (C : Int) (polyRows m T C R) us from ⟨by rw [hl, hpl], by rw [hpl]; exact hR2, fun r hr => by
        obtain ⟨j, hj, rfl⟩ := List.mem_map.1 hr
        rw [polyRow_len], fun _ => by omega, by omega, by omega⟩)
      have Hpl := Lib.hid hpl
      generalize polyRows m T C R = RR at *
      have h11 : Src w0 (((w8.setCell ⟨w2.heap.size + 1, 0, none⟩ (.int .i64 m)).setCell ⟨w2.heap.size + 1, 1, none⟩ (.int .i64 C)).setCell ⟨w2.heap.size + 1, 2, none⟩ (.slice a R cp)) cv g (K + 20) (box 28 (w2.heap.size + 1) [.int .i64 m, .int .i64 C, .slice a RR.length cp] :: (own2 (.slice a RR.length cp) us RR ++ LL)) := by
        rw [Hpl.out]
        exact h10.swapout.mono (by omega)
      clear h9 h10 h8 h7 hpl hR
      go_wp2_with fail
      go_meet
      case rel => exact ⟨m, C, a, cp, us, RR, ⟨HA.out, by omega, by omega⟩, h11.mono (by omega)⟩
    · have f0 := eq_f e0
      by_cases e1 : z = 1
      · subst e1
        go_wp2_with fail
        refine (among_lit [3, 4, 5, 7] w0 _ cv bs _ _ _ hb h4 (by simp) (by omega)).mono ?_
        rintro e w4 ⟨q, hq', rfl, h5⟩
        have hq2 : ∃ m : Nat, q = m ∧ (m = 3 ∨ m = 4 ∨ m = 5 ∨ m = 7) := by
          simp only [List.mem_cons, List.not_mem_nil, or_false] at hq'
          exact ⟨q.toNat, by omega, by omega⟩
        obtain ⟨m, rfl, hm⟩ := hq2
        have hM := Lib.hid (mk_small (q := m) (by omega))
        have m2 : 3 ≤ m := by omega
        have m7 : m ≤ 7 := by omega
        clear h4 hq' hbf hm e0
        go_wp2_with fail
        refine (l07DrawMols_c w0 _ cv bs _ _ _ m hb h5 (by omega) (by omega) (by omega) hM.out).mono ?_
        rintro e w5 ⟨v, vs, uss, X, rfl, hX, hXn, hXl, hf, h6⟩
        have hR := h6.st.riii hf
        have HX := Lib.hid (And.intro hX hXn)
        have h7 : Src w0 w5 cv g (K + 30) (box 28 (w2.heap.size + 1) [.int .i64 lv, .int .i64 n, .slice (some ⟨w2.heap.size, 0, none⟩) 0 0] :: (row 52 (.slice (some ⟨w2.heap.size, 0, none⟩) 0 0) [] :: LL)) := (h6.sub (List.sublist_append_right _ _)).mono (by omega)
        clear h5 h6 hf hX hXn
        go_wp2_with fail
        refine (l16OfMols_c v vs uss X w5 m hR HX.out.1 HX.out.2.symm).mono ?_
        rintro e w6 ⟨v6, us, rfl, hl, h8⟩
        obtain ⟨ra, rc, hre⟩ := (h8.rd 0 (e := 52) (v := v6) (us := us) rfl).sl.sh
        rw [hl] at hre
        subst hre
        have h9 := h7.call h8
        have hf9 := h9.bfree 0 (e := 28) rfl
        have b0 := h9.box 0 (e := 28) rfl 0 rfl
        have b1 := h9.box 0 (e := 28) rfl 1 rfl
        have b2 := h9.box 0 (e := 28) rfl 2 rfl
        have h10 := ((h9.bstore 0 (e := 28) rfl 0 (.int .i64 m)).bstore 0 (e := 28) rfl 1 (.int .i64 ((X.length : Int) + 2))).bstore 0 (e := 28) rfl 2 (.slice ra (amL m X (m * m)).length rc)
        simp only [List.cons_append, List.set_cons_zero, List.set_cons_succ] at h10
        have h11 := h10.swapout
        have hmm : m * m ≤ 49 := Nat.mul_le_mul m7 m7
        have HA := Lib.hid (show AQ ((X.length : Int) + 2) (amL m X (m * m)) us from ⟨hl, by rw [amL_len]; omega, fun r hr => by
          obtain ⟨j, hj, rfl⟩ := List.mem_map.1 hr
          simp [amRow]; omega, fun _ => by omega, by omega, by omega⟩)
        generalize amL m X (m * m) = RR at *
        have b1' := h11.box 0 (e := 28) rfl 1 rfl
        have t8 : ¬ (8 : Int) < (X.length : Int) + 2 := by omega
        have Hlv : Hid (0 ≤ (m : Int) ∧ (m : Int) ≤ 16) := Lib.hid ⟨by omega, by omega⟩
        clear h9 h10 h8 h7 hmm hl hR
        unfold av
        go_wp2_with fail
        go_meet
        case rel => exact ⟨m, _, ra, rc, us, RR, ⟨HA.out, Hlv.out.1, Hlv.out.2⟩, h11.mono (by omega)⟩
      · have f1 := eq_f e1
        by_cases e2 : z = 2
        · subst e2
          go_wp2_with fail
          have KC := l16Count_c lv n w3 (by omega) (by omega) (by omega) (by omega)
          rw [Int.toNat_natCast] at KC
          refine KC.mono ?_
          clear KC
          rintro e w4 ⟨rfl, rfl⟩
          by_cases hc : cnt lv n 1 ≤ 256
          · go_wp2_with fail
            refine (sFullArray_c lv n _).mono ?_
            have HA : ∀ us : List Value, us.length = (fullA lv n).rows.length → AQ (fullA lv n).co (fullA lv n).rows us ∧ 0 ≤ (fullA lv n).lv ∧ (fullA lv n).lv ≤ 16 := by
              intro us hus
              unfold fullA at hus ⊢
              split
              · split
                · exact ⟨⟨by rw [if_pos (by assumption), if_pos (by assumption)] at hus; exact hus, by simp [noA], fun r hr => absurd hr (by simp [noA]), fun h => absurd h (by simp [noA]), by simp [noA], by simp [noA]⟩, by simp [noA], by simp [noA]⟩
                · rename_i hs hp
                  rw [if_pos hs, if_neg hp] at hus
                  rw [Int.toNat_natCast] at hp
                  refine ⟨⟨hus, by simp [fullRows]; omega, fun r hr => ?_, fun _ => by show (1 : Int) ≤ n; omega, by show (0 : Int) ≤ n; omega, by show (n : Int) ≤ 8; omega⟩, by show 0 ≤ lv; omega, by show lv ≤ 16; omega⟩
                  obtain ⟨j, hj, rfl⟩ := List.mem_map.1 hr
                  rw [digs_len]; show ((Int.toNat (n : Int) : Nat) : Int) = n; omega
              · exact ⟨⟨by rw [if_neg (by assumption)] at hus; exact hus, by simp [noA], fun r hr => absurd hr (by simp [noA]), fun h => absurd h (by simp [noA]), by simp [noA], by simp [noA]⟩, by simp [noA], by simp [noA]⟩
            have HA := Lib.hid HA
            rintro e w6 ⟨v6, us, rfl, hl, h8⟩
            have HA := Lib.hid (HA.out us hl)
            generalize (fullA lv n).lv = lv' at *
            generalize (fullA lv n).co = co' at *
            generalize (fullA lv n).rows = RR at *
            obtain ⟨ra, rc, hre⟩ := (h8.rd 0 (e := 52) (v := v6) (us := us) rfl).sl.sh
            rw [hl] at hre
            subst hre
            have h9 := h4.call h8
            have hf9 := h9.bfree 0 (e := 28) rfl
            have b0 := h9.box 0 (e := 28) rfl 0 rfl
            have b1 := h9.box 0 (e := 28) rfl 1 rfl
            have b2 := h9.box 0 (e := 28) rfl 2 rfl
            have h10 := ((h9.bstore 0 (e := 28) rfl 0 (.int .i64 lv')).bstore 0 (e := 28) rfl 1 (.int .i64 co')).bstore 0 (e := 28) rfl 2 (.slice ra RR.length rc)
            simp only [List.cons_append, List.set_cons_zero, List.set_cons_succ] at h10
            have h11 := h10.swapout
            clear h9 h10 h8 h4 hl hbf
            unfold av
            go_wp2_with fail
            go_meet
            case rel => exact ⟨lv', co', ra, rc, us, RR, HA.out, h11.mono (by omega)⟩
          · go_wp2_with fail
            go_meet
            case rel => exact ⟨lv, n, _, 0, [], [], ⟨hq, by omega, by omega⟩, h4.mono (by omega)⟩
        · have f2 := eq_f e2
          clear hbf
          go_wp2_with fail
          refine (pick_c w0 _ cv bs g _ _ 12 hb h4 (by omega)).mono ?_
          rintro e w5 ⟨k, k0, k1, rfl, h5⟩
          obtain ⟨c, rfl⟩ := Int.eq_ofNat_of_zero_le k0
          have hc : c ≤ 11 := by omega
          clear h4 k0 k1
          go_wp2_with fail
          go_loopw [9, 10, 11] (fun i _ _ wr => ∃ (j : Nat) (a : Option Addr) (cap : Nat) (us : List Value) (R : List (List Int)), j ≤ 11 ∧ i = .int .i64 j ∧ Hid (R.length + j ≤ 11 ∧ us.length = R.length ∧ ∀ r ∈ R, r.length = n) ∧
            Src w0 wr cv g (K + 200 - 12 * j) (box 28 (w2.heap.size + 1) [.int .i64 lv, .int .i64 n, .slice a R.length cap] :: (own2 (.slice a R.length cap) us R ++ LL))) (fun i _ _ _ => (intOf i).toNat)
          case atStart => exact ⟨c, _, 0, [], [], hc, rfl, ⟨by simpa using hc, rfl, fun r hr => by cases hr⟩, h5.mono (by omega)⟩
          case round =>
            clear h5
            obtain ⟨j, a, cap, us, R, hj, rfl, hI, hS⟩ := hrel
            by_cases hlt : 0 < j
            · have h6 := hS.empI
              clear hS
              go_wp2_with fail
              go_loopw [10, 11] (fun l i wx => ∃ (t : Nat) (xs : List Int), t ≤ n ∧ i = .int .i64 t ∧ Hid (xs.length = t) ∧ Src w0 wx cv g (K + 200 - 12 * j + 2 * t) (row 2 l (iv xs) :: (box 28 (w2.heap.size + 1) [.int .i64 lv, .int .i64 n, .slice a R.length cap] :: (own2 (.slice a R.length cap) us R ++ LL)))) (fun _ i _ => n - (intOf i).toNat)
              case atStart => exact ⟨0, [], by omega, rfl, rfl, h6⟩
              case round =>
                clear h6
                obtain ⟨t, xs, ht, rfl, hx', hS⟩ := hrel
                by_cases htn : t < n
                · go_wp2_with fail
                  refine (pick_c w0 _ cv bs g _ _ lv hb hS (by omega)).mono ?_
                  rintro e w7 ⟨y, y0, y1, rfl, h7⟩
                  obtain ⟨pp, ss, p0, p1, hS7⟩ := h7
                  have HP := Lib.hid (And.intro p0 p1)
                  have Hml := Lib.hid (show xs.length < 4294967296 by rw [hx'.out]; omega)
                  clear hS y0 y1 p0 p1
                  go_wp2_with (at_builtin; refine appI hS7 1 rfl Hml.out rfl _ _ rfl rfl _ rfl ?_; intro v8 w8 hS8)
                  simp only [List.set_cons_succ, List.set_cons_zero] at hS8
                  go_roundw
                  case rel => exact ⟨t + 1, _, by omega, by go_num, by simp [Hid, hx'.out], pp, ss, HP.out.1, by have := HP.out.2; omega, hS8⟩
                  case measure => simp [intOf]; omega
                · obtain rfl : t = n := by omega
                  obtain ⟨pp, ss, p0, p1, hS7⟩ := hS
                  have HP := Lib.hid (And.intro p0 p1)
                  obtain ⟨la, lc, hle⟩ := (hS7.rdI 1 rfl).shp'
                  subst hle
                  have b2 := hS7.bcell 2 (e := 28) rfl 2 rfl
                  have f2' := hS7.bfree 2 (e := 28) rfl
                  have Hul := Lib.hid (show us.length < 4294967296 by rw [hI.out.2.1]; have := hI.out.1; omega)
                  clear p0 p1
                  go_wp2_with (at_builtin; refine appII hS7 3 rfl Hul.out rfl _ _ rfl rfl _ rfl rfl ?_; intro v8 w8 hS8; obtain ⟨oa, oc, hoe⟩ := (hS8.rd 3 rfl).sl.sh; rw [List.length_append, hI.out.2.1, List.length_singleton] at hoe; subst hoe; have b3 := hS8.bcell 2 (e := 28) rfl 2 rfl; have f3' := hS8.bfree 2 (e := 28) rfl)
                  have Hhl := Lib.hid (show us.length = R.length from hI.out.2.1)
                  simp only [List.set_cons_succ, List.set_cons_zero] at hS8
                  have h9 := hS8.bstore 2 (e := 28) rfl 2 (.slice oa (R.length + 1) oc)
                  simp only [List.set_cons_succ, List.set_cons_zero] at h9
                  have hrl : (R ++ [xs]).length = R.length + 1 := by simp
                  rw [show (own2 (.slice a R.length cap) us R ++ LL).set 0 (row 52 (.slice oa (R.length + 1) oc) (us ++ [.slice la xs.length lc])) = row 52 (.slice oa (R.length + 1) oc) (us ++ [.slice la xs.length lc]) :: (rowsI us R ++ LL) from rfl] at h9
                  have h10 := h9.perm (L' := box 101 g [cv, .int .i64 pp, .int .u64 ss] :: (box 28 (w2.heap.size + 1) [.int .i64 lv, .int .i64 t, .slice oa (R ++ [xs]).length oc] :: (own2 (.slice oa (R ++ [xs]).length oc) (us ++ [.slice la xs.length lc]) (R ++ [xs]) ++ LL))) (by
                    rw [hrl]; unfold own2; rw [rowsI_app Hhl.out]
                    exact (by (try simp only [own2, List.cons_append, List.nil_append, List.append_nil]); classical exact List.perm_iff_count.2 (fun a => by simp only [List.cons_append, List.nil_append, List.append_nil, List.count_append, List.count_cons, List.count_nil] <;> omega)))
                  go_roundw
                  case rel => exact ⟨j - 1, oa, oc, us ++ [.slice la xs.length lc], R ++ [xs], by omega, by go_num, ⟨by simp; have := hI.out.1; omega, by simp [Hhl.out], fun r hr => by
                    rcases List.mem_append.1 hr with hr | hr
                    · exact hI.out.2.2 r hr
                    · obtain rfl := List.mem_singleton.1 hr
                      exact hx'.out⟩, pp, ss, HP.out.1, by have := HP.out.2; omega, h10⟩
                  case measure => simp [intOf]; omega
            · obtain rfl : j = 0 := by omega
              go_wp2_with fail
              go_meet
              case rel => exact ⟨lv, n, a, cap, us, R, ⟨⟨hI.out.2.1, by have := hI.out.1; omega, fun r hr => by rw [hI.out.2.2 r hr], fun _ => by omega, by omega, by omega⟩, by omega, by omega⟩, hS.mono (by omega)⟩
  case rest =>
    clear h4 hq
    obtain ⟨lv', co', a, cap, us, R, hI, h5⟩ := hcut
    have HI := Lib.hid (And.intro hI.out.1.us hI.out.1.le)
    have Hrow := Lib.hid (fun r hr => hI.out.1.row r hr)
    have Hco := Lib.hid hI.out.1.c9
    have Hlv := Lib.hid hI.out.2
    clear hI
    go_upto_block 0 with fail
    refine (pick_c w0 _ cv bs g _ _ 14 hb h5 (by omega)).mono ?_
    rintro e w4 ⟨z, z0, z1, rfl, h6⟩
    clear h5
    have hR := h6.riiS (v := .slice a R.length cap) (us := us) (A := R) ((List.sublist_append_left _ _).trans (List.sublist_cons_self _ _)) HI.out.1
    have hf0 := h6.bfree 0 (e := 28) rfl
    have b0 := h6.box 0 (e := 28) rfl 0 rfl
    have b1 := h6.box 0 (e := 28) rfl 1 rfl
    have b2 := h6.box 0 (e := 28) rfl 2 rfl
    go_upto_block 7 with fail
    go_cut [] from 12 (fun w' => AR2 w0 cv g (w2.heap.size + 1) (K + 900) LL w')
    case first =>
      by_cases e0 : z = 0
      · subst e0
        go_wp2_with fail
        refine (among_lit [1, 16, 17, 2] w0 _ cv bs _ _ _ hb h6 (by simp) (by omega)).mono ?_
        rintro e w5 ⟨q, hq', rfl, h7⟩
        have b0 := h7.box 0 (e := 28) rfl 0 rfl
        have b1 := h7.box 0 (e := 28) rfl 1 rfl
        have b2 := h7.box 0 (e := 28) rfl 2 rfl
        have hf0 := h7.bfree 0 (e := 28) rfl
        have h8 := h7.bstore 0 (e := 28) rfl 0 (.int .i64 q)
        simp only [List.set_cons_zero] at h8
        clear h7 h6 hq' hR
        go_wp2_with fail
        go_meet
        case rel => exact ⟨q, co', a, cap, us, R, HI.out.1, h8.mono (by omega)⟩
      · have f0 := eq_f e0
        by_cases e1 : z = 1
        · subst e1
          have hw : IntKind.i64.wrap (co' + 1) = co' + 1 := IntWalk.i64_in _ (by have := Hco.out; omega)
          go_wp2_with fail
          refine (among_lit [0, 9, co' + 1] w0 _ cv bs _ _ _ hb h6 (by simp) (by omega)).mono ?_
          rintro e w5 ⟨q, hq', rfl, h7⟩
          have b0 := h7.box 0 (e := 28) rfl 0 rfl
          have b1 := h7.box 0 (e := 28) rfl 1 rfl
          have b2 := h7.box 0 (e := 28) rfl 2 rfl
          have hf0 := h7.bfree 0 (e := 28) rfl
          have h8 := h7.bstore 0 (e := 28) rfl 1 (.int .i64 q)
          simp only [List.set_cons_zero, List.set_cons_succ] at h8
          clear h7 h6 hq' hR
          go_wp2_with fail
          go_meet
          case rel => exact ⟨lv', q, a, cap, us, R, HI.out.1, h8.mono (by omega)⟩
        · have f1 := eq_f e1
          have hln := hR.len
          by_cases e2 : z = 2
          · subst e2
            by_cases hp1 : 0 < R.length
            · by_cases hp2 : 0 < co'
              · have hrl := Hrow.out _ (xat_mem hp1)
                have hrl : 0 < (xat R 0).length := by omega
                have z0 := hR.cell 0 hp1
                have xo := hR.ixe 0 0 rfl hp1
                have xr := (hR.row 0 hp1).ixe 0 0 rfl hrl
                go_wp2_with fail
                refine regionG (fun w' => w'.cell? ⟨w2.heap.size + 1, 2, none⟩ = some (.slice a R.length cap) ∧ w'.cell? (el (.slice a R.length cap) 0) = some (vat us 0) ∧ w'.cell? ⟨w2.heap.size + 1, 0, none⟩ = some (.int .i64 lv')) 10 (by kernel_rfl) ⟨cell_dr b2, cell_dr z0, cell_dr b0⟩ (fun hHeld => ?_)
                refine takeP (i := 0) (v := ?_) rfl (by kernel_rfl) (fun _ _ _ h => h) (by rfl) ?_ (by assumption) ?_
                case refine_2 => (intro w'; go_simp; first | done | with_reducible rfl)
                try simp only [Act.put, List.setIfInBounds_toArray, List.set_cons_zero, List.set_cons_succ]
                refine takeH (i := 1) [2, 3, 9] (v := ?_) rfl (by kernel_rfl) (fun _ _ _ h => h) (by rfl) ?_ (by assumption) ?_
                case refine_2 => (intro w' hSw; (try dsimp only at hSw); go_simp; first | done | with_reducible rfl)
                try simp only [Act.put, List.setIfInBounds_toArray, List.set_cons_zero, List.set_cons_succ]
                refine takeP (i := 2) (v := ?_) rfl (by kernel_rfl) (fun _ _ _ h => h) (by rfl) ?_ (by assumption) ?_
                case refine_2 => (intro w'; go_simp; first | done | with_reducible rfl)
                try simp only [Act.put, List.setIfInBounds_toArray, List.set_cons_zero, List.set_cons_succ]
                refine takeH (i := 3) [9] (v := ?_) rfl (by kernel_rfl) (fun _ _ _ h => h) (by rfl) ?_ (by assumption) ?_
                case refine_2 => (intro w' hSw; (try dsimp only at hSw); go_simp; first | done | with_reducible rfl)
                try simp only [Act.put, List.setIfInBounds_toArray, List.set_cons_zero, List.set_cons_succ]
                refine takeP (i := 4) (v := ?_) rfl (by kernel_rfl) (fun _ _ _ h => h) (by rfl) ?_ (by assumption) ?_
                case refine_2 => (intro w'; go_simp; first | done | with_reducible rfl)
                try simp only [Act.put, List.setIfInBounds_toArray, List.set_cons_zero, List.set_cons_succ]
                refine takeP (i := 5) (v := ?_) rfl (by kernel_rfl) (fun _ _ _ h => h) (by rfl) ?_ (by assumption) ?_
                case refine_2 => (intro w'; go_simp; first | done | with_reducible rfl)
                try simp only [Act.put, List.setIfInBounds_toArray, List.set_cons_zero, List.set_cons_succ]
                refine takeH (i := 6) [7, 8] (v := ?_) rfl (by kernel_rfl) (fun _ _ _ h => h) (by rfl) ?_ (by assumption) ?_
                case refine_2 => (intro w' hSw; (try dsimp only at hSw); go_simp; first | done | with_reducible rfl)
                try simp only [Act.put, List.setIfInBounds_toArray, List.set_cons_zero, List.set_cons_succ]
                refine readyG (rs := [7]) (by kernel_rfl) (by simp) ?_
                refine AllG.cons rfl (fun K hK => ?_) AllG.nil
                go_simp
                refine hK.out _ _ ⟨cell_al (cell_dr b2), cell_al (cell_dr z0), cell_al (cell_dr b0)⟩ (fun hHeld => ?_)
                clear hK K
                try simp only [Act.put, List.setIfInBounds_toArray, List.set_cons_zero, List.set_cons_succ]
                refine readyG (rs := [8]) (by kernel_rfl) (by simp) ?_
                refine AllG.cons rfl (fun K hK => ?_) AllG.nil
                go_simp
                refine (among_lit [-1, lv', 0] w0 _ cv bs _ _ _ hb h6.drew (by simp) (by omega)).mono ?_
                rintro e w5 ⟨q, hq', rfl, h7⟩
                have hR7 := h7.riiS (v := .slice a R.length cap) (us := us) (A := R) ((List.sublist_append_left _ _).trans (List.sublist_cons_self _ _)) HI.out.1
                have c0 := h7.box 0 (e := 28) rfl 0 rfl
                have c2 := h7.box 0 (e := 28) rfl 2 rfl
                have y0 := hR7.cell 0 hp1
                have y1 := (hR7.row 0 hp1).cell 0 hrl
                refine hK.out _ _ ⟨c2, y0, c0⟩ (fun hHeld => ?_)
                clear hK K
                try simp only [Act.put, List.setIfInBounds_toArray, List.set_cons_zero, List.set_cons_succ]
                refine takeP (i := 9) (v := ?_) rfl (by kernel_rfl) (fun _ _ _ h => h) (by rfl) ?_ (by assumption) ?_
                case refine_2 => (intro w'; go_simp; first | done | with_reducible rfl)
                try simp only [Act.put, List.setIfInBounds_toArray, List.set_cons_zero, List.set_cons_succ]
                obtain ⟨pp, ss, p0, p1, hT⟩ := h7
                have hat := (hT.sub ((List.sublist_cons_self _ _).trans (List.sublist_cons_self _ _))).at_row HI.out.1 hp1
                have u1 := hT.unfrozen 3 (at_cons (at_cons hat)) (j := 0) (by rw [iv_len]; exact hrl)
                have HS9 := Lib.hid (hT.store 3 (at_cons (at_cons hat)) (j := 0) (by rw [iv_len]; exact hrl) (.int .i64 q))
                have Hp := Lib.hid (And.intro p0 p1)
                clear hT hat p0 p1 h6 hR hR7 hq'
                refine readyG (rs := [10]) (by kernel_rfl) (by simp) ?_
                refine AllG.last rfl (by kernel_rfl) (fun K hK => ?_) AllG.nil
                go_simp
                refine hK.out _ _ ?_
                clear hK K
                try simp only [Act.put, List.setIfInBounds_toArray, List.set_cons_zero, List.set_cons_succ]
                refine doneG (by kernel_rfl) ?_ _
                refine NoPanic.normal ?_
                have hS9 := HS9.out
                rw [iv_set] at hS9
                simp only [List.set_cons_succ] at hS9
                have e9 := own2_set (v := .slice a R.length cap) (L2 := LL) HI.out.1 hp1 ((xat R 0).set 0 q)
                rw [Nat.zero_add] at e9
                rw [e9] at hS9
                have h10 : Src w0 (w5.setCell (el (vat us 0) 0) (.int .i64 q)) cv g (K + 400) (box 28 (w2.heap.size + 1) [.int .i64 lv', .int .i64 co', .slice a (R.set 0 ((xat R 0).set 0 q)).length cap] :: (own2 (.slice a (R.set 0 ((xat R 0).set 0 q)).length cap) us (R.set 0 ((xat R 0).set 0 q)) ++ LL)) :=
                  ⟨pp, ss, Hp.out.1, by have := Hp.out.2; omega, by rw [List.length_set]; exact hS9⟩
                have Hl10 := Lib.hid (show us.length = (R.set 0 ((xat R 0).set 0 q)).length by rw [List.length_set]; exact HI.out.1)
                clear hS9 e9 c0 c2 y0 y1 u1
                go_wp2_with fail
                go_meet
                case rel => exact ⟨lv', co', a, cap, us, _, Hl10.out, h10.mono (by omega)⟩
              · go_wp2_with fail
                go_meet
                case rel => exact ⟨lv', co', a, cap, us, R, HI.out.1, h6.mono (by omega)⟩
            · go_wp2_with fail
              go_meet
              case rel => exact ⟨lv', co', a, cap, us, R, HI.out.1, h6.mono (by omega)⟩
          · have f2 := eq_f e2
            by_cases e3 : z = 3
            · subst e3
              clear hR hf0 b0 b1 b2 hln
              have hR8 := Lib.hid (show ∀ r ∈ R, r.length ≤ 8 from fun r hr => by have := Hrow.out r hr; have := Hco.out; omega)
              go_wp2_with fail
              go_loopg [] (300 - R.length) (fun m wr => ∃ (a : Option Addr) (cap : Nat) (us : List Value) (R : List (List Int)), R.length ≤ 290 ∧ 300 - R.length = m ∧ Hid (us.length = R.length ∧ ∀ r ∈ R, r.length ≤ 8) ∧
                Src w0 wr cv g (K + 310 + 2 * R.length) (box 28 (w2.heap.size + 1) [.int .i64 lv', .int .i64 co', .slice a R.length cap] :: (own2 (.slice a R.length cap) us R ++ LL)))
              case atStart => exact ⟨a, cap, us, R, by have := HI.out.2; omega, rfl, ⟨HI.out.1, hR8.out⟩, h6.mono (by omega)⟩
              case round =>
                clear h6 HI hR8 Hrow
                obtain ⟨a, cap, us, R, hRl, hm, hI, h6⟩ := hrel
                have Hm := Lib.hid hm
                clear hm
                have hR := h6.riiS (v := .slice a R.length cap) (us := us) (A := R) ((List.sublist_append_left _ _).trans (List.sublist_cons_self _ _)) hI.out.1
                go_wp2_with fail
                refine (one_c w0 _ cv bs g _ _ 2 hb h6 (by omega)).mono ?_
                rintro e w5 ⟨x, rfl, h7⟩
                have hR7 := h7.riiS (v := .slice a R.length cap) (us := us) (A := R) ((List.sublist_append_left _ _).trans (List.sublist_cons_self _ _)) hI.out.1
                have b2 := h7.box 0 (e := 28) rfl 2 rfl
                have hln := hR7.len
                clear h6 hR
                cases x
                · go_wp2_with fail
                  go_meet
                  case rel => exact ⟨lv', co', a, cap, us, R, hI.out.1, h7.mono (by omega)⟩
                · by_cases hp1 : 0 < R.length
                  · by_cases hp2 : R.length < 140
                    · have HO := fun W hr => Lib.hid (l06Own_c (.slice a R.length cap) us R W hr (by omega) (fun r hr => by have := hI.out.2 r hr; omega))
                      have hRd := h7.drew
                      go_wp2_with fail
                      refine regionG (fun w' => w'.cell? ⟨w2.heap.size + 1, 2, none⟩ = some (.slice a R.length cap)) 7 (by kernel_rfl) (cell_dr b2) (fun hHeld => ?_)
                      refine takeP (i := 0) (v := ?_) rfl (by kernel_rfl) (fun _ _ _ h => h) (by rfl) ?_ (by assumption) ?_
                      case refine_2 => (intro w'; go_simp; first | done | with_reducible rfl)
                      try simp only [Act.put, List.setIfInBounds_toArray, List.set_cons_zero, List.set_cons_succ]
                      refine takeH (i := 1) [5] (v := ?_) rfl (by kernel_rfl) (fun _ _ _ h => h) (by rfl) ?_ (by assumption) ?_
                      case refine_2 => (intro w' hSw; (try dsimp only at hSw); go_simp; first | done | with_reducible rfl)
                      try simp only [Act.put, List.setIfInBounds_toArray, List.set_cons_zero, List.set_cons_succ]
                      refine takeP (i := 2) (v := ?_) rfl (by kernel_rfl) (fun _ _ _ h => h) (by rfl) ?_ (by assumption) ?_
                      case refine_2 => (intro w'; go_simp; first | done | with_reducible rfl)
                      try simp only [Act.put, List.setIfInBounds_toArray, List.set_cons_zero, List.set_cons_succ]
                      refine takeH (i := 3) [4, 5] (v := ?_) rfl (by kernel_rfl) (fun _ _ _ h => h) (by rfl) ?_ (by assumption) ?_
                      case refine_2 => (intro w' hSw; (try dsimp only at hSw); go_simp; first | done | with_reducible rfl)
                      try simp only [Act.put, List.setIfInBounds_toArray, List.set_cons_zero, List.set_cons_succ]
                      refine readyG (rs := [4]) (by kernel_rfl) (by simp) ?_
                      refine AllG.cons rfl (fun K hK => ?_) AllG.nil
                      go_simp
                      refine (HO _ (hRd.riiS (v := .slice a R.length cap) (us := us) (A := R) ((List.sublist_append_left _ _).trans (List.sublist_cons_self _ _)) hI.out.1)).out.mono ?_
                      rintro e w6 ⟨v6, us6, rfl, hl6, h8⟩
                      have h9 := hRd.call h8
                      have R6 := h8.rii hl6
                      have Hl6 := Lib.hid hl6
                      have Hone := Lib.hid (fun u (hu : u ∈ us6) => (show u.oneCell' = true by
                        obtain ⟨j, hj, rfl⟩ := List.getElem_of_mem hu
                        rw [← vat_eq hj]
                        exact (R6.row j (by rw [← hl6]; exact hj)).sl.one))
                      obtain ⟨pp, ss, p0, p1, hT⟩ := h9
                      have hrd6 := Lib.hid R6.1
                      have HP := Lib.hid (And.intro p0 p1)
                      have c2 := hT.bcell 1 (e := 28) rfl 2 rfl
                      refine hK.out _ _ c2 (fun hHeld => ?_)
                      clear hK K hRd h8 p0 p1 hl6 R6
                      try simp only [Act.put, List.setIfInBounds_toArray, List.set_cons_zero, List.set_cons_succ]
                      refine readyG (rs := [5]) (by kernel_rfl) (by simp) ?_
                      refine AllG.cons rfl (fun K hK => ?_) AllG.nil
                      refine stepsII hT 2 rfl _ us6 hrd6.out Hone.out (by rw [hI.out.1, Hl6.out]; omega) rfl _ _ rfl (by first | rfl | simp [Act.eval, Act.put]) (by first | rfl | simp [Act.eval, Act.put]) ?_
                      intro v7 w7 hT7
                      obtain ⟨oa, oc, hoe⟩ := (hT7.rd 2 rfl).sl.sh
                      rw [List.length_append, hI.out.1, Hl6.out] at hoe
                      subst hoe
                      simp only [List.cons_append, List.set_cons_succ, List.set_cons_zero] at hT7
                      have c3 := hT7.bcell 1 (e := 28) rfl 2 rfl
                      have f3 := hT7.bfree 1 (e := 28) rfl
                      refine hK.out _ _ c3 (fun hHeld => ?_)
                      clear hK K
                      try simp only [Act.put, List.setIfInBounds_toArray, List.set_cons_zero, List.set_cons_succ]
                      refine takeP (i := 6) (v := ?_) rfl (by kernel_rfl) (fun _ _ _ h => h) (by rfl) ?_ (by assumption) ?_
                      case refine_2 => (intro w'; go_simp; first | done | with_reducible rfl)
                      try simp only [Act.put, List.setIfInBounds_toArray, List.set_cons_zero, List.set_cons_succ]
                      refine readyG (rs := [7]) (by kernel_rfl) (by simp) ?_
                      refine AllG.last rfl (by kernel_rfl) (fun K hK => ?_) AllG.nil
                      go_simp
                      refine hK.out _ _ ?_
                      clear hK K
                      try simp only [Act.put, List.setIfInBounds_toArray, List.set_cons_zero, List.set_cons_succ]
                      refine doneG (by kernel_rfl) ?_ _
                      refine NoPanic.normal ?_
                      have h12 := hT7.bstore 1 (e := 28) rfl 2 (.slice oa (R.length + R.length) oc)
                      simp only [List.set_cons_succ, List.set_cons_zero] at h12
                      have hrl : (R ++ R).length = R.length + R.length := by simp
                      have h13 : Src w0 (w7.setCell ⟨w2.heap.size + 1, 2, none⟩ (.slice oa (R.length + R.length) oc)) cv g (K + 310 + 2 * R.length + 2) (box 28 (w2.heap.size + 1) [.int .i64 lv', .int .i64 co', .slice oa (R ++ R).length oc] :: (own2 (.slice oa (R ++ R).length oc) (us ++ us6) (R ++ R) ++ LL)) := by
                        refine ⟨pp, ss, HP.out.1, HP.out.2, ?_⟩
                        rw [hrl]
                        unfold own2
                        rw [show rowsI (us ++ us6) (R ++ R) = rowsI us R ++ rowsI us6 R by unfold rowsI; rw [List.zipWith_append hI.out.1]]
                        have h14 := h12.sub (L' := box 101 g [cv, .int .i64 pp, .int .u64 ss] :: box 28 (w2.heap.size + 1) [.int .i64 lv', .int .i64 co', .slice oa (R.length + R.length) oc] :: row 52 (.slice oa (R.length + R.length) oc) (us ++ us6) :: ((rowsI us R ++ LL) ++ rowsI us6 R)) (((List.Sublist.append (List.Sublist.refl _) (List.sublist_cons_self _ _)).cons_cons _).cons_cons _ |>.cons_cons _)
                        exact h14.perm (by (try simp only [own2, List.cons_append, List.nil_append, List.append_nil]); classical exact List.perm_iff_count.2 (fun a => by simp only [List.cons_append, List.nil_append, List.append_nil, List.count_append, List.count_cons, List.count_nil] <;> omega))
                      have Hnew := Lib.hid (And.intro (show (us ++ us6).length = (R ++ R).length by simp [hI.out.1, Hl6.out]) (show ∀ r ∈ R ++ R, r.length ≤ 8 from fun r hr => (List.mem_append.1 hr).elim (hI.out.2 r) (hI.out.2 r)))
                      clear h12 hT7 hT c2 c3 f3
                      go_wp2_with fail
                      go_roundg (300 - (R.length + R.length))
                      case measure => have := Hm.out; omega
                      case rel => exact ⟨oa, oc, us ++ us6, R ++ R, by rw [hrl]; omega, by rw [hrl], Hnew.out, h13.mono (by rw [hrl]; omega)⟩
                    · go_wp2_with fail
                      go_meet
                      case rel => exact ⟨lv', co', a, cap, us, R, hI.out.1, h7.mono (by omega)⟩
                  · go_wp2_with fail
                    go_meet
                    case rel => exact ⟨lv', co', a, cap, us, R, hI.out.1, h7.mono (by omega)⟩
            · have f3 := eq_f e3
              go_wp2_with fail
              go_meet
              case rel => exact ⟨lv', co', a, cap, us, R, HI.out.1, h6.mono (by omega)⟩
    case rest =>
      clear h6 hR hf0 b0 b1 b2
      obtain ⟨lv', co', a, cap, us, R, hI, h5⟩ := hcut
      have HI := Lib.hid hI.out
      have b0 := h5.box 0 (e := 28) rfl 0 rfl
      have b1 := h5.box 0 (e := 28) rfl 1 rfl
      have b2 := h5.box 0 (e := 28) rfl 2 rfl
      rw [← HL0.out] at h5
      have h6 := h5.perm (L' := box 28 w.heap.size [.int .i64 0, .int .i64 0, .slice none 0 0] :: (own2 (.slice a R.length cap) us R ++ (box 28 (w2.heap.size + 1) [.int .i64 lv', .int .i64 co', .slice a R.length cap] :: L))) (by (try simp only [own2, List.cons_append, List.nil_append, List.append_nil]); classical exact List.perm_iff_count.2 (fun a => by simp only [List.cons_append, List.nil_append, List.append_nil, List.count_append, List.count_cons, List.count_nil] <;> omega))
      have c0 := h6.box 0 (e := 28) rfl 0 rfl
      have c1 := h6.box 0 (e := 28) rfl 1 rfl
      have c2 := h6.box 0 (e := 28) rfl 2 rfl
      have f0 := h6.bfree 0 (e := 28) rfl
      have h7 := ((h6.bstore 0 (e := 28) rfl 0 (.int .i64 lv')).bstore 0 (e := 28) rfl 1 (.int .i64 co')).bstore 0 (e := 28) rfl 2 (.slice a R.length cap)
      simp only [List.set_cons_zero, List.set_cons_succ] at h7
      have d0 := h7.box 0 (e := 28) rfl 0 rfl
      have d1 := h7.box 0 (e := 28) rfl 1 rfl
      have d2 := h7.box 0 (e := 28) rfl 2 rfl
      have hR7 := h7.riiS (v := .slice a R.length cap) (us := us) (A := R) ((List.sublist_append_left _ _).trans (List.sublist_cons_self _ _)) HI.out
      clear hI h5 h6
      go_wp2_with fail
      refine bodyPost_ret (v := .agg #[.int .i64 lv', .int .i64 co', .slice a R.length cap]) (by simp [results, Try.results51, go_sem, d0, d1, d2]) rfl ?_
      exact ⟨lv', co', _, us, R, rfl, HI.out, (h7.sub (((List.Sublist.refl _).append (List.sublist_cons_self _ _)).trans (List.sublist_cons_self _ _))).mono (by omega)⟩
end Go.Proofs.Ytejncephbafcdaa
end

section
/- Walks: binomial coefficients, subsets by rank, next subsets. -/
namespace Go.Proofs.Ytejncephbafcdaa
set_option linter.unusedSimpArgs false
set_option linter.unusedVariables false
open Go.RowKit
/-- the numbers 0, 1, .. -/
def idn (n : Nat) : List Int := (List.range n).map fun (j : Nat) => (j : Int)
theorem idn_len (n : Nat) : (idn n).length = n := by simp [idn]
set_option maxHeartbeats 1000000 in
set_option maxRecDepth 100000 in
theorem identity_c (n : Nat) (w : World) (hn : n ≤ 1048576) : Calls Try.prog 87 #[.int .i64 n] w (MakesI w (idn n)) := by
  go_enter Try.func87, Try.ntmps87
  go_wp2_with (at_make; refine mkI (St.refl w) rfl _ _ rfl _ _ n rfl rfl (by omega) ?_; intro v1 w1 hS1; have hr := hS1.rdI 0 rfl; have hln := hr.len; have hix := hr.ix; simp only [List.length_replicate] at hln hix; clear hr)
  go_loopw [4, 9] (fun _ i wr => ∃ k : Nat, k ≤ n ∧ i = .int .i64 k ∧ St w.heap.size w wr [row 2 v1 (iv (idn k ++ List.replicate (n - k) 0))]) (fun _ i _ => n - (intOf i).toNat)
  case atStart => exact ⟨0, by omega, rfl, hS1⟩
  case round =>
    obtain ⟨k, hk, rfl, hS⟩ := hrel
    by_cases hlt : k < n
    · go_wp2_with (refine stoI hS 0 rfl k (by simp [idn]; omega) rfl (.tmp 15) (.tmp 14) rfl rfl _ rfl ?_; intro w2 hS2)
      go_roundw
      case rel =>
        refine ⟨k + 1, by omega, by go_num, ?_⟩
        have e : (idn k ++ List.replicate (n - k) 0).set k (k : Int) = idn (k + 1) ++ List.replicate (n - (k + 1)) 0 := by
          rw [List.set_append_right _ _ (by rw [idn_len]; omega), idn_len, show n - k = (n - (k + 1)) + 1 by omega, List.replicate_succ]
          simp [idn, List.range_succ]
        rw [← e]; exact hS2
      case measure => simp [intOf]; omega
    · obtain rfl : k = n := by omega
      go_wp2_with fail
      go_ret
      refine ⟨_, rfl, ?_⟩
      simpa using hS


/-- the next set or nothing, and whether there is one -/
def MakesN (w : World) (o : Option (List Int)) (e : Ending) (w' : World) : Prop := ∃ v, e = .returned (.tuple #[v, .bool o.isSome]) ∧ St w.heap.size w w' [row 2 v (iv (o.getD []))]
def nxtV (n : Int) (xs : List Int) : Option (List Int) := if validSetB xs n = true then nxt n xs else none
def nxA (xs : List Int) (i d : Nat) : List Int := xs.take i ++ ((List.range d).map fun (e : Nat) => nth xs i + 1 + (e : Int)) ++ xs.drop (i + d)
theorem nxA_len {xs : List Int} {i d : Nat} (h : i + d ≤ xs.length) : (nxA xs i d).length = xs.length := by simp [nxA]; omega
theorem nxA_0 (xs : List Int) (i : Nat) : nxA xs i 0 = xs := by simp [nxA]
theorem nxA_set {xs : List Int} {i d : Nat} (h : i + d < xs.length) : (nxA xs i d).set (i + d) (nth xs i + 1 + (d : Int)) = nxA xs i (d + 1) := by
  unfold nxA
  rw [List.set_append_right _ _ (by simp; omega), drop_nth h, show i + (d + 1) = i + d + 1 by omega]
  have e : i + d - (xs.take i ++ (List.range d).map fun (e : Nat) => nth xs i + 1 + (e : Int)).length = 0 := by simp; omega
  rw [e, List.set_cons_zero, List.range_succ, List.map_append]
  simp
theorem nxt_yes {n : Int} {xs : List Int} {i : Nat} (h : nth xs i ≠ n - xs.length + i) (hi : i < xs.length) : nxtI n xs (i + 1) = some (nxA xs i (xs.length - i)) := by
  have h' : ¬ pn xs i = n - xs.length + i := h
  rw [nxtI, if_neg h']
  unfold nxA
  rw [show i + (xs.length - i) = xs.length by omega, List.drop_length, List.append_nil]
  rfl
theorem nxt_no {n : Int} {xs : List Int} {i : Nat} (h : nth xs i = n - xs.length + i) : nxtI n xs (i + 1) = nxtI n xs i := by
  have h' : pn xs i = n - xs.length + i := h
  rw [nxtI, if_pos h']
theorem incB_len : ∀ {xs : List Int} {last n : Int}, incB last n xs = true → last < n → (xs.length : Int) ≤ n - 1 - last
  | [], last, n, _, h => by simp; omega
  | x :: r, last, n, h, h1 => by
    unfold incB at h
    split at h
    · cases h
    · have := incB_len h (by omega)
      simp only [List.length_cons]; push_cast; omega
theorem validSetB_t {xs : List Int} {n : Int} (h : validSetB xs n = true) : 0 ≤ n ∧ n ≤ 32 ∧ (xs.length : Int) ≤ n ∧ ∀ x ∈ xs, 0 ≤ x ∧ x < n := by
  simp only [validSetB, Bool.and_eq_true, inB, decide_eq_true_eq] at h
  obtain ⟨h1, h2, h3⟩ := h
  refine ⟨h2, h3, ?_, fun x hx => ?_⟩
  · by_cases hn : n = 0
    · subst hn
      cases xs with
      | nil => simp
      | cons x r => unfold incB at h1; split at h1; cases h1; omega
    · have := incB_len h1 (by omega); omega
  · have := incB_gt h1 x hx; omega

set_option maxHeartbeats 2000000 in
set_option maxRecDepth 100000 in
theorem NextSubset_c (v : Value) (xs : List Int) (n : Int) (w : World) (hv : RdI w v xs) : Calls Try.prog 89 #[.int .i64 n, v] w (MakesN w (nxtV n xs)) := by
  have HV := fun w hv => Lib.hid (ValidSet_c v xs n w hv)
  cases hb : validSetB xs n
  · have HN := Lib.hid (show nxtV n xs = none by rw [nxtV, if_neg (by rw [hb]; simp)])
    go_enter Try.func89, Try.ntmps89
    go_wp2_with fail
    refine (HV _ hv).out.mono ?_
    rintro e w1 ⟨rfl, rfl⟩
    go_wp2_with fail
    go_ret2
    rw [HN.out]
    exact ⟨_, rfl, (St.refl _).newnil _⟩
  · obtain ⟨n0, n1, hl, hx⟩ := validSetB_t hb
    have HN := Lib.hid (show nxtV n xs = nxtI n xs xs.length by rw [nxtV, if_pos hb]; rfl)
    have Hx := Lib.hid hx
    have Hb := Lib.hid hb
    clear hx hb
    have hix := hv.ix
    go_enter Try.func89, Try.ntmps89
    go_wp2_with fail
    refine (HV _ hv).out.mono ?_
    rw [Hb.out]
    rintro e w1 ⟨rfl, rfl⟩
    go_wp2_with (go_at_call 46; refine (size_c _ _ _ hv).mono ?_; rintro e w2 ⟨rfl, rfl⟩)
    go_loopw [7, 8, 9] (fun i _ _ wr => ∃ m : Nat, m ≤ xs.length ∧ i = .int .i64 ((m : Int) - 1) ∧ Hid (nxtV n xs = nxtI n xs m) ∧ wr = w) (fun i _ _ _ => (intOf i + 1).toNat)
    case atStart => exact ⟨xs.length, by omega, rfl, HN, rfl⟩
    case round =>
      obtain ⟨m, hm, rfl, hI, rfl⟩ := hrel
      cases m with
      | zero =>
        go_wp2_with fail
        go_ret2
        rw [hI.out]
        exact ⟨_, rfl, (St.refl _).newnil _⟩
      | succ i =>
        have hxi := Hx.out _ (nth_mem (show i < xs.length by omega))
        obtain ⟨x0, x1⟩ := hxi
        have e1 : Hid (((i + 1 : Nat) : Int) - 1 = i) := by unfold Hid; omega
        rw [e1.out]
        have hc := hv.cell i (by omega)
        have hx1 := hv.ixe i i rfl (by omega)
        by_cases he : nth xs i = n - xs.length + i
        · have f1 := eq_t he
          have HE := Lib.hid (nxt_no he); clear he
          go_wp2_with fail
          go_roundw
          case rel => exact ⟨i, by omega, rfl, by rw [Hid, hI.out, HE.out], by first | rfl | trivial⟩
          case measure => simp [intOf]
        · have f1 := eq_f he
          have HE := Lib.hid (nxt_yes he (by omega)); clear he
          have hcl := fun w hv => Lib.hid (Clone_c v xs w hv (by omega))
          go_wp2_with fail
          refine (hcl _ hv).out.mono ?_
          rintro e w2 ⟨v2, rfl, hS2⟩
          go_wp2_with fail
          go_loopw [9] (fun q wx => ∃ j : Nat, i ≤ j ∧ j ≤ xs.length ∧ q = .int .i64 (j : Int) ∧ St wr.heap.size wr wx [row 2 v2 (iv (nxA xs i (j - i)))]) (fun q _ => (xs.length - intOf q).toNat)
          case atStart => exact ⟨i, by omega, by omega, rfl, by rw [Nat.sub_self, nxA_0]; exact hS2⟩
          case round =>
            obtain ⟨j, hj1, hj2, rfl, hS⟩ := hrel
            by_cases hlt : j < xs.length
            · have hx3 := (hS.rdI 0 rfl).ixe (j : Int) j rfl (by rw [nxA_len (by omega)]; omega)
              have hc3 := (hS.oldI hv).cell i (by omega)
              have HT := Lib.hid (nxA_set (xs := xs) (i := i) (d := j - i) (by omega))
              have HL := Lib.hid (show j < (nxA xs i (j - i)).length by rw [nxA_len (by omega)]; omega)
              go_wp2_with (refine stoI hS 0 rfl j HL.out rfl (.tmp 51) (.tmp 50) rfl rfl _ rfl ?_; intro w3 hS3)
              go_roundw
              case rel =>
                refine ⟨j + 1, by omega, by omega, by go_num, ?_⟩
                have h := HT.out
                rw [show i + (j - i) = j by omega, show j - i + 1 = j + 1 - i by omega] at h
                rw [← h]
                have e : nth xs i + 1 + ((j - i : Nat) : Int) = nth xs i + 1 + (j : Int) - i := by omega
                rw [e]
                exact hS3
              case measure => simp [intOf]; omega
            · go_wp2_with fail
              go_ret2
              rw [hI.out, HE.out]
              refine ⟨_, rfl, ?_⟩
              rw [show xs.length - i = j - i by omega]
              exact hS
end Go.Proofs.Ytejncephbafcdaa
end

section
/- Walks: DeriveArray of both sides. -/
namespace Go.Proofs.Ytejncephbafcdaa
set_option linter.unusedSimpArgs false
set_option linter.unusedVariables false
open Go.RowKit
theorem okA_t {lv co : Int} {xss : List (List Int)} (h : okA lv co xss = true) : shapeB lv co = true ∧ xss.length ≤ 256 ∧ ∀ xs ∈ xss, (xs.length : Int) = co ∧ ∀ x ∈ xs, 0 ≤ x ∧ x ≤ lv - 1 := by
  simp only [okA, Bool.and_eq_true, decide_eq_true_eq, List.all_eq_true] at h
  refine ⟨h.1.1, h.1.2, fun xs hx => ?_⟩
  have := h.2 xs hx
  simp only [rowOk, Bool.and_eq_true, decide_eq_true_eq, anyP, Bool.not_eq_true', List.any_eq_false] at this
  refine ⟨this.1, fun x hx => ?_⟩
  have := this.2 x hx
  simpa [inB] using this

end Go.Proofs.Ytejncephbafcdaa
end

section
/- Walks: how often each list of values occurs in some columns. -/
namespace Go.Proofs.Ytejncephbafcdaa
set_option linter.unusedSimpArgs false
set_option linter.unusedVariables false
open Go.RowKit
attribute [local go_sem ↓] Go.wp_at_zero Go.wp_at_succ

theorem numC_snoc (lv : Int) {cols row : List Int} {j : Nat} (hj : j < cols.length) : numC lv (cols.take (j + 1)) row = numC lv (cols.take j) row * lv + nth row (nth cols j).toNat := by
  rw [take_nth hj]; simp [numC]; rfl
theorem pow16 {lv : Int} (h1 : 2 ≤ lv) (h2 : lv ≤ 16) : ∀ m : Nat, 1 ≤ lv ^ m ∧ lv ^ m ≤ 16 ^ m
  | 0 => by simp
  | m + 1 => by
    have := pow16 h1 h2 m
    rw [Int.pow_succ, Int.pow_succ]
    have a := Int.mul_le_mul this.2 h2 (by omega) (show (0 : Int) ≤ 16 ^ m by have := this; omega)
    have b := Int.mul_le_mul this.1 (show (1 : Int) ≤ lv by omega) (by omega) (by omega)
    omega
theorem pow16m {lv : Int} (h1 : 2 ≤ lv) (h2 : lv ≤ 16) {m : Nat} (h : m ≤ 8) : lv ^ m ≤ 4294967296 := by
  have h3 := (pow16 h1 h2 m).2
  have h4 : (16 : Int) ^ m ≤ 16 ^ 8 := by
    have : m = 0 ∨ m = 1 ∨ m = 2 ∨ m = 3 ∨ m = 4 ∨ m = 5 ∨ m = 6 ∨ m = 7 ∨ m = 8 := by omega
    rcases this with h | h | h | h | h | h | h | h | h <;> subst h <;> decide
  have : (16 : Int) ^ 8 = 4294967296 := by decide
  omega

/-- what the walks want of a row at column j -/
theorem numC_step {lv : Int} (l1 : 2 ≤ lv) (l2 : lv ≤ 16) {cols row : List Int} (hcl : cols.length ≤ 8) (hc : ∀ c ∈ cols, 0 ≤ c ∧ c < row.length) (he : ∀ x ∈ row, 0 ≤ x ∧ x ≤ lv - 1) {j : Nat} (hj : j < cols.length) :
    0 ≤ numC lv (cols.take j) row ∧ 0 ≤ numC lv (cols.take j) row * lv ∧ numC lv (cols.take j) row * lv ≤ 4294967296 ∧ 0 ≤ nth row (nth cols j).toNat ∧ nth row (nth cols j).toNat ≤ 15 := by
  have h0 : ∀ c ∈ cols, 0 ≤ pn row c.toNat ∧ pn row c.toNat ≤ lv - 1 := fun c hm => by
    have h1 := hc c hm
    have h2 : c.toNat < row.length := by omega
    exact he _ (show pn row c.toNat ∈ row from nth_mem h2)
  have h1 := numC_bd l1 (row := row) (cols := cols.take j) (fun c hm => h0 c (List.mem_of_mem_take hm))
  have h2 := numC_bd l1 (row := row) (cols := cols.take (j + 1)) (fun c hm => h0 c (List.mem_of_mem_take hm))
  have h3 := h0 _ (nth_mem hj)
  rw [numC_snoc lv hj] at h2
  have h4 := pow16m l1 l2 (m := (cols.take (j + 1)).length) (by rw [List.length_take]; omega)
  have h5 := Int.mul_nonneg h1.1 (show 0 ≤ lv by omega)
  have h6 : nth row (nth cols j).toNat = pn row (nth cols j).toNat := rfl
  omega
theorem numC_lt {lv : Int} (l1 : 2 ≤ lv) {cols row : List Int} (hc : ∀ c ∈ cols, 0 ≤ c ∧ c < row.length) (he : ∀ x ∈ row, 0 ≤ x ∧ x ≤ lv - 1) : 0 ≤ numC lv cols row ∧ numC lv cols row < lv ^ cols.length :=
  numC_bd l1 (fun c hm => he _ (show pn row c.toNat ∈ row from nth_mem (by have := hc c hm; omega)))

set_option maxHeartbeats 4000000 in
set_option maxRecDepth 100000 in
theorem evenly_c (lv co : Int) (v : Value) (us : List Value) (rows : List (List Int)) (vc : Value) (cols : List Int) (K : Nat) (w : World) (hv : RII w v us rows) (hc : RdI w vc cols)
    (l1 : 2 ≤ lv) (l2 : lv ≤ 16) (hcl : cols.length ≤ 8) (hrow : ∀ row ∈ rows, (row.length : Int) = co ∧ ∀ x ∈ row, 0 ≤ x ∧ x ≤ lv - 1) (hcol : ∀ c ∈ cols, 0 ≤ c ∧ c < co)
    (hK : pu lv 256 cols.length 1 = K) (hK2 : K ≤ 256) (hK3 : (K : Int) = lv ^ cols.length) (hlen : rows.length ≤ 256) :
    Calls Try.prog 88 #[av lv co v, vc] w (GivesI w (evB lv cols rows K)) := by
  have hS0 := (St.refl w).newboxF 28 #[.int .i64 lv, .int .i64 co, v]
  have Hrow := Lib.hid hrow
  have Hcol := Lib.hid hcol
  have HK3 := Lib.hid hK3
  have hpow : ∀ W, Hid (Calls Try.prog 86 #[.int .i64 lv, .int .i64 cols.length, .int .i64 256] W fun r w' => r = .returned (.int .i64 K) ∧ W = w') := fun W => by
    have := powerUpTo_c lv cols.length 256 W (by omega) (by omega) (by omega) (by omega) (by omega) (by omega)
    rw [Int.toNat_natCast, hK] at this
    exact this
  have hsz := fun W (h : RdI W vc cols) => Lib.hid (size_c vc cols W h)
  have hKp : 0 < K := by have := pow16 l1 l2 cols.length; omega
  clear hrow hcol hK hK3
  have hmk := run_mk K (by omega)
  have a0 := hS0.bcell 0 rfl 0 rfl
  have hlv := hv.len
  have hiv := hv.ix
  have hlc := hc.len
  have hic := hc.ix
  unfold av
  go_enter Try.func88, Try.ntmps88
  go_wp2_with fail
  go_region_held3 (fun w' => w'.cell? ⟨w.heap.size, 0, none⟩ = some (.int .i64 lv)) (go_keep)
    (first
    | (go_at_call 46; refine (hsz _ ((hS0.oldI hc).keep (St.refl _).drew.below)).out.mono ?_; rintro e w3 ⟨rfl, rfl⟩)
    | (go_at_call 86; refine (hpow _).out.mono ?_; rintro e w3 ⟨rfl, rfl⟩))
  clear hmk hsz hpow
  have hS1 := (hS0.made K (by omega)).drew
  simp only [List.cons_append, List.nil_append, World.size_alloc] at hS1
  rw [← cts_nil lv cols K] at hS1
  clear hS0 a0
  go_wp2_with fail
  generalize Value.slice (some ⟨w.heap.size + 1, 0, none⟩) K K = cv at hS1 ⊢
  go_loopw [7, 8, 10, 22, 28] (fun _ _ _ i _ wr => ∃ k : Nat, k ≤ rows.length ∧ i = .int .i64 k ∧ St w.heap.size w wr [box 28 w.heap.size [.int .i64 lv, .int .i64 co, v], row 2 cv (iv (cts lv cols (rows.take k) K))]) (fun _ _ _ i _ _ => rows.length - (intOf i).toNat)
  case atStart => exact ⟨0, by omega, rfl, hS1⟩
  case round =>
    obtain ⟨k, hk, rfl, hS⟩ := hrel
    by_cases hlt : k < rows.length
    · have hck := (hS.oldII hv).cell k hlt
      have hr0 := Lib.hid (hv.row k hlt)
      have Hr := Lib.hid (Hrow.out _ (xat_mem hlt))
      have Hc := Lib.hid (show ∀ c ∈ cols, 0 ≤ c ∧ c < (xat rows k).length from fun c hm => by have := Hcol.out c hm; have := Hr.out.1; omega)
      go_wp2_with fail
      go_loopw [8, 10, 28] (fun n _ j wx => ∃ q : Nat, q ≤ cols.length ∧ j = .int .i64 q ∧ n = .int .i64 (numC lv (cols.take q) (xat rows k)) ∧ St w.heap.size w wx [box 28 w.heap.size [.int .i64 lv, .int .i64 co, v], row 2 cv (iv (cts lv cols (rows.take k) K))]) (fun _ _ j _ => cols.length - (intOf j).toNat)
      case atStart => exact ⟨0, by omega, rfl, rfl, hS⟩
      case round =>
        obtain ⟨q, hq, rfl, rfl, hS⟩ := hrel
        by_cases hlq : q < cols.length
        · have hcq := (hS.oldI hc).cell q hlq
          obtain ⟨m0, m1, m2, m3, m4⟩ := numC_step l1 l2 hcl Hc.out Hr.out.2 hlq
          have hcc := Hc.out _ (nth_mem hlq)
          obtain ⟨p0, p1⟩ := hcc
          have hx1 := hr0.out.ixe (nth cols q) (nth cols q).toNat (by omega) (by omega)
          have hq1 := fun s : SS w.heap.size w [box 28 w.heap.size [.int .i64 lv, .int .i64 co, v], row 2 cv (iv (cts lv cols (rows.take k) K))] => s.st.bcell 0 rfl 0 rfl
          have hq2 := fun s : SS w.heap.size w [box 28 w.heap.size [.int .i64 lv, .int .i64 co, v], row 2 cv (iv (cts lv cols (rows.take k) K))] => (s.st.oldI hr0.out).cell (nth cols q).toNat (by omega)
          have hst := Lib.hid (numC_snoc lv (row := xat rows k) hlq)
          go_wp2_with fail
          have hne : Nonempty (SS _ _ _) := ⟨⟨_, hS⟩⟩
          refine wp_region_st (by kernel_rfl) (by kernel_rfl) hS ?_
          repeat (go_big_quiet_step (fail))
          refine wpQuiet_nil ?_
          rintro _ ⟨s2, rfl⟩
          have hS2 := s2.st
          generalize s2.w = w2 at hS2 ⊢
          go_wp2_with fail
          go_roundw
          case rel => exact ⟨q + 1, by omega, by go_num, by rw [hst.out], hS2⟩
          case measure => simp [intOf]; omega
        · obtain rfl : q = cols.length := by omega
          rw [List.take_length]
          have hn := numC_lt l1 Hc.out Hr.out.2
          rw [← HK3.out] at hn
          obtain ⟨p, hp⟩ := Int.eq_ofNat_of_zero_le hn.1
          have Hp := Lib.hid hp
          rw [hp] at hn ⊢
          have hpK : p < K := by omega
          clear hn hp
          have hx1 := (hS.rdI 1 rfl).ixe (p : Int) p rfl (by rw [cts_len]; exact hpK)
          have hcp := (hS.rdI 1 rfl).cell p (by rw [cts_len]; exact hpK)
          have hb := cntR_bd lv cols (rows.take k) p
          have e0 : nth (cts lv cols (rows.take k) K) p = cntR lv cols (rows.take k) p := pn_cts hpK
          rw [← e0, List.length_take] at hb
          obtain ⟨b0, b1⟩ := hb
          have hset := Lib.hid (cts_snoc (rows := rows.take k) Hp.out hpK)
          have HL := Lib.hid (show p < (cts lv cols (rows.take k) K).length by rw [cts_len]; exact hpK)
          have b2 : nth (cts lv cols (rows.take k) K) p ≤ 256 := by omega
          clear e0 b1
          go_wp2_with (refine stoI hS 1 rfl p HL.out rfl (.tmp 47) (.tmp 46) rfl rfl _ rfl ?_; intro w3 hS3)
          go_roundw
          case rel => exact ⟨k + 1, by omega, by go_num, by rw [take_xat hlt, hset.out]; exact hS3⟩
          case measure => simp [intOf]; omega
    · obtain rfl : k = rows.length := by omega
      rw [List.take_length] at hS
      have hln := (hS.rdI 1 rfl).len
      rw [cts_len] at hln
      have hr3 := hS.rdI 1 rfl
      have c0 := hr3.cell 0 (by rw [cts_len]; exact hKp)
      have x0 := hr3.ixe 0 0 rfl (by rw [cts_len]; exact hKp)
      have p0 : nth (cts lv cols rows K) 0 = cntR lv cols rows 0 := pn_cts hKp
      rw [p0] at c0
      have hix3 := hr3.ix
      rw [cts_len] at hix3
      clear p0
      go_wp2_with fail
      go_loopw [12, 51] (fun _ i wx => ∃ j : Nat, j ≤ K ∧ i = .int .i64 j ∧ Hid (∀ m, m < j → cntR lv cols rows m = cntR lv cols rows 0) ∧ wx = wr) (fun _ i _ => K - (intOf i).toNat)
      case atStart => exact ⟨0, by omega, rfl, fun m hm => by omega, rfl⟩
      case round =>
        obtain ⟨j, hj, rfl, hI, rfl⟩ := hrel
        by_cases hlj : j < K
        · have cj := hr3.cell j (by rw [cts_len]; exact hlj)
          rw [show nth (cts lv cols rows K) j = cntR lv cols rows j from pn_cts hlj] at cj
          by_cases he : cntR lv cols rows j = cntR lv cols rows 0
          · have f1 := ne_f he
            have HE := Lib.hid he; clear he
            go_wp2_with fail
            go_roundw
            case rel => exact ⟨j + 1, by omega, by go_num, fun m hm => by
              by_cases e : m = j
              · subst e; exact HE.out
              · exact hI.out m (by omega), by first | rfl | trivial⟩
            case measure => simp [intOf]; omega
          · have f1 := ne_t he
            have HE := Lib.hid he; clear he
            go_wp2_with fail
            go_ret
            exact ⟨ret_i64 (by rw [evB, if_neg]; intro h; exact HE.out (h j hlj)), hS.out⟩
        · obtain rfl : j = K := by omega
          go_wp2_with fail
          go_ret
          exact ⟨ret_i64 (by rw [evB, if_pos hI.out]), hS.out⟩
end Go.Proofs.Ytejncephbafcdaa
end

section
/- Walks: the index of a strength. -/
namespace Go.Proofs.Ytejncephbafcdaa
set_option linter.unusedSimpArgs false
set_option linter.unusedVariables false
open Go.RowKit
attribute [local go_sem ↓] Go.wp_at_zero Go.wp_at_succ

theorem sizeII_c (v : Value) (us : List Value) (xss : List (List Int)) (w : World) (hv : RII w v us xss) :
    Calls Try.prog 41 #[v] w fun e w' => e = .returned (.int .i64 xss.length) ∧ w = w' := by
  have hln := hv.len
  go_enter Try.func41, Try.ntmps41
  go_wp2_with fail
  go_ret
  exact ⟨rfl, rfl⟩

/-- the index of the strength t, K being the power of the levels -/
noncomputable def strN (lv co : Int) (rows : List (List Int)) (t : Nat) : Int := strG lv co rows t (pu lv 256 t 1)
def subL (co t : Int) (r : Nat) : List Int := if (r : Int) < choose co t then subsAt co t r else []
theorem subL_lt {co t : Int} {r : Nat} (h : (r : Int) < choose co t) : subL co t r = subsAt co t r := by rw [subL, if_pos h]
theorem subL_ge {co t : Int} {r : Nat} (h : ¬ (r : Int) < choose co t) : subL co t r = [] := by rw [subL, if_neg h]

/-- all that holds of the sets of columns -/
theorem subs_ok {co : Nat} {t : Nat} (h : co ≤ 8) (t1 : 1 ≤ t) (t2 : t ≤ co) {r : Nat} (hr : (r : Int) < choose co t) :
    (subsAt co t r).length = t ∧ (∀ c ∈ subsAt co t r, 0 ≤ c ∧ c < co) ∧ nxtV co (subsAt co t r) = if ((r + 1 : Nat) : Int) < choose co t then some (subL co t (r + 1)) else none := by
  have h1 := (subs_small h t1 t2).2 r hr
  have hv : validSetB (subsAt co t r) co = true := by simp only [validSetB, h1.1, Bool.true_and, inB, Bool.and_eq_true, decide_eq_true_eq]; omega
  refine ⟨h1.2.1, (validSetB_t hv).2.2.2, ?_⟩
  rw [nxtV, if_pos hv, h1.2.2]
  push_cast
  by_cases h2 : (r : Int) + 1 < choose co t
  · rw [if_pos h2, if_pos h2, subL, if_pos (by push_cast; exact h2)]; push_cast; rfl
  · rw [if_neg h2, if_neg h2]

theorem strG_small {lv co : Int} {rows : List (List Int)} {t : Nat} (h : (rows.length : Int) < pu lv 256 t 1) : strN lv co rows t = 0 := by rw [strN, strG, if_pos h]
theorem strG_no {lv co : Int} {rows : List (List Int)} {t : Nat} {r : Nat} (hr : (r : Int) < choose co t) (h : evB lv (subsAt co t r) rows (pu lv 256 t 1).toNat = 0) : strN lv co rows t = 0 := by
  rw [strN, strG]
  split
  · rfl
  · rw [if_neg]; intro ha; exact ha r hr h
theorem strG_yes {lv co : Int} {rows : List (List Int)} {t : Nat} (h : ¬ (rows.length : Int) < pu lv 256 t 1) (ha : ∀ r : Nat, (r : Int) < choose co t → evB lv (subsAt co t r) rows (pu lv 256 t 1).toNat ≠ 0) : strN lv co rows t = rows.length / pu lv 256 t 1 := by
  rw [strN, strG, if_neg h, if_pos]; exact ha

set_option maxHeartbeats 4000000 in
set_option maxRecDepth 100000 in
theorem strengthIndex_c (lv : Int) (co : Nat) (v : Value) (us : List Value) (rows : List (List Int)) (t : Nat) (w : World) (hv : RII w v us rows)
    (l1 : 2 ≤ lv) (l2 : lv ≤ 16) (hco : co ≤ 8) (t1 : 1 ≤ t) (t2 : t ≤ co) (hrow : ∀ row ∈ rows, (row.length : Int) = co ∧ ∀ x ∈ row, 0 ≤ x ∧ x ≤ lv - 1) (hlen : rows.length ≤ 256) :
    Calls Try.prog 44 #[av lv co v, .int .i64 t] w (GivesI w (strN lv co rows t)) := by
  have hS0 := (St.refl w).newboxF 28 #[.int .i64 lv, .int .i64 co, v]
  have hpp := pu_pos (base := lv) (lim := 256) (by omega) t (p := 1) (by omega)
  obtain ⟨K, hK⟩ := Int.eq_ofNat_of_zero_le (show 0 ≤ pu lv 256 t 1 by omega)
  have hpow : ∀ W, Hid (Calls Try.prog 86 #[.int .i64 lv, .int .i64 t, .int .i64 256] W fun r w' => r = .returned (.int .i64 K) ∧ W = w') := fun W => by
    have := powerUpTo_c lv t 256 W (by omega) (by omega) (by omega) (by omega) (by omega) (by omega)
    rw [Int.toNat_natCast, hK] at this
    exact this
  have hsz := fun W (h : RII W v us rows) => Lib.hid (sizeII_c v us rows W h)
  have hKp : 0 < K := by omega
  have Hrow := Lib.hid hrow
  have HK := Lib.hid hK
  clear hrow hpp hK
  have a0 := hS0.bcell 0 rfl 0 rfl
  have a1 := hS0.bcell 0 rfl 1 rfl
  have a2 := hS0.bcell 0 rfl 2 rfl
  by_cases hbig : (rows.length : Int) < K
  · have HB := Lib.hid (strG_small (co := co) (show (rows.length : Int) < pu lv 256 t 1 by rw [HK.out]; exact hbig))
    unfold av
    go_enter Try.func44, Try.ntmps44
    go_wp2_with fail
    go_region_held3 (fun w' => w'.cell? ⟨w.heap.size, 0, none⟩ = some (.int .i64 lv) ∧ w'.cell? ⟨w.heap.size, 2, none⟩ = some v) (go_keep)
      (first
      | (go_at_call 41; refine (hsz _ ((hS0.oldII hv).keep (St.refl _).drew.below)).out.mono ?_; rintro e w3 ⟨rfl, rfl⟩)
      | (go_at_call 86; refine (hpow _).out.mono ?_; rintro e w3 ⟨rfl, rfl⟩))
    go_wp2_with fail
    go_ret
    exact ⟨ret_i64 HB.out.symm, hS0.drew.out⟩
  · have hK256 : K ≤ 256 := by omega
    have HP := Lib.hid (show (K : Int) = lv ^ t by
      have := pu_pow (base := lv) (lim := 256) (by omega) t 1 (by omega) (by rw [HK.out]; omega)
      rw [HK.out, Int.one_mul] at this; exact this)
    have HC := Lib.hid (choose_bd co t)
    have HCp := Lib.hid (choose_pos (n := co) (k := t) (by omega) (by omega) (by omega) (by omega))
    have Hsub : Hid (∀ r : Nat, (r : Int) < choose co t → (subsAt co t r).length = t ∧ (∀ c ∈ subsAt co t r, 0 ≤ c ∧ c < co) ∧ nxtV co (subsAt co t r) = if ((r + 1 : Nat) : Int) < choose co t then some (subL co t (r + 1)) else none) := fun r hr => subs_ok hco t1 t2 hr
    have Hid0 := Lib.hid (show idn t = subL co t 0 by rw [subL_lt (by have := HCp.out; push_cast; omega)]; exact (subs_small hco t1 t2).1.symm)
    have Hev : Hid (∀ (r : Nat) (W : World) (vc : Value), (r : Int) < choose co t → RII W v us rows → RdI W vc (subL co t r) → Calls Try.prog 88 #[av lv co v, vc] W (GivesI W (evB lv (subsAt co t r) rows K))) := by
      intro r W vc hr hv hc
      rw [subL_lt hr] at hc
      obtain ⟨s1, s2, _⟩ := Hsub.out r hr
      exact evenly_c lv co v us rows vc _ K W hv hc l1 l2 (by omega) Hrow.out s2 (by rw [s1, HK.out]) hK256 (by rw [s1]; exact HP.out) hlen
    unfold av at Hev ⊢
    go_enter Try.func44, Try.ntmps44
    go_wp2_with fail
    go_region_held3 (fun w' => w'.cell? ⟨w.heap.size, 0, none⟩ = some (.int .i64 lv) ∧ w'.cell? ⟨w.heap.size, 2, none⟩ = some v) (go_keep)
      (first
      | (go_at_call 41; refine (hsz _ ((hS0.oldII hv).keep (St.refl _).drew.below)).out.mono ?_; rintro e w3 ⟨rfl, rfl⟩)
      | (go_at_call 86; refine (hpow _).out.mono ?_; rintro e w3 ⟨rfl, rfl⟩))
    have hS1 := hS0.drew
    clear hsz hpow hS0 a0 a1 a2
    go_wp2_with fail
    refine (identity_c t _ (by omega)).mono ?_
    rw [Hid0.out]
    rintro e w1 ⟨vc, rfl, h1⟩
    have hS2 := hS1.call h1
    have hr1 := h1.rdI 0 rfl
    clear hS1 h1
    have a0 := hS2.bcell 0 rfl 0 rfl
    have a1 := hS2.bcell 0 rfl 1 rfl
    have a2 := hS2.bcell 0 rfl 2 rfl
    have hC0 := Lib.hid (show ((0 : Nat) : Int) < choose co t by have := HCp.out; push_cast; omega)
    go_wp2_with fail
    refine (Hev.out 0 _ _ hC0.out (hS2.oldII hv) hr1).mono ?_
    rintro e w2 ⟨rfl, h2⟩
    have hS3 := hS2.call0 h2
    simp only [List.cons_append, List.nil_append] at hS3
    clear hS2 h2 a0 a1 a2 hr1
    have hdt : Value.bool true = Value.bool (decide (((0 : Nat) : Int) < choose co t)) := by rw [decide_eq_true hC0.out]
    have Hdt := Lib.hid hdt; clear hdt
    go_wp2_with fail
    go_loopg [5, 6] (choose co t).toNat (fun n c m wr => ∃ r : Nat, (r : Int) ≤ choose co t ∧ (choose co t - r).toNat = n ∧ m = .bool (decide ((r : Int) < choose co t)) ∧ Hid (∀ r' : Nat, r' < r → evB lv (subsAt co t r') rows K ≠ 0) ∧ St w.heap.size w wr [box 28 w.heap.size [.int .i64 lv, .int .i64 co, v], row 2 c (iv (subL co t r))])
    case atStart => exact ⟨0, by have := HCp.out; push_cast; omega, by simp, Hdt.out, fun r' h => by omega, hS3⟩
    case round =>
      obtain ⟨r, hr, hn, rfl, hI, hS⟩ := hrel
      have Hn := Lib.hid hn
      clear hn
      by_cases hlt : (r : Int) < choose co t
      · have hd : decide ((r : Int) < choose co t) = true := decide_eq_true hlt
        have Hlt := Lib.hid hlt
        have Hr := Lib.hid hr
        rw [hd]
        clear hd hlt hr
        have a0 := hS.bcell 0 rfl 0 rfl
        have a1 := hS.bcell 0 rfl 1 rfl
        have a2 := hS.bcell 0 rfl 2 rfl
        go_wp2_with fail
        refine (Hev.out r _ _ Hlt.out (hS.oldII hv) (hS.rdI 1 rfl)).mono ?_
        rintro e w3 ⟨rfl, h3⟩
        have hS4 := hS.call0 h3
        clear hS h3 a0 a1 a2
        by_cases he : evB lv (subsAt co t r) rows K = 0
        · have f1 := eq_t he
          have HE := Lib.hid he; clear he
          go_wp2_with fail
          go_ret
          refine ⟨ret_i64 ?_, hS4.out⟩
          exact (strG_no Hlt.out (by rw [HK.out]; exact HE.out)).symm
        · have f1 := eq_f he
          have HE := Lib.hid he; clear he
          have a1 := hS4.bcell 0 rfl 1 rfl
          have hrc := hS4.rdI 1 rfl
          have hnx := fun W h => Lib.hid (NextSubset_c u5 (subL co t r) co W h)
          have Hnx := Lib.hid (Hsub.out r Hlt.out).2.2
          go_wp2_with fail
          refine (hnx _ hrc).out.mono ?_
          rw [show nxtV co (subL co t r) = nxtV co (subsAt co t r) by rw [subL_lt Hlt.out], Hnx.out]
          rintro e w4 ⟨v4, rfl, h4⟩
          have hS5 := (hS4.call h4).sub (L' := [box 28 w.heap.size [.int .i64 lv, .int .i64 co, v], row 2 v4 (iv ((if ((r + 1 : Nat) : Int) < choose co t then some (subL co t (r + 1)) else none).getD []))]) (((List.Sublist.refl _).cons _).cons_cons _)
          have e1 : Hid (((if ((r + 1 : Nat) : Int) < choose co t then some (subL co t (r + 1)) else none).getD []) = subL co t (r + 1)) := by
            unfold Hid
            by_cases h : ((r + 1 : Nat) : Int) < choose co t
            · rw [if_pos h]; rfl
            · rw [if_neg h, subL_ge h]; rfl
          have e2 : Hid ((if ((r + 1 : Nat) : Int) < choose co t then some (subL co t (r + 1)) else none).isSome = decide (((r + 1 : Nat) : Int) < choose co t)) := by
            unfold Hid
            by_cases h : ((r + 1 : Nat) : Int) < choose co t
            · rw [if_pos h, decide_eq_true h]; rfl
            · rw [if_neg h, decide_eq_false h]; rfl
          rw [e1.out] at hS5
          rw [e2.out]
          clear hS4 h4 hrc
          go_wp2_with fail
          go_roundg (choose co t - ((r + 1 : Nat) : Int)).toNat
          case measure => have := Hn.out; have := Hlt.out; omega
          case rel =>
            refine ⟨r + 1, by have := Hlt.out; push_cast; omega, rfl, rfl, ?_, hS5⟩
            intro r' hr'
            by_cases e : r' = r
            · subst e; exact HE.out
            · exact hI.out r' (by omega)
      · have hd : decide ((r : Int) < choose co t) = false := decide_eq_false hlt
        have Hlt := Lib.hid hlt
        rw [hd]
        clear hd hlt
        go_wp2_with fail
        go_ret
        have hall : ∀ r' : Nat, (r' : Int) < choose co t → evB lv (subsAt co t r') rows K ≠ 0 := fun r' h' => hI.out r' (by have := Hlt.out; omega)
        refine ⟨ret_i64 ?_, hS.out⟩
        rw [strG_yes (by rw [HK.out]; omega) (by rw [HK.out]; exact hall), HK.out]
        have s0 := Hsub.out 0 hC0.out
        exact (evB_ne hKp (fun row hrw => by
          have h1 := Hrow.out row hrw
          have := numC_lt l1 (cols := subsAt co t ((0 : Nat) : Int)) (row := row) (fun c hc => by have := s0.2.1 c hc; omega) h1.2
          rw [s0.1, ← HP.out] at this
          exact this) (hall 0 hC0.out)).2.1

def strC (lv co : Int) (rows : List (List Int)) (t : Int) : Int := if okA lv co rows = false then 1 else if inB t 1 co = false then 2 else 0
noncomputable def strI (lv co : Int) (rows : List (List Int)) (t : Int) : Int := if strC lv co rows t = 0 then strN lv co rows t.toNat else 0
theorem strC_1 {lv co : Int} {rows : List (List Int)} {t : Int} (h : okA lv co rows = false) : strC lv co rows t = 1 ∧ strI lv co rows t = 0 := by
  have : strC lv co rows t = 1 := by rw [strC, if_pos h]
  exact ⟨this, by rw [strI, this, if_neg (by omega)]⟩
theorem strC_2 {lv co : Int} {rows : List (List Int)} {t : Int} (h : okA lv co rows = true) (h2 : inB t 1 co = false) : strC lv co rows t = 2 ∧ strI lv co rows t = 0 := by
  have : strC lv co rows t = 2 := by rw [strC, if_neg (by rw [h]; simp), if_pos h2]
  exact ⟨this, by rw [strI, this, if_neg (by omega)]⟩
theorem strC_0 {lv co : Int} {rows : List (List Int)} {t : Int} (h : okA lv co rows = true) (h2 : inB t 1 co = true) : strC lv co rows t = 0 ∧ strI lv co rows t = strN lv co rows t.toNat := by
  have : strC lv co rows t = 0 := by rw [strC, if_neg (by rw [h]; simp), if_neg (by rw [h2]; simp)]
  exact ⟨this, by rw [strI, this, if_pos rfl]⟩

set_option maxHeartbeats 4000000 in
set_option maxRecDepth 100000 in
theorem StrengthIndex_c (lv co t : Int) (v : Value) (us : List Value) (rows : List (List Int)) (w : World) (hv : RII w v us rows) :
    Calls Try.prog 10 #[av lv co v, .int .i64 t] w (Gives2I w (strI lv co rows t) (strC lv co rows t)) := by
  have hS0 := (St.refl w).newboxF 28 #[.int .i64 lv, .int .i64 co, v]
  have HV := fun w hv => Lib.hid (ValidArray_c lv co v us rows w hv)
  unfold av at HV ⊢
  go_enter Try.func10, Try.ntmps10
  go_wp2_with fail
  refine (HV _ (hS0.oldII hv)).out.mono ?_
  rintro e w1 ⟨rfl, h1⟩
  have hS1 := hS0.call0 h1
  clear hS0 h1 HV
  have a0 := hS1.bcell 0 rfl 0 rfl
  have a1 := hS1.bcell 0 rfl 1 rfl
  have a2 := hS1.bcell 0 rfl 2 rfl
  cases hok : okA lv co rows
  · have H := Lib.hid (strC_1 (t := t) hok)
    go_wp2_with fail
    go_ret2
    exact ⟨ret_2i H.out.2.symm H.out.1.symm, hS1.out⟩
  · have Hok := Lib.hid hok
    clear hok
    cases ht : inB t 1 co
    · have H := Lib.hid (strC_2 Hok.out ht)
      go_wp2_with (go_at_call 43; refine (within_c _ _ _ _).mono ?_; rintro e w3 ⟨rfl, rfl⟩)
      go_ret2
      exact ⟨ret_2i H.out.2.symm H.out.1.symm, hS1.out⟩
    · have H := Lib.hid (strC_0 Hok.out ht)
      obtain ⟨t1, t2⟩ : 1 ≤ t ∧ t ≤ co := by simpa [inB] using ht
      obtain ⟨hsh, hlen, hrow⟩ := okA_t Hok.out
      obtain ⟨l1, l2, k1, k2⟩ := shapeB_t hsh
      have hcall := Lib.hid (strengthIndex_c lv co.toNat v us rows t.toNat w1 (hS1.oldII hv) l1 l2 (by omega) (by omega) (by omega) (fun row hr => by have := hrow row hr; rw [Int.toNat_of_nonneg (by omega)]; exact this) hlen)
      have ec : Hid (((co.toNat : Nat) : Int) = co) := by unfold Hid; omega
      have et : Hid (((t.toNat : Nat) : Int) = t) := by unfold Hid; omega
      rw [ec.out, et.out] at hcall
      unfold av at hcall
      clear hrow hsh
      go_wp2_with (go_at_call 43; refine (within_c _ _ _ _).mono ?_; rintro e w3 ⟨rfl, rfl⟩)
      refine hcall.out.mono ?_
      rintro e w2 ⟨rfl, h2⟩
      have hS2 := hS1.call0 h2
      go_wp2_with fail
      go_ret2
      exact ⟨ret_2i H.out.2.symm H.out.1.symm, hS2.out⟩

end Go.Proofs.Ytejncephbafcdaa
end
