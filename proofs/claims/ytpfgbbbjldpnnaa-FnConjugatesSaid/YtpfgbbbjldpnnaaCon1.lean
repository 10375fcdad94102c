/- Walks: conjugates of the program. -/
import Derived.Test.YtpfgbbbjldpnnaaSqH
import Derived.Test.YtpfgbbbjldpnnaaPCon
import Derived.Test.YtpfgbbbjldpnnaaIm1
namespace Go.Proofs.Ytpfgbbbjldpnnaa
set_option linter.unusedSimpArgs false
set_option linter.unusedVariables false
open Go.RowKit
attribute [local go_sem ↓] Go.wp_at_zero Go.wp_at_succ

/-- a conjugate and the code 0 -/
def ConK (w : World) (A : List (List Int)) (p : List Int) (e : Ending) (w' : World) : Prop := ∃ v us B, e = .returned (.tuple #[v, .int .i64 0]) ∧ ConR A p B ∧ us.length = B.length ∧ St w.heap.size w w' (own2 v us B)
theorem und_a3 : Try.prog.underlying 89 = some (.array (Try.prog.arrayLen 89) (Try.prog.elem 89)) := by kernel_rfl
theorem len_a3 : Try.prog.arrayLen 89 = 3 := by kernel_rfl
theorem elem_a3 : (Try.prog.info? (Try.prog.elem 89)).map (·.size) = some 1 := by kernel_rfl
theorem ix_a3 (g i : Nat) (hi : i < 3) (W : World) : (Instr.indexAt 89 (.pointer (some ⟨g, 0, none⟩)) (.int .i64 (i : Int))).run Try.prog W = .ok (.pointer (some ⟨g, i, none⟩)) W := by
  rw [run_indexAt_array (h := und_a3), len_a3, if_pos (by omega)]
  obtain ⟨inf, hinf, hs⟩ := Option.map_eq_some_iff.1 elem_a3
  simp [sizeOf, typeInfo, hinf, hs, add_mk, Result.andThen]
set_option maxHeartbeats 8000000 in
set_option maxRecDepth 100000 in
theorem Conjugate_c (v : Value) (us : List Value) (A : List (List Int)) (p : List Int) (w : World) (hv : RII w v us A) (hl : latB A = true) (pp : IsP p) (p3 : p.length = 3) :
    Calls Try.prog 26 #[v, .int .i64 (rkL p : Nat)] w (ConK w A p) := by
  have hL := latB_t hl
  have h := hL.sq0
  have hA10 := hL.le
  have HV := Lib.hid (ValidSquare_c v us A w hv (fun x hx => by rw [hL.len x hx]; have := hL.le; omega))
  rw [hl] at HV
  have HU := fun W => Lib.hid (Unrank_c p W pp (by omega))
  rw [p3] at HU
  rw [show ((3 : Nat) : Int) = 3 from rfl] at HU
  have HZ := fun W (h : RII W v us A) => Lib.hid (szII_c v us A W h)
  have HE := fun W => Lib.hid (emptySquare_c A.length W (by omega))
  have hln := hv.len
  have hix := hv.ix
  have H := Lib.hid (And.intro hL (And.intro pp p3))
  have Hst := Lib.hid (ConP.start (A := A) (p := p))
  have Hv := Lib.hid hv
  generalize rkL p = R at *
  clear h pp p3 hl hL
  go_enter Try.func26, Try.ntmps26
  go_wp2_with fail
  refine HV.out.mono ?_
  rintro e w1 ⟨rfl, h1⟩
  go_wp2_with fail
  refine (HU _).out.mono ?_
  rintro e w2 ⟨vp, rfl, h2⟩
  have hS2 := h1.trans h2
  have hpx := (hS2.rdI 0 rfl).ixe
  rw [H.out.2.2] at hpx
  clear h1 h2
  go_wp2_with (first
    | (go_at_call 80; refine (HE _).out.mono ?_; rintro e w4 ⟨o, uo, rfl, hl, h4⟩; have Hl := Lib.hid hl; clear hl; have hS4 := hS2.call h4)
    | (go_at_call 74; refine (HZ _ (hS2.oldII hv)).out.mono ?_; rintro e w3 ⟨rfl, rfl⟩))
  rw [sqF_len] at Hl
  have hS5 : St w.heap.size w w4 (own2 o uo (sqF A.length fun _ _ => 0) ++ [row 2 vp (iv p)]) := hS4.perm List.perm_append_comm
  clear hS4 h4 hS2 hv
  have hx0 := hpx 0 0 rfl (by omega)
  have hx1 := hpx 1 1 rfl (by omega)
  have hx2 := hpx 2 2 rfl (by omega)
  clear hpx
  go_loopw [9, 10, 11, 12, 13, 29, 36] (fun _ _ _ _ _ i _ wr => ∃ (k : Nat) (S : List (List Int)), k ≤ A.length ∧ i = .int .i64 k ∧ Hid (ConP A p k 0 S) ∧ St w.heap.size w wr (own2 o uo S ++ [row 2 vp (iv p)])) (fun _ _ _ _ _ i _ _ => A.length - (intOf i).toNat)
  case atStart => exact ⟨0, _, by omega, rfl, Hst.out, hS5⟩
  case round =>
    clear hS5
    obtain ⟨k, S, hk, rfl, hI, hS⟩ := hrel
    by_cases hlt : k < A.length
    · have ck := (hS.oldII Hv.out).cell k hlt
      have hrow := (Hv.out.row k hlt)
      have hrl := H.out.1.len k hlt
      have hrn := hrow.len
      rw [hrl] at hrn
      have hri := hrow.ixe
      rw [hrl] at hri
      have Hrow := Lib.hid hrow
      have Hrl := Lib.hid hrl
      clear hrow hrl
      go_wp2_with fail
      go_loopw [11, 12, 13, 36] (fun _ _ _ j wr' => ∃ (y : Nat) (S : List (List Int)), y ≤ A.length ∧ j = .int .i64 y ∧ Hid (ConP A p k y S) ∧ St w.heap.size w wr' (own2 o uo S ++ [row 2 vp (iv p)])) (fun _ _ _ j _ => A.length - (intOf j).toNat)
      case atStart => exact ⟨0, S, by omega, rfl, hI.out, hS⟩
      case round =>
        clear hI hS ck
        obtain ⟨y, S, hy, rfl, hI, hS⟩ := hrel
        by_cases hly : y < A.length
        · obtain ⟨m, hm, hmn⟩ : ∃ m : Nat, at2 A k y = m ∧ m < A.length := by
            have := H.out.1.sq0.el k y hlt hly
            exact ⟨(at2 A k y).toNat, by omega, by omega⟩
          have cy : wr.cell? (el (vat us k) y) = some (.int .i64 (m : Int)) := by
            rw [← hm]; exact (hS.oldI Hrow.out).cell y (by rw [Hrl.out]; exact hly)
          have hri2 := hri (y : Int) y rfl hly
          obtain ⟨a, ha, a3⟩ : ∃ a, a = pf p 0 ∧ a < 3 := ⟨_, rfl, p3_lt H.out.2.1 H.out.2.2 (by omega)⟩
          obtain ⟨b, hb, b3⟩ : ∃ b, b = pf p 1 ∧ b < 3 := ⟨_, rfl, p3_lt H.out.2.1 H.out.2.2 (by omega)⟩
          obtain ⟨c, hc, c3⟩ : ∃ c, c = pf p 2 ∧ c < 3 := ⟨_, rfl, p3_lt H.out.2.1 H.out.2.2 (by omega)⟩
          have Hstep := hI.out.step H.out.1 H.out.2.1 H.out.2.2 hlt hly
          rw [← ha, ← hb, ← hc] at Hstep
          have hta := trA_lt H.out.1 hlt hly a
          have htb := trA_lt H.out.1 hlt hly b
          have htr : ∀ i, i < 3 → ([Value.int .i64 (k : Int), .int .i64 (y : Int), .int .i64 (m : Int)] : List Value)[i]? = some (.int .i64 ((trA A k y i : Nat) : Int)) := fun i hi => by
            rcases i with _ | _ | _ | i
            · rfl
            · rfl
            · show some (Value.int .i64 (m : Int)) = some (.int .i64 (((at2 A k y).toNat : Nat) : Int)); rw [hm]; rfl
            · omega
          have hB := hS.newboxF 89 #[.int .i64 (k : Int), .int .i64 (y : Int), .int .i64 (m : Int)]
          have t1 := hB.bcell 0 rfl a (htr a a3)
          have t2 := hB.bcell 0 rfl b (htr b b3)
          have t3 := hB.bcell 0 rfl c (htr c c3)
          have hS7 := hB.perm (L' := own2 o uo S ++ [row 2 vp (iv p), box 89 wr.heap.size [.int .i64 (k : Int), .int .i64 (y : Int), .int .i64 (m : Int)]]) (by (try simp only [own2, List.cons_append, List.nil_append, List.append_nil]); classical exact List.perm_iff_count.2 (fun a => by simp only [List.cons_append, List.nil_append, List.append_nil, List.count_append, List.count_cons, List.count_nil] <;> omega))
          have x1 := ix_a3 wr.heap.size a a3
          have x2 := ix_a3 wr.heap.size b b3
          have x3 := ix_a3 wr.heap.size c c3
          have hrp : RdI (wr.alloc (.cells #[.int .i64 (k : Int), .int .i64 (y : Int), .int .i64 (m : Int)] 89)) vp p := (hS7.sub (L' := [row 2 vp (iv p)]) ((List.sublist_append_left [_] [_]).trans (List.sublist_append_right _ _))).rdI 0 rfl
          have c0 := hrp.cell 0 (by rw [H.out.2.2]; omega)
          have c1 := hrp.cell 1 (by rw [H.out.2.2]; omega)
          have c2 := hrp.cell 2 (by rw [H.out.2.2]; omega)
          rw [nth_pf H.out.2.1 (by rw [H.out.2.2]; omega), ← ha] at c0
          rw [nth_pf H.out.2.1 (by rw [H.out.2.2]; omega), ← hb] at c1
          rw [nth_pf H.out.2.1 (by rw [H.out.2.2]; omega), ← hc] at c2
          generalize trA A k y a = ta at *
          generalize trA A k y b = tb at *
          generalize trA A k y c = tc at *
          have hsl : S.length = A.length := hI.out.sqr.len
          have hsa : (xat S ta).length = A.length := hI.out.sqr.row ta hta
          have hlS : uo.length = S.length := by rw [Hl.out, hsl]
          have hR := rii2 hS7 hlS
          have hat := hS7.at_row hlS (j := ta) (by rw [hsl]; exact hta)
          have z0 := hR.cell ta (by rw [hsl]; exact hta)
          have xo := hR.ixe (ta : Int) ta rfl (by rw [hsl]; exact hta)
          have xb := (hS7.rdI (ta + 1) hat).ixe (tb : Int) tb rfl (by rw [hsa]; exact htb)
          have u1 := hS7.unfrozen (ta + 1) hat (j := tb) (by rw [iv_len, hsa]; exact htb)
          have co1 := (hS7.rdI (ta + 1) hat).cell tb (by rw [hsa]; exact htb)
          have HS9 := Lib.hid (hS7.drew.store (ta + 1) hat (j := tb) (by rw [iv_len, hsa]; exact htb) (.int .i64 (tc : Int)))
          have Hst2 := Lib.hid Hstep
          have Hset := Lib.hid (own2_set (v := o) (L2 := [row 2 vp (iv p), box 89 wr.heap.size [.int .i64 (k : Int), .int .i64 (y : Int), .int .i64 (m : Int)]]) hlS (j := ta) (by rw [hsl]; exact hta) ((xat S ta).set tb (tc : Int)))
          clear hI hR hat hlS hsl hsa ha hb hc hm hta htb hS hS7 hB hrp htr Hstep a3 b3 c3
          go_wp2_with fail
          refine regionG (fun w' => w'.cell? (el vp 0) = some (.int .i64 (a : Int)) ∧ w'.cell? ⟨wr.heap.size, a, none⟩ = some (.int .i64 (ta : Int)) ∧ w'.cell? (el o ta) = some (vat uo ta) ∧ w'.cell? (el vp 1) = some (.int .i64 (b : Int)) ∧ w'.cell? ⟨wr.heap.size, b, none⟩ = some (.int .i64 (tb : Int)) ∧ w'.cell? (el vp 2) = some (.int .i64 (c : Int)) ∧ w'.cell? ⟨wr.heap.size, c, none⟩ = some (.int .i64 (tc : Int))) 19 (by kernel_rfl) ⟨cell_dr c0, cell_dr t1, cell_dr z0, cell_dr c1, cell_dr t2, cell_dr c2, cell_dr t3⟩ (fun hHeld => ?_)
          refine takeP (i := 0) (v := ?_) rfl (by kernel_rfl) (fun _ _ _ h => h) (by rfl) ?_ (by assumption) ?_
          case refine_2 => (intro w'; go_simp; first | done | with_reducible rfl)
          try simp only [Act.put, List.setIfInBounds_toArray, List.set_cons_zero, List.set_cons_succ]
          refine takeP (i := 1) (v := ?_) rfl (by kernel_rfl) (fun _ _ _ h => h) (by rfl) ?_ (by assumption) ?_
          case refine_2 => (intro w'; go_simp; first | done | with_reducible rfl)
          try simp only [Act.put, List.setIfInBounds_toArray, List.set_cons_zero, List.set_cons_succ]
          refine takeP (i := 2) (v := ?_) rfl (by kernel_rfl) (fun _ _ _ h => h) (by rfl) ?_ (by assumption) ?_
          case refine_2 => (intro w'; go_simp; first | done | with_reducible rfl)
          try simp only [Act.put, List.setIfInBounds_toArray, List.set_cons_zero, List.set_cons_succ]
          refine takeH (i := 3) [4, 5, 6, 7, 18] (v := ?_) rfl (by kernel_rfl) (fun _ _ _ h => h) (by rfl) ?_ (by assumption) ?_
          case refine_2 => (intro w' hSw; (try dsimp only at hSw); go_simp; first | done | with_reducible rfl)
          try simp only [Act.put, List.setIfInBounds_toArray, List.set_cons_zero, List.set_cons_succ]
          refine takeP (i := 4) (v := ?_) rfl (by kernel_rfl) (fun _ _ _ h => h) (by rfl) ?_ (by assumption) ?_
          case refine_2 => (intro w'; go_simp; first | done | with_reducible rfl)
          try simp only [Act.put, List.setIfInBounds_toArray, List.set_cons_zero, List.set_cons_succ]
          refine takeH (i := 5) [6, 7, 18] (v := ?_) rfl (by kernel_rfl) (fun _ _ _ h => h) (by rfl) ?_ (by assumption) ?_
          case refine_2 => (intro w' hSw; (try dsimp only at hSw); go_simp; first | done | with_reducible rfl)
          try simp only [Act.put, List.setIfInBounds_toArray, List.set_cons_zero, List.set_cons_succ]
          refine takeP (i := 6) (v := ?_) rfl (by kernel_rfl) (fun _ _ _ h => h) (by rfl) ?_ (by assumption) ?_
          case refine_2 => (intro w'; go_simp; first | done | with_reducible rfl)
          try simp only [Act.put, List.setIfInBounds_toArray, List.set_cons_zero, List.set_cons_succ]
          refine takeH (i := 7) [18] (v := ?_) rfl (by kernel_rfl) (fun _ _ _ h => h) (by rfl) ?_ (by assumption) ?_
          case refine_2 => (intro w' hSw; (try dsimp only at hSw); go_simp; first | done | with_reducible rfl)
          try simp only [Act.put, List.setIfInBounds_toArray, List.set_cons_zero, List.set_cons_succ]
          refine takeP (i := 8) (v := ?_) rfl (by kernel_rfl) (fun _ _ _ h => h) (by rfl) ?_ (by assumption) ?_
          case refine_2 => (intro w'; go_simp; first | done | with_reducible rfl)
          try simp only [Act.put, List.setIfInBounds_toArray, List.set_cons_zero, List.set_cons_succ]
          refine takeP (i := 9) (v := ?_) rfl (by kernel_rfl) (fun _ _ _ h => h) (by rfl) ?_ (by assumption) ?_
          case refine_2 => (intro w'; go_simp; first | done | with_reducible rfl)
          try simp only [Act.put, List.setIfInBounds_toArray, List.set_cons_zero, List.set_cons_succ]
          refine takeH (i := 10) [11, 12, 18] (v := ?_) rfl (by kernel_rfl) (fun _ _ _ h => h) (by rfl) ?_ (by assumption) ?_
          case refine_2 => (intro w' hSw; (try dsimp only at hSw); go_simp; first | done | with_reducible rfl)
          try simp only [Act.put, List.setIfInBounds_toArray, List.set_cons_zero, List.set_cons_succ]
          refine takeP (i := 11) (v := ?_) rfl (by kernel_rfl) (fun _ _ _ h => h) (by rfl) ?_ (by assumption) ?_
          case refine_2 => (intro w'; go_simp; first | done | with_reducible rfl)
          try simp only [Act.put, List.setIfInBounds_toArray, List.set_cons_zero, List.set_cons_succ]
          refine takeH (i := 12) [18] (v := ?_) rfl (by kernel_rfl) (fun _ _ _ h => h) (by rfl) ?_ (by assumption) ?_
          case refine_2 => (intro w' hSw; (try dsimp only at hSw); go_simp; first | done | with_reducible rfl)
          try simp only [Act.put, List.setIfInBounds_toArray, List.set_cons_zero, List.set_cons_succ]
          refine takeP (i := 13) (v := ?_) rfl (by kernel_rfl) (fun _ _ _ h => h) (by rfl) ?_ (by assumption) ?_
          case refine_2 => (intro w'; go_simp; first | done | with_reducible rfl)
          try simp only [Act.put, List.setIfInBounds_toArray, List.set_cons_zero, List.set_cons_succ]
          refine takeP (i := 14) (v := ?_) rfl (by kernel_rfl) (fun _ _ _ h => h) (by rfl) ?_ (by assumption) ?_
          case refine_2 => (intro w'; go_simp; first | done | with_reducible rfl)
          try simp only [Act.put, List.setIfInBounds_toArray, List.set_cons_zero, List.set_cons_succ]
          refine takeH (i := 15) [16, 17] (v := ?_) rfl (by kernel_rfl) (fun _ _ _ h => h) (by rfl) ?_ (by assumption) ?_
          case refine_2 => (intro w' hSw; (try dsimp only at hSw); go_simp; first | done | with_reducible rfl)
          try simp only [Act.put, List.setIfInBounds_toArray, List.set_cons_zero, List.set_cons_succ]
          refine takeP (i := 16) (v := ?_) rfl (by kernel_rfl) (fun _ _ _ h => h) (by rfl) ?_ (by assumption) ?_
          case refine_2 => (intro w'; go_simp; first | done | with_reducible rfl)
          try simp only [Act.put, List.setIfInBounds_toArray, List.set_cons_zero, List.set_cons_succ]
          refine takeH (i := 17) [] (v := ?_) rfl (by kernel_rfl) (fun _ _ _ h => h) (by rfl) ?_ (by assumption) ?_
          case refine_2 => (intro w' hSw; (try dsimp only at hSw); go_simp; first | done | with_reducible rfl)
          try simp only [Act.put, List.setIfInBounds_toArray, List.set_cons_zero, List.set_cons_succ]
          refine takeP (i := 18) (v := ?_) rfl (by kernel_rfl) (fun _ _ _ h => h) (by rfl) ?_ (by assumption) ?_
          case refine_2 => (intro w'; go_simp; first | done | with_reducible rfl)
          try simp only [Act.put, List.setIfInBounds_toArray, List.set_cons_zero, List.set_cons_succ]
          refine readyG (rs := [19]) (by kernel_rfl) (by simp) ?_
          refine AllG.last rfl (by kernel_rfl) (fun K hK => ?_) AllG.nil
          go_simp
          refine hK.out _ _ ?_
          clear hK K
          try simp only [Act.put, List.setIfInBounds_toArray, List.set_cons_zero, List.set_cons_succ]
          refine doneG (by kernel_rfl) ?_ _
          refine NoPanic.normal ?_
          have hS9 := HS9.out
          rw [iv_set, Hset.out] at hS9
          have hS10 := hS9.sub (L' := own2 o uo (putS S ta tb tc) ++ [row 2 vp (iv p)]) ((List.sublist_append_left [_] [_]).append_left _)
          clear hS9
          go_wp2_with fail
          go_roundw
          case rel => exact ⟨y + 1, _, by omega, by go_num, Hst2.out, hS10⟩
          case measure => simp [intOf]; omega
        · obtain rfl : y = A.length := by omega
          have Hnx := Lib.hid hI.out.next
          go_wp2_with fail
          go_roundw
          case rel => exact ⟨k + 1, S, by omega, by go_num, Hnx.out, hS⟩
          case measure => simp [intOf]; omega
    · obtain rfl : k = A.length := by omega
      have hd := hI.out.done
      rw [show own2 o uo S ++ [row 2 vp (iv p)] = own2 o uo S ++ [row 2 vp (iv p)] from rfl] at hS
      have hS6 := hS.sub (List.sublist_append_left _ _)
      have hlS : uo.length = S.length := by rw [Hl.out, hI.out.sqr.len]
      have HL := Lib.hid (And.intro hlS hd)
      clear hd hlS
      go_wp2_with fail
      go_ret2
      exact ⟨o, uo, S, rfl, HL.out.2, HL.out.1, hS6⟩
theorem Conjugate_no1 (v : Value) (us : List Value) (A : List (List Int)) (k : Int) (w : World) (hv : RII w v us A) (hN : ∀ x, x < A.length → (xat A x).length ≤ 1048576) (hl : latB A = false) :
    Calls Try.prog 26 #[v, .int .i64 k] w (IIK w [] 1) := by
  have HV := Lib.hid (ValidSquare_c v us A w hv hN)
  rw [hl] at HV
  clear hl
  go_enter Try.func26, Try.ntmps26
  go_wp2_with fail
  refine HV.out.mono ?_
  rintro e w1 ⟨rfl, h1⟩
  go_wp2_with fail
  go_ret2
  exact IIK.no h1
theorem Unrank3_no (k : Int) (w : World) (hk : k < 0 ∨ 5 < k) : Calls Try.prog 18 #[.int .i64 3, .int .i64 k] w (MakesLK w [] 2) := by
  have HF := fun W => Lib.hid (factorial_c 3 W (by omega))
  rw [show ((3 : Nat) : Int) = 3 from rfl, show ((fctl 3 : Nat) : Int) = 6 from rfl] at HF
  have i1 := inB_true (n := (3 : Int)) (a := 0) (b := 12) ⟨by omega, by omega⟩
  have i2 := inB_false (n := k) (a := 0) (b := 5) (by omega)
  clear hk
  go_enter Try.func18, Try.ntmps18
  go_wp2_with fail
  refine (within_c _ _ _ _).mono ?_
  rw [i1]
  rintro e w1 ⟨rfl, rfl⟩
  go_wp2_with (first
    | (have hz := hz2; clear hz; go_at_call 67; refine (within_c _ _ _ _).mono ?_; rw [i2]; rintro e w3 ⟨rfl, rfl⟩)
    | (go_at_call 66; refine (HF _).out.mono ?_; rintro e w2 ⟨rfl, rfl⟩; have hz2 : True := trivial))
  go_ret2
  exact ⟨_, rfl, (St.refl _).nilI⟩
theorem Conjugate_no2 (v : Value) (us : List Value) (A : List (List Int)) (k : Int) (w : World) (hv : RII w v us A) (hl : latB A = true) (hk : k < 0 ∨ 5 < k) :
    Calls Try.prog 26 #[v, .int .i64 k] w (IIK w [] 2) := by
  have hL := latB_t hl
  have HV := Lib.hid (ValidSquare_c v us A w hv (fun x hx => by rw [hL.len x hx]; have := hL.le; omega))
  rw [hl] at HV
  have HU := fun W => Lib.hid (Unrank3_no k W hk)
  clear hl hL hk
  go_enter Try.func26, Try.ntmps26
  go_wp2_with fail
  refine HV.out.mono ?_
  rintro e w1 ⟨rfl, h1⟩
  go_wp2_with fail
  refine (HU _).out.mono ?_
  rintro e w2 ⟨vp, rfl, h2⟩
  have hS2 := h1.call0 h2.out
  go_wp2_with fail
  go_ret2
  exact IIK.no hS2
theorem prm3 {k : Int} (h0 : 0 ≤ k) (h5 : k ≤ 5) : ∃ p : List Int, IsP p ∧ p.length = 3 ∧ ((rkL p : Nat) : Int) = k := by
  have : k = 0 ∨ k = 1 ∨ k = 2 ∨ k = 3 ∨ k = 4 ∨ k = 5 := by omega
  rcases this with rfl | rfl | rfl | rfl | rfl | rfl
  · exact ⟨[0, 1, 2], isP_of_perm (by decide), rfl, by decide⟩
  · exact ⟨[0, 2, 1], isP_of_perm (by decide), rfl, by decide⟩
  · exact ⟨[1, 0, 2], isP_of_perm (by decide), rfl, by decide⟩
  · exact ⟨[1, 2, 0], isP_of_perm (by decide), rfl, by decide⟩
  · exact ⟨[2, 0, 1], isP_of_perm (by decide), rfl, by decide⟩
  · exact ⟨[2, 1, 0], isP_of_perm (by decide), rfl, by decide⟩
theorem isP102 : IsP [1, 0, 2] := isP_of_perm (by decide)
/-- small rows and a number, in memory of their own -/
def ConD (w : World) (e : Ending) (w' : World) : Prop := ∃ v us A k, e = .returned (.tuple #[v, .int .i64 k]) ∧ SmA A ∧ us.length = A.length ∧ -1 ≤ k ∧ k ≤ 6 ∧ St w.heap.size w w' (own2 v us A)
theorem DrawConjugate_c (w : World) (cv : Value) (bs : List UInt8) (hb : RdB w cv bs) : Calls Try.prog 25 #[cv] w (ConD w) := by
  go_enter Try.func25, Try.ntmps25
  go_wp2_with fail
  refine (l00From_c w cv bs hb).mono ?_
  rintro e w1 ⟨rfl, h1⟩
  go_wp2_with fail
  refine (l06Draw_c w w1 cv bs _ _ _ hb h1 (by omega)).mono ?_
  rintro e w2 ⟨v, us, A, rfl, hA, hl, h2⟩
  have HA := Lib.hid hA
  have Hl := Lib.hid hl
  rw [List.append_nil] at h2
  clear hA hl h1
  go_wp2_with fail
  refine (pick_c w _ cv bs _ _ _ 6 hb h2 (by omega)).mono ?_
  rintro e w3 ⟨k, k0, k1, rfl, h3⟩
  have kk : k ≤ 5 := by omega
  clear h2 k1
  go_wp2_with fail
  refine (one_c w _ cv bs _ _ _ 9 hb h3 (by omega)).mono ?_
  rintro e w4 ⟨b, rfl, h4⟩
  clear h3
  cases b
  · have hS := h4.st
    clear h4
    go_wp2_with fail
    go_ret2
    exact ⟨v, us, A, k, rfl, HA.out, Hl.out, by omega, by omega, hS⟩
  · go_wp2_with fail
    refine (among_lit [-1, 6] w _ cv bs _ _ _ hb h4 (by simp) (by omega)).mono ?_
    rintro e w5 ⟨z, hz, rfl, h5⟩
    have hz2 : -1 ≤ z ∧ z ≤ 6 := by
      simp only [List.mem_cons, List.not_mem_nil, or_false] at hz
      rcases hz with rfl | rfl <;> omega
    have hS := h5.st
    have Hz := Lib.hid hz2
    clear h4 h5 hz hz2
    go_wp2_with fail
    go_ret2
    exact ⟨v, us, A, z, rfl, HA.out, Hl.out, Hz.out.1, Hz.out.2, hS⟩
end Go.Proofs.Ytpfgbbbjldpnnaa
