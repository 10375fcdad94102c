/- Walks: the array of a list of orthogonal squares, of the program. Walks: the array of a list of orthogonal squares, of the reference. Walks: sizes and copies of slices of slices of slices; the law FnExactArrayOfMols. -/
import Derived.Test.YtpfgbbbjldpnnaaMl3
import Derived.Test.YtpfgbbbjldpnnaaFull2
import Derived.Test.YtpfgbbbjldpnnaaMark
namespace Go.Proofs.Ytpfgbbbjldpnnaa
set_option linter.unusedSimpArgs false
set_option linter.unusedVariables false
open Go.RowKit
attribute [local go_sem ↓] Go.wp_at_zero Go.wp_at_succ


/-- the row of a place -/
def amRow (X : List (List (List Int))) (x y : Nat) : List Int := [(x : Int), (y : Int)] ++ X.map fun A => at2 A x y
/-- the rows of the first m places -/
def amL (n : Nat) (X : List (List (List Int))) (m : Nat) : List (List Int) := (List.range m).map fun c => amRow X (c / n) (c % n)
theorem amL_len (n : Nat) (X : List (List (List Int))) (m : Nat) : (amL n X m).length = m := by simp [amL]
theorem amL_succ {n x y m : Nat} {X : List (List (List Int))} (hy : y < n) (hm : m = x * n + y) : amL n X (m + 1) = amL n X m ++ [amRow X x y] := by
  have e1 : m / n = x := by rw [hm, Nat.mul_comm, Nat.mul_add_div (by omega), Nat.div_eq_of_lt hy]; omega
  have e2 : m % n = y := by rw [hm, Nat.mul_comm, Nat.mul_add_mod, Nat.mod_eq_of_lt hy]
  simp [amL, List.range_succ, e1, e2]
/-- a row as far as the square m -/
def amR (X : List (List (List Int))) (x y m : Nat) : List Int := [(x : Int), (y : Int)] ++ (X.take m).map fun A => at2 A x y
theorem amR_0 (X : List (List (List Int))) (x y : Nat) : amR X x y 0 = [(x : Int), (y : Int)] := rfl
theorem amR_all (X : List (List (List Int))) (x y : Nat) : amR X x y X.length = amRow X x y := by unfold amR amRow; rw [List.take_length]
theorem amR_succ {X : List (List (List Int))} {x y m : Nat} (h : m < X.length) : amR X x y (m + 1) = amR X x y m ++ [at2 (x3at X m) x y] := by
  unfold amR; rw [take_x3at h]; simp
theorem amR_len {X : List (List (List Int))} {x y m : Nat} (h : m ≤ X.length) : (amR X x y m).length = m + 2 := by unfold amR; simp; omega
def amBad (X : List (List (List Int))) : Prop := (x3at X 0).length < 2 ∨ 8 < X.length + 2
open Classical in
noncomputable def molA (X : List (List (List Int))) : AV := if molB X = true then (if amBad X then noA else ⟨(x3at X 0).length, (X.length : Int) + 2, amL (x3at X 0).length X ((x3at X 0).length * (x3at X 0).length)⟩) else noA
open Classical in
noncomputable def molAC (X : List (List (List Int))) : Int := if molB X = true then (if amBad X then 2 else 0) else 1
theorem molA_1 {X : List (List (List Int))} (h : molB X = false) : molA X = noA ∧ molAC X = 1 := by
  unfold molA molAC; rw [if_neg (by rw [h]; decide), if_neg (by rw [h]; decide)]; exact ⟨rfl, rfl⟩
theorem molA_2 {X : List (List (List Int))} (h : molB X = true) (hb : amBad X) : molA X = noA ∧ molAC X = 2 := by
  unfold molA molAC; rw [if_pos h, if_pos h, if_pos hb, if_pos hb]; exact ⟨rfl, rfl⟩
theorem molA_0 {X : List (List (List Int))} (h : molB X = true) (hb : ¬ amBad X) : molA X = ⟨(x3at X 0).length, (X.length : Int) + 2, amL (x3at X 0).length X ((x3at X 0).length * (x3at X 0).length)⟩ ∧ molAC X = 0 := by
  unfold molA molAC; rw [if_pos h, if_pos h, if_neg hb, if_neg hb]; exact ⟨rfl, rfl⟩
set_option maxHeartbeats 8000000 in
set_option maxRecDepth 100000 in
theorem ArrayOfMols_c (v : Value) (vs : List Value) (uss : List (List Value)) (X : List (List (List Int))) (w : World) (hv : RIII w v vs uss X) (hN : Sml X) :
    Calls Try.prog 39 #[v] w (MakesA w (molA X) (molAC X)) := by
  have hS0 := (St.refl w).newboxF 59 #[.int .i64 0, .int .i64 0, .slice none 0 0]
  have HV := Lib.hid (ValidMols_c v vs uss X _ (hS0.oldIII hv) hN)
  have hln := hv.len
  have hix := hv.ixe
  have HZ := fun W a => Lib.hid (szIII_c v vs uss X W a)
  have Hv := Lib.hid hv
  clear hv
  cases hb : molB X
  · rw [hb] at HV
    rw [(molA_1 hb).1, (molA_1 hb).2]
    clear hb
    go_enter Try.func39, Try.ntmps39
    go_wp2_with fail
    refine HV.out.mono ?_
    rintro e w1 ⟨rfl, h1⟩
    have hS1 := hS0.call0 h1
    have b0 := hS1.bcell 0 rfl 0 rfl
    have b1 := hS1.bcell 0 rfl 1 rfl
    have b2 := hS1.bcell 0 rfl 2 rfl
    have f1 := hS1.bfree 0 rfl
    clear hS0 h1
    go_wp2_with fail
    have hS9 := ((hS1.bstore 0 rfl 0 (.int .i64 0)).bstore 0 rfl 1 (.int .i64 0)).bstore 0 rfl 2 (.slice none 0 0)
    refine bodyPost_ret (v := .tuple #[.agg #[.int .i64 0, .int .i64 0, .slice none 0 0], .int .i64 1]) (by simp [results, Try.results39, go_sem, b0, b1, b2]) rfl ?_
    exact MakesA.no rfl rfl hS9
  · have HM := Lib.hid (molB_t hb)
    have hl0 := HM.out.pos
    have hl10 := HM.out.le
    have hlat := HM.out.lat 0 (by omega)
    have hn1 := hlat.pos
    have hn10 := hlat.le
    have hx0 := hix 0 0 rfl (by omega)
    have HZ2 := fun W a => Lib.hid (szII_c (vat vs 0) (vsat uss 0) (x3at X 0) W a)
    have HX := Lib.hid (show ∀ j, j < X.length → Sq0 (x3at X 0).length (x3at X j) from fun j hj => by rw [← HM.out.len hj]; exact (HM.out.lat j hj).sq0)
    rw [hb] at HV
    by_cases hbad : amBad X
    · rw [(molA_2 hb hbad).1, (molA_2 hb hbad).2]
      by_cases hn : (x3at X 0).length = 1
      · have g1 : (((x3at X 0).length : Int) == 1) = true := eq_t (by omega)
        clear hbad hb hn HX hlat
        go_enter Try.func39, Try.ntmps39
        go_wp2_with fail
        refine HV.out.mono ?_
        rintro e w1 ⟨rfl, h1⟩
        have hS1 := hS0.call0 h1
        have b0 := hS1.bcell 0 rfl 0 rfl
        have b1 := hS1.bcell 0 rfl 1 rfl
        have b2 := hS1.bcell 0 rfl 2 rfl
        have f1 := hS1.bfree 0 rfl
        have hR := hS1.oldIII Hv.out
        have c0 := hR.cell 0 (by omega)
        have hR0 := hR.row 0 (by omega)
        clear hS0 h1 hR
        go_wp2_with (go_at_call 74; refine (HZ2 _ hR0).out.mono ?_; rintro e w2 ⟨rfl, rfl⟩)
        have hS9 := ((hS1.bstore 0 rfl 0 (.int .i64 0)).bstore 0 rfl 1 (.int .i64 0)).bstore 0 rfl 2 (.slice none 0 0)
        refine bodyPost_ret (v := .tuple #[.agg #[.int .i64 0, .int .i64 0, .slice none 0 0], .int .i64 2]) (by simp [results, Try.results39, go_sem, b0, b1, b2]) rfl ?_
        exact MakesA.no rfl rfl hS9
      · have g1 : (((x3at X 0).length : Int) == 1) = false := eq_f (by omega)
        have g2 : 8 < (X.length : Int) + 2 := by rcases hbad with h | h <;> omega
        clear hbad hb hn HX hlat
        go_enter Try.func39, Try.ntmps39
        go_wp2_with fail
        refine HV.out.mono ?_
        rintro e w1 ⟨rfl, h1⟩
        have hS1 := hS0.call0 h1
        have b0 := hS1.bcell 0 rfl 0 rfl
        have b1 := hS1.bcell 0 rfl 1 rfl
        have b2 := hS1.bcell 0 rfl 2 rfl
        have f1 := hS1.bfree 0 rfl
        have hR := hS1.oldIII Hv.out
        have c0 := hR.cell 0 (by omega)
        have hR0 := hR.row 0 (by omega)
        clear hS0 h1
        go_wp2_with (first
          | (go_at_call 74; refine (HZ2 _ hR0).out.mono ?_; rintro e w2 ⟨rfl, rfl⟩)
          | (go_at_call 85; refine (HZ _ hR).out.mono ?_; rintro e w3 ⟨rfl, rfl⟩))
        have hS9 := ((hS1.bstore 0 rfl 0 (.int .i64 0)).bstore 0 rfl 1 (.int .i64 0)).bstore 0 rfl 2 (.slice none 0 0)
        refine bodyPost_ret (v := .tuple #[.agg #[.int .i64 0, .int .i64 0, .slice none 0 0], .int .i64 2]) (by simp [results, Try.results39, go_sem, b0, b1, b2]) rfl ?_
        exact MakesA.no rfl rfl hS9
    · have hA := molA_0 hb hbad
      have g1 : (((x3at X 0).length : Int) == 1) = false := eq_f (by unfold amBad at hbad; omega)
      have g2 : ¬ 8 < (X.length : Int) + 2 := by unfold amBad at hbad; omega
      rw [hA.1, hA.2]
      have HL := fun m => Lib.hid (amL_len (x3at X 0).length X m)
      have HS := fun x y m (hy : y < (x3at X 0).length) (hm : m = x * (x3at X 0).length + y) => Lib.hid (amL_succ (X := X) hy hm)
      have HR0 := fun x y => Lib.hid (amR_0 X x y)
      have HRa := fun x y => Lib.hid (amR_all X x y)
      have HRs := fun x y m (h : m < X.length) => Lib.hid (amR_succ (x := x) (y := y) h)
      have HRl := fun x y m (h : m ≤ X.length) => Lib.hid (amR_len (x := x) (y := y) h)
      have HL0 := Lib.hid (show amL (x3at X 0).length X 0 = [] from rfl)
      obtain ⟨n, hn⟩ : ∃ n, n = (x3at X 0).length := ⟨_, rfl⟩
      rw [← hn] at g1 HZ2 HX HL HS HL0 hn1 hn10
      rw [← hn]
      obtain ⟨N, hN⟩ : ∃ N, N = n * n := ⟨_, rfl⟩
      rw [← hN]
      have Hb1 := Lib.hid (show ∀ x y, x < n → y ≤ n → x * n + y ≤ 100 from fun x y hx hy => by
        have h1 : x * n + n ≤ n * n := by rw [← Nat.succ_mul]; exact Nat.mul_le_mul_right _ (by omega)
        have h2 : n * n ≤ 10 * 10 := Nat.mul_le_mul (by omega) (by omega)
        omega)
      have HNn := Lib.hid hN
      have hX8 : X.length ≤ 10 := by omega
      clear hbad hb hA hlat hn hN
      go_enter Try.func39, Try.ntmps39
      go_wp2_with fail
      refine HV.out.mono ?_
      rintro e w1 ⟨rfl, h1⟩
      have hS1 := hS0.call0 h1
      have hR := hS1.oldIII Hv.out
      have c0 := hR.cell 0 (by omega)
      have hR0 := hR.row 0 (by omega)
      have hS2 := (hS1.newboxF 59 #[.int .i64 n, .int .i64 ((X.length : Int) + 2), .slice none 0 0]).nilrow 24
      simp only [List.cons_append, List.nil_append] at hS2
      clear hS0 h1
      go_wp2_with (first
        | (go_at_call 74; refine (HZ2 _ hR0).out.mono ?_; rintro e w2 ⟨rfl, rfl⟩)
        | (go_at_call 85; refine (HZ _ hR).out.mono ?_; rintro e w3 ⟨rfl, rfl⟩))
      generalize hg : w1.heap.size = g at *
      clear c0 hR hR0 hg
      go_loopw [6, 7, 8, 10, 34, 38, 46] (fun _ _ _ _ i _ _ wr => ∃ (k m : Nat) (a : Option Addr) (c : Nat) (us : List Value), k ≤ n ∧ i = .int .i64 k ∧ Hid (m = k * n) ∧ Hid (us.length = m) ∧ St w.heap.size w wr (box 59 g [.int .i64 n, .int .i64 ((X.length : Int) + 2), .slice a m c] :: box 59 w.heap.size [.int .i64 0, .int .i64 0, .slice none 0 0] :: own2 (.slice a m c) us (amL n X m))) (fun _ _ _ _ i _ _ _ => n - (intOf i).toNat)
      case atStart => exact ⟨0, 0, none, 0, [], by omega, rfl, by unfold Hid; omega, rfl, by rw [HL0.out]; exact hS2⟩
      case round =>
        clear hS1 hS2
        obtain ⟨k, m, a, c, us, hk, rfl, hm, hl, hS⟩ := hrel
        by_cases hlt : k < n
        · go_wp2_with fail
          go_loopw [7, 8, 10, 38, 46] (fun _ _ _ j _ wr' => ∃ (y m : Nat) (a : Option Addr) (c : Nat) (us : List Value), y ≤ n ∧ j = .int .i64 y ∧ Hid (m = k * n + y) ∧ Hid (us.length = m) ∧ St w.heap.size w wr' (box 59 g [.int .i64 n, .int .i64 ((X.length : Int) + 2), .slice a m c] :: box 59 w.heap.size [.int .i64 0, .int .i64 0, .slice none 0 0] :: own2 (.slice a m c) us (amL n X m))) (fun _ _ _ j _ _ => n - (intOf j).toNat)
          case atStart => exact ⟨0, m, a, c, us, by omega, rfl, hm.out, hl.out, hS⟩
          case round =>
            clear hS hm hl
            obtain ⟨y, m, a, c, us, hy, rfl, hm, hl, hS⟩ := hrel
            by_cases hly : y < n
            · have hm100 := Hb1.out k y hlt (by omega)
              rw [← hm.out] at hm100
              have hS1 : St w.heap.size w (wr.alloc (.cells #[.int .i64 (k : Int), .int .i64 (y : Int)] 2)) (row 2 (.slice (some ⟨wr.heap.size, 0, none⟩) 2 2) (iv (amR X k y 0)) :: box 59 g [.int .i64 n, .int .i64 ((X.length : Int) + 2), .slice a m c] :: box 59 w.heap.size [.int .i64 0, .int .i64 0, .slice none 0 0] :: own2 (.slice a m c) us (amL n X m)) :=
                (hS.new 2 #[.int .i64 (k : Int), .int .i64 (y : Int)] (by simp [maxLen])).perm List.perm_append_comm
              go_wp2_with fail
              clear hS
              go_loopw [8, 10, 46] (fun r _ j wz => ∃ q : Nat, q ≤ X.length ∧ j = .int .i64 q ∧ St w.heap.size w wz (row 2 r (iv (amR X k y q)) :: box 59 g [.int .i64 n, .int .i64 ((X.length : Int) + 2), .slice a m c] :: box 59 w.heap.size [.int .i64 0, .int .i64 0, .slice none 0 0] :: own2 (.slice a m c) us (amL n X m))) (fun _ _ j _ => X.length - (intOf j).toNat)
              case atStart => exact ⟨0, by omega, rfl, hS1⟩
              case round =>
                clear hS1
                obtain ⟨q, hq, rfl, hS⟩ := hrel
                by_cases hlq : q < X.length
                · have hR := hS.oldIII Hv.out
                  have cq := hR.cell q hlq
                  have hxq := hix (q : Int) q rfl hlq
                  have hAq := HX.out q hlq
                  have hRq := hR.row q hlq
                  have ck := hRq.cell k (by rw [hAq.len]; exact hlt)
                  have ik := hRq.ixe (k : Int) k rfl (by rw [hAq.len]; exact hlt)
                  have iy := (hRq.row k (by rw [hAq.len]; exact hlt)).ixe (y : Int) y rfl (by rw [hAq.row k hlt]; exact hly)
                  have cy : wr.cell? (el (vat (vsat uss q) k) y) = some (.int .i64 (at2 (x3at X q) k y)) := (hRq.row k (by rw [hAq.len]; exact hlt)).cell y (by rw [hAq.row k hlt]; exact hly)
                  have Hs := HRs k y q hlq
                  have Hl := Lib.hid (show (amR X k y q).length < 4294967296 by rw [(HRl k y q (by omega)).out]; omega)
                  clear hR hRq hAq
                  generalize at2 (x3at X q) k y = z at *
                  go_wp2_with (at_builtin; refine appI hS 0 rfl Hl.out rfl _ _ rfl rfl _ rfl ?_; intro v' w2 hS2)
                  simp only [List.set_cons_zero] at hS2
                  rw [← Hs.out] at hS2
                  go_roundw
                  case rel => exact ⟨q + 1, by omega, by go_num, hS2⟩
                  case measure => simp [intOf]; omega
                · obtain rfl : q = X.length := by omega
                  rw [(HRa k y).out] at hS
                  obtain ⟨ra, rc, hre⟩ := (hS.rdI 0 rfl).shq
                  subst hre
                  have b2 := hS.bcell 1 rfl 2 rfl
                  have Hsu := HS k y m hly hm.out
                  have HLm := HL m
                  go_wp2_with (at_builtin; refine appII hS 3 rfl (by rw [hl.out]; omega) rfl _ _ rfl rfl _ rfl rfl ?_; intro v' w4 hS4; obtain ⟨va, vc, hv'⟩ := (hS4.rd 3 rfl).sl.sh; rw [List.length_append, hl.out, List.length_singleton] at hv'; subst hv'; have d2 := hS4.bcell 1 rfl 2 rfl; have f2 := hS4.bfree 1 rfl 2)
                  have hS5 := hS4.bstore 1 rfl 2 (.slice va (m + 1) vc)
                  simp only [own2, List.set_cons_zero, List.set_cons_succ] at hS5
                  go_roundw
                  case rel =>
                    refine ⟨y + 1, m + 1, va, vc, us ++ [.slice ra (amRow X k y).length rc], by omega, by go_num, by unfold Hid; rw [hm.out]; omega, by simp [Hid, hl.out], ?_⟩
                    rw [Hsu.out, own2, rowsI_app (by rw [hl.out, HLm.out])]
                    exact hS5.perm (by (try simp only [own2, List.cons_append, List.nil_append, List.append_nil]); classical exact List.perm_iff_count.2 (fun a => by simp only [List.cons_append, List.nil_append, List.append_nil, List.count_append, List.count_cons, List.count_nil] <;> omega))
                  case measure => simp [intOf]; omega
            · obtain rfl : y = n := by omega
              go_wp2_with fail
              go_roundw
              case rel => exact ⟨k + 1, m, a, c, us, by omega, by go_num, by unfold Hid; rw [hm.out, Nat.succ_mul], hl.out, hS⟩
              case measure => simp [intOf]; omega
        · obtain rfl : k = n := by omega
          have hmN : m = N := by rw [hm.out, HNn.out]
          have b0 := hS.bcell 0 rfl 0 rfl
          have b1 := hS.bcell 0 rfl 1 rfl
          have b2 := hS.bcell 0 rfl 2 rfl
          have c0 := hS.bcell 1 rfl 0 rfl
          have c1 := hS.bcell 1 rfl 1 rfl
          have c2 := hS.bcell 1 rfl 2 rfl
          have f1 := hS.bfree 1 rfl
          have HmN := Lib.hid hmN
          clear hmN
          go_wp2_with fail
          have hS9 := ((hS.bstore 1 rfl 0 (.int .i64 k)).bstore 1 rfl 1 (.int .i64 ((X.length : Int) + 2))).bstore 1 rfl 2 (.slice a m c)
          refine bodyPost_ret (v := .tuple #[.agg #[.int .i64 k, .int .i64 ((X.length : Int) + 2), .slice a m c], .int .i64 0]) (by simp [results, Try.results39, go_sem, c0, c1, c2]) rfl ?_
          rw [HmN.out] at hS9 hl ⊢
          exact MakesA.yes rfl rfl (by rw [hl.out, (HL N).out]) (((List.Sublist.refl _).cons _).cons _) hS9


section
variable {ops : Array Oper} {o : Oper} {a : Act} {K : Act → World → Prop} {Q : Exit → Act → World → Prop} {E : Prop} {B : Nat} {w0 w : World} {L : List Ent}
/-- append of one number to an owned row, as a step -/
theorem stepA1 (hS : St B w0 w L) (i : Nat) {v : Value} {xs : List Int} (hi : L[i]? = some (row 2 v (iv xs))) (hN : xs.length < 4294967296) (hg : o.guard = none) (s x : Operand)
    (hop : o.op = .call { callee := .builtin .append, args := #[s, x], argTypes := #[24, 24] }) (hs : a.eval s = v) (n : Int) (hx : a.eval x = .slice (some ⟨w.heap.size, 0, none⟩) 1 1)
    (hK : ∀ v' w', St B w0 w' (L.set i (row 2 v' (iv (xs ++ [n])))) → K (a.put o.dst v') w') :
    if Region.wanted o (yielded ops a.tmps) = true then Oper.wp Try.prog o a (w.alloc (.cells #[.int .i64 n] 2)) K Q else E :=
  step_st_app1 hg s x 24 hop 2 (.int .i64 0) 8 Try.und_is Try.info_i rfl hS i hi hs (.int .i64 n) hx rfl (by omega) (by rw [iv_len]; exact hN)
    (fun v' w' h => hK v' w' (by rw [iv_app, iv_one]; exact h))
end
/-- an array of its own -/
def MakesAr (w : World) (lv co : Int) (R : List (List Int)) (e : Ending) (w' : World) : Prop := ∃ v us, e = .returned (av lv co v) ∧ us.length = R.length ∧ St w.heap.size w w' (own2 v us R)
set_option maxHeartbeats 8000000 in
set_option maxRecDepth 100000 in
theorem l16OfMols_c (v : Value) (vs : List Value) (uss : List (List Value)) (X : List (List (List Int))) (w : World) (n : Nat) (hv : RIII w v vs uss X) (hM : Mols X) (hn : n = (x3at X 0).length) :
    Calls Try.prog 89 #[v] w (MakesAr w n ((X.length : Int) + 2) (amL n X (n * n))) := by
  have hS0 := (St.refl w).newboxF 59 #[.int .i64 0, .int .i64 0, .slice none 0 0]
  have hln := hv.len
  have hix := hv.ixe
  have Hv := Lib.hid hv
  have hl0 := hM.pos
  have hl10 := hM.le
  have hn1 : 1 ≤ n := by rw [hn]; exact (hM.lat 0 (by omega)).pos
  have hn10 : n ≤ 10 := by rw [hn]; exact (hM.lat 0 (by omega)).le
  have hx0 := hix 0 0 rfl (by omega)
  have HX := Lib.hid (show ∀ j, j < X.length → Sq0 n (x3at X j) from fun j hj => by rw [hn, ← hM.len hj]; exact (hM.lat j hj).sq0)
  have c0 := (hS0.oldIII hv).cell 0 (by omega)
  have hl00 := (hv.row 0 (by omega)).len
  rw [← hn] at hl00
  have HL := fun m => Lib.hid (amL_len n X m)
  have HS := fun x y m (hy : y < n) (hm : m = x * n + y) => Lib.hid (amL_succ (X := X) hy hm)
  have HR0 := fun x y => Lib.hid (amR_0 X x y)
  have HRa := fun x y => Lib.hid (amR_all X x y)
  have HRs := fun x y m (h : m < X.length) => Lib.hid (amR_succ (x := x) (y := y) h)
  have HRl := fun x y m (h : m ≤ X.length) => Lib.hid (amR_len (x := x) (y := y) h)
  have HL0 := Lib.hid (show amL n X 0 = [] from rfl)
  obtain ⟨N, hN⟩ : ∃ N, N = n * n := ⟨_, rfl⟩
  rw [← hN]
  have hN100 : N ≤ 100 := by rw [hN]; exact Nat.mul_le_mul hn10 hn10
  have hmul : (n : Int) * (n : Int) = (N : Int) := by rw [hN]; rfl
  have HNn := Lib.hid hN
  clear hN hv hM hn
  have hS2 := (hS0.new 24 #[] (by simp)).newboxF 59 #[.int .i64 n, .int .i64 ((X.length : Int) + 2), .slice (some ⟨w.heap.size + 1, 0, none⟩) 0 0]
  simp only [World.size_alloc, List.cons_append, List.nil_append] at hS2
  go_enter Try.func89, Try.ntmps89
  go_wp2_with fail
  clear c0
  go_loopw [5, 6, 7] (fun i _ _ wr => ∃ (m : Nat) (a : Option Addr) (c : Nat) (us : List Value), m ≤ N ∧ i = .int .i64 m ∧ Hid (us.length = m) ∧ St w.heap.size w wr (box 59 (w.heap.size + 2) [.int .i64 n, .int .i64 ((X.length : Int) + 2), .slice a m c] :: box 59 w.heap.size [.int .i64 0, .int .i64 0, .slice none 0 0] :: own2 (.slice a m c) us (amL n X m))) (fun i _ _ _ => N - (intOf i).toNat)
  case atStart => exact ⟨0, _, 0, [], by omega, rfl, rfl, by rw [HL0.out]; exact hS2⟩
  case round =>
    clear hS0 hS2
    obtain ⟨m, a, c, us, hm, rfl, hl, hS⟩ := hrel
    by_cases hlt : m < N
    · obtain ⟨x, hx⟩ : ∃ x, x = m / n := ⟨_, rfl⟩
      obtain ⟨y, hy⟩ : ∃ y, y = m % n := ⟨_, rfl⟩
      have hxn : x < n := by rw [hx]; exact Nat.div_lt_of_lt_mul (by rw [← HNn.out]; exact hlt)
      have hyn : y < n := by rw [hy]; exact Nat.mod_lt _ (by omega)
      have q1 : (m : Int).tdiv n = (x : Int) := by rw [hx, Int.tdiv_eq_ediv_of_nonneg (by omega)]; rfl
      have q2 : (m : Int).tmod n = (y : Int) := by rw [hy, Int.tmod_eq_emod_of_nonneg (by omega)]; rfl
      have q3 : IntKind.i64.wrap (x : Int) = (x : Int) := IntWalk.i64_in _ (by omega)
      have hxy : m = x * n + y := by rw [hx, hy, Nat.mul_comm]; exact (Nat.div_add_mod m n).symm
      have f0 : ((n : Int) == 0) = false := eq_f (by omega)
      have f1 : ¬ (n : Int) = 0 := by omega
      have f2 : ¬ n = 0 := by omega
      have Hxy := Lib.hid hxy
      clear hx hy hxy
      have hS1 : St w.heap.size w (wr.drew.alloc (.cells #[.int .i64 (x : Int), .int .i64 (y : Int)] 2)) (row 2 (.slice (some ⟨wr.heap.size, 0, none⟩) 2 2) (iv (amR X x y 0)) :: box 59 (w.heap.size + 2) [.int .i64 n, .int .i64 ((X.length : Int) + 2), .slice a m c] :: box 59 w.heap.size [.int .i64 0, .int .i64 0, .slice none 0 0] :: own2 (.slice a m c) us (amL n X m)) :=
        (hS.drew.new 2 #[.int .i64 (x : Int), .int .i64 (y : Int)] (by simp [maxLen])).perm List.perm_append_comm
      go_wp2_with fail
      go_region_held3 (fun _ => True) (((try dsimp only); (repeat' apply And.intro); all_goals (repeat (first | assumption | exact cell_dr (by assumption) | refine cell_dr ?_ | refine cell_al ?_ | refine cell_sc (by assumption) ?_)))) (fail)
      go_wp2_with fail
      clear hS
      go_loopw [6, 7] (fun r j wz => ∃ q : Nat, q ≤ X.length ∧ j = .int .i64 q ∧ St w.heap.size w wz (row 2 r (iv (amR X x y q)) :: box 59 (w.heap.size + 2) [.int .i64 n, .int .i64 ((X.length : Int) + 2), .slice a m c] :: box 59 w.heap.size [.int .i64 0, .int .i64 0, .slice none 0 0] :: own2 (.slice a m c) us (amL n X m))) (fun _ j _ => X.length - (intOf j).toNat)
      case atStart => exact ⟨0, by omega, rfl, hS1⟩
      case round =>
        clear hS1
        obtain ⟨q, hq, rfl, hS⟩ := hrel
        by_cases hlq : q < X.length
        · have hR := hS.oldIII Hv.out
          have cq := hR.cell q hlq
          have hxq := hix (q : Int) q rfl hlq
          have hAq := HX.out q hlq
          have hRq := hR.row q hlq
          have ck := hRq.cell x (by rw [hAq.len]; exact hxn)
          have ik := hRq.ixe (x : Int) x rfl (by rw [hAq.len]; exact hxn)
          have iy := (hRq.row x (by rw [hAq.len]; exact hxn)).ixe (y : Int) y rfl (by rw [hAq.row x hxn]; exact hyn)
          have cy : wr.cell? (el (vat (vsat uss q) x) y) = some (.int .i64 (at2 (x3at X q) x y)) := (hRq.row x (by rw [hAq.len]; exact hxn)).cell y (by rw [hAq.row x hxn]; exact hyn)
          have HC := Lib.hid (show ∀ W, RIII W v vs uss X → W.cell? (el v q) = some (vat vs q) ∧ W.cell? (el (vat vs q) x) = some (vat (vsat uss q) x) ∧ W.cell? (el (vat (vsat uss q) x) y) = some (.int .i64 (at2 (x3at X q) x y)) from fun W hW =>
            ⟨hW.cell q hlq, (hW.row q hlq).cell x (by rw [hAq.len]; exact hxn), ((hW.row q hlq).row x (by rw [hAq.len]; exact hxn)).cell y (by rw [hAq.row x hxn]; exact hyn)⟩)
          have Hs := HRs x y q hlq
          have Hl := Lib.hid (show (amR X x y q).length < 4294967296 by rw [(HRl x y q (by omega)).out]; omega)
          clear hR hRq hAq
          generalize at2 (x3at X q) x y = z at *
          go_wp2_with fail
          go_region_held3 (fun w' => w'.cell? (el v q) = some (vat vs q) ∧ w'.cell? (el (vat vs q) x) = some (vat (vsat uss q) x) ∧ w'.cell? (el (vat (vsat uss q) x) y) = some (.int .i64 z)) (((try dsimp only); (repeat' apply And.intro); all_goals (repeat (first | assumption | exact cell_dr (by assumption) | refine cell_dr ?_ | refine cell_al ?_ | refine cell_sc (by assumption) ?_))))
            (first
            | (refine stepA1 hS.drew 0 rfl Hl.out rfl (.tmp 38) (.tmp 53) rfl (by first | rfl | simp [Act.eval, Act.put]) _ (by first | rfl | simp [Act.eval, Act.put]) ?_; intro v5 w5 hS5; obtain ⟨k1, k2, k3⟩ := HC.out _ (hS5.oldIII Hv.out)))
          all_goals
            go_wp2_with fail
            simp only [List.set_cons_zero] at hS5
            rw [← Hs.out] at hS5
            go_roundw
            case rel => exact ⟨q + 1, by omega, by go_num, hS5⟩
            case measure => simp [intOf]; omega
        · obtain rfl : q = X.length := by omega
          rw [(HRa x y).out] at hS
          obtain ⟨ra, rc, hre⟩ := (hS.rdI 0 rfl).shq
          subst hre
          have b2 := hS.bcell 1 rfl 2 rfl
          have Hsu := HS x y m hyn Hxy.out
          have HLm := HL m
          go_wp2_with (at_builtin; refine appII hS 3 rfl (by rw [hl.out]; omega) rfl _ _ rfl rfl _ rfl rfl ?_; intro v' w4 hS4; obtain ⟨va, vc, hv'⟩ := (hS4.rd 3 rfl).sl.sh; rw [List.length_append, hl.out, List.length_singleton] at hv'; subst hv'; have d2 := hS4.bcell 1 rfl 2 rfl; have f2 := hS4.bfree 1 rfl 2)
          have hS5 := hS4.bstore 1 rfl 2 (.slice va (m + 1) vc)
          simp only [own2, List.set_cons_zero, List.set_cons_succ] at hS5
          go_roundw
          case rel =>
            refine ⟨m + 1, va, vc, us ++ [.slice ra (amRow X x y).length rc], by omega, by go_num, by simp [Hid, hl.out], ?_⟩
            rw [Hsu.out, own2, rowsI_app (by rw [hl.out, HLm.out])]
            exact hS5.perm (by (try simp only [own2, List.cons_append, List.nil_append, List.append_nil]); classical exact List.perm_iff_count.2 (fun a => by simp only [List.cons_append, List.nil_append, List.append_nil, List.count_append, List.count_cons, List.count_nil] <;> omega))
          case measure => simp [intOf]; omega
    · obtain rfl : m = N := by omega
      have b0 := hS.bcell 0 rfl 0 rfl
      have b1 := hS.bcell 0 rfl 1 rfl
      have b2 := hS.bcell 0 rfl 2 rfl
      have c0 := hS.bcell 1 rfl 0 rfl
      have c1 := hS.bcell 1 rfl 1 rfl
      have c2 := hS.bcell 1 rfl 2 rfl
      have f1 := hS.bfree 1 rfl
      go_wp2_with fail
      have hS9 := ((hS.bstore 1 rfl 0 (.int .i64 n)).bstore 1 rfl 1 (.int .i64 ((X.length : Int) + 2))).bstore 1 rfl 2 (.slice a m c)
      refine bodyPost_ret (v := .agg #[.int .i64 n, .int .i64 ((X.length : Int) + 2), .slice a m c]) (by simp [results, Try.results89, go_sem, c0, c1, c2]) rfl ?_
      exact ⟨_, us, rfl, by rw [hl.out, (HL m).out], hS9.sub (((List.Sublist.refl _).cons _).cons _)⟩
set_option maxHeartbeats 4000000 in
set_option maxRecDepth 100000 in
theorem sArrayOfMols_c (v : Value) (vs : List Value) (uss : List (List Value)) (X : List (List (List Int))) (w : World) (hv : RIII w v vs uss X) :
    Calls Try.prog 37 #[v] w (MakesA w (molA X) (molAC X)) := by
  have hS0 := (St.refl w).newboxF 59 #[.int .i64 0, .int .i64 0, .slice none 0 0]
  have HV := Lib.hid (l07Ok_c v vs uss X _ (hS0.oldIII hv))
  have hln := hv.len
  have hix := hv.ixe
  have Hv := Lib.hid hv
  clear hv
  cases hb : molB X
  · rw [hb] at HV
    rw [(molA_1 hb).1, (molA_1 hb).2]
    clear hb
    go_enter Try.func37, Try.ntmps37
    go_wp2_with fail
    refine HV.out.mono ?_
    rintro e w1 ⟨rfl, h1⟩
    have hS1 := hS0.call0 h1
    have b0 := hS1.bcell 0 rfl 0 rfl
    have b1 := hS1.bcell 0 rfl 1 rfl
    have b2 := hS1.bcell 0 rfl 2 rfl
    have f1 := hS1.bfree 0 rfl
    clear hS0 h1
    go_wp2_with fail
    have hS9 := ((hS1.bstore 0 rfl 0 (.int .i64 0)).bstore 0 rfl 1 (.int .i64 0)).bstore 0 rfl 2 (.slice none 0 0)
    refine bodyPost_ret (v := .tuple #[.agg #[.int .i64 0, .int .i64 0, .slice none 0 0], .int .i64 1]) (by simp [results, Try.results37, go_sem, b0, b1, b2]) rfl ?_
    exact MakesA.no rfl rfl hS9
  · have HM := Lib.hid (molB_t hb)
    have hl0 := HM.out.pos
    have hl10 := HM.out.le
    have hlat := HM.out.lat 0 (by omega)
    have hn1 := hlat.pos
    have hn10 := hlat.le
    have hx0 := hix 0 0 rfl (by omega)
    have hl00 := (Hv.out.row 0 (by omega)).len
    rw [hb] at HV
    by_cases hbad : amBad X
    · rw [(molA_2 hb hbad).1, (molA_2 hb hbad).2]
      by_cases hn : (x3at X 0).length < 2
      · clear hbad hb hlat
        go_enter Try.func37, Try.ntmps37
        go_wp2_with fail
        refine HV.out.mono ?_
        rintro e w1 ⟨rfl, h1⟩
        have hS1 := hS0.call0 h1
        have b0 := hS1.bcell 0 rfl 0 rfl
        have b1 := hS1.bcell 0 rfl 1 rfl
        have b2 := hS1.bcell 0 rfl 2 rfl
        have f1 := hS1.bfree 0 rfl
        have c0 := (hS1.oldIII Hv.out).cell 0 (by omega)
        clear hS0 h1
        go_wp2_with fail
        have hS9 := ((hS1.bstore 0 rfl 0 (.int .i64 0)).bstore 0 rfl 1 (.int .i64 0)).bstore 0 rfl 2 (.slice none 0 0)
        refine bodyPost_ret (v := .tuple #[.agg #[.int .i64 0, .int .i64 0, .slice none 0 0], .int .i64 2]) (by simp [results, Try.results37, go_sem, b0, b1, b2]) rfl ?_
        exact MakesA.no rfl rfl hS9
      · have g2 : 8 < (X.length : Int) + 2 := by rcases hbad with h | h <;> omega
        clear hbad hb hlat
        go_enter Try.func37, Try.ntmps37
        go_wp2_with fail
        refine HV.out.mono ?_
        rintro e w1 ⟨rfl, h1⟩
        have hS1 := hS0.call0 h1
        have b0 := hS1.bcell 0 rfl 0 rfl
        have b1 := hS1.bcell 0 rfl 1 rfl
        have b2 := hS1.bcell 0 rfl 2 rfl
        have f1 := hS1.bfree 0 rfl
        have c0 := (hS1.oldIII Hv.out).cell 0 (by omega)
        clear hS0 h1
        go_wp2_with fail
        have hS9 := ((hS1.bstore 0 rfl 0 (.int .i64 0)).bstore 0 rfl 1 (.int .i64 0)).bstore 0 rfl 2 (.slice none 0 0)
        refine bodyPost_ret (v := .tuple #[.agg #[.int .i64 0, .int .i64 0, .slice none 0 0], .int .i64 2]) (by simp [results, Try.results37, go_sem, b0, b1, b2]) rfl ?_
        exact MakesA.no rfl rfl hS9
    · have hA := molA_0 hb hbad
      have g2 : ¬ 8 < (X.length : Int) + 2 := by unfold amBad at hbad; omega
      have g3 : ¬ (x3at X 0).length < 2 := by unfold amBad at hbad; omega
      rw [hA.1, hA.2]
      have HO := fun W a => Lib.hid (l16OfMols_c v vs uss X W (x3at X 0).length a HM.out rfl)
      clear hbad hb hA hlat
      go_enter Try.func37, Try.ntmps37
      go_wp2_with fail
      refine HV.out.mono ?_
      rintro e w1 ⟨rfl, h1⟩
      have hS1 := hS0.call0 h1
      have hR := hS1.oldIII Hv.out
      have c0 := hR.cell 0 (by omega)
      clear hS0 h1
      go_wp2_with fail
      refine (HO _ hR).out.mono ?_
      rintro e w2 ⟨o, uo, rfl, hlo, h2⟩
      have Hlo := Lib.hid hlo
      obtain ⟨oa, oc, hoe⟩ := (h2.rii hlo).1.sl.sh
      subst hoe
      have hS2 := hS1.call h2
      have b0 := hS2.bcell 0 rfl 0 rfl
      have b1 := hS2.bcell 0 rfl 1 rfl
      have b2 := hS2.bcell 0 rfl 2 rfl
      have f1 := hS2.bfree 0 rfl
      clear c0 hR hS1 hlo h2
      unfold av
      go_wp2_with fail
      have hS9 := ((hS2.bstore 0 rfl 0 (.int .i64 (x3at X 0).length)).bstore 0 rfl 1 (.int .i64 ((X.length : Int) + 2))).bstore 0 rfl 2 (.slice oa uo.length oc)
      refine bodyPost_ret (v := .tuple #[.agg #[.int .i64 (x3at X 0).length, .int .i64 ((X.length : Int) + 2), .slice oa uo.length oc], .int .i64 0]) (by simp [results, Try.results37, go_sem, b0, b1, b2]) rfl ?_
      exact MakesA.yes rfl rfl Hlo.out ((List.Sublist.refl _).cons _) hS9


def sz3L (left : Int) : List (List (List Int)) → Int
  | [] => left
  | x :: X => if szII left x < 0 then -1 else sz3L (szII left x) X
def sz3 (left : Int) (X : List (List (List Int))) : Int := if left - X.length < 0 then -1 else sz3L (left - X.length) X
theorem sz3L_drop {X : List (List (List Int))} {k : Nat} (hk : k < X.length) (left : Int) : sz3L left (X.drop k) = if szII left (x3at X k) < 0 then -1 else sz3L (szII left (x3at X k)) (X.drop (k + 1)) := by
  rw [drop_x3at hk]; rfl
/-- what a size that is not spent says -/
structure Small (n : Int) (x : List (List Int)) : Prop where
  len : (x.length : Int) ≤ n
  row : ∀ r ∈ x, (r.length : Int) ≤ n
theorem sz3L_le : ∀ {left : Int} {X : List (List (List Int))}, 0 ≤ sz3L left X → (tot3 X : Int) + sz3L left X ≤ left ∧ ∀ x ∈ X, Small left x
  | left, [], h => by simp [sz3L, tot3]
  | left, x :: X, h => by
    unfold sz3L at h ⊢
    split at h
    · omega
    · rename_i hn
      rw [if_neg hn]
      have h1 := szII_tot2 (left := left) (xss := x) (by omega)
      have h2 := szII_le (left := left) (xss := x) (by omega)
      have h3 := sz3L_le h
      refine ⟨by simp only [tot3]; push_cast; omega, fun y hy => ?_⟩
      rcases List.mem_cons.1 hy with rfl | hy
      · exact ⟨h2.1, h2.2⟩
      · have h4 := h3.2 y hy
        have := szII_top (left := left) (xss := x) (by omega)
        exact ⟨by have := h4.len; omega, fun r hr => by have := h4.row r hr; omega⟩
theorem sz3_le {left : Int} {X : List (List (List Int))} (h : 0 ≤ sz3 left X) : (X.length : Int) ≤ left ∧ (tot3 X : Int) ≤ left ∧ ∀ x ∈ X, Small left x := by
  unfold sz3 at h
  split at h
  · omega
  · have h1 := sz3L_le h
    exact ⟨by omega, by omega, fun x hx => by have h2 := h1.2 x hx; exact ⟨by have := h2.len; omega, fun r hr => by have := h2.row r hr; omega⟩⟩
theorem x3at_mem {X : List (List (List Int))} {k : Nat} (h : k < X.length) : x3at X k ∈ X := by rw [x3at_eq h]; exact List.getElem_mem h
set_option maxHeartbeats 2000000 in
set_option maxRecDepth 100000 in
theorem szInt64SSS_c (v : Value) (vs : List Value) (uss : List (List Value)) (X : List (List (List Int))) (left : Int) (w : World) (hv : RIII w v vs uss X) (hl : 0 ≤ left ∧ left ≤ 1048576) :
    Calls Try.prog 36 #[v, .int .i64 left] w fun e w' => e = .returned (.int .i64 (sz3 left X)) ∧ w = w' := by
  have hln := hv.len
  have hix := hv.ix
  have hc := hv.cell
  have hm := hv.le
  obtain ⟨l0, l1⟩ := hl
  by_cases h : left - X.length < 0
  · go_enter Try.func36, Try.ntmps36
    go_wp2_with fail
    go_ret
    exact ⟨ret_i64 (by rw [sz3, if_pos h]), rfl⟩
  · have H0 := Lib.hid (show sz3 left X = sz3L (left - X.length) X by rw [sz3, if_neg h])
    go_enter Try.func36, Try.ntmps36
    go_wp2_with fail
    go_loop [1, 5] (fun a i => ∃ (k : Nat) (m : Int), k ≤ X.length ∧ i = .int .i64 k ∧ a = .int .i64 m ∧ 0 ≤ m ∧ m ≤ 1048576 ∧ Hid (sz3 left X = sz3L m (X.drop k))) (fun _ i => X.length - (intOf i).toNat)
    case atStart => exact ⟨0, left - X.length, by omega, rfl, rfl, by omega, by omega, H0⟩
    case round =>
      obtain ⟨k, m, hk, rfl, rfl, m0, m1, hI⟩ := hrel
      by_cases hlt : k < X.length
      · have hd := Lib.hid (sz3L_drop hlt m)
        by_cases hs : szII m (x3at X k) < 0
        · go_wp2_with fail
          refine (szInt64SS_c _ _ _ m w (hv.row k hlt) ⟨m0, m1⟩).mono ?_
          rintro e w1 ⟨rfl, rfl⟩
          go_wp2_with fail
          go_ret
          exact ⟨ret_i64 (by rw [hI.out, hd.out, if_pos hs]), rfl⟩
        · have hb2 := szII_top (left := m) (xss := x3at X k) (by omega)
          go_wp2_with fail
          refine (szInt64SS_c _ _ _ m w (hv.row k hlt) ⟨m0, m1⟩).mono ?_
          rintro e w1 ⟨rfl, rfl⟩
          go_wp2_with fail
          go_round
          case rel => exact ⟨k + 1, _, by omega, by go_num, rfl, by omega, by omega, by rw [Hid, hI.out, hd.out, if_neg (by omega)]⟩
          case measure => simp [intOf]; omega
      · go_wp2_with fail
        go_ret
        exact ⟨ret_i64 (by rw [hI.out, List.drop_of_length_le (by omega)]; rfl), rfl⟩
section
variable {ops : Array Oper} {rest : List Oper} {o : Oper} {a : Act} {Q : Exit → Act → World → Prop} {B : Nat} {w0 w : World} {L : List Ent}
theorem mkIII (hS : St B w0 w L) (hg : o.guard = none) (x y : Operand) (hop : o.op = .makeSlice 50 x y) (kl kc : IntKind) (n : Nat) (hx : a.eval x = .int kl n) (hy : a.eval y = .int kc n) (hN : n ≤ 4294967296)
    (hK : ∀ v' w', St B w0 w' (L ++ [row 37 v' (nils n)]) → wpList Try.prog ops Q rest (a.put o.dst v') w') :
    wpList Try.prog ops Q (o :: rest) a w :=
  wpList_st_make hg x y 50 hop 37 (.slice none 0 0) 24 Try.und_isss Try.info_iss rfl hS kl kc n hx hy (by omega) hN hK
theorem stoIII (hS : St B w0 w L) (i : Nat) {v : Value} {us : List Value} (hi : L[i]? = some (row 37 v us)) (j : Nat) (hj : j < us.length) (hg : o.guard = none) (x y : Operand)
    (hop : o.op = .store 37 x y) (hx : a.eval x = .pointer (some (el v j))) (u : Value) (hu : u.cells = #[u]) (hu1 : u.oneCell' = true) (hy : a.eval y = u)
    (hK : ∀ w', St B w0 w' (L.set i (row 37 v (us.set j u))) → wpList Try.prog ops Q rest (a.put o.dst undef) w') :
    wpList Try.prog ops Q (o :: rest) a w :=
  wpList_st_store hg x y 37 hop Try.size_iss hS i hi j hj u hx hy hu hu1 hK
end
/-- squares of its own -/
def MakesIII (w : World) (X : List (List (List Int))) (e : Ending) (w' : World) : Prop := ∃ v vs uss, e = .returned v ∧ Fit3 vs uss X ∧ St w.heap.size w w' (own3 v vs uss X)
theorem fit0 : Fit3 [] [] [] := ⟨rfl, rfl, fun k h => by simp at h⟩
set_option maxHeartbeats 4000000 in
set_option maxRecDepth 100000 in
theorem toInt64SSS_c (v : Value) (vs : List Value) (uss : List (List Value)) (X : List (List (List Int))) (w : World) (hv : RIII w v vs uss X) (hN : X.length ≤ 1048576) (hNN : ∀ x ∈ X, Small 1048576 x) :
    Calls Try.prog 38 #[v] w (MakesIII w X) := by
  have HNN := Lib.hid hNN
  clear hNN
  have hln := hv.len
  have hix := hv.ix
  go_enter Try.func38, Try.ntmps38
  go_wp2_with (at_make; refine mkIII (St.refl w) rfl _ _ rfl _ _ X.length rfl rfl (by omega) ?_; intro v1 w1 hS1)
  have hi1 := run_ix_sl (P := Try.prog) (hS1.rd 0 rfl).sl 50 Try.und_isss Try.size_iss
  simp only [nils, List.length_replicate] at hi1
  go_loopw [4] (fun i wr => ∃ (k : Nat) (ws : List Value) (wss : List (List Value)), k ≤ X.length ∧ i = .int .i64 k ∧ Hid (Fit3 ws wss (X.take k)) ∧ Hid (ws.length = k) ∧ St w.heap.size w wr (row 37 v1 (ws ++ nils (X.length - k)) :: rows3 ws wss (X.take k))) (fun i _ => X.length - (intOf i).toNat)
  case atStart => exact ⟨0, [], [], by omega, rfl, fit0, rfl, hS1⟩
  case round =>
    obtain ⟨k, ws, wss, hk, rfl, hf, hw, hS⟩ := hrel
    by_cases hlt : k < X.length
    · have hck := (hS.oldIII hv).cell k hlt
      have hsm := HNN.out _ (x3at_mem hlt)
      go_wp2_with fail
      refine (toInt64SS_c _ _ _ wr ((hS.oldIII hv).row k hlt) (by have := hsm.len; omega) (fun xs hx => by have := hsm.row xs hx; omega)).mono ?_
      rintro e w2 ⟨u, us2, rfl, hl2, h2⟩
      have hS2 := hS.call h2
      have hsl := (h2.rd 0 rfl).sl
      have Hl2 := Lib.hid hl2
      clear hsm hl2 h2
      go_wp2_with (refine stoIII hS2 0 rfl k (by simp [nils, hw.out]; omega) rfl (.tmp 21) (.tmp 20) rfl rfl u hsl.cells hsl.one rfl ?_; intro w3 hS3)
      go_roundw
      case rel =>
        refine ⟨k + 1, ws ++ [u], wss ++ [us2], by omega, by go_num, by unfold Hid; rw [take_x3at hlt]; exact hf.out.snoc u Hl2.out, by simp [Hid, hw.out], ?_⟩
        have e : (ws ++ nils (X.length - k)).set k u = (ws ++ [u]) ++ nils (X.length - (k + 1)) := by
          rw [nils, show X.length - k = (X.length - (k + 1)) + 1 by omega, List.replicate_succ]
          rw [List.set_append_right _ _ (by rw [hw.out]; omega), hw.out]
          simp [nils]
        rw [take_x3at hlt, rows3_app _ _ _ hf.out.1 hf.out.2.1, ← e]
        exact hS3
      case measure => simp [intOf]; omega
    · go_wp2_with fail
      go_ret
      have ek : k = X.length := by omega
      subst ek
      rw [List.take_length] at hS
      have hf' := hf.out
      rw [List.take_length] at hf'
      exact ⟨_, ws, wss, rfl, hf', by simpa [nils, own3] using hS⟩

end Go.Proofs.Ytpfgbbbjldpnnaa
