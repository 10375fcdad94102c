/- The texts of this claim, run 9: Pn5 Times PCon PMol Pm6 SqB Fm3 Pn2 Nw LPln Prf. -/
import Derived.Test.YtgflhgkcmfjkgaaGreatK1
import Derived.Test.YtgflhgkcmfjkgaaGreatK2
import Derived.Test.YtgflhgkcmfjkgaaGreatK3
import Derived.Test.YtgflhgkcmfjkgaaGreatK4
import Derived.Test.YtgflhgkcmfjkgaaGreatK5
import Derived.Test.YtgflhgkcmfjkgaaGreatK6
import Derived.Test.YtgflhgkcmfjkgaaGreatK7
import Derived.Test.YtgflhgkcmfjkgaaGreatK8
import Derived.Deep.RegionHeld3
import Derived.Deep.DrawnRows
section
/- Walk: the completed plane, of the program. -/
namespace Go.Proofs.YtgflhgkcmfjkgaaGreat
set_option linter.unusedSimpArgs false
set_option linter.unusedVariables false
open Go.RowKit
attribute [local go_sem ↓] Go.wp_at_zero Go.wp_at_succ

theorem cmT_ok {x : Int} {ks : List Int} {m : Nat} {B : List (List Int)} (hB : ∀ b ∈ B, b.length ≤ m) : ∀ j, (cmT x B ks j).length = B.length ∧ ∀ b ∈ cmT x B ks j, b.length ≤ m + j
  | 0 => ⟨rfl, fun b hb => by have := hB b hb; omega⟩
  | j + 1 => by
    obtain ⟨h1, h2⟩ := cmT_ok (x := x) (ks := ks) hB j
    rw [cmT]
    refine ⟨by rw [List.length_set, h1], fun b hb => ?_⟩
    rcases List.mem_or_eq_of_mem_set hb with hb | rfl
    · have := h2 b hb; omega
    · rw [List.length_append]
      by_cases hl : (nth ks j).toNat < (cmT x B ks j).length
      · have := h2 _ (xat_mem hl); simp; omega
      · have : xat (cmT x B ks j) (nth ks j).toNat = [] := by simp [xat, Nat.not_lt.1 hl]
        rw [this]; simp; omega
theorem cmK_ok {P : Nat} {A C : List (List Int)} {m c : Nat} (hA : ∀ b ∈ A, b.length ≤ m) (hC : ∀ i, (xat C i).length ≤ c) : ∀ i, (cmK P A C i).length = A.length ∧ ∀ b ∈ cmK P A C i, b.length ≤ m + i * c
  | 0 => ⟨rfl, fun b hb => by have := hA b hb; omega⟩
  | i + 1 => by
    obtain ⟨h1, h2⟩ := cmK_ok (P := P) hA hC i
    obtain ⟨h3, h4⟩ := cmT_ok (x := (P : Int) + i) (ks := xat C i) h2 (xat C i).length
    rw [cmK]
    refine ⟨by rw [h3, h1], fun b hb => ?_⟩
    have := h4 b hb
    have := hC i
    rw [Nat.add_mul]; omega
theorem nwP_succ (P i : Nat) : nwP P (i + 1) = nwP P i ++ [(P : Int) + i] := by rw [nwP, nwP, List.range_succ, List.map_append]; rfl
theorem nwP_len (P i : Nat) : (nwP P i).length = i := by simp [nwP]
set_option maxHeartbeats 16000000 in
set_option maxRecDepth 100000 in
theorem CompletePlane_c (P : Nat) (v : Value) (us : List Value) (A : List (List Int)) (w : World) (hv : RII w v us A) (hok : dOk P A = true) (ho : ordP afV afK P A ≠ 0) (h32 : P + (pcK A A.length).length ≤ 32) (hl : A.length < 128) :
    Calls Tryz.prog 18 #[dv P v] w (MakesD w (P + (pcK A A.length).length : Nat) (cmB P A (pcK A A.length)) 0) := by
  obtain ⟨a, c, hsh⟩ := hv.1.sl.sh
  rw [hv.2.1] at hsh
  subst hsh
  have hD := dOk_t hok
  have hS0 := ((St.refl w).newboxF 26 #[.int .i64 P, .slice a A.length c]).newboxF 26 #[.int .i64 0, .slice none 0 0]
  simp only [World.size_alloc] at hS0
  have b0 := hS0.bcell 1 rfl 0 rfl
  have b1 := hS0.bcell 1 rfl 1 rfl
  have K1 := Lib.hid (ParallelClasses_c P (.slice a A.length c) us A _ (hS0.oldII hv) hok ho)
  have hA32 : ∀ b ∈ A, b.length ≤ 32 := fun b hb => by
    have := inc_len (hD.inc b hb) (by have := hD.pos; omega)
    have := hD.le; omega
  have K2 := fun W h => Lib.hid (copyLists_c (.slice a A.length c) us A W h (by omega) fun xs hx => by have := hA32 xs hx; omega)
  have HC := Lib.hid (pcK_ok A A.length)
  have hCl : ∀ i, (xat (pcK A A.length) i).length ≤ 128 := fun i => by
    by_cases hi : i < (pcK A A.length).length
    · have := (HC.out.2 _ (xat_mem hi)).2.1; omega
    · rw [show xat (pcK A A.length) i = [] by simp [xat, Nat.not_lt.1 hi]]; simp
  have HK := fun i => Lib.hid (cmK_ok (P := P) hA32 hCl i)
  have HT := fun (i j : Nat) => Lib.hid (cmT_ok (x := (P : Int) + i) (ks := xat (pcK A A.length) i) (HK i).out.2 j)
  have HN := fun i => Lib.hid (nwP_succ P i)
  have Hcm := Lib.hid (show cmB P A (pcK A A.length) = srtL (cmU P A (pcK A A.length)) from rfl)
  have Hcu := Lib.hid (show cmU P A (pcK A A.length) = cmK P A (pcK A A.length) (pcK A A.length).length ++ [nwP P (pcK A A.length).length] from rfl)
  have Hrows := Lib.hid (fun xs (hx : xs ∈ cmU P A (pcK A A.length)) => (show xs.length ≤ 1048576 by
    rw [Hcu.out] at hx
    rcases List.mem_append.1 hx with hx | hx
    · have := (HK _).out.2 xs hx
      have : (pcK A A.length).length * 128 ≤ 32 * 128 := Nat.mul_le_mul_right 128 (by omega)
      omega
    · rw [List.mem_singleton.1 hx, nwP_len]; omega))
  have Hcul := Lib.hid (show (cmU P A (pcK A A.length)).length ≤ 128 by rw [Hcu.out, List.length_append, (HK _).out.1]; simp; omega)
  have Hcml := Lib.hid (show (cmB P A (pcK A A.length)).length = (cmU P A (pcK A A.length)).length by rw [Hcm.out, srtL_len])
  have HCe := fun i (hi : i < (pcK A A.length).length) j (hj : j < (xat (pcK A A.length) i).length) => Lib.hid ((HC.out.2 _ (xat_mem hi)).2.2 _ (nth_mem hj))
  have HK0 := Lib.hid (show cmK P A (pcK A A.length) 0 = A from rfl)
  have HKs := fun i => Lib.hid (show cmK P A (pcK A A.length) (i + 1) = cmT ((P : Int) + i) (cmK P A (pcK A A.length) i) (xat (pcK A A.length) i) (xat (pcK A A.length) i).length from rfl)
  generalize pcK A A.length = C at *
  generalize hcb : cmB P A C = E at *
  unfold dv at K1 ⊢
  clear hD hok ho hA32 HC hcb
  go_enter Tryz.func18, Tryz.ntmps18
  go_wp2_with (go_at_call 17; refine K1.out.mono ?_; rintro e2 w2 ⟨v4, u4, rfl, hl4, h2⟩; have hS2 := hS0.call h2; have Hl4 := Lib.hid hl4; clear hl4)
  have rC := (hS2.sub (List.sublist_append_right _ _)).rii Hl4.out
  have hlc := rC.len
  have hlec := rC.le
  have hxc := rC.ixe
  have hS2 : St w.heap.size w w2 (box 26 (w.heap.size + 1) [.int .i64 0, .slice none 0 0] :: box 26 w.heap.size [.int .i64 P, .slice a A.length c] :: own2 v4 u4 C) := hS2
  clear hS0 K1 b0 b1 h2
  have hS := hS2
  have q0 := fun s : SS w.heap.size w (box 26 (w.heap.size + 1) [.int .i64 0, .slice none 0 0] :: box 26 w.heap.size [.int .i64 P, .slice a A.length c] :: own2 v4 u4 C) => s.st.bcell 1 rfl 0 rfl
  have HZ := fun s : SS w.heap.size w (box 26 (w.heap.size + 1) [.int .i64 0, .slice none 0 0] :: box 26 w.heap.size [.int .i64 P, .slice a A.length c] :: own2 v4 u4 C) => Lib.hid (szII_c v4 u4 C s.w ((s.st.sub (.cons _ (.cons _ (.refl _)))).rii Hl4.out))
  have w1 : IntKind.i64.wrap ((P : Int) + (C.length : Int)) = (P : Int) + (C.length : Int) := IntWalk.i64_in _ (by omega)
  have hne : Nonempty (SS _ _ _) := ⟨⟨_, hS⟩⟩
  refine wp_region_st (by kernel_rfl) (by kernel_rfl) hS ?_
  repeat (go_big_quiet_step ((go_at_call 47; exact st_quiet0 (HZ _).out)))
  refine wpQuiet_nil ?_
  rintro _ ⟨s2, rfl⟩
  have hS3 := s2.st
  generalize s2.w = w3 at hS3 ⊢
  clear hS hS2 q0 HZ rC
  have b1 := hS3.bcell 1 rfl 1 rfl
  have K2 := K2 _ (hS3.oldII hv)
  go_wp2_with (go_at_call 62; refine K2.out.mono ?_; rintro e2 w4 ⟨vb, ub, rfl, hlb, h4⟩; have hS4 := hS3.call h4)
  have Hlb := Lib.hid hlb
  obtain ⟨LB, hLB⟩ : ∃ LB : List Ent, LB = (box 26 (w.heap.size + 1) [.int .i64 0, .slice none 0 0] :: box 26 w.heap.size [.int .i64 P, .slice a A.length c] :: own2 v4 u4 C) := ⟨_, rfl⟩
  rw [← hLB] at hS4
  have hS5 := (hS4.newnil 2).perm (L' := row 2 (.slice none 0 0) (iv (nwP P 0)) :: (own2 vb ub (cmK P A C 0) ++ LB)) (by rw [HK0.out]; exact (List.perm_append_singleton _ _).trans (List.Perm.cons _ List.perm_append_comm))
  have hbx : Hid (LB[1]? = some (box 26 w.heap.size [.int .i64 P, .slice a A.length c])) := Lib.hid (by rw [hLB]; rfl)
  have hsb : Hid ((own2 v4 u4 C).Sublist LB) := Lib.hid (by rw [hLB]; exact .cons _ (.cons _ (.refl _)))
  have HLB := Lib.hid hLB
  have Hlb0 : Hid (ub.length = (cmK P A C 0).length) := Lib.hid (by rw [HK0.out]; exact hlb)
  clear hS3 hS4 h4 hLB b1 K2 hlb
  go_loopw [36, 8, 9, 10, 11, 13] (fun i o _ _ _ _ wr => ∃ (k : Nat) (v8 : Value) (ub : List Value), v8 = o ∧ k ≤ C.length ∧ i = .int .i64 k ∧ Hid (ub.length = (cmK P A C k).length) ∧ St w.heap.size w wr (row 2 v8 (iv (nwP P k)) :: (own2 vb ub (cmK P A C k) ++ LB))) (fun i _ _ _ _ _ _ => C.length - (intOf i).toNat)
  case atStart => exact ⟨0, _, ub, rfl, by omega, rfl, Hlb0, hS5⟩
  case round =>
    clear hS5 Hlb0 Hlb
    obtain ⟨k, v8, ub, rfl, hk, rfl, hlu, hS⟩ := hrel
    by_cases hlt : k < C.length
    · have rC := (hS.sub ((hsb.out.trans (List.sublist_append_right _ _)).cons _)).rii Hl4.out
      have ck := rC.cell k hlt
      have xk := hxc (k : Int) k rfl hlt
      have b0 := hS.bcell _ (at_cons (at_app hbx.out)) 0 rfl
      have hlk := (rC.row k hlt).len
      have hlek := (rC.row k hlt).le
      have hxkk := (rC.row k hlt).ixe
      have HKs := HKs k
      have HT := HT k
      have HN := HN k
      have HKk := HK k
      have HCe := HCe k hlt
      have hCk := hCl k
      have w2 : IntKind.i64.wrap ((P : Int) + (k : Int)) = (P : Int) + (k : Int) := IntWalk.i64_in _ (by omega)
      obtain ⟨cs, hcs⟩ : ∃ cs, xat C k = cs := ⟨_, rfl⟩
      have Hcs := Lib.hid hcs
      rw [hcs] at hlk hlek hxkk HKs HT HCe hCk
      clear hcs
      go_wp2_with fail
      go_loopw [47, 13] (fun i _ wr => ∃ (j : Nat) (ub : List Value), j ≤ cs.length ∧ i = .int .i64 j ∧ Hid (ub.length = (cmT ((P : Int) + k) (cmK P A C k) cs j).length) ∧ St w.heap.size w wr (row 2 v8 (iv (nwP P k)) :: (own2 vb ub (cmT ((P : Int) + k) (cmK P A C k) cs j) ++ LB))) (fun i _ _ => cs.length - (intOf i).toNat)
      case atStart => exact ⟨0, ub, by omega, rfl, hlu, hS⟩
      case round =>
        clear hS rC ck b0 hlu
        obtain ⟨j, ub, hj, rfl, hlu, hS⟩ := hrel
        by_cases hjt : j < cs.length
        · have rC := (hS.sub ((hsb.out.trans (List.sublist_append_right _ _)).cons _)).rii Hl4.out
          have rk := rC.row k hlt
          rw [Hcs.out] at rk
          have cj := rk.cell j hjt
          have xj := hxkk (j : Int) j rfl hjt
          have hel := (HCe j hjt).out
          obtain ⟨kk, hkk⟩ := Int.eq_ofNat_of_zero_le hel.1
          rw [hkk] at cj
          have hkA : kk < A.length := by omega
          have Hln := Lib.hid (((HT j).out.1).trans HKk.out.1)
          have rB := (hS.sub ((List.sublist_append_left _ _).cons _)).rii hlu.out
          have cb := rB.cell kk (by rw [Hln.out]; exact hkA)
          have xb := rB.ixe (kk : Int) kk rfl (by rw [Hln.out]; exact hkA)
          have HTs := Lib.hid (show cmT ((P : Int) + k) (cmK P A C k) cs (j + 1) = (cmT ((P : Int) + k) (cmK P A C k) cs j).set kk (xat (cmT ((P : Int) + k) (cmK P A C k) cs j) kk ++ [(P : Int) + k]) by rw [cmT, hkk, Int.toNat_natCast])
          have Hxl := Lib.hid (show (xat (cmT ((P : Int) + k) (cmK P A C k) cs j) kk).length < 4294967296 by
            have h1 := (HT j).out.2 _ (xat_mem (show kk < _ by rw [Hln.out]; exact hkA))
            have : k * 128 ≤ 32 * 128 := Nat.mul_le_mul_right 128 (by omega)
            omega)
          have HkB := Lib.hid (show kk < (cmT ((P : Int) + k) (cmK P A C k) cs j).length by rw [Hln.out]; exact hkA)
          generalize cmT ((P : Int) + k) (cmK P A C k) cs j = B at *
          have hat : (row 2 v8 (iv (nwP P k)) :: (own2 vb ub B ++ LB))[kk + 1 + 1]? = _ := own2_atP (v := vb) (L2 := LB) hlu.out HkB.out
          clear rC rk rB hel hkk
          go_wp2_with (first
            | (refine stoII hS7 1 rfl kk (by rw [hlu.out]; exact HkB.out) rfl _ _ rfl rfl v7 s7.cells s7.one rfl ?_; intro w8 hS8; simp only [List.set_cons_succ] at hS8; rw [own2_putP hlu.out HkB.out] at hS8)
            | (at_builtin; refine appI hS (kk + 1 + 1) hat Hxl.out rfl _ _ rfl rfl _ rfl ?_; intro v7 w7 hS7; have s7 := (hS7.rdI (kk + 1 + 1) (List.getElem?_set_self (by rw [List.length_cons, own2, List.length_append, List.length_cons, rowsI_len hlu.out]; have := HkB.out; omega))).sl))
          rw [← HTs.out] at hS8
          go_roundw
          case rel => exact ⟨j + 1, _, by omega, by go_num, by rw [HTs.out]; simp [Hid, hlu.out], hS8⟩
          case measure => simp [intOf]; omega
        · obtain rfl : j = cs.length := by omega
          rw [← HKs.out] at hS hlu
          have hN := Lib.hid (show (nwP P k).length < 4294967296 by rw [nwP_len]; omega)
          go_wp2_with (at_builtin; refine appI hS 0 rfl hN.out rfl _ _ rfl rfl _ rfl ?_; intro v5 w5 hS5; simp only [List.set_cons_zero] at hS5)
          rw [← HN.out] at hS5
          go_roundw
          case rel => exact ⟨k + 1, _, ub, rfl, by omega, by go_num, hlu, hS5⟩
          case measure => simp [intOf]; omega
    · obtain rfl : k = C.length := by omega
      obtain ⟨qa, qc, hq⟩ := (hS.rdI 0 rfl).sl.sh
      rw [iv_len, nwP_len] at hq
      subst hq
      have hS7 := hS.perm (L' := own2 vb ub (cmK P A C C.length) ++ LB ++ [row 2 (.slice qa C.length qc) (iv (nwP P C.length))]) (List.perm_append_singleton _ _).symm
      have hN := Lib.hid (show ub.length < 4294967296 by rw [hlu.out, (HK _).out.1]; omega)
      have HlE : Hid ((ub ++ [Value.slice qa C.length qc]).length = (cmU P A C).length) := Lib.hid (by rw [Hcu.out]; simp [hlu.out])
      have HPC : Hid ((((P + C.length : Nat) : Int)) = (P : Int) + (C.length : Int)) := Lib.hid (by omega)
      have KS := fun vz W (hW : RII W vz (ub ++ [Value.slice qa C.length qc]) (cmU P A C)) => Lib.hid (sorted_c ((P : Int) + (C.length : Int)) vz _ _ W hW Hcul.out Hrows.out)
      rw [← Hcm.out] at KS
      rw [HPC.out]
      go_wp2_with (first
        | (at_builtin; refine appII hS7 0 rfl hN.out rfl _ _ rfl rfl _ rfl rfl ?_; intro v5 w5 hS5; have hS8 := own2_snocL hlu.out hS5; rw [← Hcu.out] at hS8; have rU := (hS8.sub (List.sublist_append_left _ _)).rii HlE.out; have hSb := hS8.sub (List.sublist_append_right _ _); rw [HLB.out] at hSb)
        | (go_at_call 57; refine (KS _ _ rU).out.mono ?_; rintro e4 w4 ⟨v4, us4, rfl, hl4, h4⟩; obtain ⟨a4, c4, hv4⟩ := (h4.rd 0 (e := 44) (v := v4) (us := us4) rfl).sl.sh; rw [hl4] at hv4; subst hv4; unfold dv; have hB := hSb.call h4; have e0 := hB.bcell 0 rfl 0 rfl; have e1 := hB.bcell 0 rfl 1 rfl; have f0 := hB.bfree 0 rfl; have h6 := (hB.bstore 0 rfl 0 (.int .i64 ((P : Int) + (C.length : Int)))).bstore 0 rfl 1 (.slice a4 E.length c4); have g0 := h6.bcell 0 rfl 0 rfl; have g1 := h6.bcell 0 rfl 1 rfl))
      refine bodyPost_ret (v := .tuple #[.agg #[.int .i64 ((P : Int) + (C.length : Int)), .slice a4 E.length c4], .int .i64 0]) (by simp [results, Tryz.results18, go_sem, g0, g1]) rfl ?_
      exact ⟨_, us4, rfl, hl4, h6.sub (.cons _ (.cons _ (List.sublist_append_right _ _)))⟩
end Go.Proofs.YtgflhgkcmfjkgaaGreat
end

section
/- Walks: products of matrices. Walks: MatrixMul of both sides. -/
namespace Go.Proofs.YtgflhgkcmfjkgaaGreat
set_option linter.unusedSimpArgs false
set_option linter.unusedVariables false
open Go.RowKit
attribute [local go_sem ↓] Go.wp_at_zero Go.wp_at_succ
section
variable {ops : Array Oper} {o : Oper} {a : Act} {K : Act → World → Prop} {Q : Exit → Act → World → Prop} {E : Prop} {B : Nat} {w0 w : World} {L : List Ent}
/-- append of one integer to an owned row of integers, as a step -/
theorem stepI1 (hS : St B w0 w L) (i : Nat) {v : Value} {xs : List Int} (hi : L[i]? = some (row 2 v (iv xs))) (hN : xs.length < 4294967296) (hg : o.guard = none) (s x : Operand)
    (hop : o.op = .call { callee := .builtin .append, args := #[s, x], argTypes := #[44, 44] }) (hs : a.eval s = v) (n : Int) (hx : a.eval x = .slice (some ⟨w.heap.size, 0, none⟩) 1 1)
    (hK : ∀ v' w', St B w0 w' (L.set i (row 2 v' (iv (xs ++ [n])))) → K (a.put o.dst v') w') :
    if Region.wanted o (yielded ops a.tmps) = true then Oper.wp Tryz.prog o a (w.alloc (.cells #[.int .i64 n] 2)) K Q else E :=
  step_st_app1 hg s x 44 hop 2 (.int .i64 0) 8 Tryz.und_is Tryz.info_i rfl hS i hi hs (.int .i64 n) hx rfl (by omega) (by rw [iv_len]; exact hN)
    (fun v' w' h => hK v' w' (by rw [iv_app, iv_one]; exact h))
end
end Go.Proofs.YtgflhgkcmfjkgaaGreat
end

section
/- Isotopes and conjugates of Latin squares, in plain terms. Conjugates of Latin squares as lists of lists. In plain terms. -/
namespace Go.Proofs.YtgflhgkcmfjkgaaGreat
set_option linter.unusedSimpArgs false
set_option linter.unusedVariables false

structure Latin (n : Nat) (a : Nat → Nat → Nat) : Prop where
  row : ∀ x, x < n → Bij n (a x)
  col : ∀ y, y < n → Bij n fun x => a x y
def IsoOf (n : Nat) (a : Nat → Nat → Nat) (r c s : Nat → Nat) (b : Nat → Nat → Nat) : Prop := ∀ x y, x < n → y < n → b (r x) (c y) = s (a x y)
section
variable {n : Nat} {a b d : Nat → Nat → Nat} {r c s q : Nat → Nat}
theorem IsoOf.comp {r' c' s' : Nat → Nat} (hr : Bij n r) (hc : Bij n c) (h1 : IsoOf n a r c s b) (h2 : IsoOf n b r' c' s' d) : IsoOf n a (fun x => r' (r x)) (fun x => c' (c x)) (fun x => s' (s x)) d := fun x y hx hy => by
  show d (r' (r x)) (c' (c y)) = s' (s (a x y))
  rw [h2 _ _ (hr.lt x hx) (hc.lt y hy), h1 x y hx hy]
theorem IsoOf.back {ri ci si : Nat → Nat} (hl : Latin n a) (hr : Bij n r) (hc : Bij n c) (h1 : IsoOf n a r c s b) (h2 : IsoOf n b ri ci si d) (er : ∀ x, x < n → ri (r x) = x) (ec : ∀ x, x < n → ci (c x) = x) (es : ∀ x, x < n → si (s x) = x)
    {x y : Nat} (hx : x < n) (hy : y < n) : d x y = a x y := by
  have := h2 _ _ (hr.lt x hx) (hc.lt y hy)
  rw [er x hx, ec y hy, h1 x y hx hy, es _ ((hl.row x hx).lt y hy)] at this
  exact this
theorem IsoOf.latin (hl : Latin n a) (hr : Bij n r) (hc : Bij n c) (hs : Bij n s) (h : IsoOf n a r c s b) : Latin n b where
  row x hx := by
    obtain ⟨x', hx', rfl⟩ := hr.onto hx
    refine ⟨fun y hy => ?_, fun y z hy hz e => ?_⟩
    · obtain ⟨y', hy', rfl⟩ := hc.onto hy
      rw [h x' y' hx' hy']; exact hs.lt _ ((hl.row x' hx').lt y' hy')
    · obtain ⟨y', hy', rfl⟩ := hc.onto hy
      obtain ⟨z', hz', rfl⟩ := hc.onto hz
      rw [h x' y' hx' hy', h x' z' hx' hz'] at e
      rw [(hl.row x' hx').inj y' z' hy' hz' (hs.inj _ _ ((hl.row x' hx').lt y' hy') ((hl.row x' hx').lt z' hz') e)]
  col y hy := by
    obtain ⟨y', hy', rfl⟩ := hc.onto hy
    refine ⟨fun x hx => ?_, fun x z hx hz e => ?_⟩
    · obtain ⟨x', hx', rfl⟩ := hr.onto hx
      rw [h x' y' hx' hy']; exact hs.lt _ ((hl.row x' hx').lt y' hy')
    · obtain ⟨x', hx', rfl⟩ := hr.onto hx
      obtain ⟨z', hz', rfl⟩ := hr.onto hz
      rw [h x' y' hx' hy', h z' y' hz' hy'] at e
      rw [(hl.col y' hy').inj x' z' hx' hz' (hs.inj _ _ ((hl.row x' hx').lt y' hy') ((hl.row z' hz').lt y' hy') e)]
/-- the triple of a place -/
def tri (x y s : Nat) : Nat → Nat := fun i => if i = 0 then x else if i = 1 then y else s
def ConjOf (n : Nat) (a : Nat → Nat → Nat) (p : Nat → Nat) (b : Nat → Nat → Nat) : Prop := ∀ x y, x < n → y < n → b (tri x y (a x y) (p 0)) (tri x y (a x y) (p 1)) = tri x y (a x y) (p 2)
theorem tri_lt {x y s : Nat} (hx : x < n) (hy : y < n) (hs : s < n) (i : Nat) : tri x y s i < n := by
  unfold tri; split
  · exact hx
  · split
    · exact hy
    · exact hs
theorem ConjOf.comp {p q : Nat → Nat} (hl : Latin n a) (hq : Bij 3 q) (h1 : ConjOf n a p b) (h2 : ConjOf n b q d) : ConjOf n a (fun i => p (q i)) d := fun x y hx hy => by
  have hs := (hl.row x hx).lt y hy
  have h := h2 _ _ (tri_lt hx hy hs (p 0)) (tri_lt hx hy hs (p 1))
  rw [h1 x y hx hy] at h
  have e : ∀ i, i < 3 → tri (tri x y (a x y) (p 0)) (tri x y (a x y) (p 1)) (tri x y (a x y) (p 2)) i = tri x y (a x y) (p i) := fun i hi => by
    rcases i with _ | _ | _ | i
    · rfl
    · rfl
    · rfl
    · omega
  rw [e _ (hq.lt 0 (by omega)), e _ (hq.lt 1 (by omega)), e _ (hq.lt 2 (by omega))] at h
  exact h
end

section
variable {n : Nat} {a : Nat → Nat → Nat}
/-- two of the three numbers of a place tell it -/
theorem tri_inj (hl : Latin n a) {i j : Nat} (hi : i < 3) (hj : j < 3) (hij : i ≠ j) {x y x' y' : Nat} (hx : x < n) (hy : y < n) (hx' : x' < n) (hy' : y' < n)
    (e1 : tri x y (a x y) i = tri x' y' (a x' y') i) (e2 : tri x y (a x y) j = tri x' y' (a x' y') j) : x = x' ∧ y = y' := by
  have r : ∀ y y', y < n → y' < n → x = x' → a x y = a x' y' → y = y' := fun y y' hy hy' e h => by subst e; exact (hl.row x hx).inj y y' hy hy' h
  have c : y = y' → a x y = a x' y' → x = x' := fun e h => by subst e; exact (hl.col y hy).inj x x' hx hx' h
  rcases i with _ | _ | _ | i <;> rcases j with _ | _ | _ | j <;> simp [tri] at e1 e2 hij <;> first | omega | skip
  all_goals first
    | exact ⟨e1, r y y' hy hy' e1 e2⟩
    | exact ⟨c e1 e2, e1⟩
    | exact ⟨e2, r y y' hy hy' e2 e1⟩
    | exact ⟨c e2 e1, e2⟩
theorem tri_onto (hl : Latin n a) {i j : Nat} (hi : i < 3) (hj : j < 3) (hij : i ≠ j) {u v : Nat} (hu : u < n) (hv : v < n) :
    ∃ x y, x < n ∧ y < n ∧ tri x y (a x y) i = u ∧ tri x y (a x y) j = v := by
  rcases i with _ | _ | _ | i <;> rcases j with _ | _ | _ | j <;> first | omega | skip
  · exact ⟨u, v, hu, hv, rfl, rfl⟩
  · obtain ⟨y, hy, e⟩ := (hl.row u hu).onto hv
    exact ⟨u, y, hu, hy, rfl, e⟩
  · exact ⟨v, u, hv, hu, rfl, rfl⟩
  · obtain ⟨x, hx, e⟩ := (hl.col u hu).onto hv
    exact ⟨x, u, hx, hu, rfl, e⟩
  · obtain ⟨y, hy, e⟩ := (hl.row v hv).onto hu
    exact ⟨v, y, hv, hy, e, rfl⟩
  · obtain ⟨x, hx, e⟩ := (hl.col v hv).onto hu
    exact ⟨x, v, hx, hv, e, rfl⟩
end
def af (A : List (List Int)) (x y : Nat) : Nat := (at2 A x y).toNat
theorem Lat.latin {A : List (List Int)} (h : Lat A) : Latin A.length (af A) where
  row x hx := by
    have := (h.row x hx).bij
    rw [h.len x hx] at this
    exact this
  col y hy := by
    have := (h.col y hy).bij
    rw [colL_len] at this
    refine ⟨fun x hx => ?_, fun x z hx hz e => this.inj x z hx hz ?_⟩
    · have h2 := this.lt x hx
      unfold pf at h2; rw [nth_colL hx] at h2; exact h2
    · unfold pf; rw [nth_colL hx, nth_colL hz]; exact e
/-- number i of the place of a square -/
def trA (A : List (List Int)) (x y i : Nat) : Nat := tri x y (af A x y) i
structure ConR (A : List (List Int)) (p : List Int) (B : List (List Int)) : Prop where
  sqr : Sqr A.length B
  at' : ∀ x y, x < A.length → y < A.length → at2 B (trA A x y (pf p 0)) (trA A x y (pf p 1)) = trA A x y (pf p 2)
structure ConP (A : List (List Int)) (p : List Int) (x y : Nat) (B : List (List Int)) : Prop where
  sqr : Sqr A.length B
  at' : ∀ x' y', x' < A.length → y' < A.length → (x' < x ∨ x' = x ∧ y' < y) → at2 B (trA A x' y' (pf p 0)) (trA A x' y' (pf p 1)) = trA A x' y' (pf p 2)
section
variable {A B C D : List (List Int)} {p q : List Int}
theorem trA_lt (h : Lat A) {x y : Nat} (hx : x < A.length) (hy : y < A.length) (i : Nat) : trA A x y i < A.length := tri_lt hx hy ((h.latin.row x hx).lt y hy) i
theorem p3_lt (hp : IsP p) (h3 : p.length = 3) {i : Nat} (hi : i < 3) : pf p i < 3 := by have := hp.pf_lt (j := i) (by omega); omega
theorem p3_ne (hp : IsP p) (h3 : p.length = 3) {i j : Nat} (hi : i < 3) (hj : j < 3) (h : i ≠ j) : pf p i ≠ pf p j := fun e => h (hp.bij.inj i j (by omega) (by omega) e)
theorem ConP.start : ConP A p 0 0 (sqF A.length fun _ _ => 0) := ⟨sqF_sqr _ _, fun _ _ _ _ h => by omega⟩
theorem ConP.step (hA : Lat A) (hp : IsP p) (h3 : p.length = 3) {x y : Nat} {S : List (List Int)} (h : ConP A p x y S) (hx : x < A.length) (hy : y < A.length) :
    ConP A p x (y + 1) (putS S (trA A x y (pf p 0)) (trA A x y (pf p 1)) (trA A x y (pf p 2))) := by
  have h1 := trA_lt hA hx hy (pf p 0)
  have h2 := trA_lt hA hx hy (pf p 1)
  refine ⟨putS_sqr h.sqr h1 _ _, fun x' y' hx' hy' hl => ?_⟩
  rw [at2_putS h.sqr h1 h2]
  split
  · rename_i e
    obtain ⟨rfl, rfl⟩ := tri_inj hA.latin (p3_lt hp h3 (by omega)) (p3_lt hp h3 (by omega)) (p3_ne hp h3 (i := 0) (j := 1) (by omega) (by omega) (by omega)) hx hy hx' hy' e.1 e.2
    rfl
  · rename_i e
    refine h.at' x' y' hx' hy' ?_
    rcases hl with hl | ⟨rfl, hl⟩
    · exact .inl hl
    · refine .inr ⟨rfl, ?_⟩
      by_cases e2 : y' = y
      · subst e2; exact absurd ⟨rfl, rfl⟩ e
      · omega
theorem ConP.next {x : Nat} {S : List (List Int)} (h : ConP A p x A.length S) : ConP A p (x + 1) 0 S :=
  ⟨h.sqr, fun x' y' hx' hy' hl => h.at' x' y' hx' hy' (by omega)⟩
theorem ConP.done {S : List (List Int)} (h : ConP A p A.length 0 S) : ConR A p S := ⟨h.sqr, fun x y hx hy => h.at' x y hx hy (.inl hx)⟩
theorem ConR.el (hA : Lat A) (hp : IsP p) (h3 : p.length = 3) (h : ConR A p B) : Sq0 A.length B := by
  refine ⟨h.sqr, fun u v hu hv => ?_⟩
  obtain ⟨x, y, hx, hy, rfl, rfl⟩ := tri_onto hA.latin (p3_lt hp h3 (i := 0) (by omega)) (p3_lt hp h3 (i := 1) (by omega)) (p3_ne hp h3 (by omega) (by omega) (by omega)) hu hv
  have e1 := h.at' x y hx hy
  have e2 := trA_lt hA hx hy (pf p 2)
  unfold trA at e1 e2
  rw [e1]; omega
/-- conjugates are Latin squares -/
theorem ConR.lat (hA : Lat A) (hp : IsP p) (h3 : p.length = 3) (h : ConR A p B) : Lat B := by
  have h0 := h.el hA hp h3
  have hb := h.sqr.len
  have on := fun {u v : Nat} (hu : u < A.length) (hv : v < A.length) => tri_onto hA.latin (p3_lt hp h3 (i := 0) (by omega)) (p3_lt hp h3 (i := 1) (by omega)) (p3_ne hp h3 (by omega) (by omega) (by omega)) hu hv
  refine ⟨by rw [hb]; exact hA.pos, by rw [hb]; exact hA.le, fun x hx => by rw [hb] at hx ⊢; exact h0.row x hx, fun u hu => ?_, fun v hv => ?_⟩
  · rw [hb] at hu
    refine ⟨fun v hv => ?_, fun v v' hv hv' e => ?_⟩
    · rw [h0.row u hu] at hv ⊢; exact h0.el u v hu hv
    · rw [h0.row u hu] at hv hv'
      obtain ⟨x, y, hx, hy, e1, e2⟩ := on hu hv
      obtain ⟨x', y', hx', hy', e1', e2'⟩ := on hu hv'
      have f1 := h.at' x y hx hy
      have f2 := h.at' x' y' hx' hy'
      unfold trA at f1 f2
      rw [e1, e2] at f1
      rw [e1', e2'] at f2
      have e' : at2 B u v = at2 B u v' := e
      rw [f1, f2] at e'
      obtain ⟨rfl, rfl⟩ := tri_inj hA.latin (p3_lt hp h3 (by omega)) (p3_lt hp h3 (by omega)) (p3_ne hp h3 (i := 0) (j := 2) (by omega) (by omega) (by omega)) hx hy hx' hy' (e1.trans e1'.symm) (by omega)
      rw [← e2, ← e2']
  · rw [hb] at hv
    refine ⟨fun u hu => ?_, fun u u' hu hu' e => ?_⟩
    · rw [colL_len, hb] at hu ⊢; rw [nth_colL (by rw [hb]; exact hu)]; exact h0.el u v hu hv
    · rw [colL_len, hb] at hu hu'
      rw [nth_colL (by rw [hb]; exact hu), nth_colL (by rw [hb]; exact hu')] at e
      obtain ⟨x, y, hx, hy, e1, e2⟩ := on hu hv
      obtain ⟨x', y', hx', hy', e1', e2'⟩ := on hu' hv
      have f1 := h.at' x y hx hy
      have f2 := h.at' x' y' hx' hy'
      unfold trA at f1 f2
      rw [e1, e2] at f1
      rw [e1', e2'] at f2
      rw [f1, f2] at e
      obtain ⟨rfl, rfl⟩ := tri_inj hA.latin (p3_lt hp h3 (by omega)) (p3_lt hp h3 (by omega)) (p3_ne hp h3 (i := 1) (j := 2) (by omega) (by omega) (by omega)) hx hy hx' hy' (e2.trans e2'.symm) (by omega)
      rw [← e1, ← e1']
/-- conjugates of conjugates -/
theorem ConR.comp (hA : Lat A) (hp : IsP p) (hq : IsP q) (h3 : p.length = 3) (hq3 : q.length = 3) (h1 : ConR A p B) (h2 : ConR B q C) : ConR A (cmpL q p) C := by
  have hb := h1.sqr.len
  have hl := hA.latin
  refine ⟨by rw [← hb]; exact h2.sqr, fun x y hx hy => ?_⟩
  have c1 : ConjOf A.length (af A) (pf p) (af B) := fun x y hx hy => by
    have := h1.at' x y hx hy
    show (at2 B (trA A x y (pf p 0)) (trA A x y (pf p 1))).toNat = trA A x y (pf p 2)
    rw [this]; simp
  have c2 : ConjOf A.length (af B) (pf q) (af C) := fun x y hx hy => by
    have := h2.at' x y (by omega) (by omega)
    show (at2 C (trA B x y (pf q 0)) (trA B x y (pf q 1))).toNat = trA B x y (pf q 2)
    rw [this]; simp
  have hq' : Bij 3 (pf q) := by have := hq.bij; rwa [hq3] at this
  have c3 := ConjOf.comp hl hq' c1 c2 x y hx hy
  rw [pf_cmpL (by omega), pf_cmpL (by omega), pf_cmpL (by omega)]
  have hz := h2.el (h1.lat hA hp h3) hq hq3
  have z := hz.el (trA A x y (pf p (pf q 0))) (trA A x y (pf p (pf q 1))) (by rw [hb]; exact trA_lt hA hx hy _) (by rw [hb]; exact trA_lt hA hx hy _)
  have e : (af C (trA A x y (pf p (pf q 0))) (trA A x y (pf p (pf q 1))) : Int) = trA A x y (pf p (pf q 2)) := by
    unfold trA; exact congrArg Int.ofNat c3
  rw [← e]; unfold af; omega
end

end Go.Proofs.YtgflhgkcmfjkgaaGreat
end

section
/- Orthogonal squares as lists of lists, in plain terms. -/
namespace Go.Proofs.YtgflhgkcmfjkgaaGreat
set_option linter.unusedSimpArgs false
set_option linter.unusedVariables false
/-- every pair of symbols once -/
def Ort (n : Nat) (A B : List (List Int)) : Prop := ∀ x y x' y', x < n → y < n → x' < n → y' < n → at2 A x y = at2 A x' y' → at2 B x y = at2 B x' y' → x = x' ∧ y = y'
theorem Ort.symm {n : Nat} {A B : List (List Int)} (h : Ort n A B) : Ort n B A := fun x y x' y' hx hy hx' hy' e1 e2 => h x y x' y' hx hy hx' hy' e2 e1
open Classical in
noncomputable def orB (A B : List (List Int)) : Bool := decide (A.length = B.length ∧ Ort A.length A B)
theorem orB_t {A B : List (List Int)} (h : orB A B = true) : A.length = B.length ∧ Ort A.length A B := by simpa [orB] using h
/-- places ahead of place y of row x -/
def Bef (n x y x' y' : Nat) : Prop := x' < n ∧ y' < n ∧ (x' < x ∨ x' = x ∧ y' < y)
/-- the numbers that are marked are those of the places ahead, each once -/
structure SnI (n N : Nat) (f : Nat → Nat → Nat) (x y : Nat) (s : List Bool) : Prop where
  len : s.length = N
  mem : ∀ v, v < N → (bat s v = true ↔ ∃ x' y', Bef n x y x' y' ∧ f x' y' = v)
  inj : ∀ x1 y1 x2 y2, Bef n x y x1 y1 → Bef n x y x2 y2 → f x1 y1 = f x2 y2 → x1 = x2 ∧ y1 = y2
section
variable {n N : Nat} {f : Nat → Nat → Nat} {x y : Nat} {s : List Bool}
theorem SnI.start : SnI n N f 0 0 (List.replicate N false) :=
  ⟨by simp, fun v hv => by
    rw [bat_rep]
    exact ⟨fun h => (by cases h), fun ⟨x', y', h, _⟩ => by unfold Bef at h; omega⟩, fun _ _ _ _ h => by unfold Bef at h; omega⟩
theorem SnI.step (h : SnI n N f x y s) (hx : x < n) (hy : y < n) (hf : f x y < N) (hb : bat s (f x y) = false) : SnI n N f x (y + 1) (s.set (f x y) true) := by
  have bef : ∀ {x' y'}, Bef n x (y + 1) x' y' → Bef n x y x' y' ∨ (x' = x ∧ y' = y) := fun {x' y'} hh => by unfold Bef at hh ⊢; omega
  have feb : ∀ {x' y'}, Bef n x y x' y' → Bef n x (y + 1) x' y' := fun {x' y'} hh => by unfold Bef at hh ⊢; omega
  have nw : ∀ {x' y'}, Bef n x y x' y' → f x' y' ≠ f x y := fun {x' y'} hh e => by
    have := (h.mem _ hf).2 ⟨x', y', hh, e⟩
    rw [hb] at this; cases this
  refine ⟨by rw [List.length_set]; exact h.len, fun v hv => ?_, fun x1 y1 x2 y2 h1 h2 e => ?_⟩
  · rw [bat_set (by rw [h.len]; exact hf)]
    by_cases e : f x y = v
    · rw [if_pos e]; exact ⟨fun _ => ⟨x, y, by unfold Bef; omega, e⟩, fun _ => rfl⟩
    · rw [if_neg e, h.mem v hv]
      constructor
      · rintro ⟨x', y', h1, h2⟩; exact ⟨x', y', feb h1, h2⟩
      · rintro ⟨x', y', h1, h2⟩
        rcases bef h1 with h3 | ⟨rfl, rfl⟩
        · exact ⟨x', y', h3, h2⟩
        · exact absurd h2 e
  · rcases bef h1 with h1 | ⟨rfl, rfl⟩
    · rcases bef h2 with h2 | ⟨rfl, rfl⟩
      · exact h.inj x1 y1 x2 y2 h1 h2 e
      · exact absurd e (nw h1)
    · rcases bef h2 with h2 | ⟨rfl, rfl⟩
      · exact absurd e.symm (nw h2)
      · exact ⟨rfl, rfl⟩
theorem SnI.next (h : SnI n N f x n s) : SnI n N f (x + 1) 0 s := by
  have e : ∀ x' y', Bef n (x + 1) 0 x' y' ↔ Bef n x n x' y' := fun x' y' => by unfold Bef; omega
  refine ⟨h.len, fun v hv => ?_, fun x1 y1 x2 y2 h1 h2 => h.inj x1 y1 x2 y2 ((e _ _).1 h1) ((e _ _).1 h2)⟩
  rw [h.mem v hv]
  constructor
  · rintro ⟨x', y', h1, h2⟩; exact ⟨x', y', (e _ _).2 h1, h2⟩
  · rintro ⟨x', y', h1, h2⟩; exact ⟨x', y', (e _ _).1 h1, h2⟩
theorem SnI.done (h : SnI n N f n 0 s) : ∀ x y x' y', x < n → y < n → x' < n → y' < n → f x y = f x' y' → x = x' ∧ y = y' := fun x y x' y' hx hy hx' hy' e =>
  h.inj x y x' y' ⟨hx, hy, .inl hx⟩ ⟨hx', hy', .inl hx'⟩ e
end
/-- both symbols of a place in one number -/
def ovF (n : Nat) (A B : List (List Int)) (x y : Nat) : Nat := n * af A x y + af B x y
section
variable {n : Nat} {A B : List (List Int)}
theorem af_eq (h : Sq0 n A) {x y : Nat} (hx : x < n) (hy : y < n) : at2 A x y = (af A x y : Nat) ∧ af A x y < n := by
  have := h.el x y hx hy; unfold af; omega
theorem ovF_inj (hA : Sq0 n A) (hB : Sq0 n B) {x y x' y' : Nat} (hx : x < n) (hy : y < n) (hx' : x' < n) (hy' : y' < n) : ovF n A B x y = ovF n A B x' y' ↔ at2 A x y = at2 A x' y' ∧ at2 B x y = at2 B x' y' := by
  have a := af_eq hA hx hy
  have a' := af_eq hA hx' hy'
  have b := af_eq hB hx hy
  have b' := af_eq hB hx' hy'
  rw [a.1, a'.1, b.1, b'.1]
  unfold ovF
  generalize af A x y = p at *
  generalize af A x' y' = p' at *
  generalize af B x y = q at *
  generalize af B x' y' = q' at *
  constructor
  · intro e
    have e1 : p = p' := by
      have h1 : (n * p + q) / n = p := by rw [Nat.mul_add_div (by omega), Nat.div_eq_of_lt b.2]; omega
      have h2 : (n * p' + q') / n = p' := by rw [Nat.mul_add_div (by omega), Nat.div_eq_of_lt b'.2]; omega
      rw [← h1, ← h2, e]
    subst e1
    exact ⟨rfl, by omega⟩
  · rintro ⟨e1, e2⟩
    rw [show p = p' by omega, show q = q' by omega]
theorem SnI.ort (hA : Sq0 n A) (hB : Sq0 n B) {N : Nat} {s : List Bool} (h : SnI n N (ovF n A B) n 0 s) : Ort n A B := fun x y x' y' hx hy hx' hy' e1 e2 =>
  h.done x y x' y' hx hy hx' hy' ((ovF_inj hA hB hx hy hx' hy').2 ⟨e1, e2⟩)
end
/-! ### lists of squares -/
structure Mols (X : List (List (List Int))) : Prop where
  pos : 1 ≤ X.length
  le : X.length ≤ 10
  lat : ∀ k, k < X.length → Lat (x3at X k)
  ort : ∀ k i, i < k → k < X.length → orB (x3at X k) (x3at X i) = true
/-- all squares have as many rows -/
theorem Mols.len {X : List (List (List Int))} (h : Mols X) {k : Nat} (hk : k < X.length) : (x3at X k).length = (x3at X 0).length := by
  rcases Nat.eq_zero_or_pos k with rfl | h0
  · rfl
  · exact (orB_t (h.ort k 0 h0 hk)).1
end Go.Proofs.YtgflhgkcmfjkgaaGreat
end

section
/- Walks: the cycles of a permutation. Walks: SignOf; the law FnPermutations. Walks: CyclesOf, SignOf and OrderOfPermutation of any list, powers, permutations made of cycles, types. -/
namespace Go.Proofs.YtgflhgkcmfjkgaaGreat
set_option linter.unusedSimpArgs false
set_option linter.unusedVariables false
open Go.RowKit
attribute [local go_sem ↓] Go.wp_at_zero Go.wp_at_succ
/-- the first j numbers of the cycle of x -/
def cyP (xs : List Int) (x j : Nat) : List Int := (List.range j).map fun i => ((it (pf xs) i x : Nat) : Int)
/-- what is seen: all cycles that numbers below m lead, and the first j numbers of that of m -/
def Seen (xs : List Int) (m j : Nat) (s : List Bool) : Prop := s.length = xs.length ∧ ∀ y, y < xs.length → (bat s y = true ↔ y ∈ (cycs xs.length (pf xs) m).flatten ∨ ∃ i, i < j ∧ y = it (pf xs) i m)
theorem Seen.start (xs : List Int) : Seen xs 0 0 (List.replicate xs.length false) := ⟨by simp, fun y hy => by rw [bat_rep]; simp [cycs]⟩
theorem Seen.step {xs : List Int} {m j : Nat} {s : List Bool} (h : Seen xs m j s) (hp : IsP xs) (hm : m < xs.length) : Seen xs m (j + 1) (s.set (it (pf xs) j m) true) := by
  have hlt := it_lt hp.bij hm j
  refine ⟨by rw [List.length_set]; exact h.1, fun y hy => ?_⟩
  rw [bat_set (by rw [h.1]; exact hlt)]
  by_cases e : it (pf xs) j m = y
  · rw [if_pos e]; exact ⟨fun _ => .inr ⟨j, by omega, e.symm⟩, fun _ => rfl⟩
  · rw [if_neg e, h.2 y hy]
    constructor
    · rintro (h1 | ⟨i, hi, e2⟩)
      · exact .inl h1
      · exact .inr ⟨i, by omega, e2⟩
    · rintro (h1 | ⟨i, hi, e2⟩)
      · exact .inl h1
      · refine .inr ⟨i, ?_, e2⟩
        refine Nat.lt_of_le_of_ne (by omega) fun e3 => e ?_
        rw [e2, e3]
theorem Seen.no {xs : List Int} {m : Nat} {s : List Bool} (h : Seen xs m 0 s) (hp : IsP xs) (hm : m < xs.length) (hL : ¬ Lead (pf xs) m) : bat s m = true ∧ Seen xs (m + 1) 0 s := by
  have hs := fun hh => hL ((lead_seen hp.bij hm).2 hh)
  refine ⟨(h.2 m hm).2 (.inl (Classical.byContradiction hs)), h.1, fun y hy => ?_⟩
  rw [h.2 y hy, cycs, if_neg hL]; simp
theorem Seen.fresh {xs : List Int} {m j : Nat} {s : List Bool} (h : Seen xs m j s) (hp : IsP xs) (hm : m < xs.length) (hL : Lead (pf xs) m) (hj : j < clen xs.length (pf xs) m) : bat s (it (pf xs) j m) = false := by
  have hlt := it_lt hp.bij hm j
  have hc := clen_ok hp.bij hm
  cases e : bat s (it (pf xs) j m) with
  | false => rfl
  | true =>
    rcases (h.2 _ hlt).1 e with h1 | ⟨i, hi, e2⟩
    · exact absurd h1 (lead_fresh hp.bij hm hL ((mem_cycL hp.bij hm).2 ⟨j, rfl⟩))
    · have := hc.inj hp.bij hm hj (by omega) e2; omega
theorem Seen.back {xs : List Int} {m : Nat} {s : List Bool} (h : Seen xs m (clen xs.length (pf xs) m) s) (hp : IsP xs) (hm : m < xs.length) (hL : Lead (pf xs) m) : bat s (it (pf xs) (clen xs.length (pf xs) m) m) = true ∧ Seen xs (m + 1) 0 s := by
  have hc := clen_ok hp.bij hm
  have hb := hc.back
  refine ⟨?_, h.1, fun y hy => ?_⟩
  · rw [hb]; exact (h.2 m hm).2 (.inr ⟨0, hc.pos, rfl⟩)
  · rw [h.2 y hy, cycs, if_pos hL]
    simp only [List.flatten_append, List.flatten_cons, List.flatten_nil, List.append_nil, List.mem_append]
    constructor
    · rintro (h1 | ⟨i, hi, rfl⟩)
      · exact .inl (.inl h1)
      · exact .inl (.inr ((mem_cycL hp.bij hm).2 ⟨i, rfl⟩))
    · rintro ((h1 | h1) | ⟨i, hi, _⟩)
      · exact .inl h1
      · unfold cycL at h1
        obtain ⟨i, hi, rfl⟩ := List.mem_map.1 h1
        exact .inr ⟨i, List.mem_range.1 hi, rfl⟩
      · omega
/-- what the list of cycles is -/
structure CyOk (xs : List Int) (C : List (List Int)) : Prop where
  shape : ∀ t, t < C.length → ∃ m, m < xs.length ∧ xat C t = cyP xs m (clen xs.length (pf xs) m)
  all : ∀ y, y < xs.length → ∃ t k, t < C.length ∧ k < (xat C t).length ∧ nth (xat C t) k = (y : Int)
  nodup : C.flatten.Nodup
  sum : C.flatten.length = xs.length
/-- a number of a later place is not among those of earlier ones -/
theorem CyOk.fresh {xs : List Int} {C : List (List Int)} (h : CyOk xs C) {t k : Nat} (ht : t < C.length) (hk : k < (xat C t).length) : nth (xat C t) k ∉ (C.take t).flatten ++ (xat C t).take k := by
  have hs : C.flatten = (C.take t).flatten ++ ((xat C t).take k ++ (nth (xat C t) k :: ((xat C t).drop (k + 1) ++ (C.drop (t + 1)).flatten))) := by
    conv => lhs; rw [← List.take_append_drop t C, drop_xat ht]
    rw [List.flatten_append, List.flatten_cons]
    congr 1
    rw [← List.cons_append, ← drop_nth hk, ← List.append_assoc, List.take_append_drop]
  have hn := h.nodup
  rw [hs, ← List.append_assoc, List.nodup_append] at hn
  exact fun hm => hn.2.2 _ hm _ (by simp) rfl
/-! ### the least common multiple, bounded -/
end Go.Proofs.YtgflhgkcmfjkgaaGreat
end

section
/- Walks: valid Latin squares, isotopes, of the program. Walks: isotopes of the program. -/
namespace Go.Proofs.YtgflhgkcmfjkgaaGreat
set_option linter.unusedSimpArgs false
set_option linter.unusedVariables false
open Go.RowKit
attribute [local go_sem ↓] Go.wp_at_zero Go.wp_at_succ


/-- a square and a code -/
def IIK (w : World) (A : List (List Int)) (c : Int) (e : Ending) (w' : World) : Prop := ∃ v us, e = .returned (.tuple #[v, .int .i64 c]) ∧ us.length = A.length ∧ St w.heap.size w w' (own2 v us A)
theorem IIK.no {w w' : World} {L : List Ent} {c : Int} (h : St w.heap.size w w' L) : IIK w [] c (.returned (.tuple #[.slice none 0 0, .int .i64 c])) w' := ⟨_, [], rfl, rfl, h.out.newnil _⟩
end Go.Proofs.YtgflhgkcmfjkgaaGreat
end

section
/- Walks: the squares of a field. Walks: all squares of a field; products of squares. Walks: products of lists of orthogonal squares; orders that are drawn. -/
namespace Go.Proofs.YtgflhgkcmfjkgaaGreat
set_option linter.unusedSimpArgs false
set_option linter.unusedVariables false
open Go.RowKit
attribute [local go_sem ↓] Go.wp_at_zero Go.wp_at_succ


/-- what the field of n elements is -/
structure FQ (n : Nat) (p : Int) (D : Nat) (fs : List Int) : Prop where
  fv : FV p D fs
  pow : p ^ D = (n : Int)
  n2 : 2 ≤ n
  n10 : n ≤ 10
theorem mk_fq {q : Int} (h : mkOk q = true) (h10 : q ≤ 10) : ∃ (n : Nat) (p : Int) (D : Nat) (fs : List Int), q = n ∧ FQ n p D fs ∧ mkfP q = p ∧ mkfD q = D ∧ mkfL q = fs ∧ mkfC q = 0 := by
  obtain ⟨n, rfl, h2, h64, hm⟩ := mkOk_t h
  refine ⟨n, ((spl n).1 : Nat), (spl n).2, mkF n, rfl, ⟨hm.fv h64, ?_, h2, by omega⟩, ?_⟩
  · rw [← Int.natCast_pow, hm.pw]
  · simp [mkfP, mkfD, mkfL, mkfC, h]
/-- squares and a code -/
def IIIK (w : World) (X : List (List (List Int))) (c : Int) (e : Ending) (w' : World) : Prop := ∃ v vs uss, e = .returned (.tuple #[v, .int .i64 c]) ∧ Fit3 vs uss X ∧ St w.heap.size w w' (own3 v vs uss X)
theorem fitE : Fit3 [] [] [] := ⟨rfl, rfl, fun k h => by simp at h⟩
theorem IIIK.no {w w' : World} {L : List Ent} {c : Int} (h : St w.heap.size w w' L) : IIIK w [] c (.returned (.tuple #[.slice none 0 0, .int .i64 c])) w' := ⟨_, [], [], rfl, fitE, h.out.newnil _⟩
section
variable {ops : Array Oper} {o : Oper} {a : Act} {K : Act → World → Prop} {Q : Exit → Act → World → Prop} {E : Prop} {B : Nat} {w0 w : World} {L : List Ent}
end
end Go.Proofs.YtgflhgkcmfjkgaaGreat
end

section
/- Walk: the affine plane of a field, of the program. -/
namespace Go.Proofs.YtgflhgkcmfjkgaaGreat
set_option linter.unusedSimpArgs false
set_option linter.unusedVariables false
open Go.RowKit
attribute [local go_sem ↓] Go.wp_at_zero Go.wp_at_succ

set_option maxHeartbeats 4000000 in
set_option maxRecDepth 100000 in
theorem AffinePlane_no (q : Int) (w : World) (hb : 5 < q ∨ mkOk q = false) : Calls Tryz.prog 14 #[.int .i64 q] w (MakesD w 0 [] 2) := by
  have hS0 := (St.refl w).newboxF 26 #[.int .i64 0, .slice none 0 0]
  have HM := fun W => Lib.hid (MakeField_c q W)
  by_cases hm : mkOk q = false
  · have h1 : mkfC q = 2 := by rw [mkfC, hm]; rfl
    rw [h1] at HM
    generalize mkfP q = a1 at *
    generalize mkfD q = a2 at *
    generalize mkfL q = a3 at *
    clear hb hm h1
    go_enter Tryz.func14, Tryz.ntmps14
    go_wp2_with (go_at_call 30; refine (HM _).out.mono ?_; rintro e2 w2 ⟨v2, rfl, h2⟩; obtain ⟨va, vc, hvs⟩ := (h2.rdI 0 rfl).sl.sh; subst hvs; unfold fv; have hB := (hS0.call0 h2.out).newboxF 55 #[.int .i64 a1, .int .i64 a2, .slice va (iv a3).length vc]; have e0 := hB.bcell 1 rfl 0 rfl; have e1 := hB.bcell 1 rfl 1 rfl; have f0 := hB.bfree 1 rfl; have h6 := (hB.bstore 1 rfl 0 (.int .i64 0)).bstore 1 rfl 1 (.slice none 0 0); have d0 := h6.bcell 1 rfl 0 rfl; have d1 := h6.bcell 1 rfl 1 rfl)
    refine bodyPost_ret (v := .tuple #[.agg #[.int .i64 0, .slice none 0 0], .int .i64 2]) (by simp [results, Tryz.results14, go_sem, d0, d1]) rfl ?_
    exact MakesD.no h6
  · have hm : mkOk q = true := by simpa using hm
    have h5 : 5 < q := hb.resolve_right (by rw [hm]; simp)
    obtain ⟨n, rfl, h2, h64, -⟩ := mkOk_t hm
    have h1 : mkfC n = 0 := by rw [mkfC, hm]; rfl
    rw [h1] at HM
    have hq1 : (32 : Int) < (n : Int) * n := by
      have : 6 * 6 ≤ n * n := Nat.mul_le_mul (by omega) (by omega)
      omega
    have hq2 : (n : Int) * n ≤ 4096 := by
      have : n * n ≤ 64 * 64 := Nat.mul_le_mul h64 h64
      omega
    have w1 : IntKind.i64.wrap ((n : Int) * n) = (n : Int) * n := IntWalk.i64_in _ (by omega)
    generalize mkfP n = a1 at *
    generalize mkfD n = a2 at *
    generalize mkfL n = a3 at *
    clear hb hm h1
    go_enter Tryz.func14, Tryz.ntmps14
    go_wp2_with (go_at_call 30; refine (HM _).out.mono ?_; rintro e2 w2 ⟨v2, rfl, h2⟩; obtain ⟨va, vc, hvs⟩ := (h2.rdI 0 rfl).sl.sh; subst hvs; unfold fv; have hB := (hS0.call0 h2.out).newboxF 55 #[.int .i64 a1, .int .i64 a2, .slice va (iv a3).length vc]; have e0 := hB.bcell 1 rfl 0 rfl; have e1 := hB.bcell 1 rfl 1 rfl; have f0 := hB.bfree 1 rfl; have h6 := (hB.bstore 1 rfl 0 (.int .i64 0)).bstore 1 rfl 1 (.slice none 0 0); have d0 := h6.bcell 1 rfl 0 rfl; have d1 := h6.bcell 1 rfl 1 rfl)
    refine bodyPost_ret (v := .tuple #[.agg #[.int .i64 0, .slice none 0 0], .int .i64 2]) (by simp [results, Tryz.results14, go_sem, d0, d1]) rfl ?_
    exact MakesD.no h6
def apQ (q m : Nat) : List (List Int) := (List.range m).flatMap fun m => lnV q m :: (List.range q).map (lnS q m)
def apR (q m b : Nat) : List (List Int) := apQ q m ++ (lnV q m :: (List.range b).map (lnS q m))
theorem apR_0 (q m : Nat) : apR q m 0 = apQ q m ++ [lnV q m] := by simp [apR]
theorem apR_succ (q m b : Nat) : apR q m (b + 1) = apR q m b ++ [lnS q m b] := by
  rw [apR, apR, List.range_succ, List.map_append, ← List.cons_append, ← List.append_assoc]; rfl
theorem apQ_succ (q m : Nat) : apQ q (m + 1) = apR q m q := by rw [apQ, List.range_succ, List.flatMap_append, apR, apQ]; simp
theorem apQ_end (q : Nat) : apQ q q = apU q := rfl
def lvP (q m x : Nat) : List Int := (List.range x).map fun x : Nat => (q : Int) * m + x
def lsP (q m b x : Nat) : List Int := (List.range x).map fun x : Nat => (q : Int) * x + fsum (mkfP q) (mkfD q).toNat (fmul (mkfP q) (mkfD q).toNat (mkfL q) m x) b 1
theorem lvP_succ (q m x : Nat) : lvP q m (x + 1) = lvP q m x ++ [(q : Int) * m + x] := by rw [lvP, lvP, List.range_succ, List.map_append]; rfl
theorem lsP_succ (q m b x : Nat) : lsP q m b (x + 1) = lsP q m b x ++ [(q : Int) * x + fsum (mkfP q) (mkfD q).toNat (fmul (mkfP q) (mkfD q).toNat (mkfL q) m x) b 1] := by rw [lsP, lsP, List.range_succ, List.map_append]; rfl
theorem apR_len (q m b : Nat) : (apR q m b).length = m * (q + 1) + 1 + b := by
  have h1 : ∀ m, (apQ q m).length = m * (q + 1) := fun m => by
    induction m with
    | zero => simp [apQ]
    | succ m ih => rw [apQ, List.range_succ, List.flatMap_append, List.length_append, ← apQ, ih, Nat.add_mul]; simp
  rw [apR, List.length_append, h1]; simp; omega
set_option maxHeartbeats 16000000 in
set_option maxRecDepth 100000 in
theorem AffinePlane_c (q : Nat) (w : World) (hm : mkOk q = true) (q2 : 2 ≤ q) (q5 : q ≤ 5) (hlu : (apU q).length ≤ 128) : Calls Tryz.prog 14 #[.int .i64 q] w (MakesD w (q * q : Nat) (apB q) 0) := by
  obtain ⟨n, p, D, fs, hn, hf, h1, h2, h3, h4⟩ := mk_fq hm (by omega)
  obtain rfl : n = q := by omega
  have hS0 := (St.refl w).newboxF 26 #[.int .i64 0, .slice none 0 0]
  have HM := Lib.hid (MakeField_c n (w.alloc (.cells #[.int .i64 0, .slice none 0 0] 26)))
  rw [h1, h2, h3, h4] at HM
  have HS := fun m b x => Lib.hid (lsP_succ n m b x)
  rw [h1, h2, h3, Int.toNat_natCast] at HS
  have HVs := fun m x => Lib.hid (lvP_succ n m x)
  have HE := fun (a b : Int) => Lib.hid (fsum_el (D := D) (show 0 < p by have := hf.fv.p2; omega) a b 1)
  have HX := fun (a b : Int) => Lib.hid ((fmul_el (p := p) (D := D) hf.fv.fa a b).lim hf.fv)
  have Hpw := Lib.hid hf.pow
  have Hfv := Lib.hid hf.fv
  have KPr := fun v W a b (hW : RdI W v fs) a0 a1 b0 b1 => Lib.hid (product_c p D v fs a b W hW hf.fv a0 a1 b0 b1)
  have KCo := fun v W a b (hW : RdI W v fs) a0 a1 b0 b1 => Lib.hid (combine_c p D v fs a b 1 W hW hf.fv a0 a1 b0 b1 (.inl rfl))
  have R0 := fun m => Lib.hid (apR_0 n m)
  have R1 := fun m b => Lib.hid (apR_succ n m b)
  have R2 := fun m => Lib.hid (apQ_succ n m)
  have RL := fun m b (h : m < n) (hb : b ≤ n) => Lib.hid (show (apR n m b).length ≤ 1000 by
    rw [apR_len]
    have : m * (n + 1) ≤ 5 * 6 := Nat.mul_le_mul (by omega) (by omega)
    omega)
  have hqq : (n : Int) * n ≤ 25 ∧ 0 ≤ (n : Int) * n := by
    have : n * n ≤ 5 * 5 := Nat.mul_le_mul q5 q5
    omega
  have wqq : IntKind.i64.wrap ((n : Int) * n) = (n : Int) * n := IntWalk.i64_in _ (by omega)
  have hq32 : ¬ (32 : Int) < (n : Int) * n := by omega
  have Hrows := Lib.hid (fun xs (hx : xs ∈ apU n) => (show xs.length ≤ 1048576 by
    obtain ⟨m, _, hx⟩ := List.mem_flatMap.1 hx
    rcases List.mem_cons.1 hx with rfl | hx
    · simp [lnV]; omega
    · obtain ⟨b, _, rfl⟩ := List.mem_map.1 hx
      simp [lnS]; omega))
  clear hf h1 h2 h3 h4 hm hn
  go_enter Tryz.func14, Tryz.ntmps14
  go_wp2_with (go_at_call 30; refine HM.out.mono ?_; rintro e2 w2 ⟨v2, rfl, h2⟩; obtain ⟨va, vc, hvs⟩ := (h2.rdI 0 rfl).sl.sh; rw [iv_len] at hvs; subst hvs; unfold fv; have hB := (hS0.call h2).newboxF 55 #[.int .i64 p, .int .i64 D, .slice va fs.length vc])
  clear HM hS0 h2
  obtain ⟨LB, hLB⟩ : ∃ LB : List Ent, LB = [box 55 w2.heap.size [.int .i64 p, .int .i64 D, .slice va fs.length vc], box 26 w.heap.size [.int .i64 0, .slice none 0 0], row 2 (.slice va fs.length vc) (iv fs)] := ⟨_, rfl⟩
  have hS1 := (hB.newnil 44).perm (L' := own2 (.slice none 0 0) [] (apQ n 0) ++ LB) (by rw [hLB, show apQ n 0 = [] from rfl, own2_nil']; exact List.perm_append_comm)
  have hbx : Hid (LB[0]? = some (box 55 w2.heap.size [.int .i64 p, .int .i64 D, .slice va fs.length vc])) := Lib.hid (by rw [hLB]; rfl)
  have hrw : Hid (LB[2]? = some (row 2 (.slice va fs.length vc) (iv fs))) := Lib.hid (by rw [hLB]; rfl)
  have HLB := Lib.hid hLB
  clear hB hLB
  unfold fv at KPr KCo
  go_loopw [28, 6, 7, 8, 9, 10, 11, 12] (fun i o _ _ _ _ _ _ wr => ∃ (m : Nat) (v2 : Value) (us : List Value), v2 = o ∧ m ≤ n ∧ i = .int .i64 m ∧ Hid (us.length = (apQ n m).length) ∧ St w.heap.size w wr (own2 v2 us (apQ n m) ++ LB)) (fun i _ _ _ _ _ _ _ _ => n - (intOf i).toNat)
  case atStart => exact ⟨0, _, [], rfl, by omega, rfl, rfl, hS1⟩
  case round =>
    clear hS1
    obtain ⟨m, v2, us, rfl, hmn, rfl, hlu2, hS⟩ := hrel
    by_cases hmt : m < n
    · have R0 := R0 m
      have R2 := R2 m
      have hS' := (hS.newnil 2).perm (L' := row 2 (.slice none 0 0) (iv (lvP n m 0)) :: (own2 v2 us (apQ n m) ++ LB)) List.perm_append_comm
      have hqm : (n : Int) * m ≤ 25 ∧ 0 ≤ (n : Int) * m := by
        have : n * m ≤ 5 * 5 := Nat.mul_le_mul q5 (by omega)
        omega
      have wqm : IntKind.i64.wrap ((n : Int) * m) = (n : Int) * m := IntWalk.i64_in _ (by omega)
      obtain ⟨nm, hnm⟩ : ∃ nm, (n : Int) * m = nm := ⟨_, rfl⟩
      have HVs := HVs m
      rw [hnm] at HVs
      have Hnm := Lib.hid hnm
      go_wp2_with fail
      go_loopw [32, 8, 9] (fun i o _ wr => ∃ (x : Nat) (v3 : Value), v3 = o ∧ x ≤ n ∧ i = .int .i64 x ∧ St w.heap.size w wr (row 2 v3 (iv (lvP n m x)) :: (own2 v2 us (apQ n m) ++ LB))) (fun i _ _ _ => n - (intOf i).toNat)
      case atStart => exact ⟨0, _, rfl, by omega, rfl, hS'⟩
      case round =>
        clear hS hS'
        obtain ⟨x, v3, rfl, hx, rfl, hS⟩ := hrel
        by_cases hxt : x < n
        · have HV := HVs x
          have hN := Lib.hid (show (lvP n m x).length < 4294967296 by simp [lvP]; omega)
          rw [hnm] at wqm hqm
          have w5 : IntKind.i64.wrap (nm + (x : Int)) = nm + (x : Int) := IntWalk.i64_in _ (by omega)
          go_wp2_with (at_builtin; refine appI hS 0 rfl hN.out rfl _ _ rfl rfl _ (by first | rfl | simp [Act.eval, Act.put]) ?_; intro v5 w5 hS5; simp only [List.set_cons_zero] at hS5)
          rw [← HV.out] at hS5
          go_roundw
          case rel => exact ⟨x + 1, _, rfl, by omega, by go_num, hS5⟩
          case measure => simp [intOf]; omega
        · obtain rfl : x = n := by omega
          obtain ⟨qa, qc, hq⟩ := (hS.rdI 0 rfl).sl.sh
          rw [iv_len, show (lvP x m x).length = x by simp [lvP]] at hq
          subst hq
          have hS7 := hS.perm (L' := own2 v2 us (apQ x m) ++ LB ++ [row 2 (.slice qa x qc) (iv (lvP x m x))]) (List.perm_append_singleton _ _).symm
          have hN := Lib.hid (show us.length < 4294967296 by
            have h1 := congrArg List.length R0.out
            have h2 := (RL m 0 hmt (by omega)).out
            rw [List.length_append] at h1
            rw [hlu2.out]; omega)
          go_wp2_with (at_builtin; refine appII hS7 0 rfl hN.out rfl _ _ rfl rfl _ rfl rfl ?_; intro v5 w5 hS5)
          have hS8 := own2_snocL hlu2.out hS5
          rw [show lvP x m x = lnV x m from rfl, ← R0.out] at hS8
          have hu3 : Hid ((us ++ [Value.slice qa x qc]).length = (apR x m 0).length) := Lib.hid (by rw [R0.out]; simp [hlu2.out])
          clear hS hS7 hS5 hN
          go_loopw [49, 6, 10, 11, 12] (fun i o _ _ _ wr => ∃ (b : Nat) (v2 : Value) (us : List Value), v2 = o ∧ b ≤ x ∧ i = .int .i64 b ∧ Hid (us.length = (apR x m b).length) ∧ St w.heap.size w wr (own2 v2 us (apR x m b) ++ LB)) (fun i _ _ _ _ _ => x - (intOf i).toNat)
          case atStart => exact ⟨0, _, _, rfl, by omega, rfl, hu3, hS8⟩
          case round =>
            clear hS8 hu3
            obtain ⟨b, v2, us, rfl, hb, rfl, hlu2, hS⟩ := hrel
            by_cases hbt : b < x
            · have R1 := R1 m b
              have HS := HS m b
              have hS' := (hS.newnil 2).perm (L' := row 2 (.slice none 0 0) (iv (lsP x m b 0)) :: (own2 v2 us (apR x m b) ++ LB)) List.perm_append_comm
              go_wp2_with fail
              go_loopw [53, 11, 12] (fun i o _ wr => ∃ (y : Nat) (v3 : Value), v3 = o ∧ y ≤ x ∧ i = .int .i64 y ∧ St w.heap.size w wr (row 2 v3 (iv (lsP x m b y)) :: (own2 v2 us (apR x m b) ++ LB))) (fun i _ _ _ => x - (intOf i).toNat)
              case atStart => exact ⟨0, _, rfl, by omega, rfl, hS'⟩
              case round =>
                clear hS hS'
                obtain ⟨y, v3, rfl, hy, rfl, hS⟩ := hrel
                by_cases hyt : y < x
                · have HSy := HS y
                  have hN := Lib.hid (show (lsP x m b y).length < 4294967296 by simp [lsP]; omega)
                  have k0 := hS.bcell _ (at_cons (at_app hbx.out)) 0 rfl
                  have k1 := hS.bcell _ (at_cons (at_app hbx.out)) 1 rfl
                  have k2 := hS.bcell _ (at_cons (at_app hbx.out)) 2 rfl
                  have hfr := hS.drew.rdI _ (at_cons (at_app hrw.out))
                  have hE := (HE (fmul p D fs m y) b).out
                  have hX := (HX m y).out
                  have KP1 := fun W hW => KPr (.slice va fs.length vc) W (m : Int) (y : Int) hW (by omega) (by omega) (by omega) (by omega)
                  have KC1 := fun W hW => KCo (.slice va fs.length vc) W (fmul p D fs m y) (b : Int) hW hX.1 hX.2 (by omega) (by omega)
                  have hxy : (x : Int) * y ≤ 25 ∧ 0 ≤ (x : Int) * y := by
                    have : x * y ≤ 5 * 5 := Nat.mul_le_mul q5 (by omega)
                    omega
                  have wxy : IntKind.i64.wrap ((x : Int) * y) = (x : Int) * y := IntWalk.i64_in _ (by omega)
                  have hEb : 0 ≤ fsum p D (fmul p D fs m y) b 1 ∧ fsum p D (fmul p D fs m y) b 1 ≤ 5 := by
                    have h1 := hE.1
                    have h2 := hE.2
                    rw [Hpw.out] at h2
                    omega
                  clear hE hX
                  generalize fsum p D (fmul p D fs m y) b 1 = sm at *
                  generalize fmul p D fs m y = ml at *
                  obtain ⟨xy, hxye⟩ : ∃ xy, (x : Int) * y = xy := ⟨_, rfl⟩
                  rw [hxye] at hxy wxy HSy
                  have w5 : IntKind.i64.wrap (xy + sm) = xy + sm := IntWalk.i64_in _ (by omega)
                  have hSd := hS.drew
                  go_wp2_with fail
                  refine regionG (fun w' => w'.cell? ⟨w2.heap.size, 0, none⟩ = some (.int .i64 p) ∧ w'.cell? ⟨w2.heap.size, 1, none⟩ = some (.int .i64 D) ∧ w'.cell? ⟨w2.heap.size, 2, none⟩ = some (.slice va fs.length vc)) 13 (by kernel_rfl) ⟨cell_dr k0, cell_dr k1, cell_dr k2⟩ (fun hHeld => ?_)
                  refine takeP (i := 0) (v := ?_) rfl (by kernel_rfl) (fun _ _ _ h => h) (by rfl) ?_ (by assumption) ?_
                  case refine_2 => (intro w'; go_simp; first | done | with_reducible rfl)
                  try simp only [Act.put, List.setIfInBounds_toArray, List.set_cons_zero, List.set_cons_succ]
                  refine takeP (i := 1) (v := ?_) rfl (by kernel_rfl) (fun _ _ _ h => h) (by rfl) ?_ (by assumption) ?_
                  case refine_2 => (intro w'; go_simp; first | done | with_reducible rfl)
                  try simp only [Act.put, List.setIfInBounds_toArray, List.set_cons_zero, List.set_cons_succ]
                  refine takeP (i := 2) (v := ?_) rfl (by kernel_rfl) (fun _ _ _ h => h) (by rfl) ?_ (by assumption) ?_
                  case refine_2 => (intro w'; go_simp; first | done | with_reducible rfl)
                  try simp only [Act.put, List.setIfInBounds_toArray, List.set_cons_zero, List.set_cons_succ]
                  refine takeP (i := 3) (v := ?_) rfl (by kernel_rfl) (fun _ _ _ h => h) (by rfl) ?_ (by assumption) ?_
                  case refine_2 => (intro w'; go_simp; first | done | with_reducible rfl)
                  try simp only [Act.put, List.setIfInBounds_toArray, List.set_cons_zero, List.set_cons_succ]
                  refine takeH (i := 4) [10, 11, 12] (v := ?_) rfl (by kernel_rfl) (fun _ _ _ h => h) (by rfl) ?_ (by assumption) ?_
                  case refine_2 => (intro w' hSw; (try dsimp only at hSw); go_simp; first | done | with_reducible rfl)
                  try simp only [Act.put, List.setIfInBounds_toArray, List.set_cons_zero, List.set_cons_succ]
                  refine takeH (i := 5) [8, 10, 11, 12] (v := ?_) rfl (by kernel_rfl) (fun _ _ _ h => h) (by rfl) ?_ (by assumption) ?_
                  case refine_2 => (intro w' hSw; (try dsimp only at hSw); go_simp; first | done | with_reducible rfl)
                  try simp only [Act.put, List.setIfInBounds_toArray, List.set_cons_zero, List.set_cons_succ]
                  refine takeP (i := 6) (v := ?_) rfl (by kernel_rfl) (fun _ _ _ h => h) (by rfl) ?_ (by assumption) ?_
                  case refine_2 => (intro w'; go_simp; first | done | with_reducible rfl)
                  try simp only [Act.put, List.setIfInBounds_toArray, List.set_cons_zero, List.set_cons_succ]
                  refine takeP (i := 7) (v := ?_) rfl (by kernel_rfl) (fun _ _ _ h => h) (by rfl) ?_ (by assumption) ?_
                  case refine_2 => (intro w'; go_simp; first | done | with_reducible rfl)
                  try simp only [Act.put, List.setIfInBounds_toArray, List.set_cons_zero, List.set_cons_succ]
                  refine takeP (i := 9) (v := ?_) rfl (by kernel_rfl) (fun _ _ _ h => h) (by rfl) ?_ (by assumption) ?_
                  case refine_2 => (intro w'; go_simp; first | done | with_reducible rfl)
                  try simp only [Act.put, List.setIfInBounds_toArray, List.set_cons_zero, List.set_cons_succ]
                  refine readyG (rs := [8]) (by kernel_rfl) (by simp) ?_
                  refine AllG.cons rfl (fun K hK => ?_) AllG.nil
                  go_simp
                  refine (KP1 _ hfr).out.mono ?_
                  rintro e w6 ⟨rfl, h6⟩
                  have hS2 := hSd.call0 h6
                  have d0 := hS2.bcell _ (at_cons (at_app hbx.out)) 0 rfl
                  have d1 := hS2.bcell _ (at_cons (at_app hbx.out)) 1 rfl
                  have d2 := hS2.bcell _ (at_cons (at_app hbx.out)) 2 rfl
                  refine hK.out _ _ ⟨d0, d1, d2⟩ (fun hHeld => ?_)
                  clear hK K h6 d0 d1 d2
                  try simp only [Act.put, List.setIfInBounds_toArray, List.set_cons_zero, List.set_cons_succ]
                  refine readyG (rs := [10]) (by kernel_rfl) (by simp) ?_
                  refine AllG.cons rfl (fun K hK => ?_) AllG.nil
                  go_simp
                  refine (KC1 _ (hS2.rdI _ (at_cons (at_app hrw.out)))).out.mono ?_
                  rintro e w7 ⟨rfl, h7⟩
                  have hS3 := hS2.call0 h7
                  have d0 := hS3.bcell _ (at_cons (at_app hbx.out)) 0 rfl
                  have d1 := hS3.bcell _ (at_cons (at_app hbx.out)) 1 rfl
                  have d2 := hS3.bcell _ (at_cons (at_app hbx.out)) 2 rfl
                  refine hK.out _ _ ⟨d0, d1, d2⟩ (fun hHeld => ?_)
                  clear hK K h7
                  try simp only [Act.put, List.setIfInBounds_toArray, List.set_cons_zero, List.set_cons_succ]
                  refine takeP (i := 11) (v := ?_) rfl (by kernel_rfl) (fun _ _ _ h => h) (by rfl) ?_ (by assumption) ?_
                  case refine_2 => (intro w'; go_simp; first | done | with_reducible rfl)
                  try simp only [Act.put, List.setIfInBounds_toArray, List.set_cons_zero, List.set_cons_succ]
                  refine readyG (rs := [12]) (by kernel_rfl) (by simp) ?_
                  refine AllG.cons rfl (fun K hK => ?_) AllG.nil
                  go_simp
                  refine hK.out _ _ ⟨cell_al d0, cell_al d1, cell_al d2⟩ (fun hHeld => ?_)
                  clear hK K d0 d1 d2
                  try simp only [Act.put, List.setIfInBounds_toArray, List.set_cons_zero, List.set_cons_succ]
                  refine readyG (rs := [13]) (by kernel_rfl) (by simp) ?_
                  refine AllG.last rfl (by kernel_rfl) (fun K hK => ?_) AllG.nil
                  refine stepI1 hS3 0 rfl hN.out rfl (.tmp 56) (.tmp 68) rfl (by first | rfl | simp [Act.eval, Act.put]) _ (by first | rfl | simp [Act.eval, Act.put]) ?_
                  intro v5 w9 hS5
                  refine hK.out _ _ ?_
                  clear hK K
                  try simp only [Act.put, List.setIfInBounds_toArray, List.set_cons_zero, List.set_cons_succ]
                  refine readyG (rs := [14]) (by kernel_rfl) (by simp) ?_
                  refine AllG.last rfl (by kernel_rfl) (fun K hK => ?_) AllG.nil
                  go_simp
                  refine hK.out _ _ ?_
                  clear hK K
                  try simp only [Act.put, List.setIfInBounds_toArray, List.set_cons_zero, List.set_cons_succ]
                  refine doneG (by kernel_rfl) ?_ _
                  refine NoPanic.normal ?_
                  simp only [List.set_cons_zero] at hS5
                  try rw [w5] at hS5
                  go_wp2_with fail
                  go_roundw
                  case rel => exact ⟨y + 1, _, rfl, by omega, by go_num, by rw [HSy.out]; exact hS5⟩
                  case measure => simp [intOf]; omega
                · obtain rfl : y = x := by omega
                  obtain ⟨qa, qc, hq⟩ := (hS.rdI 0 rfl).sl.sh
                  rw [iv_len, show (lsP y m b y).length = y by simp [lsP]] at hq
                  subst hq
                  have hS7 := hS.perm (L' := own2 v2 us (apR y m b) ++ LB ++ [row 2 (.slice qa y qc) (iv (lsP y m b y))]) (List.perm_append_singleton _ _).symm
                  have hN := Lib.hid (show us.length < 4294967296 by have h2 := (RL m b hmt hb).out; rw [hlu2.out]; omega)
                  go_wp2_with (at_builtin; refine appII hS7 0 rfl hN.out rfl _ _ rfl rfl _ rfl rfl ?_; intro v5 w5 hS5)
                  have hS8 := own2_snocL hlu2.out hS5
                  rw [show lsP y m b y = lnS y m b from rfl, ← R1.out] at hS8
                  have hu3 : Hid ((us ++ [Value.slice qa y qc]).length = (apR y m (b + 1)).length) := Lib.hid (by rw [R1.out]; simp [hlu2.out])
                  go_roundw
                  case rel => exact ⟨b + 1, _, _, rfl, by omega, by go_num, hu3, hS8⟩
                  case measure => simp [intOf]; omega
            · obtain rfl : b = x := by omega
              rw [← R2.out] at hS hlu2
              go_wp2_with fail
              go_roundw
              case rel => exact ⟨m + 1, _, us, rfl, by omega, by go_num, hlu2, hS⟩
              case measure => simp [intOf]; omega
    · obtain rfl : m = n := by omega
      rw [apQ_end] at hS hlu2
      have rR := (hS.sub (List.sublist_append_left _ _)).rii hlu2.out
      rw [HLB.out] at hS
      have hSb := hS.sub (L' := [box 26 w.heap.size [.int .i64 0, .slice none 0 0]]) (((List.Sublist.refl _).cons_cons _ |>.trans (.cons_cons _ (List.nil_sublist [row 2 (.slice va fs.length vc) (iv fs)])) |>.cons _).trans (List.sublist_append_right _ _))
      have KS := Lib.hid (sorted_c ((m : Int) * m) v2 us _ _ rR hlu Hrows.out)
      rw [show srtL (apU m) = apB m from rfl] at KS
      have hmm : ((m * m : Nat) : Int) = (m : Int) * m := by omega
      rw [hmm]
      clear rR hS
      go_wp2_with (go_at_call 57; refine KS.out.mono ?_; rintro e4 w4 ⟨v4, us4, rfl, hl4, h4⟩; obtain ⟨a4, c4, hv4⟩ := (h4.rd 0 (e := 44) (v := v4) (us := us4) rfl).sl.sh; rw [hl4] at hv4; subst hv4; unfold dv; have hB := hSb.call h4; have e0 := hB.bcell 0 rfl 0 rfl; have e1 := hB.bcell 0 rfl 1 rfl; have f0 := hB.bfree 0 rfl; have h6 := (hB.bstore 0 rfl 0 (.int .i64 ((m : Int) * m))).bstore 0 rfl 1 (.slice a4 (apB m).length c4); have g0 := h6.bcell 0 rfl 0 rfl; have g1 := h6.bcell 0 rfl 1 rfl)
      refine bodyPost_ret (v := .tuple #[.agg #[.int .i64 ((m : Int) * m), .slice a4 (apB m).length c4], .int .i64 0]) (by simp [results, Tryz.results14, go_sem, g0, g1]) rfl ?_
      exact ⟨_, us4, rfl, hl4, h6.sub (.cons _ (.refl _))⟩
end Go.Proofs.YtgflhgkcmfjkgaaGreat
end

section
/- New boxes: a design, parameters. -/
namespace Go.Proofs.YtgflhgkcmfjkgaaGreat
set_option linter.unusedSimpArgs false
set_option linter.unusedVariables false
open Go.RowKit

theorem newDz (w : World) (P : Int) (v : Value) : St w.heap.size w (w.alloc (.cells #[.int .i64 P, v] 26)) [] ∧ BoxD (w.alloc (.cells #[.int .i64 P, v] 26)) w.heap.size P v := by
  have hN := (St.refl w).newboxF 26 #[.int .i64 P, v]
  exact ⟨hN.out, hN.bcell 0 rfl 0 rfl, hN.bcell 0 rfl 1 rfl⟩
/-- parameters in a box -/
structure BoxPz (w : World) (g : Nat) (a b c d e : Int) : Prop where
  c0 : w.cell? ⟨g, 0, none⟩ = some (.int .i64 a)
  c1 : w.cell? ⟨g, 1, none⟩ = some (.int .i64 b)
  c2 : w.cell? ⟨g, 2, none⟩ = some (.int .i64 c)
  c3 : w.cell? ⟨g, 3, none⟩ = some (.int .i64 d)
  c4 : w.cell? ⟨g, 4, none⟩ = some (.int .i64 e)
theorem newPz (w : World) (a b c d e : Int) : St w.heap.size w (w.alloc (.cells #[.int .i64 a, .int .i64 b, .int .i64 c, .int .i64 d, .int .i64 e] 39)) [] ∧ BoxPz (w.alloc (.cells #[.int .i64 a, .int .i64 b, .int .i64 c, .int .i64 d, .int .i64 e] 39)) w.heap.size a b c d e := by
  have hN := (St.refl w).newboxF 39 #[.int .i64 a, .int .i64 b, .int .i64 c, .int .i64 d, .int .i64 e]
  exact ⟨hN.out, hN.bcell 0 rfl 0 rfl, hN.bcell 0 rfl 1 rfl, hN.bcell 0 rfl 2 rfl, hN.bcell 0 rfl 3 rfl, hN.bcell 0 rfl 4 rfl⟩
end Go.Proofs.YtgflhgkcmfjkgaaGreat
end

section
/- The law FnPlanes, walked. -/
namespace Go.Proofs.YtgflhgkcmfjkgaaGreat
set_option linter.unusedSimpArgs false
set_option linter.unusedVariables false
open Go.RowKit
attribute [local go_sem ↓] Go.wp_at_zero Go.wp_at_succ

theorem DrawAffinePlane_c (w : World) (cv : Value) (bs : List UInt8) (hb : RdB w cv bs) : Calls Tryz.prog 13 #[cv] w fun e w' => ∃ q : Int, e = .returned (.int .i64 q) ∧ -1 ≤ q ∧ q ≤ 8 ∧ St w.heap.size w w' [] := by
  have HZ : ∀ W g (h : Src w W cv g 0 []), Calls Tryz.prog 54 #[.pointer (some ⟨g, 0, none⟩)] W fun e w' => ∃ q : Int, e = .returned (.int .i64 q) ∧ -1 ≤ q ∧ q ≤ 8 ∧ Src w w' cv g 2 [] := fun W g h => by
    go_enter Tryz.func54, Tryz.ntmps54
    go_wp2_with fail
    refine (pick_c w _ cv bs _ _ _ 10 hb h (by omega)).mono ?_
    rintro e w2 ⟨x, x0, x1, rfl, h2⟩
    have hx : x ≤ 9 := by omega
    clear x1
    go_wp2_with fail
    go_ret
    exact ⟨_, rfl, by omega, by omega, h2⟩
  have HZ := Lib.hid HZ
  go_enter Tryz.func13, Tryz.ntmps13
  go_wp2_with fail
  refine (l00From_c w cv bs hb).mono ?_
  rintro e w1 ⟨rfl, h1⟩
  go_wp2_with fail
  refine (HZ.out _ _ h1).mono ?_
  rintro e w2 ⟨q, rfl, q0, q1, h2⟩
  have hS := h2.st
  clear h1 h2
  go_wp2_with fail
  go_ret
  exact ⟨q, rfl, q0, q1, hS.out⟩
theorem upB_t : ∀ {xs : List Int}, upB xs = true → ∀ j, j + 1 < xs.length → nth xs j < nth xs (j + 1)
  | [], _, j, h => by simp at h
  | [_], _, j, h => by simp at h
  | a :: b :: r, hu, j, h => by
    rw [upB, Bool.and_eq_true, decide_eq_true_eq] at hu
    cases j with
    | zero => exact hu.1
    | succ j => exact upB_t hu.2 j (by simpa using h)
theorem rsC_res {n : Nat} {A C : List (List Int)} (h32 : n ≤ 32) (hok : dOk n A = true) (h : rsC n A C = true) : ResH n A (clsT A C) C := by
  rw [rsC, Bool.and_eq_true, List.all_eq_true] at h
  obtain ⟨h1, h2⟩ := h
  have hx : ∀ r, r < C.length → x3at (clsT A C) r = (xat C r).map fun k => xat A k.toNat := fun r hr => by
    rw [x3at_eq (by simpa [clsT] using hr), xat_eq hr]; simp [clsT]
  have hp : ∀ r, r < C.length → _ := fun r hr => h1 _ (xat_mem hr)
  simp only [Bool.and_eq_true, decide_eq_true_eq, List.all_eq_true] at hp
  have hlen : (clsT A C).length = C.length := by simp [clsT]
  refine ⟨h32, hok, hlen.symm, fun r hr => ?_, fun r hr j hj => ?_, fun r hr j hj => ?_, fun r hr => ?_, fun r hr x hxm => ?_, fun r hr x hxn => ?_, ?_⟩
  · rw [hlen] at hr; rw [hx r hr, List.length_map]
  · rw [hlen] at hr
    rw [hx r hr, List.length_map] at hj
    have := (hp r hr).1.1.1.1.1 _ (nth_mem hj)
    obtain ⟨i, hi⟩ := Int.eq_ofNat_of_zero_le this.1
    refine ⟨i, hi, by omega, ?_⟩
    rw [hx r hr, xat_eq (xss := (xat C r).map fun k => xat A k.toNat) (by rw [List.length_map]; exact hj)]
    rw [List.getElem_map, ← nth_eq hj, hi, Int.toNat_natCast]
  · rw [hlen] at hr
    rw [hx r hr, List.length_map] at hj
    exact upB_t (hp r hr).1.1.1.2 j hj
  · rw [hlen] at hr; rw [hx r hr]; exact (hp r hr).1.1.2
  · rw [hlen] at hr; rw [hx r hr] at hxm; exact (hp r hr).1.2 x hxm
  · rw [hlen] at hr; rw [hx r hr]
    have := (hp r hr).2 x (List.mem_range.2 hxn)
    simpa using this
  · have hP : C.flatten.Perm (idn A.length) := List.isPerm_iff.1 h2
    refine sorted_eq ((srt_perm _).trans hP) (srt_up _) ?_
    rw [idn, List.pairwise_map]
    exact (List.pairwise_lt_range (n := _)).imp fun h => by omega
/-- all that is known of a plane, its classes and its completion -/
structure PlF (q k : Nat) (D C E : List (List Int)) : Prop where
  ap : apB q = D
  cl : pcK D D.length = C
  cm : cmB (q * q) D C = E
  ok : dOk (q * q : Nat) D = true
  pb : prmB (q * q) D = true
  pv : prmV (q * q) D = [((q * q : Nat) : Int), ((q * q + q : Nat) : Int), ((q + 1 : Nat) : Int), (q : Int), 1]
  ord : ordP afV afK (q * q) D = q
  len : C.length = q + 1
  res : ResH (q * q) D (clsT D C) C
  eok : dOk (q * q + (q + 1) : Nat) E = true
  eord : ordP pjV pjK (q * q + (q + 1)) E = q
  kE : k < E.length
  kx : xat E k = nwP (q * q) (q + 1)
  kf : ∀ j, j < k → xat E j ≠ nwP (q * q) (q + 1)
  hne : ∀ j, j < E.length → (j : Int) ≠ k → rsB (xat E j) (cplB (q * q + (q + 1)) (xat E k)) ≠ []
  hn0 : cplB (q * q + (q + 1)) (xat E k) ≠ []
  hnl : (cplB (q * q + (q + 1)) (xat E k)).length = q * q
  back : srtL (resR E k (cplB (q * q + (q + 1)) (xat E k)) E.length) = D
  e32 : E.length ≤ 32
theorem ap_len {q : Nat} (h : q ∈ [2, 3, 4, 5]) : (apB q).length < 128 := by
  rw [(ap_lit q h).2]
  simp only [List.mem_cons, List.not_mem_nil, or_false] at h
  rcases h with rfl | rfl | rfl | rfl <;> decide
theorem plF {q : Nat} (h : q ∈ [2, 3, 4, 5]) : PlF q ((apE q).idxOf (nwP (q * q) (q + 1))) (apD q) (apC q) (apE q) := by
  have hq : q * q ≤ 32 := by
    simp only [List.mem_cons, List.not_mem_nil, or_false] at h
    rcases h with rfl | rfl | rfl | rfl <;> decide
  have h1 := ap_c1 q h
  have h2 := ap_c2 q h
  simp only [plC1, plC2, Bool.and_eq_true, decide_eq_true_eq, List.all_eq_true, List.mem_range, Bool.or_eq_true] at h1 h2
  obtain ⟨⟨⟨⟨⟨a1, a2⟩, a3⟩, a4⟩, a5⟩, a6⟩ := h1
  obtain ⟨⟨⟨⟨⟨⟨⟨⟨⟨b1, b2⟩, b3⟩, b4⟩, b5⟩, b6⟩, b7⟩, b8⟩, b9⟩, b10⟩ := h2
  exact ⟨(ap_lit q h).2, ap_cls q h, ap_cmp q h, a1, a2, a3, a4, a5, rsC_res hq a1 a6, b1, b2, b3, b4, b6, fun j hj hne => (b7 j hj).resolve_left (fun e => hne (by rw [e])), b8, b9, b10, b5⟩
/-- behind the cut: a design in a box of its own -/
def CutF (w : World) (Q : Int) (D : List (List Int)) (s16 s17 : Value) (w' : World) : Prop := ∃ (g : Nat) (v : Value) (u : List Value), s16 = .pointer (some ⟨g, 0, none⟩) ∧ s17 = .int .i64 0 ∧ RII w' v u D ∧ BoxD w' g Q v ∧ St w.heap.size w w' []
set_option maxHeartbeats 16000000 in
set_option maxRecDepth 100000 in
theorem FnPlanes_law (w : World) (cv : Value) (bs : List UInt8) (hb : RdB w cv bs) :
    Calls Tryz.prog 4 #[cv] w (GivesB w true) := by
  by_cases hlong : 1048576 < bs.length
  · have hl' : decide (1048576 < bs.length) = true := by simpa using hlong
    go_enter Tryz.func4, Tryz.ntmps4
    go_wp2_with fail
    refine (b10Long_c w cv bs hb).mono ?_
    rw [hl']
    rintro e w1 ⟨rfl, rfl⟩
    go_wp2_with fail
    go_ret
    exact ⟨rfl, St.refl _⟩
  have hl' : decide (1048576 < bs.length) = false := by simpa using hlong
  go_enter Tryz.func4, Tryz.ntmps4
  go_wp2_with fail
  refine (b10Long_c w cv bs hb).mono ?_
  rw [hl']
  rintro e w1 ⟨rfl, rfl⟩
  go_wp2_with fail
  refine (DrawAffinePlane_c w cv bs hb).mono ?_
  rintro e w1 ⟨q, rfl, q0, q8, hT⟩
  clear hlong hl' hb
  by_cases hbad : 5 < q ∨ mkOk q = false
  · have K1 := Lib.hid (AffinePlane_no q w1 hbad)
    have KP := fun W => Lib.hid (PrimePower_c q W)
    have hP : (pp (factors q)).1 = 0 ∨ 5 < q := by
      rcases hbad with h | h
      · exact .inr h
      · rcases pp_bad h with h | h
        · exact .inl h
        · exact .inr (by omega)
    generalize pp (factors q) = Pp at *
    clear hbad
    go_wp2_with fail
    refine K1.out.mono ?_
    rintro e w2 ⟨v2, us2, rfl, hl2, h2⟩
    obtain ⟨a2, c2, hv2⟩ := (h2.rd 0 (e := 44) (v := v2) (us := us2) rfl).sl.sh
    rw [show us2.length = 0 from hl2] at hv2
    subst hv2
    have hn := (newDz w2 0 (.slice a2 0 c2)).1
    have hT := (((hT.call0 h2.out).out).call0 hn).out
    clear h2 hn hl2 K1
    unfold dv
    go_wp2_with fail
    refine (KP _).out.mono ?_
    clear KP
    rintro e w3 ⟨rfl, h3⟩
    have hT := (hT.call0 h3).out
    clear h3
    rcases hP with hz | h5
    · have f1 : (Pp.1 == 0) = true := eq_t hz
      go_wp2_with fail
      go_ret
      exact ⟨rfl, hT⟩
    · by_cases hz : Pp.1 = 0
      · have f1 : (Pp.1 == 0) = true := eq_t hz
        go_wp2_with fail
        go_ret
        exact ⟨rfl, hT⟩
      · have f1 : (Pp.1 == 0) = false := eq_f hz
        go_wp2_with fail
        go_ret
        exact ⟨rfl, hT⟩
  · have hm : mkOk q = true := by
      cases h : mkOk q with
      | true => rfl
      | false => exact absurd (.inr h) hbad
    have hq5 : q ≤ 5 := by
      rcases Int.lt_or_le 5 q with h | h
      · exact absurd (.inl h) hbad
      · exact h
    obtain ⟨n, rfl, n2, -, -⟩ := mkOk_t hm
    have n5 : n ≤ 5 := by omega
    have hmem : n ∈ ([2, 3, 4, 5] : List Nat) := by simp only [List.mem_cons, List.not_mem_nil, or_false]; omega
    have HF := Lib.hid (plF hmem)
    have K1 := Lib.hid (AffinePlane_c n w1 hm n2 n5 (ap_few n hmem))
    generalize (apE n).idxOf (nwP (n * n) (n + 1)) = k at *
    generalize apE n = E at *
    generalize apC n = C at *
    generalize apD n = D at *
    rw [HF.out.ap] at K1
    obtain ⟨Q, hQ⟩ : ∃ Q : Nat, n * n = Q := ⟨_, rfl⟩
    have hQ4 : 4 ≤ Q ∧ Q ≤ 25 := by
      have h1 : 2 * 2 ≤ n * n := Nat.mul_le_mul n2 n2
      have h2 : n * n ≤ 5 * 5 := Nat.mul_le_mul n5 n5
      omega
    have hQi : (n : Int) * (n : Int) = (Q : Int) := by omega
    rw [hQ] at K1
    clear hbad hm hq5 q0 q8
    go_wp2_with fail
    refine K1.out.mono ?_
    clear K1
    rintro e w2 ⟨vd, ud, rfl, hld, h2⟩
    have rD := h2.rii hld
    obtain ⟨ad, cd, hvd⟩ := rD.1.sl.sh
    rw [hld] at hvd
    subst hvd
    have hT := (hT.call0 h2.out).out
    obtain ⟨hn, bd⟩ := newDz w2 Q (.slice ad D.length cd)
    have hT := (hT.call0 hn).out
    have rD := rD.keep hn.below
    have hok := HF.out.ok
    have hpb := HF.out.pb
    have hpv := HF.out.pv
    have hord := HF.out.ord
    rw [hQ] at hok hpb hpv hord
    have KP := Lib.hid (ParametersOf_c Q (.slice ad D.length cd) ud D _ rD hok)
    rw [hpv, show prmC Q D = 0 by rw [prmC, if_pos hpb]] at KP
    have HD128 := Lib.hid (show D.length < 128 by have := ap_len hmem; rw [HF.out.ap] at this; exact this)
    have Hok := Lib.hid hok
    have Hord := Lib.hid hord
    have b0 := bd.1
    have b1 := bd.2
    clear h2 hn hld hok hpb hpv hord
    unfold dv at KP ⊢
    go_wp2_with fail
    refine KP.out.mono ?_
    clear KP b0 b1
    unfold MakesPC pmV
    simp only [nth, List.getD_cons_zero, List.getD_cons_succ]
    rintro e w3 ⟨rfl, h3⟩
    have rD := rD.keep h3.below
    have bd := bd.keep h3.below
    have hT := (hT.call0 h3).out
    obtain ⟨hn, bp⟩ := newPz w3 (Q : Int) ((Q : Int) + (n : Int)) ((n : Int) + 1) n 1
    have hT := (hT.call0 hn).out
    have rD := rD.keep hn.below
    have bd := bd.keep hn.below
    have b0 := bd.1
    have b1 := bd.2
    have p0 := bp.c0
    have p1 := bp.c1
    have p2 := bp.c2
    have p3 := bp.c3
    have p4 := bp.c4
    have wQ : IntKind.i64.wrap (Q : Int) = (Q : Int) := IntWalk.i64_in _ (by omega)
    have w1 : IntKind.i64.wrap ((Q : Int) + (n : Int)) = (Q : Int) + (n : Int) := IntWalk.i64_in _ (by omega)
    have w2' : IntKind.i64.wrap ((n : Int) + 1) = (n : Int) + 1 := IntWalk.i64_in _ (by omega)
    have KA := Lib.hid (AffineOrder_c Q (.slice ad D.length cd) ud D _ rD Hok.out)
    rw [Hord.out] at KA
    clear h3 hn bp
    unfold dv at KA
    go_wp2_with (go_at_call 11; refine KA.out.mono ?_; rintro e w4 ⟨rfl, h4⟩; have bd := bd.keep h4.below; have b0 := bd.1; have b1 := bd.2)
    have rD := rD.keep h4.below
    have hT := (hT.call0 h4).out
    have KC := Lib.hid (ParallelClasses_c Q (.slice ad D.length cd) ud D w4 rD Hok.out (by rw [Hord.out]; omega))
    rw [HF.out.cl] at KC
    clear KA h4 p0 p1 p2 p3 p4
    unfold dv at KC
    refine KC.out.mono ?_
    clear KC b0 b1
    rintro e w5 ⟨vc, uc, rfl, hlc, h5⟩
    have rD := rD.keep h5.below
    have bd := bd.keep h5.below
    have hT := (hT.call0 h5.out).out
    have rC := h5.rii hlc
    have hlC := rC.len
    rw [HF.out.len] at hlC
    have b0 := bd.1
    have b1 := bd.2
    have hres := HF.out.res
    rw [hQ] at hres
    have KR := Lib.hid (ValidResolution_c Q (.slice ad D.length cd) vc ud uc D C (clsT D C) w5 hres rD rC)
    unfold dv at KR
    clear h5 hlc hres
    go_wp2_with (go_at_call 10; refine KR.out.mono ?_; rintro e w6 ⟨rfl, h6⟩; have bd := bd.keep h6.below; have b0 := bd.1; have b1 := bd.2)
    have rD := rD.keep h6.below
    have hT := (hT.call0 h6).out
    have KE := Lib.hid (CompletePlane_c Q (.slice ad D.length cd) ud D w6 rD Hok.out (by rw [Hord.out]; omega) (by rw [HF.out.cl, HF.out.len]; omega) (by have := (dOk_t Hok.out).len; have := HD128.out; omega))
    have hcm := HF.out.cm
    rw [hQ] at hcm
    rw [HF.out.cl, hcm, HF.out.len] at KE
    clear KR h6 hcm rC hlC
    unfold dv at KE
    refine KE.out.mono ?_
    clear KE b0 b1
    rintro e w7 ⟨ve, ue, rfl, hle, h7⟩
    have rE := h7.rii hle
    obtain ⟨ae, ce, hve⟩ := rE.1.sl.sh
    rw [hle] at hve
    subst hve
    have rD := rD.keep h7.below
    have bd := bd.keep h7.below
    have hT := (hT.call0 h7.out).out
    have eP : ((Q + (n + 1) : Nat) : Int) = (Q : Int) + ((n : Int) + 1) := by omega
    obtain ⟨hn, be⟩ := newDz w7 ((Q : Int) + ((n : Int) + 1)) (.slice ae E.length ce)
    have hT := (hT.call0 hn).out
    have rD := rD.keep hn.below
    have bd := bd.keep hn.below
    have rE := rE.keep hn.below
    have heok := HF.out.eok
    have heord := HF.out.eord
    rw [hQ] at heok heord
    have Heok := Lib.hid heok
    have Heord := Lib.hid heord
    have KO := Lib.hid (ProjectiveOrder_c (Q + (n + 1)) (.slice ae E.length ce) ue E _ rE Heok.out)
    rw [Heord.out] at KO
    have e0 := be.1
    have e1 := be.2
    unfold dv at KO ⊢
    rw [eP] at KO
    have hemp := (St.refl w7).newnil 2
    clear h7 hn hle heok heord hemp
    go_wp2_with (go_at_call 19; refine KO.out.mono ?_; rintro e w8 ⟨rfl, h8⟩)
    have rD := rD.keep h8.below
    have bd := bd.keep h8.below
    have rE := rE.keep h8.below
    have be := be.keep h8.below
    have hT := (hT.call0 h8).out
    have hS0 := St.emp0 (w := w8)
    clear KO h8 b0 b1 e0 e1
    go_loopw [15, 14] (fun i l wr => ∃ (j : Nat) (vl : Value), vl = l ∧ j ≤ n + 1 ∧ i = .int .i64 j ∧ St w8.heap.size w8 wr [row 2 vl (iv (nwP Q j))]) (fun i _ _ => n + 1 - (intOf i).toNat)
    case atStart => exact ⟨0, _, rfl, by omega, rfl, hS0⟩
    case round =>
      clear hS0
      obtain ⟨j, vl, rfl, hj, rfl, hS⟩ := hrel
      by_cases hjt : j < n + 1
      · have hle : (j : Int) ≤ (n : Int) := by omega
        have HN := Lib.hid (nwP_succ Q j)
        have hN := Lib.hid (show (nwP Q j).length < 4294967296 by rw [nwP_len]; omega)
        have w3 : IntKind.i64.wrap ((Q : Int) + (j : Int)) = (Q : Int) + (j : Int) := IntWalk.i64_in _ (by omega)
        go_wp2_with (at_builtin; refine appI hS 0 rfl hN.out rfl _ _ rfl rfl _ rfl ?_; intro v5 w5 hS5; simp only [List.set_cons_zero] at hS5)
        rw [← HN.out] at hS5
        go_roundw
        case rel => exact ⟨j + 1, _, rfl, by omega, by go_num, hS5⟩
        case measure => simp [intOf]; omega
      · obtain rfl : j = n + 1 := by omega
        have hgt : ¬ ((n + 1 : Nat) : Int) ≤ (n : Int) := by omega
        have rL := hS.rdI 0 rfl
        have rD := rD.keep hS.below
        have bd := bd.keep hS.below
        have rE := rE.keep hS.below
        have be := be.keep hS.below
        have hT := (hT.call0 hS.out).out
        have e0 := be.1
        have e1 := be.2
        have kx := HF.out.kx
        have kf := HF.out.kf
        have hne := HF.out.hne
        have hn0 := HF.out.hn0
        have hnl := HF.out.hnl
        have hbk := HF.out.back
        rw [hQ] at kx kf hne hn0 hnl hbk
        have KI := fun W h1 h2 => Lib.hid (b10Index_c (.slice ae E.length ce) vl ue E (nwP Q (n + 1)) k W h1 h2 HF.out.kE kx kf)
        have KR := fun W h1 => Lib.hid (RemoveLine_c (Q + (n + 1)) (.slice ae E.length ce) ue E k W h1 Heok.out HF.out.kE (by rw [Heord.out]; omega) hne hn0)
        rw [hnl, hbk] at KR
        unfold dv at KR
        rw [eP] at KR
        clear hS kx kf hne hn0 hnl hbk
        have hlt7 : w7.heap.size < wr.heap.size := World.block_lt_of_cell? _ _ e0
        have n1 : wr.heap.size ≠ w7.heap.size := by omega
        have n2' : w7.heap.size ≠ wr.heap.size := by omega
        have hX := (St.refl wr).drew
        have hXb := ((St.refl wr).newboxF 26 #[.int .i64 0, .slice none 0 0]).drew
        have rEd := rE.keep hX.below
        have rEb := rE.keep hXb.below
        have rLd := rL.keep hX.below
        have rLb := rL.keep hXb.below
        go_wp2_with fail
        go_cut [16, 17] from 136 (fun s16 s17 w' => CutF wr Q D s16 s17 w')
        case first =>
          go_region_held3 (fun w' => w'.cell? ⟨w7.heap.size, 0, none⟩ = some (.int .i64 ((Q : Int) + ((n : Int) + 1))) ∧ w'.cell? ⟨w7.heap.size, 1, none⟩ = some (.slice ae E.length ce)) (((try dsimp only); (repeat' apply And.intro); all_goals (repeat (first | assumption | exact cell_dr (by assumption) | refine cell_dr ?_ | refine cell_al ?_ | refine cell_sc (by assumption) ?_)))) (first
            | (go_at_call 21; (first | (refine (KI _ rEd rLd).out.mono ?_; rintro e w9 ⟨rfl, h9⟩; have hU := hX.call0 h9; have rE9 := rEd.keep h9.below) | (refine (KI _ rEb rLb).out.mono ?_; rintro e w9 ⟨rfl, h9⟩; have hU := hXb.call0 h9; have rE9 := rEb.keep h9.below)); have d0 : w9.cell? ⟨w7.heap.size, 0, none⟩ = some (.int .i64 ((Q : Int) + ((n : Int) + 1))) := cell_keepF h9.below (by first | exact cell_dr e0 | exact cell_dr (cell_al e0)); have d1 : w9.cell? ⟨w7.heap.size, 1, none⟩ = some (.slice ae E.length ce) := cell_keepF h9.below (by first | exact cell_dr e1 | exact cell_dr (cell_al e1)); have hlt9 : w7.heap.size < w9.heap.size := World.block_lt_of_cell? _ _ d0; have n3 : w9.heap.size ≠ w7.heap.size := (by omega); have n4 : w7.heap.size ≠ w9.heap.size := (by omega))
            | (go_at_call 20; (first | (refine (KR _ rE9).out.mono ?_; rintro e w10 ⟨v10, u10, rfl, hl10, h10⟩; have hV := hU.call h10; have g0 := cell_keepF h10.below d0; have g1 := cell_keepF h10.below d1) | (refine (KR _ (rE9.keep (hU.newboxF 26 #[.int .i64 0, .slice none 0 0] |> fun _ => (St.refl w9).newboxF 26 #[.int .i64 0, .slice none 0 0]).below)).out.mono ?_; rintro e w10 ⟨v10, u10, rfl, hl10, h10⟩; have hV := (hU.newboxF 26 #[.int .i64 0, .slice none 0 0]).call h10; have g0 := cell_keepF h10.below (cell_al d0); have g1 := cell_keepF h10.below (cell_al d1))); obtain ⟨a10, c10, hv10⟩ := (h10.rd 0 (e := 44) (v := v10) (us := u10) rfl).sl.sh; rw [hl10] at hv10; subst hv10; unfold dv; have Hl10 := Lib.hid hl10; clear hl10; have hlt10 : w7.heap.size < w10.heap.size := World.block_lt_of_cell? _ _ g0; have n5 : w10.heap.size ≠ w7.heap.size := (by omega); have n6 : w7.heap.size ≠ w10.heap.size := (by omega); (first | (have y0 := hV.bfree 0 rfl; have y1 := hV.bcell 0 rfl 0 rfl; have y2 := hV.bcell 0 rfl 1 rfl) | skip)))
          all_goals
            go_wp2_with fail
            go_meet
            case rel =>
              first
              | exact ⟨_, _, u10, rfl, rfl, (((hV.bstore 0 rfl 0 (.int .i64 Q)).bstore 0 rfl 1 (.slice a10 D.length c10)).sub (.cons _ (.refl _))).rii Hl10.out, ⟨((hV.bstore 0 rfl 0 (.int .i64 Q)).bstore 0 rfl 1 (.slice a10 D.length c10)).bcell 0 rfl 0 rfl, ((hV.bstore 0 rfl 0 (.int .i64 Q)).bstore 0 rfl 1 (.slice a10 D.length c10)).bcell 0 rfl 1 rfl⟩, ((hV.bstore 0 rfl 0 (.int .i64 Q)).bstore 0 rfl 1 (.slice a10 D.length c10)).out⟩
              | exact ⟨_, _, u10, rfl, rfl, (h10.rii Hl10.out).keep (newDz w10 Q (.slice a10 D.length c10)).1.below, (newDz w10 Q (.slice a10 D.length c10)).2, (hV.call0 (newDz w10 Q (.slice a10 D.length c10)).1).out⟩
        obtain ⟨gf, vf, uf, rfl, rfl, rF, bF, hF⟩ := hcut
        have hT := (hT.call0 hF).out
        have rD := rD.keep hF.below
        have bd := bd.keep hF.below
        obtain ⟨af, cf, hvf⟩ := rF.1.sl.sh
        rw [rF.2.1] at hvf
        subst hvf
        have KS := Lib.hid (SameDesignI_c Q (.slice af D.length cf) (.slice ad D.length cd) uf ud D D _ rF rD)
        rw [decide_eq_true rfl] at KS
        have f0 := bF.1
        have f1 := bF.2
        have b0 := bd.1
        have b1 := bd.2
        unfold dv at KS
        clear KI KR hX hXb rEd rEb rLd rLb e0 e1
        go_wp2_with (go_at_call 22; refine KS.out.mono ?_; rintro e w12 ⟨rfl, h12⟩)
        go_ret
        exact ⟨rfl, (hT.call0 h12).out⟩
end Go.Proofs.YtgflhgkcmfjkgaaGreat
end

section
/- How arguments that come in read. How bytes that come in read. -/
namespace Go.Proofs.YtgflhgkcmfjkgaaGreat
set_option linter.unusedSimpArgs false
set_option linter.unusedVariables false
open Go.RowKit


/-- what came in as a slice of integers: nothing, or a row of numbers that fit -/
def IsRow (k : IntKind) (w : World) (a : Option Addr) (len cap : Nat) (zs : List Int) : Prop :=
  (a = none ∧ len = 0 ∧ cap = 0 ∧ zs = []) ∨
  ∃ x, a = some x ∧ len ≤ cap ∧ cap ≤ maxLen ∧ zs.length = cap ∧ (∀ i, i < zs.length → w.cell? (x.add i) = some (.int k (zs.getD i 0))) ∧ ∀ n ∈ zs, (Lit.int k n).wf = true

theorem IsRow.rd {k : IntKind} {w : World} {a : Option Addr} {len cap : Nat} {zs : List Int} (h : IsRow k w a len cap zs) : Rd w (.slice a len cap) ((zs.take len).map (Value.int k)) := by
  rcases h with ⟨rfl, rfl, rfl, rfl⟩ | ⟨x, rfl, h1, h2, h3, h4, h5⟩
  · exact Rd.nil w
  · have hl : ((zs.take len).map (Value.int k)).length = len := by simp; omega
    refine ⟨⟨some x, cap, by rw [hl], by omega, h2, .inr (by simp)⟩, ?_⟩
    intro i u hu
    have hi : i < len := by have := (List.getElem?_eq_some_iff.1 hu).1; omega
    have := h4 i (by omega)
    simp only [List.getElem?_map, List.getElem?_take, hi, if_true] at hu
    rw [List.getElem?_eq_getElem (by omega)] at hu
    simp at hu
    simp only [el]
    rw [this, ← hu]
    simp [List.getD, List.getElem?_eq_getElem (show i < zs.length by omega)]


theorem IsRow.rdB {w : World} {a : Option Addr} {len cap : Nat} {zs : List Int} (h : IsRow .u8 w a len cap zs) : ∃ bs, RdB w (.slice a len cap) bs := by
  refine ⟨(zs.take len).map fun n => UInt8.ofNat n.toNat, ?_⟩
  have h1 := h.rd
  have hw : ∀ n ∈ zs, 0 ≤ n ∧ n ≤ 255 := by
    rcases h with ⟨_, _, _, rfl⟩ | ⟨_, _, _, _, _, _, h5⟩
    · simp
    · intro n hn; have := h5 n hn; simpa [Lit.wf, IntKind.min, IntKind.max, IntKind.signed, IntKind.bits] using this
  unfold RdB bv
  rw [List.map_map]
  rw [List.map_congr_left (g := Value.int .u8)]
  · exact h1
  · intro n hn
    have := hw n (List.mem_of_mem_take hn)
    simp only [Function.comp]
    congr 1
    rw [UInt8.toNat_ofNat']
    omega

end Go.Proofs.YtgflhgkcmfjkgaaGreat
end
