/- The texts of this claim, run 8: LBur Prf PFnBurnside. -/
import Derived.Test.YtegmjlblehjccaaK4
import Derived.Test.YtegmjlblehjccaaK5
import Derived.Test.YtegmjlblehjccaaK7
import Derived.ProofKit
import Derived.OpenShut
import Derived.ShutString
import Derived.ChangeOld
import Derived.Below
section
/- The law FnBurnside, walked. -/
namespace Go.Proofs.Ytegmjlblehjccaa
set_option linter.unusedSimpArgs false
set_option linter.unusedVariables false
open Go.RowKit
attribute [local go_sem ↓] Go.wp_at_zero Go.wp_at_succ

theorem fxS_two {n : Nat} {A : List (List Int)} (h : Grp n A) : fxS 2 n A A.length / A.length = (leastL n A).length := by
  unfold fxS
  rw [List.take_length, h.burn]
  exact Nat.mul_div_cancel _ h.pos
theorem fxS_one {n : Nat} {A : List (List Int)} (h : Grp n A) : fxS 1 n A A.length / A.length = 1 := by
  unfold fxS
  rw [List.take_length]
  have : (A.map fun p => 1 ^ cyc n (pf p)).sum = A.length := sum_ones fun p _ => Nat.one_pow _
  rw [this]; exact Nat.div_self h.pos
/-- the least colorings among the first x -/
def lsN (n : Nat) (A : List (List Int)) (x : Nat) : Nat := ((List.range x).filter (leastB n A)).length
theorem lsN_succ (n : Nat) (A : List (List Int)) (x : Nat) : lsN n A (x + 1) = lsN n A x + if leastB n A x = true then 1 else 0 := by
  unfold lsN
  rw [List.range_succ, List.filter_append, List.length_append]
  by_cases h : leastB n A x = true
  · rw [if_pos h, List.filter_cons_of_pos h]; rfl
  · rw [if_neg h, List.filter_cons_of_neg h]; rfl
def lsT (n : Nat) (A : List (List Int)) (x i : Nat) : Bool := decide (∀ t, t < i → x ≤ acL n (xat A t) x)
theorem lsT_0 (n : Nat) (A : List (List Int)) (x : Nat) : lsT n A x 0 = true := decide_eq_true fun t ht => by omega
theorem lsT_succ {n : Nat} {A : List (List Int)} {x i : Nat} (h : lsT n A x i = true) : lsT n A x (i + 1) = decide (x ≤ acL n (xat A i) x) := by
  unfold lsT at h ⊢
  rw [decide_eq_true_eq] at h
  rw [Bool.eq_iff_iff, decide_eq_true_eq, decide_eq_true_eq]
  constructor
  · intro h2; exact h2 i (by omega)
  · intro h2 t ht
    by_cases e : t = i
    · subst e; exact h2
    · exact h t (by omega)
theorem lsT_all {n : Nat} {A : List (List Int)} {x : Nat} : lsT n A x A.length = leastB n A x := by
  unfold lsT leastB
  rw [Bool.eq_iff_iff, decide_eq_true_eq, decide_eq_true_eq]
  constructor
  · intro h p hp
    obtain ⟨t, ht, rfl⟩ := List.getElem_of_mem hp
    rw [← xat_eq ht]; exact h t ht
  · intro h t ht; exact h _ (xat_mem ht)
theorem lsT_no {n : Nat} {A : List (List Int)} {x i : Nat} (hi : i ≤ A.length) (h : lsT n A x i = false) : leastB n A x = false := by
  rw [← lsT_all]
  unfold lsT at h ⊢
  rw [decide_eq_false_iff_not] at h ⊢
  exact fun q => h fun t ht => q t (by omega)
set_option maxHeartbeats 32000000 in
set_option maxRecDepth 100000 in
theorem FnBurnside_law (w : World) (cv : Value) (bs : List UInt8) (hb : RdB w cv bs) :
    Calls Try.prog 3 #[cv] w (GivesB w true) := by
  have hlb := hb.len
  by_cases hlo : (1048576 : Int) < (bs.length : Int)
  · go_enter Try.func3, Try.ntmps3
    go_wp2_with fail
    go_ret
    exact ⟨rfl, St.refl _⟩
  · go_enter Try.func3, Try.ntmps3
    go_wp2_with fail
    refine (V8Group_c _ cv bs hb).mono ?_
    rintro e w1 ⟨n, v, us, A, rfl, hn1, hn2, hG, hl, rv, h1⟩
    obtain ⟨a, c, hsh⟩ := rv.1.sl.sh
    rw [rv.2.1] at hsh
    subst hsh
    have hX := (St.refl w1).newboxF 25 #[.int .i64 n, .slice a A.length c]
    have d0 := hX.bcell 0 rfl 0 rfl
    have d1 := hX.bcell 0 rfl 1 rfl
    have K2 := Lib.hid (fun W (h : RII W (.slice a A.length c) us A) => BurnsideCount_c n 2 (.slice a A.length c) us A W h ⟨hn1, hn2⟩ hG hl (by omega))
    have K1 := Lib.hid (fun W (h : RII W (.slice a A.length c) us A) => BurnsideCount_c n 1 (.slice a A.length c) us A W h ⟨hn1, hn2⟩ hG hl (by omega))
    rw [fxS_two hG, show ((2 : Nat) : Int) = (2 : Int) from rfl] at K2
    rw [fxS_one hG, show ((1 : Nat) : Int) = (1 : Int) from rfl] at K1
    have Hv := Lib.hid rv
    have HG := Lib.hid hG
    have hln := rv.len
    have hix := rv.ixe
    have H1 := Lib.hid h1
    unfold gv at K1 K2
    unfold gvS
    clear rv hG hlo h1
    go_wp2_with fail
    refine (K2.out _ (hX.oldII Hv.out)).mono ?_
    clear K2 d0 d1
    rintro e w2 ⟨rfl, h2⟩
    have hX2 := hX.call0 h2
    have d0 := hX2.bcell 0 rfl 0 rfl
    have d1 := hX2.bcell 0 rfl 1 rfl
    clear hX h2
    go_wp2_with fail
    refine (K1.out _ (hX2.oldII Hv.out)).mono ?_
    clear K1 d0 d1
    rintro e w3 ⟨rfl, h3⟩
    have hX3 := hX2.call0 h3
    rw [show ((1 : Nat) : Int) = (1 : Int) from rfl]
    clear hX2 h3
    go_wp2_with fail
    have hLs : (leastL n A).length = lsN n A (2 ^ n) := rfl
    rw [hLs]
    clear hLs
    obtain ⟨N, hN⟩ : ∃ N, 2 ^ n = N := ⟨_, rfl⟩
    have hN5 : N ≤ 512 := by rw [← hN]; exact Nat.le_trans (Nat.pow_le_pow_right (by omega) hn2) (by decide)
    have hp2 : wrap64 ((2 : Int) ^ n) = (N : Int) := by
      rw [show (2 : Int) ^ n = ((2 ^ n : Nat) : Int) by rw [Int.natCast_pow]; rfl, hN]
      exact IntWalk.wrap64_in _ (by omega)
    rw [hN]
    have HN := Lib.hid hN
    clear hN
    go_loopw [8, 9, 10, 11, 12, 13] (fun ci xi _ _ _ _ wr => ∃ x : Nat, xi = .int .i64 x ∧ x ≤ N ∧ ci = .int .i64 (lsN n A x : Nat) ∧ St w1.heap.size w1 wr [box 25 w1.heap.size [.int .i64 n, .slice a A.length c]]) (fun _ xi _ _ _ _ _ => N - (intOf xi).toNat)
    case atStart => exact ⟨0, rfl, by omega, rfl, hX3⟩
    case round =>
      clear hX3
      obtain ⟨x, rfl, hx, rfl, hS⟩ := hrel
      have d0 := hS.bcell 0 rfl 0 rfl
      have hls : lsN n A x ≤ x := by unfold lsN; exact Nat.le_trans (List.length_filter_le _ _) (by simp)
      by_cases hxN : x < N
      · have hxi : ¬ (N : Int) ≤ (x : Int) := by omega
        have hxj : (x : Int) < (N : Int) := by omega
        have Hst := Lib.hid (lsN_succ n A x)
        go_wp2_with fail
        clear d0
        go_loopw [10, 11, 12, 13] (fun li ii _ _ wr => ∃ i : Nat, ii = .int .i64 i ∧ i ≤ A.length ∧ li = .bool (lsT n A x i) ∧ St w1.heap.size w1 wr [box 25 w1.heap.size [.int .i64 n, .slice a A.length c]]) (fun _ ii _ _ _ => A.length - (intOf ii).toNat)
        case atStart => exact ⟨0, rfl, by omega, by rw [lsT_0], hS⟩
        case round =>
          clear hS
          obtain ⟨i, rfl, hi, rfl, hS⟩ := hrel
          have d1 := hS.bcell 0 rfl 1 rfl
          by_cases hiA : i < A.length
          · have hii : (i : Int) < (A.length : Int) := by omega
            cases hb2 : lsT n A x i
            · have hno := Lib.hid (show lsN n A (x + 1) = lsN n A x by rw [Hst.out, lsT_no hi hb2]; rfl)
              clear hb2
              go_wp2_with fail
              go_roundw
              case rel => exact ⟨x + 1, by go_num, by omega, by rw [hno.out], hS⟩
              case measure => simp [intOf]; omega
            · have xi := hix (i : Int) i rfl hiA
              have hpr := HG.out.prm _ (xat_mem hiA)
              go_wp2_with fail
              go_loopw [12, 13] (fun yi ki wr => ∃ k : Nat, ki = .int .i64 k ∧ k ≤ n ∧ yi = .int .i64 (actK (pf (xat A i)) x k : Nat) ∧ St w1.heap.size w1 wr [box 25 w1.heap.size [.int .i64 n, .slice a A.length c]]) (fun _ ki _ => n - (intOf ki).toNat)
              case atStart => exact ⟨0, rfl, by omega, rfl, hS⟩
              case round =>
                clear hS d1
                obtain ⟨k, rfl, hk, rfl, hS⟩ := hrel
                have d0 := hS.bcell 0 rfl 0 rfl
                have d1 := hS.bcell 0 rfl 1 rfl
                by_cases hkn : k < n
                · have hki : (k : Int) < (n : Int) := by omega
                  have ci := (hS.oldII Hv.out).cell i hiA
                  have hrow := (hS.oldII Hv.out).row i hiA
                  have ck := hrow.cell k (by rw [hpr.2]; exact hkn)
                  rw [nth_pf hpr.1 (by rw [hpr.2]; exact hkn)] at ck
                  have xk := hrow.ixe (k : Int) k rfl (by rw [hpr.2]; exact hkn)
                  clear hrow
                  have hpk := hpr.bij.lt k hkn
                  have Haw := Lib.hid (act_word x k (pf (xat A i) k) (actK (pf (xat A i)) x k) (by omega) (by omega) (by have := actK_lt hpr.bij x (show k ≤ n by omega); rw [HN.out] at this; omega))
                  clear hpk
                  go_wp2_with fail
                  go_roundw
                  case rel => exact ⟨k + 1, by go_num, by omega, congrArg (Value.int .i64) Haw.out, hS⟩
                  case measure => simp [intOf]; omega
                · obtain rfl : k = n := by omega
                  have Hs := Lib.hid (lsT_succ hb2)
                  have Hac : Hid (acL k (xat A i) x = actK (pf (xat A i)) x k) := Lib.hid rfl
                  rw [Hac.out] at Hs
                  generalize actK (pf (xat A i)) x k = y at *
                  clear hb2
                  go_wp2_with fail
                  go_roundw
                  case rel => exact ⟨i + 1, by go_num, by omega, by rw [Hs.out], hS⟩
                  case measure => simp [intOf]; omega
          · obtain rfl : i = A.length := by omega
            rw [lsT_all]
            cases hb2 : leastB n A x
            · have hno := Lib.hid (show lsN n A (x + 1) = lsN n A x by rw [Hst.out, hb2]; rfl)
              clear hb2
              go_wp2_with fail
              go_roundw
              case rel => exact ⟨x + 1, by go_num, by omega, by rw [hno.out], hS⟩
              case measure => simp [intOf]; omega
            · have hno := Lib.hid (show lsN n A (x + 1) = lsN n A x + 1 by rw [Hst.out, hb2]; rfl)
              clear hb2
              have v1 : IntKind.i64.wrap ((lsN n A x : Int) + 1) = (lsN n A x : Int) + 1 := IntWalk.i64_in _ (by omega)
              go_wp2_with fail
              go_roundw
              case rel => exact ⟨x + 1, by go_num, by omega, by rw [hno.out]; rfl, hS⟩
              case measure => simp [intOf]; omega
      · obtain rfl : x = N := by omega
        have f9 : ((lsN n A x : Int) == (lsN n A x : Int)) = true := eq_t rfl
        have hout := H1.out.call0 hS.out
        go_wp2_with fail
        go_ret
        exact ⟨by first | rfl | simp, hout⟩
end Go.Proofs.Ytegmjlblehjccaa
end

section
/- How arguments that come in read. How bytes that come in read. -/
namespace Go.Proofs.Ytegmjlblehjccaa
set_option linter.unusedSimpArgs false
set_option linter.unusedVariables false
open Go.RowKit


/-- what came in as a slice of integers: nothing, or a row of numbers that fit -/
def IsRow (k : IntKind) (w : World) (a : Option Addr) (len cap : Nat) (zs : List Int) : Prop :=
  (a = none ∧ len = 0 ∧ cap = 0 ∧ zs = []) ∨
  ∃ x, a = some x ∧ len ≤ cap ∧ cap ≤ maxLen ∧ zs.length = cap ∧ (∀ i, i < zs.length → w.cell? (x.add i) = some (.int k (zs.getD i 0))) ∧ ∀ n ∈ zs, (Lit.int k n).wf = true

theorem IsRow.rd {k : IntKind} {w : World} {a : Option Addr} {len cap : Nat} {zs : List Int} (h : IsRow k w a len cap zs) : Rd w (.slice a len cap) ((zs.take len).map (Value.int k)) := by
  rcases h with ⟨rfl, rfl, rfl, rfl⟩ | ⟨x, rfl, h1, h2, h3, h4, h5⟩
  · exact Rd.nil w
  · have hl : ((zs.take len).map (Value.int k)).length = len := by simp; omega
    refine ⟨⟨some x, cap, by rw [hl], by omega, h2, .inr (by simp)⟩, ?_⟩
    intro i u hu
    have hi : i < len := by have := (List.getElem?_eq_some_iff.1 hu).1; omega
    have := h4 i (by omega)
    simp only [List.getElem?_map, List.getElem?_take, hi, if_true] at hu
    rw [List.getElem?_eq_getElem (by omega)] at hu
    simp at hu
    simp only [el]
    rw [this, ← hu]
    simp [List.getD, List.getElem?_eq_getElem (show i < zs.length by omega)]


theorem IsRow.rdB {w : World} {a : Option Addr} {len cap : Nat} {zs : List Int} (h : IsRow .u8 w a len cap zs) : ∃ bs, RdB w (.slice a len cap) bs := by
  refine ⟨(zs.take len).map fun n => UInt8.ofNat n.toNat, ?_⟩
  have h1 := h.rd
  have hw : ∀ n ∈ zs, 0 ≤ n ∧ n ≤ 255 := by
    rcases h with ⟨_, _, _, rfl⟩ | ⟨_, _, _, _, _, _, h5⟩
    · simp
    · intro n hn; have := h5 n hn; simpa [Lit.wf, IntKind.min, IntKind.max, IntKind.signed, IntKind.bits] using this
  unfold RdB bv
  rw [List.map_map]
  rw [List.map_congr_left (g := Value.int .u8)]
  · exact h1
  · intro n hn
    have := hw n (List.mem_of_mem_take hn)
    simp only [Function.comp]
    congr 1
    rw [UInt8.toNat_ofNat']
    omega

end Go.Proofs.Ytegmjlblehjccaa
end

section
/- FnBurnside holds: for every input the call returns true and leaves its arguments as they are. No condition. -/
namespace Go.Proofs.Ytegmjlblehjccaa.fnBurnside
set_option linter.unusedSimpArgs false
set_option linter.unusedVariables false
open Go.ChangeShapes Go.WideShapes Go.ChangeAt Go.RowKit
set_option linter.unusedVariables false

theorem own : ownKnob Try.prog.godebug = none := by kernel_rfl
theorem laidOut : laidOutB Try.prog = true := by kernel_rfl

set_option maxRecDepth 100000 in
theorem lifted (os : Os) (started : os.Started) (H : Type) (enc : TypeId × Value → H) :
    ReturnsInHanded {} Try.checked os 3 .any (Rows.fnBurnsideSpec.pre6 enc Try.prog Try.f3 Rows.fnBurnsideRow.domain false) (Rows.fnBurnsideSpec.post enc Try.prog Try.f3 false true false false) := by
  refine returnsInHanded_of_change (C := Try.checked) own started (by kernel_rfl) Try.func3
    (ChangeSpec.witness6 (enc := enc) (C := Try.checked) false ⟨#[], #[.slice none 0 0], []⟩ 8 (by kernel_rfl) (by kernel_rfl) (by kernel_rfl) (by kernel_rfl)) ?_
  intro W base args ds gs before hval0 hW hcnd _
  have hval : ∀ (j : Nat) t v, Try.f3.params[j]? = some t → args[j]? = some v → Value.okWide Try.prog W .any base t v := hval0
  have hW' := hW
  obtain ⟨p, q, hA0, hV, rfl, hfz, hnd⟩ := hW
  have hA : DataW.TrodAll enc Try.prog W 0 (fun _ => true) true Try.f3.params.toList args.toList ds p := hA0
  rw [Try.params3] at hA hval
  obtain ⟨v0, vs0, d0, ds0, p0, q0, hargs, rfl, rfl, h0, r0⟩ := trodAll_cons hA
  obtain ⟨rfl, rfl, rfl⟩ := trodAll_nil r0
  obtain rfl : args = #[v0] := by cases args; simp_all
  obtain ⟨rfl, rfl⟩ := trodVars_none hV
  obtain ⟨a0, len0, cap0, rfl⟩ := okWide_slice Try.underlying22 (hval 0 22 v0 rfl rfl)
  have k0 := h0
  have lt0 : ∀ x ∈ p0, x.block < W.heap.size := by obtain ⟨m, hm⟩ := k0; exact DataW.trod_lt m _ _ _ hm
  obtain ⟨bs0, rd0⟩ : ∃ bs, RdB W (.slice a0 len0 cap0) bs := by
    obtain ⟨fuel, hf⟩ := h0
    rcases open_ints Try.underlying22 Try.underlying5 (by kernel_rfl) hf with ⟨hcs, _⟩ | ⟨x, l, c, zs, hcs, _, hl, hm, hz, _, hcell, hwz⟩
    · simp [Value.cells] at hcs
      obtain ⟨rfl, rfl, rfl⟩ := hcs
      exact IsRow.rdB (zs := []) (.inl ⟨rfl, rfl, rfl, rfl⟩)
    · simp [Value.cells] at hcs
      obtain ⟨rfl, rfl, rfl⟩ := hcs
      exact IsRow.rdB (zs := zs) (.inr ⟨_, rfl, hl, hm, by simpa using hz, hcell, hwz⟩)
  clear hA0 hval0
  refine (FnBurnside_law W _ bs0 rd0).mono fun e W' ⟨he, hst⟩ => ?_
  have bel := hst.below
  subst he
  exact ⟨_, rfl, _, _, _, [], _, [], hW', trodAll_mk1 (shut_bool Try.underlying4 _), (trodAll_cons_mk (Below.trod laidOut (by kernel_rfl) (of_decide_eq_true (by kernel_rfl)) k0 bel lt0) trodAll_mk0), rfl, bel.frame _, fun h => by cases h⟩

theorem over : Rows.fnBurnsideRow.holds Try.pinned (OpenSpec.ofChange Rows.fnBurnsideSpec) :=
  OpenClaim.holds_of_wide 3 Try.f3 rfl rfl rfl rfl rfl rfl rfl ⟨rfl, rfl, rfl, rfl, rfl⟩ rfl rfl rfl rfl rfl (by kernel_rfl) Try.func3 (by kernel_rfl)
    (of_decide_eq_true (by kernel_rfl)) (by unfold Func.isWrapper; first | (rw [if_pos (by decide +kernel)]; kernel_rfl) | (rw [if_neg (by decide +kernel)]; exact ⟨rfl, rfl⟩))
    (fun os started H enc _ => lifted os started H enc)

theorem proved : Rows.FnBurnsideSaid := over
#print axioms proved
end Go.Proofs.Ytegmjlblehjccaa.fnBurnside
end
