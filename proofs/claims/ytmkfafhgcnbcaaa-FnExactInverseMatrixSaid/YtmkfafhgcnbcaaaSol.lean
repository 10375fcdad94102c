/- Walks: SolveRow of both sides. -/
import Derived.Test.YtmkfafhgcnbcaaaRR
import Derived.Test.YtmkfafhgcnbcaaaPSol
namespace Go.Proofs.Ytmkfafhgcnbcaaa
set_option linter.unusedSimpArgs false
set_option linter.unusedVariables false
open Go.RowKit
attribute [local go_sem ↓] Go.wp_at_zero Go.wp_at_succ

section
variable {ops : Array Oper} {o : Oper} {a : Act} {K : Act → World → Prop} {Q : Exit → Act → World → Prop} {E : Prop} {B : Nat} {w0 w : World} {L : List Ent}
/-- append of one integer, which lies in a block of its own, to an owned row of integers, as a step -/
theorem stepAppBoxI (hS : St B w0 w L) (i : Nat) {v : Value} {xs : List Int} (hi : L[i]? = some (row 2 v (iv xs))) (hN : xs.length < 4294967296) (t : Nat) {g : Nat} {n : Int} (ht : L[t]? = some (box 2 g [.int .i64 n])) (hg : o.guard = none) (s x : Operand)
    (hop : o.op = .call { callee := .builtin .append, args := #[s, x], argTypes := #[22, 22] }) (hs : a.eval s = v) (hx : a.eval x = .slice (some ⟨g, 0, none⟩) 1 1)
    (hK : ∀ v' w', St B w0 w' (L.set i (row 2 v' (iv (xs ++ [n])))) → K (a.put o.dst v') w') :
    if Region.wanted o (yielded ops a.tmps) = true then Oper.wp Try.prog o a w K Q else E :=
  step_st_app hg s x 22 hop 2 (.int .i64 0) 8 Try.und_is Try.info_i rfl hS i hi hs ⟨g, 0, none⟩ 1 1 hx [.int .i64 n] rfl (by
    intro j u' hj
    match j, hj with
    | 0, hj =>
      simp at hj; subst hj
      rw [add_mk]
      exact hS.bcell t ht 0 rfl) (by simp [Value.oneCell']) (by omega) (by rw [iv_len]; omega) (fun v' w' h => hK v' w' (by rw [iv_app, iv_one]; exact h))
end

/-- the code of SolveRow, and the vector -/
def slvR (p d : Int) (xs : List Int) (m : List (List Int)) (b : List Int) : List (List Int) × List Int × Int := red p d.toNat xs (xat m 0).length 0 (wide m b m.length) [] 1
def slvC (p d : Int) (xs : List Int) (m : List (List Int)) (b : List Int) : Int :=
  if matOk p d xs m = true then if vecOk (p ^ d.toNat) b = true then if b.length = m.length then if solvable (slvR p d xs m b).1 (slvR p d xs m b).2.1.length (xat m 0).length = true then 0 else 3 else 6 else 1 else 1
def slvM (p d : Int) (xs : List Int) (m : List (List Int)) (b : List Int) : List Int := if slvC p d xs m b = 0 then solP (slvR p d xs m b).1 (slvR p d xs m b).2.1 (xat m 0).length (slvR p d xs m b).2.1.length else []

theorem sol_take {R : List (List Int)} {piv : List Int} {n t : Nat} : ∀ k, k ≤ t → solP (R.take t) piv n k = solP R piv n k
  | 0, _ => rfl
  | k + 1, h => by
    rw [solP, solP, sol_take k (by omega)]
    have : ra (R.take t) k = ra R k := by unfold ra; rw [List.getD_eq_getElem?_getD, List.getD_eq_getElem?_getD, List.getElem?_take, if_pos (by omega)]
    rw [this]
/-- what the program's reduction of the wide matrix comes to -/
theorem slv_yes {p : Int} {D : Nat} {fs : List Int} {m : List (List Int)} {n : Nat} (h : solvable (red p D fs n 0 m [] 1).1 (red p D fs n 0 m [] 1).2.1.length n = true) :
    (red p D fs (n + 1) 0 m [] 1).1 = (red p D fs n 0 m [] 1).1 ∧ (red p D fs (n + 1) 0 m [] 1).2.1 = (red p D fs n 0 m [] 1).2.1 := by
  rw [red_split n 1, Nat.zero_add, red_last]
  split
  · exact ⟨rfl, rfl⟩
  · unfold solvable at h
    cases hz : fnz (red p D fs n 0 m [] 1).1 (red p D fs n 0 m [] 1).2.1.length n with
    | none => exact ⟨rfl, rfl⟩
    | some i => rw [hz] at h; cases h
theorem slv_no {p : Int} {D : Nat} {fs : List Int} {m : List (List Int)} {n : Nat} (hl : (red p D fs n 0 m [] 1).2.1.length ≤ (red p D fs n 0 m [] 1).1.length) (h : solvable (red p D fs n 0 m [] 1).1 (red p D fs n 0 m [] 1).2.1.length n = false) :
    (red p D fs (n + 1) 0 m [] 1).2.1 = (red p D fs n 0 m [] 1).2.1 ++ [(n : Int)] := by
  rw [red_split n 1, Nat.zero_add, red_last]
  unfold solvable at h
  cases hz : fnz (red p D fs n 0 m [] 1).1 (red p D fs n 0 m [] 1).2.1.length n with
  | none => rw [hz] at h; cases h
  | some i =>
    have := (fnz_some hz).2.1
    have := (fnz_some hz).1
    rw [if_neg (by omega)]
/- SOLVE -/
theorem rowsI_set2 {us : List Value} {R : List (List Int)} (hl : us.length = R.length) {j : Nat} (hj : j < R.length) (u : Value) (r : List Int) : (rowsI us R).set j (row 2 u (iv r)) = rowsI (us.set j u) (R.set j r) := by
  have hl' : (us.set j u).length = (R.set j r).length := by simpa using hl
  apply List.ext_getElem?
  intro k
  rw [List.getElem?_set]
  by_cases hk : k < R.length
  · rw [rowsI_get hl' (by simpa using hk), vat_set (by omega), show xat (R.set j r) k = if j = k then r else xat R k from ra_set hj]
    by_cases e : j = k
    · subst e; rw [if_pos rfl, if_pos rfl, if_pos rfl, if_pos (by rw [rowsI_len hl]; exact hj)]
    · rw [if_neg e, if_neg e, if_neg e, rowsI_get hl hk]
  · rw [rowsI_no hl' (by simp; omega), if_neg (by omega), rowsI_no hl (by omega)]

set_option maxHeartbeats 16000000 in
set_option maxRecDepth 100000 in
theorem SolveRow_c (p d : Int) (v : Value) (xs : List Int) (vm : Value) (us : List Value) (xss : List (List Int)) (vb : Value) (b : List Int) (w : World) (hv : RdI w v xs) (hm : RII w vm us xss) (hb : RdI w vb b) (hd : d ≤ 9223372036854775807) :
    Calls Try.prog 46 #[fv p d v, vm, vb] w (MakesLC w (slvM p d xs xss b) (slvC p d xs xss b)) := by
  have hS0 := (St.refl w).newboxF 29 #[.int .i64 p, .int .i64 d, v]
  have HV := Lib.hid (ValidMatrix_c p d v xs vm us xss _ (hS0.oldI hv) (hS0.oldII hm) hd)
  have a0 := hS0.bcell 0 rfl 0 rfl
  have a1 := hS0.bcell 0 rfl 1 rfl
  have a2 := hS0.bcell 0 rfl 2 rfl
  unfold fv at HV ⊢
  cases h1 : matOk p d xs xss
  · have HC := Lib.hid (show slvC p d xs xss b = 1 by rw [slvC, if_neg (by rw [h1]; simp)])
    have HM := Lib.hid (show slvM p d xs xss b = [] by rw [slvM, HC.out]; rfl)
    have H1 := Lib.hid h1; clear h1
    go_enter Try.func46, Try.ntmps46
    go_wp2_with fail
    refine HV.out.mono ?_
    rw [H1.out]
    rintro e w1 ⟨rfl, h1⟩
    have hS1 := hS0.call0 h1
    go_wp2_with fail
    go_ret2
    rw [HM.out, HC.out]
    exact ⟨_, rfl, hS1.out.newnil _⟩
  · have hmv := matOk_t h1
    obtain ⟨D, rfl⟩ := Int.eq_ofNat_of_zero_le (show 0 ≤ d by have := hmv.f.d1; omega)
    have H1 := Lib.hid h1
    have hq := hmv.f.q
    have hq0 : 0 ≤ p ^ (D : Int).toNat := Int.pow_nonneg (by have := hmv.f.p2; omega)
    have HFS := fun W (hv : RdI W v xs) => Lib.hid (fieldSize_c p D v xs W hmv.f)
    have HAI := fun W (h : RdI W vb b) => Lib.hid (areIn_c (p ^ (D : Int).toNat) vb b W h hq0 (by omega))
    have hlb := hb.len
    have hlm := hm.len
    unfold fv at HFS
    cases h2 : vecOk (p ^ (D : Int).toNat) b
    · have HC := Lib.hid (show slvC p D xs xss b = 1 by rw [slvC, if_pos h1, if_neg (by rw [h2]; simp)])
      have HM := Lib.hid (show slvM p D xs xss b = [] by rw [slvM, HC.out]; rfl)
      have H2 := Lib.hid h2
      clear h1 h2 hmv
      generalize p ^ (D : Int).toNat = q at *
      go_enter Try.func46, Try.ntmps46
      go_wp2_with fail
      refine HV.out.mono ?_
      rw [H1.out]
      rintro e w1 ⟨rfl, h1⟩
      have hS1 := hS0.call0 h1
      have c0 := hS1.bcell 0 rfl 0 rfl
      have c1 := hS1.bcell 0 rfl 1 rfl
      have c2 := hS1.bcell 0 rfl 2 rfl
      go_wp2_with fail
      refine (HFS _ (hS1.oldI hv)).out.mono ?_
      rintro e w2 ⟨rfl, h2⟩
      have hS2 := hS1.call0 h2
      go_wp2_with fail
      refine (HAI _ (hS2.oldI hb)).out.mono ?_
      rw [H2.out]
      rintro e w3 ⟨rfl, h3⟩
      have hS3 := hS2.call0 h3
      go_wp2_with fail
      go_ret2
      rw [HM.out, HC.out]
      exact ⟨_, rfl, hS3.out.newnil _⟩
    · have H2 := Lib.hid h2
      by_cases hlen : b.length = xss.length
      · have f1 := ne_f (show (b.length : Int) = (xss.length : Int) by omega)
        have hb' : In (p ^ D) b := by have := vecOk_in h2; rwa [Int.toNat_natCast] at this
        have hr1 := hmv.rows1
        have hr32 := hmv.rows
        have hc32 := hmv.cols
        have hrectw := wide_rect (b := b) hmv.rct hb' hlen
        have hx0 := hm.ixe 0 0 rfl hr1
        have hl0 := (hm.row 0 hr1).len
        have hcp := fun W (h : RII W vm us xss) => Lib.hid (copyLists_c vm us xss W h (by omega) (fun r hr => by have := (hmv.rct r hr).1; omega))
        have Hrc := Lib.hid (fun r (hr : r ∈ xss) => (hmv.rct r hr).1)
        have HT := fun W (hv : RdI W v xs) => Lib.hid (tablesOf_c p D v xs W hv hmv.f)
        have HR := fun va ua vs us' vm' um vi W vw uw (ht : TB W p D xs va ua vs us' vm' um vi) (h : RII W vw uw (wide xss b xss.length)) => Lib.hid (reduce_c p D xs va ua vs us' vm' um vi vw uw (wide xss b xss.length) ((xat xss 0).length + 1) W ht h hmv.f (by omega) (by rw [wide_len]; omega) hrectw)
        have HsC := Lib.hid (show slvC p D xs xss b = if solvable (red p D xs (xat xss 0).length 0 (wide xss b xss.length) [] 1).1 (red p D xs (xat xss 0).length 0 (wide xss b xss.length) [] 1).2.1.length (xat xss 0).length = true then 0 else 3 by rw [slvC, if_pos h1, if_pos h2, if_pos hlen]; rfl)
        have HsM := Lib.hid (show slvM p D xs xss b = if slvC p D xs xss b = 0 then solP (red p D xs (xat xss 0).length 0 (wide xss b xss.length) [] 1).1 (red p D xs (xat xss 0).length 0 (wide xss b xss.length) [] 1).2.1 (xat xss 0).length (red p D xs (xat xss 0).length 0 (wide xss b xss.length) [] 1).2.1.length else [] from rfl)
        have Hyes := Lib.hid (slv_yes (p := p) (D := D) (fs := xs) (m := wide xss b xss.length) (n := (xat xss 0).length))
        have Hpre := Lib.hid (red_pre hmv.f.fa ((xat xss 0).length + 1) 0 (R := wide xss b xss.length) (piv := []) (det := 1) hrectw (by simp))
        have Hpre1 := Lib.hid (red_pre hmv.f.fa (xat xss 0).length 0 (R := wide xss b xss.length) (piv := []) (det := 1) hrectw (by simp))
        have Hno := Lib.hid (slv_no (p := p) (D := D) (fs := xs) (m := wide xss b xss.length) (n := (xat xss 0).length) (by have := Hpre1.out.2; omega))
        have Hpv := Lib.hid (red_piv (p := p) (D := D) (fs := xs) (xat xss 0).length 0 (R := wide xss b xss.length) (piv := []) (det := 1) (by simp))
        have Hp2 := Lib.hid (red_piv (p := p) (D := D) (fs := xs) ((xat xss 0).length + 1) 0 (R := wide xss b xss.length) (piv := []) (det := 1) (by simp))
        clear h1 h2 hmv hlen hrectw
        generalize red p D xs ((xat xss 0).length + 1) 0 (wide xss b xss.length) [] 1 = X2 at HR Hpre Hyes Hno Hp2
        generalize red p D xs (xat xss 0).length 0 (wide xss b xss.length) [] 1 = X1 at HsC HsM Hyes Hno Hpv Hpre1
        generalize hN : (xat xss 0).length = N at *
        clear hN
        generalize p ^ (D : Int).toNat = q at *
        go_enter Try.func46, Try.ntmps46
        go_wp2_with fail
        refine HV.out.mono ?_
        rw [H1.out]
        rintro e w1 ⟨rfl, h1⟩
        have hS1 := hS0.call0 h1
        have c0 := hS1.bcell 0 rfl 0 rfl
        have c1 := hS1.bcell 0 rfl 1 rfl
        have c2 := hS1.bcell 0 rfl 2 rfl
        go_wp2_with fail
        refine (HFS _ (hS1.oldI hv)).out.mono ?_
        rintro e w2 ⟨rfl, h2⟩
        have hS2 := hS1.call0 h2
        go_wp2_with fail
        refine (HAI _ (hS2.oldI hb)).out.mono ?_
        rw [H2.out]
        rintro e w3 ⟨rfl, h3⟩
        have hS3 := hS2.call0 h3
        go_wp2_with fail
        refine (hcp _ (hS3.oldII hm)).out.mono ?_
        rintro e w4 ⟨vw, ul, rfl, hul, h4⟩
        have Hul := Lib.hid (show ul.length = xss.length from hul)
        have hS4 : St w.heap.size w w4 (box 29 w.heap.size [.int .i64 p, .int .i64 D, v] :: row 22 vw ul :: rowsI ul (wide xss b 0)) := by rw [wide_0]; exact hS3.call h4
        have hlw := (h4.rii hul).len
        clear hS0 hS1 hS2 hS3 h1 h2 h3 h4 hul c0 c1 c2 a0 a1 a2 HV HFS HAI hcp
        go_wp2_with fail
        go_loopw [9, 37] (fun _ ii wr => ∃ (k : Nat) (uw : List Value), k ≤ xss.length ∧ ii = .int .i64 k ∧ Hid (uw.length = xss.length) ∧ St w.heap.size w wr (box 29 w.heap.size [.int .i64 p, .int .i64 D, v] :: row 22 vw uw :: rowsI uw (wide xss b k))) (fun _ ii _ => xss.length - (intOf ii).toNat)
        case atStart => exact ⟨0, ul, by omega, rfl, Hul.out, hS4⟩
        case round =>
          obtain ⟨k, uw, hk, rfl, huw, hS⟩ := hrel
          by_cases hlt : k < xss.length
          · have hkw : k < (wide xss b k).length := by rw [wide_len]; exact hlt
            have Hlu := Lib.hid (show uw.length = (wide xss b k).length by rw [wide_len]; exact huw.out)
            have hku : k < uw.length := by rw [huw.out]; exact hlt
            have hkb : k < b.length := by have := f1; simp at this; omega
            have hrr := (hS.sub (List.sublist_cons_self _ _)).rii Hlu.out
            have ck : wr.cell? (el vw k) = some (vat uw k) := hrr.cell k hkw
            have xk := hrr.ixe (k : Int) k rfl hkw
            have cb := (hS.oldI hb).cell k hkb
            have xb := (hS.oldI hb).ixe (k : Int) k rfl hkb
            have Hxk := Lib.hid (show xat (wide xss b k) k = xat xss k from ra_wide hlt)
            have hat : (box 29 w.heap.size [.int .i64 p, .int .i64 D, v] :: row 22 vw uw :: rowsI uw (wide xss b k))[k + 2]? = some (row 2 (vat uw k) (iv (xat xss k))) := by
              have h := rowsI_get Hlu.out hkw
              rw [Hxk.out] at h
              exact h
            clear hrr
            go_wp2_with fail
            refine regionG (fun w' => w'.cell? (el vw k) = some (vat uw k) ∧ w'.cell? (el vb k) = some (.int .i64 (nth b k))) 13 (by kernel_rfl) ⟨cell_dr ck, cell_dr cb⟩ (fun hHeld => ?_)
            refine takeP (i := 0) (v := ?_) rfl (by kernel_rfl) (fun _ _ _ h => h) (by rfl) ?_ (by assumption) ?_
            case refine_2 => (intro w'; go_simp; first | done | with_reducible rfl)
            try simp only [Act.put, List.setIfInBounds_toArray, List.set_cons_zero, List.set_cons_succ]
            refine takeP (i := 1) (v := ?_) rfl (by kernel_rfl) (fun _ _ _ h => h) (by rfl) ?_ (by assumption) ?_
            case refine_2 => (intro w'; go_simp; first | done | with_reducible rfl)
            try simp only [Act.put, List.setIfInBounds_toArray, List.set_cons_zero, List.set_cons_succ]
            refine takeP (i := 2) (v := ?_) rfl (by kernel_rfl) (fun _ _ _ h => h) (by rfl) ?_ (by assumption) ?_
            case refine_2 => (intro w'; go_simp; first | done | with_reducible rfl)
            try simp only [Act.put, List.setIfInBounds_toArray, List.set_cons_zero, List.set_cons_succ]
            refine takeP (i := 3) (v := ?_) rfl (by kernel_rfl) (fun _ _ _ h => h) (by rfl) ?_ (by assumption) ?_
            case refine_2 => (intro w'; go_simp; first | done | with_reducible rfl)
            try simp only [Act.put, List.setIfInBounds_toArray, List.set_cons_zero, List.set_cons_succ]
            refine takeP (i := 4) (v := ?_) rfl (by kernel_rfl) (fun _ _ _ h => h) (by rfl) ?_ (by assumption) ?_
            case refine_2 => (intro w'; go_simp; first | done | with_reducible rfl)
            try simp only [Act.put, List.setIfInBounds_toArray, List.set_cons_zero, List.set_cons_succ]
            refine takeH (i := 5) [11] (v := ?_) rfl (by kernel_rfl) (fun _ _ _ h => h) (by rfl) ?_ (by assumption) ?_
            case refine_2 => (intro w' hSw; (try dsimp only at hSw); go_simp; first | done | with_reducible rfl)
            try simp only [Act.put, List.setIfInBounds_toArray, List.set_cons_zero, List.set_cons_succ]
            refine takeP (i := 6) (v := ?_) rfl (by kernel_rfl) (fun _ _ _ h => h) (by rfl) ?_ (by assumption) ?_
            case refine_2 => (intro w'; go_simp; first | done | with_reducible rfl)
            try simp only [Act.put, List.setIfInBounds_toArray, List.set_cons_zero, List.set_cons_succ]
            refine takeP (i := 7) (v := ?_) rfl (by kernel_rfl) (fun _ _ _ h => h) (by rfl) ?_ (by assumption) ?_
            case refine_2 => (intro w'; go_simp; first | done | with_reducible rfl)
            try simp only [Act.put, List.setIfInBounds_toArray, List.set_cons_zero, List.set_cons_succ]
            refine takeP (i := 8) (v := ?_) rfl (by kernel_rfl) (fun _ _ _ h => h) (by rfl) ?_ (by assumption) ?_
            case refine_2 => (intro w'; go_simp; first | done | with_reducible rfl)
            try simp only [Act.put, List.setIfInBounds_toArray, List.set_cons_zero, List.set_cons_succ]
            refine takeH (i := 9) [10, 11] (v := ?_) rfl (by kernel_rfl) (fun _ _ _ h => h) (by rfl) ?_ (by assumption) ?_
            case refine_2 => (intro w' hSw; (try dsimp only at hSw); go_simp; first | done | with_reducible rfl)
            try simp only [Act.put, List.setIfInBounds_toArray, List.set_cons_zero, List.set_cons_succ]
            refine readyG (rs := [10]) (by kernel_rfl) (by simp) ?_
            refine AllG.cons rfl (fun K hK => ?_) AllG.nil
            go_simp
            have hSa := hS.newboxF 2 #[.int .i64 (nth b k)]
            refine hK.out _ _ ⟨cell_dr (cell_al ck), cell_dr (cell_al cb)⟩ (fun hHeld => ?_)
            clear hK K
            try simp only [Act.put, List.setIfInBounds_toArray, List.set_cons_zero, List.set_cons_succ]
            refine readyG (rs := [11]) (by kernel_rfl) (by simp) ?_
            refine AllG.cons rfl (fun K hK => ?_) AllG.nil
            have Hnl := Lib.hid (show (xat xss k).length < 4294967296 by rw [(Hrc.out _ (xat_mem hlt))]; omega)
            refine stepAppBoxI hSa.drew (k + 3) hat Hnl.out 0 rfl rfl (.tmp 45) (.tmp 50) rfl (by first | rfl | simp [Act.eval, Act.put]) (by first | rfl | simp [Act.eval, Act.put]) ?_
            intro v9 w9 hS9
            simp only [List.set_cons_succ] at hS9
            rw [rowsI_set2 Hlu.out hkw, show nth b k = cf b k from rfl, show xat xss k = ra xss k from rfl, wide_set hlt] at hS9
            have hl9 : (uw.set k v9).length = (wide xss b (k + 1)).length := by rw [List.length_set, wide_len]; exact huw.out
            have hg9 := rowsI_get hl9 (j := k) (by rw [wide_len]; exact hlt)
            rw [vat_set hku, if_pos rfl] at hg9
            obtain ⟨na, nc, hne⟩ := (hS9.rdI (k + 3) hg9).shp'
            subst hne
            have n0 : w9.cell? (el vw k) = some (vat uw k) := (hS9.rd 2 rfl).cell hku
            have n1 := (hS9.oldI hb).cell k hkb
            have u0 := hS9.unfrozen 2 rfl hku
            refine hK.out _ _ ⟨n0, n1⟩ (fun hHeld => ?_)
            clear hK K
            try simp only [Act.put, List.setIfInBounds_toArray, List.set_cons_zero, List.set_cons_succ]
            refine takeP (i := 12) (v := ?_) rfl (by kernel_rfl) (fun _ _ _ h => h) (by rfl) ?_ (by assumption) ?_
            case refine_2 => (intro w'; go_simp; first | done | with_reducible rfl)
            try simp only [Act.put, List.setIfInBounds_toArray, List.set_cons_zero, List.set_cons_succ]
            refine readyG (rs := [13]) (by kernel_rfl) (by simp) ?_
            refine AllG.last rfl (by kernel_rfl) (fun K hK => ?_) AllG.nil
            go_simp
            refine hK.out _ _ ?_
            clear hK K
            try simp only [Act.put, List.setIfInBounds_toArray, List.set_cons_zero, List.set_cons_succ]
            refine doneG (by kernel_rfl) ?_ _
            refine NoPanic.normal ?_
            have hS10 := hS9.store 2 rfl (j := k) hku (.slice na (xat (wide xss b (k + 1)) k).length nc)
            go_wp2_with fail
            go_roundw
            case rel => exact ⟨k + 1, _, by omega, by go_num, by unfold Hid; rw [List.length_set]; exact huw.out, hS10.sub (List.sublist_cons_self _ _)⟩
            case measure => simp [intOf]; omega
          · have hkx : k = xss.length := by omega
            rw [hkx] at hS
            clear hkx
            have hw := (hS.sub (List.sublist_cons_self _ _)).rii (by rw [wide_len]; exact huw.out)
            have c0 := hS.bcell 0 rfl 0 rfl
            have c1 := hS.bcell 0 rfl 1 rfl
            have c2 := hS.bcell 0 rfl 2 rfl
            go_wp2_with fail
            refine (HT _ (hS.oldI hv)).out.mono ?_
            rintro e w3 ⟨va, ua, vs, us', vm', um, vi, rfl, hua, hus, hum, h3⟩
            have hS3 := hS.call0 h3.out
            have hTB := tb_of h3 hua hus hum
            go_wp2_with fail
            refine (HR va ua vs us' vm' um vi _ vw uw hTB (hw.keep h3.below)).out.mono ?_
            rintro e w5 ⟨v5, u5, p5, rfl, hl5, hk5, h5⟩
            have HW := Lib.hid (hS3.call0 h5.out)
            have hp5 := h5.rdI 0 rfl
            have hr5 : RII w5 v5 u5 (X2.1.take X2.2.1.length) := (h5.sub (List.sublist_cons_self _ _)).rii (by rw [hl5, List.length_take]; omega)
            have HQl := Lib.hid (show (X2.1.take X2.2.1.length).length = X2.2.1.length by rw [List.length_take]; omega)
            have HQr := Lib.hid (show ∀ r ∈ X2.1.take X2.2.1.length, r.length = N + 1 from fun r hr => (Hpre.out.1 r (List.mem_of_mem_take hr)).1)
            have Hsame := Lib.hid (show ∀ k, k ≤ X2.2.1.length → solP (X2.1.take X2.2.1.length) X2.2.1 N k = solP X2.1 X2.2.1 N k from fun k hk => sol_take k hk)
            have hm5 := HW.out.oldII hm
            have cm0 := hm5.cell 0 hr1
            have hX32 : X2.2.1.length ≤ 32 := by have := Hpre.out.2.2; rw [wide_len] at this; omega
            have hlp := hp5.len
            have hxp := hp5.ix
            clear hS hS3 hS4 h3 h5 hTB hw hua hus hum hl5 hk5 c0 c1 c2 HT HR hlw
            generalize X2.1.take X2.2.1.length = Q at hr5 HQl HQr Hsame
            go_wp2_with (at_make; refine mkI (St.refl w5) rfl _ _ rfl _ _ N rfl rfl (by omega) ?_; intro vx w6 hS6)
            go_loopw [15, 16, 70] (fun _ _ ii wr => ∃ i : Nat, i ≤ X2.2.1.length ∧ ii = .int .i64 i ∧ Hid (∀ j, j < i → cf X2.2.1 j < N) ∧ St w5.heap.size w5 wr [row 2 vx (iv (solP Q X2.2.1 N i))]) (fun _ _ ii _ => X2.2.1.length - (intOf ii).toNat)
            case atStart => exact ⟨0, by omega, rfl, fun j h => by omega, hS6⟩
            case round =>
              obtain ⟨i, hi, rfl, hlo, hS⟩ := hrel
              by_cases hil : i < X2.2.1.length
              · have cp := (hS.oldI hp5).cell i hil
                have hpi := Hp2.out _ (nth_mem hil)
                obtain ⟨pn, hpn⟩ := Int.eq_ofNat_of_zero_le hpi.1
                have hple : pn ≤ N := by have := hpi.2; omega
                rw [hpn] at cp
                by_cases hpN : pn = N
                · have f2 := eq_t (show (pn : Int) = (N : Int) by omega)
                  have HC := Lib.hid (show slvC p D xs xss b = 3 by
                    rw [HsC.out]
                    cases hsv : solvable X1.1 X1.2.1.length N with
                    | false => rfl
                    | true =>
                      have h1 := (Hyes.out hsv).2
                      have h2 := Hpv.out (nth X2.2.1 i) (by rw [← h1]; exact nth_mem hil)
                      have h3 := h2.2
                      rw [hpn] at h3
                      push_cast at h3
                      omega)
                  have HM := Lib.hid (show slvM p D xs xss b = [] by rw [HsM.out, HC.out]; rfl)
                  clear hpN hpn hpi
                  go_wp2_with fail
                  go_ret2
                  rw [HM.out, HC.out]
                  exact ⟨_, rfl, (HW.out.trans hS).out.newnil _⟩
                · have f2 := eq_f (show (pn : Int) ≠ (N : Int) by omega)
                  have hiQ : i < Q.length := by rw [HQl.out]; exact hil
                  have ci := (hS.oldII hr5).cell i hiQ
                  have xi := hr5.ixe (i : Int) i rfl hiQ
                  have gi := (hS.oldII hr5).row i hiQ
                  have hNl : N < (xat Q i).length := by rw [HQr.out _ (xat_mem hiQ)]; omega
                  have ce := gi.cell N hNl
                  have xe := gi.ixe (N : Int) N rfl hNl
                  have hsl : (solP Q X2.2.1 N i).length = N := solP_len _ _ _ _
                  have hpx : pn < (solP Q X2.2.1 N i).length := by rw [hsl]; omega
                  have xx := (hS.rdI 0 rfl).ixe (pn : Int) pn rfl hpx
                  have Hst := Lib.hid (show solP Q X2.2.1 N (i + 1) = (solP Q X2.2.1 N i).set pn (nth (xat Q i) N) by
                    rw [solP, show cf X2.2.1 i = pn from hpn, Int.toNat_natCast]; rfl)
                  have hlo2 := Lib.hid (show ∀ j, j < i + 1 → cf X2.2.1 j < N from fun j hj => by
                    by_cases e : j = i
                    · rw [e, show cf X2.2.1 i = pn from hpn]; omega
                    · exact hlo.out j (by omega))
                  clear hpn hpi hpN gi hsl
                  go_wp2_with (refine stoI hS 0 rfl pn hpx rfl (.tmp 87) (.tmp 86) rfl rfl _ rfl ?_; intro w8 hS8)
                  go_roundw
                  case rel => exact ⟨i + 1, by omega, by go_num, hlo2.out, by rw [Hst.out]; exact hS8⟩
                  case measure => simp [intOf]; omega
              · obtain hiP : i = X2.2.1.length := by omega
                have Hsv := Lib.hid (show solvable X1.1 X1.2.1.length N = true by
                  cases hsv : solvable X1.1 X1.2.1.length N with
                  | true => rfl
                  | false =>
                    have h1 := Hno.out hsv
                    have h2 := hlo.out X1.2.1.length (by rw [hiP, h1]; simp)
                    rw [h1] at h2
                    simp [cf] at h2)
                have HC := Lib.hid (show slvC p D xs xss b = 0 by rw [HsC.out, if_pos Hsv.out])
                have HM := Lib.hid (show slvM p D xs xss b = solP Q X2.2.1 N i by
                  rw [HsM.out, if_pos HC.out, hiP, Hsame.out _ (Nat.le_refl _), (Hyes.out Hsv.out).1, (Hyes.out Hsv.out).2])
                clear hiP
                go_wp2_with fail
                go_ret2
                rw [HM.out, HC.out]
                exact ⟨vx, rfl, HW.out.trans hS⟩
      · have f1 := ne_t (show (b.length : Int) ≠ (xss.length : Int) by omega)
        have HC := Lib.hid (show slvC p D xs xss b = 6 by rw [slvC, if_pos h1, if_pos h2, if_neg hlen])
        have HM := Lib.hid (show slvM p D xs xss b = [] by rw [slvM, HC.out]; rfl)
        clear h1 h2 hmv hlen
        generalize p ^ (D : Int).toNat = q at *
        go_enter Try.func46, Try.ntmps46
        go_wp2_with fail
        refine HV.out.mono ?_
        rw [H1.out]
        rintro e w1 ⟨rfl, h1⟩
        have hS1 := hS0.call0 h1
        have c0 := hS1.bcell 0 rfl 0 rfl
        have c1 := hS1.bcell 0 rfl 1 rfl
        have c2 := hS1.bcell 0 rfl 2 rfl
        go_wp2_with fail
        refine (HFS _ (hS1.oldI hv)).out.mono ?_
        rintro e w2 ⟨rfl, h2⟩
        have hS2 := hS1.call0 h2
        go_wp2_with fail
        refine (HAI _ (hS2.oldI hb)).out.mono ?_
        rw [H2.out]
        rintro e w3 ⟨rfl, h3⟩
        have hS3 := hS2.call0 h3
        go_wp2_with fail
        go_ret2
        rw [HM.out, HC.out]
        exact ⟨_, rfl, hS3.out.newnil _⟩
end Go.Proofs.Ytmkfafhgcnbcaaa
