/- Walks: products of matrices. Walks: MatrixMul of both sides. -/
import Derived.Test.YtcenabaklokhhaaDot
import Derived.Test.YtcenabaklokhhaaTr
namespace Go.Proofs.Ytcenabaklokhhaa
set_option linter.unusedSimpArgs false
set_option linter.unusedVariables false
open Go.RowKit
attribute [local go_sem ↓] Go.wp_at_zero Go.wp_at_succ


def mulR (p : Int) (D : Nat) (fs : List Int) (r : List Int) (cols : List (List Int)) : List Int := cols.map fun c => dotN p D fs r c r.length
def mulL (p : Int) (D : Nat) (fs : List Int) (xss cols : List (List Int)) : List (List Int) := xss.map fun r => mulR p D fs r cols
theorem mulR_len (p : Int) (D : Nat) (fs : List Int) (r : List Int) (cols : List (List Int)) : (mulR p D fs r cols).length = cols.length := by simp [mulR]
theorem mulL_len (p : Int) (D : Nat) (fs : List Int) (xss cols : List (List Int)) : (mulL p D fs xss cols).length = xss.length := by simp [mulL]
theorem mulR_snoc {p : Int} {D : Nat} {fs r : List Int} {cols : List (List Int)} {k : Nat} (h : k < cols.length) : mulR p D fs r (cols.take (k + 1)) = mulR p D fs r (cols.take k) ++ [dotN p D fs r (xat cols k) r.length] := by
  rw [take_xat h]; simp [mulR]
theorem mulL_snoc {p : Int} {D : Nat} {fs : List Int} {xss cols : List (List Int)} {k : Nat} (h : k < xss.length) : mulL p D fs (xss.take (k + 1)) cols = mulL p D fs (xss.take k) cols ++ [mulR p D fs (xat xss k) cols] := by
  rw [take_xat h]; simp [mulL]

theorem St.oldc {w0 w : World} {L : List Ent} {a : Addr} {u : Value} (h : St w0.heap.size w0 w L) (hc : w0.cell? a = some u) : w.cell? a = some u := by
  rw [h.below.cell (World.block_lt_of_cell? _ _ hc)]; exact hc

set_option maxHeartbeats 8000000 in
set_option maxRecDepth 100000 in
theorem times_c (p : Int) (D : Nat) (fs : List Int) (va : Value) (ua : List Value) (vs : Value) (us : List Value) (vm : Value) (um : List Value) (vi : Value) (vx : Value) (ux : List Value) (xss : List (List Int)) (vy : Value) (uy : List Value) (yss : List (List Int)) (n : Nat) (w : World)
    (ht : TB w p D fs va ua vs us vm um vi) (hx : RII w vx ux xss) (hy : RII w vy uy yss) (hf : FV p D fs) (hxl : xss.length ≤ 4096) (hyl : yss.length ≤ 4096) (hy1 : 1 ≤ yss.length) (hn : n ≤ 4096) (hrx : ∀ r ∈ xss, r.length = yss.length ∧ In (p ^ D) r) (hry : ∀ r ∈ yss, r.length = n ∧ In (p ^ D) r) :
    Calls Try.prog 104 #[tv p D va vs vm vi, vx, vy] w (MakesII w (mulL p D fs xss (trL yss n))) := by
  have hS0 := (St.refl w).newboxF 109 #[.int .i64 (qn p D), va, vs, vm, vi]
  have HF := Lib.hid hf
  have Hrx := Lib.hid hrx
  have Hcl := Lib.hid (show ∀ c ∈ trL yss n, c.length = yss.length from fun c hc => by obtain ⟨k, _, rfl⟩ := List.mem_map.1 hc; simp [colOf])
  have Hci := Lib.hid (show ∀ c ∈ trL yss n, In (p ^ D) c from fun c hc => by
    obtain ⟨k, hk, rfl⟩ := List.mem_map.1 hc
    intro x hx
    simp only [colOf, List.mem_map] at hx
    obtain ⟨r, hr, rfl⟩ := hx
    have h1 := hry r hr
    exact h1.2 _ (nth_mem (by rw [h1.1]; simpa using hk)))
  have hlc : (trL yss n).length = n := trL_len _ _
  have hcol := fun W (h : RII W vy uy yss) => Lib.hid (columnsOf_c vy uy yss n W h hn hyl (fun r hr => (hry r hr).1))
  have hx0 := hy.ixe 0 0 rfl hy1
  have hc0 := hy.cell 0 hy1
  have hl0 := (hy.row 0 hy1).len
  rw [(hry _ (xat_mem hy1)).1] at hl0
  have hc1 := (hS0.oldII hy).cell 0 hy1
  clear hf hrx hry
  have hlx := hx.len
  have hix := hx.ix
  unfold tv
  go_enter Try.func104, Try.ntmps104
  go_wp2_with fail
  refine (hcol _ (hS0.oldII hy)).out.mono ?_
  rintro e w1 ⟨vc, uc, rfl, huc, h1⟩
  have hS1 := hS0.call h1
  rw [hlc] at huc
  have Huc := Lib.hid (show uc.length = (trL yss n).length by rw [hlc]; exact huc)
  have hrc := h1.rii Huc.out
  have b0 := hS1.bcell 0 rfl 0 rfl
  have b1 := hS1.bcell 0 rfl 1 rfl
  have b2 := hS1.bcell 0 rfl 2 rfl
  have b3 := hS1.bcell 0 rfl 3 rfl
  have b4 := hS1.bcell 0 rfl 4 rfl
  have hx' := hS1.oldII hx
  have ht' := hS1.oldT ht
  have hlcc := hrc.len
  have hicc := hrc.ix
  rw [hlc] at hlcc hicc
  have HW := Lib.hid hS1
  clear hcol h1 hc1 hx0 hc0 hl0 huc ht hx hy hS0 hS1
  go_wp2_with fail
  go_loopw [7, 10, 11, 13, 22, 28] (fun o _ _ _ i _ wr => ∃ (k : Nat) (a : Option Addr) (c : Nat) (ws : List Value), k ≤ xss.length ∧ i = .int .i64 k ∧ o = .slice a k c ∧ Hid (ws.length = k) ∧ St w1.heap.size w1 wr (own2 (.slice a k c) ws (mulL p D fs (xss.take k) (trL yss n)))) (fun _ _ _ _ i _ _ => xss.length - (intOf i).toNat)
  case atStart => exact ⟨0, none, 0, [], by omega, rfl, rfl, rfl, (St.refl w1).nilrw 23⟩
  case round =>
    obtain ⟨k, a, c, ws, hk, rfl, rfl, hw, hS⟩ := hrel
    by_cases hlt : k < xss.length
    · have hck := (hS.oldII hx').cell k hlt
      have hrk := Lib.hid (hx'.row k hlt)
      have Hk := Lib.hid (Hrx.out _ (xat_mem hlt))
      have hlw := Lib.hid (show ws.length = (mulL p D fs (xss.take k) (trL yss n)).length by rw [hw.out, mulL_len, List.length_take]; omega)
      have hS2 := hS.emp.perm List.perm_append_comm
      simp only [List.cons_append, List.nil_append] at hS2
      unfold emp at hS2
      go_wp2_with fail
      go_loopw [11, 13, 28] (fun l _ i wx => ∃ j : Nat, j ≤ n ∧ i = .int .i64 j ∧ St w1.heap.size w1 wx (row 2 l (iv (mulR p D fs (xat xss k) ((trL yss n).take j))) :: own2 (.slice a k c) ws (mulL p D fs (xss.take k) (trL yss n)))) (fun _ _ i _ => n - (intOf i).toNat)
      case atStart => exact ⟨0, by omega, rfl, hS2⟩
      case round =>
        obtain ⟨j, hj, rfl, hS3⟩ := hrel
        by_cases hjn : j < n
        · have hjc : j < (trL yss n).length := by rw [hlc]; exact hjn
          have hcj := (hS3.oldII hrc).cell j hjc
          have c0 := hS3.oldc b0
          have c1 := hS3.oldc b1
          have c2 := hS3.oldc b2
          have c3 := hS3.oldc b3
          have c4 := hS3.oldc b4
          have hdot := Lib.hid (dot_c p D fs va ua vs us vm um vi (vat ux k) (vat uc j) (xat xss k) (xat (trL yss n) j) _ (hS3.oldT ht') (hS3.oldI hrk.out) ((hS3.oldII hrc).row j hjc) HF.out (by rw [Hk.out.1, Hcl.out _ (xat_mem hjc)]; omega) Hk.out.2 (Hci.out _ (xat_mem hjc)))
          have Hsn := Lib.hid (mulR_snoc (p := p) (D := D) (fs := fs) (r := xat xss k) hjc)
          have Hml := Lib.hid (show (mulR p D fs (xat xss k) ((trL yss n).take j)).length < 4294967296 by rw [mulR_len, List.length_take]; omega)
          unfold tv at hdot
          go_wp2_with fail
          refine hdot.out.mono ?_
          rintro e w2 ⟨rfl, h2⟩
          have hS4 := hS3.call0 h2
          go_wp2_with (at_builtin; refine appI hS4 0 rfl Hml.out rfl _ _ rfl rfl _ rfl ?_; intro v4 w4 hS5)
          go_roundw
          case rel => exact ⟨j + 1, by omega, by go_num, by rw [Hsn.out]; exact hS5⟩
          case measure => simp [intOf]; omega
        · obtain rfl : j = n := by omega
          rw [List.take_of_length_le (by rw [hlc]; omega)] at hS3
          obtain ⟨la, lc, hle⟩ := (hS3.rdI 0 rfl).shp'
          subst hle
          have Hsn := Lib.hid (mulL_snoc (p := p) (D := D) (fs := fs) (cols := trL yss j) hlt)
          go_wp2_with (at_builtin; refine appII hS3 1 rfl (by rw [hw.out]; omega) rfl _ _ rfl rfl _ rfl rfl ?_; intro v5 w5 hS5; obtain ⟨oa, oc, hoe⟩ := (hS5.rd 1 rfl).sl.sh; rw [List.length_append, hw.out, List.length_singleton] at hoe; subst hoe)
          go_roundw
          case rel =>
            refine ⟨k + 1, oa, oc, ws ++ [.slice la (mulR p D fs (xat xss k) (trL yss j)).length lc], by omega, by go_num, rfl, by simp [Hid, hw.out], ?_⟩
            rw [Hsn.out, own2, rowsI_app hlw.out]
            refine hS5.perm ?_
            simp only [own2, List.set_cons_succ, List.set_cons_zero, List.cons_append]
            exact (List.perm_append_comm (l₁ := [_]))
          case measure => simp [intOf]; omega
    · obtain rfl : k = xss.length := by omega
      rw [List.take_length] at hS
      go_wp2_with fail
      go_ret
      exact ⟨_, ws, rfl, by rw [hw.out, mulL_len], HW.out.trans hS⟩


section
variable {ops : Array Oper} {o : Oper} {a : Act} {K : Act → World → Prop} {Q : Exit → Act → World → Prop} {E : Prop} {B : Nat} {w0 w : World} {L : List Ent}
/-- append of one integer to an owned row of integers, as a step -/
theorem stepI1 (hS : St B w0 w L) (i : Nat) {v : Value} {xs : List Int} (hi : L[i]? = some (row 2 v (iv xs))) (hN : xs.length < 4294967296) (hg : o.guard = none) (s x : Operand)
    (hop : o.op = .call { callee := .builtin .append, args := #[s, x], argTypes := #[23, 23] }) (hs : a.eval s = v) (n : Int) (hx : a.eval x = .slice (some ⟨w.heap.size, 0, none⟩) 1 1)
    (hK : ∀ v' w', St B w0 w' (L.set i (row 2 v' (iv (xs ++ [n])))) → K (a.put o.dst v') w') :
    if Region.wanted o (yielded ops a.tmps) = true then Oper.wp Try.prog o a (w.alloc (.cells #[.int .i64 n] 2)) K Q else E :=
  step_st_app1 hg s x 23 hop 2 (.int .i64 0) 8 Try.und_is Try.info_i rfl hS i hi hs (.int .i64 n) hx rfl (by omega) (by rw [iv_len]; exact hN)
    (fun v' w' h => hK v' w' (by rw [iv_app, iv_one]; exact h))
end

def mulC (p d : Int) (xs : List Int) (xss yss : List (List Int)) : Int := if matOk p d xs xss && matOk p d xs yss then (if (xat xss 0).length = yss.length then 0 else 6) else 1
def mulM (p d : Int) (xs : List Int) (xss yss : List (List Int)) : List (List Int) := if mulC p d xs xss yss = 0 then mulL p d.toNat xs xss (trL yss (xat yss 0).length) else []

set_option maxHeartbeats 4000000 in
set_option maxRecDepth 100000 in
theorem MatrixMul_c (p d : Int) (v : Value) (xs : List Int) (vx : Value) (ux : List Value) (xss : List (List Int)) (vy : Value) (uy : List Value) (yss : List (List Int)) (w : World) (hv : RdI w v xs) (hx : RII w vx ux xss) (hy : RII w vy uy yss) (hd : d ≤ 9223372036854775807) :
    Calls Try.prog 17 #[fv p d v, vx, vy] w (MakesMC w (mulM p d xs xss yss) (mulC p d xs xss yss)) := by
  have hS0 := (St.refl w).newboxF 25 #[.int .i64 p, .int .i64 d, v]
  have HV := fun W (hv : RdI W v xs) (h : RII W vx ux xss) => Lib.hid (ValidMatrix_c p d v xs vx ux xss W hv h hd)
  have HY := fun W (hv : RdI W v xs) (h : RII W vy uy yss) => Lib.hid (ValidMatrix_c p d v xs vy uy yss W hv h hd)
  have a0 := hS0.bcell 0 rfl 0 rfl
  have a1 := hS0.bcell 0 rfl 1 rfl
  have a2 := hS0.bcell 0 rfl 2 rfl
  cases h1 : matOk p d xs xss
  · have HC := Lib.hid (show mulC p d xs xss yss = 1 by rw [mulC, h1]; rfl)
    have HM := Lib.hid (show mulM p d xs xss yss = [] by rw [mulM, HC.out]; rfl)
    have H1 := Lib.hid h1; clear h1 HY
    unfold fv at HV ⊢
    go_enter Try.func17, Try.ntmps17
    go_wp2_with fail
    refine (HV _ (hS0.oldI hv) (hS0.oldII hx)).out.mono ?_
    rw [H1.out]
    rintro e w1 ⟨rfl, h1⟩
    have hS1 := hS0.call0 h1
    go_wp2_with fail
    go_ret2
    rw [HM.out, HC.out]
    exact ⟨_, [], rfl, rfl, hS1.out.newnil _⟩
  · cases h2 : matOk p d xs yss
    · have HC := Lib.hid (show mulC p d xs xss yss = 1 by rw [mulC, h1, h2]; rfl)
      have HM := Lib.hid (show mulM p d xs xss yss = [] by rw [mulM, HC.out]; rfl)
      have H1 := Lib.hid h1; clear h1
      have H2 := Lib.hid h2; clear h2
      unfold fv at HV HY ⊢
      go_enter Try.func17, Try.ntmps17
      go_wp2_with fail
      refine (HV _ (hS0.oldI hv) (hS0.oldII hx)).out.mono ?_
      rw [H1.out]
      rintro e w1 ⟨rfl, h1⟩
      have hS1 := hS0.call0 h1
      have c0 := hS1.bcell 0 rfl 0 rfl
      have c1 := hS1.bcell 0 rfl 1 rfl
      have c2 := hS1.bcell 0 rfl 2 rfl
      go_wp2_with fail
      refine (HY _ (hS1.oldI hv) (hS1.oldII hy)).out.mono ?_
      rw [H2.out]
      rintro e w2 ⟨rfl, h2⟩
      have hS2 := hS1.call0 h2
      go_wp2_with fail
      go_ret2
      rw [HM.out, HC.out]
      exact ⟨_, [], rfl, rfl, hS2.out.newnil _⟩
    · have hmx := matOk_t h1
      have hmy := matOk_t h2
      obtain ⟨D, rfl⟩ := Int.eq_ofNat_of_zero_le (show 0 ≤ d by have := hmx.f.d1; omega)
      have hx1 := hmx.rows1
      have hr0 := hx.ixe 0 0 rfl hx1
      have hl0 := (hx.row 0 hx1).len
      have hly := hy.len
      by_cases hl : (xat xss 0).length = yss.length
      · have f1 := ne_f (show ((xat xss 0).length : Int) = yss.length by omega)
        have HC := Lib.hid (show mulC p D xs xss yss = 0 by rw [mulC, h1, h2, if_pos hl]; rfl)
        have HM := Lib.hid (show mulM p D xs xss yss = mulL p D xs xss (trL yss (xat yss 0).length) by rw [mulM, if_pos HC.out]; rfl)
        have HT := fun W (hv : RdI W v xs) => Lib.hid (tablesOf_c p D v xs W hv hmx.f)
        have HU := fun va ua vs us vm um vi W (ht : TB W p D xs va ua vs us vm um vi) (hx : RII W vx ux xss) (hy : RII W vy uy yss) => Lib.hid (times_c p D xs va ua vs us vm um vi vx ux xss vy uy yss (xat yss 0).length W ht hx hy hmx.f (by have := hmx.rows; omega) (by have := hmy.rows; omega) hmy.rows1 (by have := hmy.cols; omega) (fun r hr => ⟨by rw [hmx.rect r hr, hl], by have := hmx.inp r hr; rwa [Int.toNat_natCast] at this⟩) (fun r hr => ⟨hmy.rect r hr, by have := hmy.inp r hr; rwa [Int.toNat_natCast] at this⟩))
        have H1 := Lib.hid h1; clear h1
        have H2 := Lib.hid h2; clear h2
        clear hmx hmy hl
        unfold fv at HV HY HT ⊢
        unfold tv at HU
        go_enter Try.func17, Try.ntmps17
        go_wp2_with fail
        refine (HV _ (hS0.oldI hv) (hS0.oldII hx)).out.mono ?_
        rw [H1.out]
        rintro e w1 ⟨rfl, h1⟩
        have hS1 := hS0.call0 h1
        have c0 := hS1.bcell 0 rfl 0 rfl
        have c1 := hS1.bcell 0 rfl 1 rfl
        have c2 := hS1.bcell 0 rfl 2 rfl
        go_wp2_with fail
        refine (HY _ (hS1.oldI hv) (hS1.oldII hy)).out.mono ?_
        rw [H2.out]
        rintro e w2 ⟨rfl, h2⟩
        have hS2 := hS1.call0 h2
        clear c0 c1 c2
        have c0 := hS2.bcell 0 rfl 0 rfl
        have c1 := hS2.bcell 0 rfl 1 rfl
        have c2 := hS2.bcell 0 rfl 2 rfl
        have hc0 := (hS2.oldII hx).cell 0 hx1
        go_wp2_with fail
        refine (HT _ (hS2.oldI hv)).out.mono ?_
        rintro e w3 ⟨va, ua, vs, us, vm, um, vi, rfl, hua, hus, hum, h3⟩
        have hS3 := hS2.call0 h3.out
        have hTB : TB w3 p D xs va ua vs us vm um vi := ⟨(h3.sub (by simp [List.append_assoc])).rii (by rw [tb_len]; exact hua), (h3.perm (L' := own2 vs us (tb (qn p D) (fSub p D)) ++ (own2 va ua (tb (qn p D) (fAdd p D)) ++ own2 vm um (tb (qn p D) (fMul p D xs)) ++ [row 2 vi (iv (invT p D xs))])) (by (try simp only [own2, List.cons_append, List.nil_append, List.append_nil]); classical exact List.perm_iff_count.2 (fun a => by simp only [List.cons_append, List.nil_append, List.append_nil, List.count_append, List.count_cons, List.count_nil] <;> omega)) |>.sub (List.sublist_append_left _ _)).rii (by rw [tb_len]; exact hus), (h3.perm (L' := own2 vm um (tb (qn p D) (fMul p D xs)) ++ (own2 va ua (tb (qn p D) (fAdd p D)) ++ own2 vs us (tb (qn p D) (fSub p D)) ++ [row 2 vi (iv (invT p D xs))])) (by (try simp only [own2, List.cons_append, List.nil_append, List.append_nil]); classical exact List.perm_iff_count.2 (fun a => by simp only [List.cons_append, List.nil_append, List.append_nil, List.count_append, List.count_cons, List.count_nil] <;> omega)) |>.sub (List.sublist_append_left _ _)).rii (by rw [tb_len]; exact hum), (h3.sub (List.sublist_append_right _ _)).rdI 0 rfl⟩
        go_wp2_with fail
        refine (HU va ua vs us vm um vi _ hTB (hS3.oldII hx) (hS3.oldII hy)).out.mono ?_
        rintro e w4 ⟨v4, u4, rfl, hl4, h4⟩
        have Hl4 := Lib.hid hl4; clear hl4
        have hS4 := hS3.call h4
        go_wp2_with fail
        go_ret2
        rw [HM.out, HC.out]
        exact ⟨v4, u4, rfl, Hl4.out, hS4.sub (List.sublist_append_right _ _)⟩
      · have f1 := ne_t (show ((xat xss 0).length : Int) ≠ yss.length by omega)
        have HC := Lib.hid (show mulC p D xs xss yss = 6 by rw [mulC, h1, h2, if_neg hl]; rfl)
        have HM := Lib.hid (show mulM p D xs xss yss = [] by rw [mulM, HC.out]; rfl)
        have H1 := Lib.hid h1; clear h1
        have H2 := Lib.hid h2; clear h2
        clear hmx hmy hl
        unfold fv at HV HY ⊢
        go_enter Try.func17, Try.ntmps17
        go_wp2_with fail
        refine (HV _ (hS0.oldI hv) (hS0.oldII hx)).out.mono ?_
        rw [H1.out]
        rintro e w1 ⟨rfl, h1⟩
        have hS1 := hS0.call0 h1
        have c0 := hS1.bcell 0 rfl 0 rfl
        have c1 := hS1.bcell 0 rfl 1 rfl
        have c2 := hS1.bcell 0 rfl 2 rfl
        go_wp2_with fail
        refine (HY _ (hS1.oldI hv) (hS1.oldII hy)).out.mono ?_
        rw [H2.out]
        rintro e w2 ⟨rfl, h2⟩
        have hS2 := hS1.call0 h2
        have hc0 := (hS2.oldII hx).cell 0 hx1
        go_wp2_with fail
        go_ret2
        rw [HM.out, HC.out]
        exact ⟨_, [], rfl, rfl, hS2.out.newnil _⟩
end Go.Proofs.Ytcenabaklokhhaa
