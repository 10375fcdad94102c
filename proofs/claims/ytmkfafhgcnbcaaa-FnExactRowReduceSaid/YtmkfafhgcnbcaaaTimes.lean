/- Walks: products of matrices. -/
import Derived.Test.YtmkfafhgcnbcaaaDot2
import Derived.Test.YtmkfafhgcnbcaaaTr2
namespace Go.Proofs.Ytmkfafhgcnbcaaa
set_option linter.unusedSimpArgs false
set_option linter.unusedVariables false
open Go.RowKit
attribute [local go_sem ↓] Go.wp_at_zero Go.wp_at_succ

def mulR (p : Int) (D : Nat) (fs : List Int) (r : List Int) (cols : List (List Int)) : List Int := cols.map fun c => dotN p D fs r c r.length
def mulL (p : Int) (D : Nat) (fs : List Int) (xss cols : List (List Int)) : List (List Int) := xss.map fun r => mulR p D fs r cols
theorem mulR_len (p : Int) (D : Nat) (fs : List Int) (r : List Int) (cols : List (List Int)) : (mulR p D fs r cols).length = cols.length := by simp [mulR]
theorem mulL_len (p : Int) (D : Nat) (fs : List Int) (xss cols : List (List Int)) : (mulL p D fs xss cols).length = xss.length := by simp [mulL]
theorem mulR_snoc {p : Int} {D : Nat} {fs r : List Int} {cols : List (List Int)} {k : Nat} (h : k < cols.length) : mulR p D fs r (cols.take (k + 1)) = mulR p D fs r (cols.take k) ++ [dotN p D fs r (xat cols k) r.length] := by
  rw [take_xat h]; simp [mulR]
theorem mulL_snoc {p : Int} {D : Nat} {fs : List Int} {xss cols : List (List Int)} {k : Nat} (h : k < xss.length) : mulL p D fs (xss.take (k + 1)) cols = mulL p D fs (xss.take k) cols ++ [mulR p D fs (xat xss k) cols] := by
  rw [take_xat h]; simp [mulL]

theorem St.oldc {w0 w : World} {L : List Ent} {a : Addr} {u : Value} (h : St w0.heap.size w0 w L) (hc : w0.cell? a = some u) : w.cell? a = some u := by
  rw [h.below.cell (World.block_lt_of_cell? _ _ hc)]; exact hc

set_option maxHeartbeats 8000000 in
set_option maxRecDepth 100000 in
theorem times_c (p : Int) (D : Nat) (fs : List Int) (va : Value) (ua : List Value) (vs : Value) (us : List Value) (vm : Value) (um : List Value) (vi : Value) (vx : Value) (ux : List Value) (xss : List (List Int)) (vy : Value) (uy : List Value) (yss : List (List Int)) (n : Nat) (w : World)
    (ht : TB w p D fs va ua vs us vm um vi) (hx : RII w vx ux xss) (hy : RII w vy uy yss) (hf : FV p D fs) (hxl : xss.length ≤ 4096) (hyl : yss.length ≤ 4096) (hy1 : 1 ≤ yss.length) (hn : n ≤ 4096) (hrx : ∀ r ∈ xss, r.length = yss.length ∧ In (p ^ D) r) (hry : ∀ r ∈ yss, r.length = n ∧ In (p ^ D) r) :
    Calls Try.prog 77 #[tv p D va vs vm vi, vx, vy] w (MakesII w (mulL p D fs xss (trL yss n))) := by
  have hS0 := (St.refl w).newboxF 78 #[.int .i64 (qn p D), va, vs, vm, vi]
  have HF := Lib.hid hf
  have Hrx := Lib.hid hrx
  have Hcl := Lib.hid (show ∀ c ∈ trL yss n, c.length = yss.length from fun c hc => by obtain ⟨k, _, rfl⟩ := List.mem_map.1 hc; simp [colOf])
  have Hci := Lib.hid (show ∀ c ∈ trL yss n, In (p ^ D) c from fun c hc => by
    obtain ⟨k, hk, rfl⟩ := List.mem_map.1 hc
    intro x hx
    simp only [colOf, List.mem_map] at hx
    obtain ⟨r, hr, rfl⟩ := hx
    have h1 := hry r hr
    exact h1.2 _ (nth_mem (by rw [h1.1]; simpa using hk)))
  have hlc : (trL yss n).length = n := trL_len _ _
  have hcol := fun W (h : RII W vy uy yss) => Lib.hid (columnsOf_c vy uy yss n W h hn hyl (fun r hr => (hry r hr).1))
  have hx0 := hy.ixe 0 0 rfl hy1
  have hc0 := hy.cell 0 hy1
  have hl0 := (hy.row 0 hy1).len
  rw [(hry _ (xat_mem hy1)).1] at hl0
  have hc1 := (hS0.oldII hy).cell 0 hy1
  clear hf hrx hry
  have hlx := hx.len
  have hix := hx.ix
  unfold tv
  go_enter Try.func77, Try.ntmps77
  go_wp2_with fail
  refine (hcol _ (hS0.oldII hy)).out.mono ?_
  rintro e w1 ⟨vc, uc, rfl, huc, h1⟩
  have hS1 := hS0.call h1
  rw [hlc] at huc
  have Huc := Lib.hid (show uc.length = (trL yss n).length by rw [hlc]; exact huc)
  have hrc := h1.rii Huc.out
  have b0 := hS1.bcell 0 rfl 0 rfl
  have b1 := hS1.bcell 0 rfl 1 rfl
  have b2 := hS1.bcell 0 rfl 2 rfl
  have b3 := hS1.bcell 0 rfl 3 rfl
  have b4 := hS1.bcell 0 rfl 4 rfl
  have hx' := hS1.oldII hx
  have ht' := hS1.oldT ht
  have hlcc := hrc.len
  have hicc := hrc.ix
  rw [hlc] at hlcc hicc
  have HW := Lib.hid hS1
  clear hcol h1 hc1 hx0 hc0 hl0 huc ht hx hy hS0 hS1
  go_wp2_with fail
  go_loopw [7, 10, 11, 13, 22, 28] (fun o _ _ _ i _ wr => ∃ (k : Nat) (a : Option Addr) (c : Nat) (ws : List Value), k ≤ xss.length ∧ i = .int .i64 k ∧ o = .slice a k c ∧ Hid (ws.length = k) ∧ St w1.heap.size w1 wr (own2 (.slice a k c) ws (mulL p D fs (xss.take k) (trL yss n)))) (fun _ _ _ _ i _ _ => xss.length - (intOf i).toNat)
  case atStart => exact ⟨0, none, 0, [], by omega, rfl, rfl, rfl, (St.refl w1).nilrw 22⟩
  case round =>
    obtain ⟨k, a, c, ws, hk, rfl, rfl, hw, hS⟩ := hrel
    by_cases hlt : k < xss.length
    · have hck := (hS.oldII hx').cell k hlt
      have hrk := Lib.hid (hx'.row k hlt)
      have Hk := Lib.hid (Hrx.out _ (xat_mem hlt))
      have hlw := Lib.hid (show ws.length = (mulL p D fs (xss.take k) (trL yss n)).length by rw [hw.out, mulL_len, List.length_take]; omega)
      have hS2 := hS.emp.perm List.perm_append_comm
      simp only [List.cons_append, List.nil_append] at hS2
      unfold emp at hS2
      go_wp2_with fail
      go_loopw [11, 13, 28] (fun l _ i wx => ∃ j : Nat, j ≤ n ∧ i = .int .i64 j ∧ St w1.heap.size w1 wx (row 2 l (iv (mulR p D fs (xat xss k) ((trL yss n).take j))) :: own2 (.slice a k c) ws (mulL p D fs (xss.take k) (trL yss n)))) (fun _ _ i _ => n - (intOf i).toNat)
      case atStart => exact ⟨0, by omega, rfl, hS2⟩
      case round =>
        obtain ⟨j, hj, rfl, hS3⟩ := hrel
        by_cases hjn : j < n
        · have hjc : j < (trL yss n).length := by rw [hlc]; exact hjn
          have hcj := (hS3.oldII hrc).cell j hjc
          have c0 := hS3.oldc b0
          have c1 := hS3.oldc b1
          have c2 := hS3.oldc b2
          have c3 := hS3.oldc b3
          have c4 := hS3.oldc b4
          have hdot := Lib.hid (dot_c p D fs va ua vs us vm um vi (vat ux k) (vat uc j) (xat xss k) (xat (trL yss n) j) _ (hS3.oldT ht') (hS3.oldI hrk.out) ((hS3.oldII hrc).row j hjc) HF.out (by rw [Hk.out.1, Hcl.out _ (xat_mem hjc)]; omega) Hk.out.2 (Hci.out _ (xat_mem hjc)))
          have Hsn := Lib.hid (mulR_snoc (p := p) (D := D) (fs := fs) (r := xat xss k) hjc)
          have Hml := Lib.hid (show (mulR p D fs (xat xss k) ((trL yss n).take j)).length < 4294967296 by rw [mulR_len, List.length_take]; omega)
          unfold tv at hdot
          go_wp2_with fail
          refine hdot.out.mono ?_
          rintro e w2 ⟨rfl, h2⟩
          have hS4 := hS3.call0 h2
          go_wp2_with (at_builtin; refine appI hS4 0 rfl Hml.out rfl _ _ rfl rfl _ rfl ?_; intro v4 w4 hS5)
          go_roundw
          case rel => exact ⟨j + 1, by omega, by go_num, by rw [Hsn.out]; exact hS5⟩
          case measure => simp [intOf]; omega
        · obtain rfl : j = n := by omega
          rw [List.take_of_length_le (by rw [hlc]; omega)] at hS3
          obtain ⟨la, lc, hle⟩ := (hS3.rdI 0 rfl).shp'
          subst hle
          have Hsn := Lib.hid (mulL_snoc (p := p) (D := D) (fs := fs) (cols := trL yss j) hlt)
          go_wp2_with (at_builtin; refine appII hS3 1 rfl (by rw [hw.out]; omega) rfl _ _ rfl rfl _ rfl rfl ?_; intro v5 w5 hS5; obtain ⟨oa, oc, hoe⟩ := (hS5.rd 1 rfl).sl.sh; rw [List.length_append, hw.out, List.length_singleton] at hoe; subst hoe)
          go_roundw
          case rel =>
            refine ⟨k + 1, oa, oc, ws ++ [.slice la (mulR p D fs (xat xss k) (trL yss j)).length lc], by omega, by go_num, rfl, by simp [Hid, hw.out], ?_⟩
            rw [Hsn.out, own2, rowsI_app hlw.out]
            refine hS5.perm ?_
            simp only [own2, List.set_cons_succ, List.set_cons_zero, List.cons_append]
            exact (List.perm_append_comm (l₁ := [_]))
          case measure => simp [intOf]; omega
    · obtain rfl : k = xss.length := by omega
      rw [List.take_length] at hS
      go_wp2_with fail
      go_ret
      exact ⟨_, ws, rfl, by rw [hw.out, mulL_len], HW.out.trans hS⟩
end Go.Proofs.Ytmkfafhgcnbcaaa
