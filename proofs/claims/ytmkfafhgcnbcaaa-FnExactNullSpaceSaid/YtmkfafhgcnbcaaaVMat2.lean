/- Walks: valid matrices of both sides. -/
import Derived.Test.YtmkfafhgcnbcaaaVMat
namespace Go.Proofs.Ytmkfafhgcnbcaaa
set_option linter.unusedSimpArgs false
set_option linter.unusedVariables false
open Go.RowKit
attribute [local go_sem ↓] Go.wp_at_zero Go.wp_at_succ

def rowBad (q : Int) (n : Nat) (r : List Int) : Bool := decide (r.length ≠ n) || !vecOk q r
/-- rows that are a matrix over a field -/
def matOk (p d : Int) (xs : List Int) (xss : List (List Int)) : Bool :=
  fOk p d xs && inB xss.length 1 32 && inB (xat xss 0).length 1 32 && !anyR (rowBad (p ^ d.toNat) (xat xss 0).length) xss
theorem matOk_no1 {p d : Int} {xs : List Int} {xss : List (List Int)} (h : fOk p d xs = false) : matOk p d xs xss = false := by simp [matOk, h]
theorem matOk_no2 {p d : Int} {xs : List Int} {xss : List (List Int)} (h : inB xss.length 1 32 = false) : matOk p d xs xss = false := by simp [matOk, h]
theorem matOk_no3 {p d : Int} {xs : List Int} {xss : List (List Int)} (h : inB (xat xss 0).length 1 32 = false) : matOk p d xs xss = false := by simp [matOk, h]
theorem matOk_yes {p d : Int} {xs : List Int} {xss : List (List Int)} (h1 : fOk p d xs = true) (h2 : inB xss.length 1 32 = true) (h3 : inB (xat xss 0).length 1 32 = true) : matOk p d xs xss = !anyR (rowBad (p ^ d.toNat) (xat xss 0).length) xss := by
  simp [matOk, h1, h2, h3]

theorem sizeR_c (v : Value) (us : List Value) (xss : List (List Int)) (w : World) (hv : RII w v us xss) :
    Calls Try.prog 67 #[v] w fun e w' => e = .returned (.int .i64 xss.length) ∧ w = w' := by
  have hln := hv.len
  go_enter Try.func67, Try.ntmps67
  go_wp2_with fail
  go_ret
  exact ⟨rfl, rfl⟩

set_option maxHeartbeats 2000000 in
set_option maxRecDepth 100000 in
/-- the function on a row -/
theorem vm1_c (q : Int) (g g' : Nat) (v vr : Value) (us : List Value) (xss : List (List Int)) (r : List Int) (w : World) (hm : w.cell? ⟨g, 0, none⟩ = some v) (hq : w.cell? ⟨g', 0, none⟩ = some (.int .i64 q))
    (hv : RII w v us xss) (h1 : 1 ≤ xss.length) (hr : RdI w vr r) (q0 : 0 ≤ q) (q1 : q ≤ 1000000) :
    Calls Try.prog 71 #[vr, .pointer (some ⟨g, 0, none⟩), .pointer (some ⟨g', 0, none⟩)] w (GivesB w (rowBad q (xat xss 0).length r)) := by
  have hx0 := hv.ixe 0 0 rfl h1
  have hc0 := hv.cell 0 h1
  have hr0 := hv.row 0 h1
  have hl0 := hr0.len
  have hlr := hr.len
  have ha := Lib.hid (areIn_c q vr r w hr q0 q1)
  by_cases hl : r.length = (xat xss 0).length
  · have f1 : ((r.length : Int) != ((xat xss 0).length : Int)) = false := ne_f (by omega)
    have Hl := Lib.hid (show decide (r.length ≠ (xat xss 0).length) = false by simp [hl])
    clear hl
    go_enter Try.func71, Try.ntmps71
    go_wp2_with fail
    refine ha.out.mono ?_
    rintro e w1 ⟨rfl, h1⟩
    go_wp2_with fail
    go_ret
    exact ⟨ret_bool (by rw [rowBad, Hl.out]; rfl), h1⟩
  · have f1 : ((r.length : Int) != ((xat xss 0).length : Int)) = true := ne_t (by omega)
    have Hl := Lib.hid (show decide (r.length ≠ (xat xss 0).length) = true by simp [hl])
    clear hl
    go_enter Try.func71, Try.ntmps71
    go_wp2_with fail
    go_ret
    exact ⟨ret_bool (by rw [rowBad, Hl.out]; rfl), St.refl w⟩

set_option maxHeartbeats 4000000 in
set_option maxRecDepth 100000 in
theorem ValidMatrix_c (p d : Int) (v : Value) (xs : List Int) (vm : Value) (us : List Value) (xss : List (List Int)) (w : World) (hv : RdI w v xs) (hm : RII w vm us xss) (hd : d ≤ 9223372036854775807) :
    Calls Try.prog 21 #[fv p d v, vm] w (GivesB w (matOk p d xs xss)) := by
  obtain ⟨am, cm, rfl⟩ := hm.shp'
  have hS0 := ((St.refl w).newboxF 29 #[.int .i64 p, .int .i64 d, v]).newboxF 25 #[.slice am xss.length cm]
  simp only [World.size_alloc] at hS0
  have HV := fun W h => Lib.hid (ValidField_c p d v xs W h hd)
  have a0 := hS0.bcell 1 rfl 0 rfl
  have a1 := hS0.bcell 1 rfl 1 rfl
  have a2 := hS0.bcell 1 rfl 2 rfl
  have m0 := hS0.bcell 0 rfl 0 rfl
  unfold fv at HV ⊢
  cases h1 : fOk p d xs
  · have H := Lib.hid (matOk_no1 (xss := xss) h1)
    have H1 := Lib.hid h1; clear h1
    go_enter Try.func21, Try.ntmps21
    go_wp2_with fail
    refine (HV _ (hS0.oldI hv)).out.mono ?_
    rw [H1.out]
    rintro e w1 ⟨rfl, h1⟩
    have hS1 := hS0.call0 h1
    go_wp2_with fail
    go_ret
    exact ⟨ret_bool H.out.symm, hS1.out⟩
  · have H1 := Lib.hid h1; clear h1
    go_enter Try.func21, Try.ntmps21
    go_wp2_with fail
    refine (HV _ (hS0.oldI hv)).out.mono ?_
    rw [H1.out]
    rintro e w1 ⟨rfl, h1⟩
    have hS1 := hS0.call0 h1
    clear hS0 h1 a0 a1 a2 m0 HV
    have a0 := hS1.bcell 1 rfl 0 rfl
    have a1 := hS1.bcell 1 rfl 1 rfl
    have a2 := hS1.bcell 1 rfl 2 rfl
    have m0 := hS1.bcell 0 rfl 0 rfl
    have hsz := Lib.hid (sizeR_c (.slice am xss.length cm) us xss w1 (hS1.oldII hm))
    have hwi := fun W => Lib.hid (within_c xss.length 1 32 W)
    cases h2 : inB xss.length 1 32
    · have H := Lib.hid (matOk_no2 (p := p) (d := d) (xs := xs) h2)
      have H2 := Lib.hid h2; clear h2
      go_wp2_with fail
      refine hsz.out.mono ?_
      rintro e w2 ⟨rfl, rfl⟩
      go_wp2_with fail
      refine (hwi _).out.mono ?_
      rw [H2.out]
      rintro e w2 ⟨rfl, rfl⟩
      go_wp2_with fail
      go_ret
      exact ⟨ret_bool H.out.symm, hS1.out⟩
    · have hr1 : 1 ≤ xss.length := by simp [inB] at h2; omega
      have H2 := Lib.hid h2; clear h2
      have hx0 := hm.ixe 0 0 rfl hr1
      have hc0 := (hS1.oldII hm).cell 0 hr1
      have hsz0 := Lib.hid (size_c (vat us 0) _ w1 ((hS1.oldII hm).row 0 hr1))
      have hwi0 := fun W => Lib.hid (within_c (xat xss 0).length 1 32 W)
      go_wp2_with fail
      refine hsz.out.mono ?_
      rintro e w2 ⟨rfl, rfl⟩
      go_wp2_with fail
      refine (hwi _).out.mono ?_
      rw [H2.out]
      rintro e w2 ⟨rfl, rfl⟩
      go_wp2_with fail
      refine hsz0.out.mono ?_
      rintro e w2 ⟨rfl, rfl⟩
      go_wp2_with fail
      refine (hwi0 _).out.mono ?_
      cases h3 : inB (xat xss 0).length 1 32
      · have H := Lib.hid (matOk_no3 (p := p) (d := d) (xs := xs) h3)
        have H3 := Lib.hid h3; clear h3
        rintro e w2 ⟨rfl, rfl⟩
        go_wp2_with fail
        go_ret
        exact ⟨ret_bool H.out.symm, hS1.out⟩
      · have H := Lib.hid (matOk_yes H1.out H2.out h3)
        have H3 := Lib.hid h3; clear h3
        rintro e w2 ⟨rfl, rfl⟩
        have hf := fOk_t H1.out
        have hfs := fun W => Lib.hid (fieldSize_c p d v xs W hf)
        have hq0 : 0 ≤ p ^ d.toNat := by have := pow_ge hf.p2 d.toNat; omega
        have hq1 := hf.q
        unfold fv at hfs
        clear hf hd
        generalize p ^ d.toNat = q at H hfs hq0 hq1
        go_wp2_with fail
        refine (hfs _).out.mono ?_
        rintro e w2 ⟨rfl, h2⟩
        have hS2 := (hS1.call0 h2).newboxF 2 #[.int .i64 q]
        clear hS1 h2 a0 a1 a2 m0 hx0 hc0
        have m0 := hS2.bcell 1 rfl 0 rfl
        have hcf := callFunc_go Try.func71 (by kernel_rfl) (by kernel_rfl)
        have hmf : ∀ (fn : Fn) (first cap : Array Value) (w : World), (Instr.makeFunc fn first cap).run Try.prog w = .ok (.func fn first cap) w := fun _ _ _ _ => rfl
        have hcall := Lib.hid (ContainsFuncR_c 71 #[.pointer (some ⟨w.heap.size + 1, 0, none⟩), .pointer (some ⟨w2.heap.size, 0, none⟩)] (rowBad q (xat xss 0).length) (.slice am xss.length cm) us xss _ (hS2.oldII hm) hcf
          (fun j W hW hj => by
            have k0 : W.cell? ⟨w.heap.size + 1, 0, none⟩ = some (.slice am xss.length cm) := by rw [hW.below.cell (World.block_lt_of_cell? _ _ (hS2.bcell 1 rfl 0 rfl))]; exact hS2.bcell 1 rfl 0 rfl
            have k1 : W.cell? ⟨w2.heap.size, 0, none⟩ = some (.int .i64 q) := by rw [hW.below.cell (World.block_lt_of_cell? _ _ (hS2.bcell 0 rfl 0 rfl))]; exact hS2.bcell 0 rfl 0 rfl
            exact vm1_c q _ _ (.slice am xss.length cm) (vat us j) us xss (xat xss j) W k0 k1 ((hS2.oldII hm).keep hW.below) hr1 (((hS2.oldII hm).keep hW.below).row j hj) hq0 (by omega)))
        clear hcf
        go_wp2_with fail
        refine hcall.out.mono ?_
        rintro e w3 ⟨rfl, h3⟩
        have hS3 := hS2.call0 h3
        go_wp2_with fail
        go_ret
        exact ⟨ret_bool H.out.symm, hS3.out⟩
end Go.Proofs.Ytmkfafhgcnbcaaa
