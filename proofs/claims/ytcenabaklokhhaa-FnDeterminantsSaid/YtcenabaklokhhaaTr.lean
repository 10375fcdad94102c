/- Walks: valid matrices of both sides. Walks: valid matrices of the reference. Walks: rows and columns exchanged. Walks: TransposeMatrix of both sides. -/
import Derived.Test.YtcenabaklokhhaaVMat
namespace Go.Proofs.Ytcenabaklokhhaa
set_option linter.unusedSimpArgs false
set_option linter.unusedVariables false
open Go.RowKit
attribute [local go_sem ↓] Go.wp_at_zero Go.wp_at_succ


def rowBad (q : Int) (n : Nat) (r : List Int) : Bool := decide (r.length ≠ n) || !vecOk q r
/-- rows that are a matrix over a field -/
def matOk (p d : Int) (xs : List Int) (xss : List (List Int)) : Bool :=
  fOk p d xs && inB xss.length 1 32 && inB (xat xss 0).length 1 32 && !anyR (rowBad (p ^ d.toNat) (xat xss 0).length) xss
theorem matOk_no1 {p d : Int} {xs : List Int} {xss : List (List Int)} (h : fOk p d xs = false) : matOk p d xs xss = false := by simp [matOk, h]
theorem matOk_no2 {p d : Int} {xs : List Int} {xss : List (List Int)} (h : inB xss.length 1 32 = false) : matOk p d xs xss = false := by simp [matOk, h]
theorem matOk_no3 {p d : Int} {xs : List Int} {xss : List (List Int)} (h : inB (xat xss 0).length 1 32 = false) : matOk p d xs xss = false := by simp [matOk, h]
theorem matOk_yes {p d : Int} {xs : List Int} {xss : List (List Int)} (h1 : fOk p d xs = true) (h2 : inB xss.length 1 32 = true) (h3 : inB (xat xss 0).length 1 32 = true) : matOk p d xs xss = !anyR (rowBad (p ^ d.toNat) (xat xss 0).length) xss := by
  simp [matOk, h1, h2, h3]

theorem sizeR_c (v : Value) (us : List Value) (xss : List (List Int)) (w : World) (hv : RII w v us xss) :
    Calls Try.prog 127 #[v] w fun e w' => e = .returned (.int .i64 xss.length) ∧ w = w' := by
  have hln := hv.len
  go_enter Try.func127, Try.ntmps127
  go_wp2_with fail
  go_ret
  exact ⟨rfl, rfl⟩

set_option maxHeartbeats 2000000 in
set_option maxRecDepth 100000 in
/-- the function on a row -/
theorem vm1_c (q : Int) (g g' : Nat) (v vr : Value) (us : List Value) (xss : List (List Int)) (r : List Int) (w : World) (hm : w.cell? ⟨g, 0, none⟩ = some v) (hq : w.cell? ⟨g', 0, none⟩ = some (.int .i64 q))
    (hv : RII w v us xss) (h1 : 1 ≤ xss.length) (hr : RdI w vr r) (q0 : 0 ≤ q) (q1 : q ≤ 1000000) :
    Calls Try.prog 187 #[vr, .pointer (some ⟨g, 0, none⟩), .pointer (some ⟨g', 0, none⟩)] w (GivesB w (rowBad q (xat xss 0).length r)) := by
  have hx0 := hv.ixe 0 0 rfl h1
  have hc0 := hv.cell 0 h1
  have hr0 := hv.row 0 h1
  have hl0 := hr0.len
  have hlr := hr.len
  have ha := Lib.hid (areIn_c q vr r w hr q0 q1)
  by_cases hl : r.length = (xat xss 0).length
  · have f1 : ((r.length : Int) != ((xat xss 0).length : Int)) = false := ne_f (by omega)
    have Hl := Lib.hid (show decide (r.length ≠ (xat xss 0).length) = false by simp [hl])
    clear hl
    go_enter Try.func187, Try.ntmps187
    go_wp2_with fail
    refine ha.out.mono ?_
    rintro e w1 ⟨rfl, h1⟩
    go_wp2_with fail
    go_ret
    exact ⟨ret_bool (by rw [rowBad, Hl.out]; rfl), h1⟩
  · have f1 : ((r.length : Int) != ((xat xss 0).length : Int)) = true := ne_t (by omega)
    have Hl := Lib.hid (show decide (r.length ≠ (xat xss 0).length) = true by simp [hl])
    clear hl
    go_enter Try.func187, Try.ntmps187
    go_wp2_with fail
    go_ret
    exact ⟨ret_bool (by rw [rowBad, Hl.out]; rfl), St.refl w⟩

set_option maxHeartbeats 4000000 in
set_option maxRecDepth 100000 in
theorem ValidMatrix_c (p d : Int) (v : Value) (xs : List Int) (vm : Value) (us : List Value) (xss : List (List Int)) (w : World) (hv : RdI w v xs) (hm : RII w vm us xss) (hd : d ≤ 9223372036854775807) :
    Calls Try.prog 101 #[fv p d v, vm] w (GivesB w (matOk p d xs xss)) := by
  obtain ⟨am, cm, rfl⟩ := hm.shp'
  have hS0 := ((St.refl w).newboxF 25 #[.int .i64 p, .int .i64 d, v]).newboxF 26 #[.slice am xss.length cm]
  simp only [World.size_alloc] at hS0
  have HV := fun W h => Lib.hid (ValidField_c p d v xs W h hd)
  have a0 := hS0.bcell 1 rfl 0 rfl
  have a1 := hS0.bcell 1 rfl 1 rfl
  have a2 := hS0.bcell 1 rfl 2 rfl
  have m0 := hS0.bcell 0 rfl 0 rfl
  unfold fv at HV ⊢
  cases h1 : fOk p d xs
  · have H := Lib.hid (matOk_no1 (xss := xss) h1)
    have H1 := Lib.hid h1; clear h1
    go_enter Try.func101, Try.ntmps101
    go_wp2_with fail
    refine (HV _ (hS0.oldI hv)).out.mono ?_
    rw [H1.out]
    rintro e w1 ⟨rfl, h1⟩
    have hS1 := hS0.call0 h1
    go_wp2_with fail
    go_ret
    exact ⟨ret_bool H.out.symm, hS1.out⟩
  · have H1 := Lib.hid h1; clear h1
    go_enter Try.func101, Try.ntmps101
    go_wp2_with fail
    refine (HV _ (hS0.oldI hv)).out.mono ?_
    rw [H1.out]
    rintro e w1 ⟨rfl, h1⟩
    have hS1 := hS0.call0 h1
    clear hS0 h1 a0 a1 a2 m0 HV
    have a0 := hS1.bcell 1 rfl 0 rfl
    have a1 := hS1.bcell 1 rfl 1 rfl
    have a2 := hS1.bcell 1 rfl 2 rfl
    have m0 := hS1.bcell 0 rfl 0 rfl
    have hsz := Lib.hid (sizeR_c (.slice am xss.length cm) us xss w1 (hS1.oldII hm))
    have hwi := fun W => Lib.hid (within_c xss.length 1 32 W)
    cases h2 : inB xss.length 1 32
    · have H := Lib.hid (matOk_no2 (p := p) (d := d) (xs := xs) h2)
      have H2 := Lib.hid h2; clear h2
      go_wp2_with fail
      refine hsz.out.mono ?_
      rintro e w2 ⟨rfl, rfl⟩
      go_wp2_with fail
      refine (hwi _).out.mono ?_
      rw [H2.out]
      rintro e w2 ⟨rfl, rfl⟩
      go_wp2_with fail
      go_ret
      exact ⟨ret_bool H.out.symm, hS1.out⟩
    · have hr1 : 1 ≤ xss.length := by simp [inB] at h2; omega
      have H2 := Lib.hid h2; clear h2
      have hx0 := hm.ixe 0 0 rfl hr1
      have hc0 := (hS1.oldII hm).cell 0 hr1
      have hsz0 := Lib.hid (size_c (vat us 0) _ w1 ((hS1.oldII hm).row 0 hr1))
      have hwi0 := fun W => Lib.hid (within_c (xat xss 0).length 1 32 W)
      go_wp2_with fail
      refine hsz.out.mono ?_
      rintro e w2 ⟨rfl, rfl⟩
      go_wp2_with fail
      refine (hwi _).out.mono ?_
      rw [H2.out]
      rintro e w2 ⟨rfl, rfl⟩
      go_wp2_with fail
      refine hsz0.out.mono ?_
      rintro e w2 ⟨rfl, rfl⟩
      go_wp2_with fail
      refine (hwi0 _).out.mono ?_
      cases h3 : inB (xat xss 0).length 1 32
      · have H := Lib.hid (matOk_no3 (p := p) (d := d) (xs := xs) h3)
        have H3 := Lib.hid h3; clear h3
        rintro e w2 ⟨rfl, rfl⟩
        go_wp2_with fail
        go_ret
        exact ⟨ret_bool H.out.symm, hS1.out⟩
      · have H := Lib.hid (matOk_yes H1.out H2.out h3)
        have H3 := Lib.hid h3; clear h3
        rintro e w2 ⟨rfl, rfl⟩
        have hf := fOk_t H1.out
        have hfs := fun W => Lib.hid (fieldSize_c p d v xs W hf)
        have hq0 : 0 ≤ p ^ d.toNat := by have := pow_ge hf.p2 d.toNat; omega
        have hq1 := hf.q
        unfold fv at hfs
        clear hf hd
        generalize p ^ d.toNat = q at H hfs hq0 hq1
        go_wp2_with fail
        refine (hfs _).out.mono ?_
        rintro e w2 ⟨rfl, h2⟩
        have hS2 := (hS1.call0 h2).newboxF 2 #[.int .i64 q]
        clear hS1 h2 a0 a1 a2 m0 hx0 hc0
        have m0 := hS2.bcell 1 rfl 0 rfl
        have hcf := callFunc_go Try.func187 (by kernel_rfl) (by kernel_rfl)
        have hmf : ∀ (fn : Fn) (first cap : Array Value) (w : World), (Instr.makeFunc fn first cap).run Try.prog w = .ok (.func fn first cap) w := fun _ _ _ _ => rfl
        have hcall := Lib.hid (ContainsFuncR_c 187 #[.pointer (some ⟨w.heap.size + 1, 0, none⟩), .pointer (some ⟨w2.heap.size, 0, none⟩)] (rowBad q (xat xss 0).length) (.slice am xss.length cm) us xss _ (hS2.oldII hm) hcf
          (fun j W hW hj => by
            have k0 : W.cell? ⟨w.heap.size + 1, 0, none⟩ = some (.slice am xss.length cm) := by rw [hW.below.cell (World.block_lt_of_cell? _ _ (hS2.bcell 1 rfl 0 rfl))]; exact hS2.bcell 1 rfl 0 rfl
            have k1 : W.cell? ⟨w2.heap.size, 0, none⟩ = some (.int .i64 q) := by rw [hW.below.cell (World.block_lt_of_cell? _ _ (hS2.bcell 0 rfl 0 rfl))]; exact hS2.bcell 0 rfl 0 rfl
            exact vm1_c q _ _ (.slice am xss.length cm) (vat us j) us xss (xat xss j) W k0 k1 ((hS2.oldII hm).keep hW.below) hr1 (((hS2.oldII hm).keep hW.below).row j hj) hq0 (by omega)))
        clear hcf
        go_wp2_with fail
        refine hcall.out.mono ?_
        rintro e w3 ⟨rfl, h3⟩
        have hS3 := hS2.call0 h3
        go_wp2_with fail
        go_ret
        exact ⟨ret_bool H.out.symm, hS3.out⟩


theorem anyR_no {f : List Int → Bool} {xss : List (List Int)} (h : ∀ j, j < xss.length → f (xat xss j) = false) : anyR f xss = false := by
  simp only [anyR, List.any_eq_false, Bool.not_eq_true]
  intro x hx
  obtain ⟨j, hj, rfl⟩ := List.getElem_of_mem hx
  have := h j hj
  rwa [xat_eq hj] at this
theorem anyR_yes {f : List Int → Bool} {xss : List (List Int)} {j : Nat} (hj : j < xss.length) (h : f (xat xss j) = true) : anyR f xss = true :=
  List.any_eq_true.2 ⟨_, xat_mem hj, h⟩

def colOf (m : List (List Int)) (c : Nat) : List Int := m.map fun r => nth r c
/-- the columns, i rows being taken, and k places of the next one -/
def trP (m : List (List Int)) (n i k : Nat) : List (List Int) := (List.range n).map fun c => colOf (m.take (if c < k then i + 1 else i)) c
def trL (m : List (List Int)) (n : Nat) : List (List Int) := (List.range n).map fun c => colOf m c
theorem trP_len (m : List (List Int)) (n i k : Nat) : (trP m n i k).length = n := by simp [trP]
theorem trL_len (m : List (List Int)) (n : Nat) : (trL m n).length = n := by simp [trL]
theorem xat_trP {m : List (List Int)} {n i k c : Nat} (h : c < n) : xat (trP m n i k) c = colOf (m.take (if c < k then i + 1 else i)) c := by simp [xat, trP, h]
theorem trP_0 (m : List (List Int)) (n : Nat) : trP m n 0 0 = List.replicate n [] := by
  apply List.ext_getElem
  · simp [trP]
  · intro c h1 h2; simp [trP, colOf]
theorem trP_row (m : List (List Int)) (n i : Nat) : trP m n i n = trP m n (i + 1) 0 := by
  apply List.ext_getElem
  · simp [trP]
  · intro c h1 h2
    have : c < n := by simpa [trP] using h1
    simp [trP, this]
theorem trP_end (m : List (List Int)) (n : Nat) : trP m n m.length 0 = trL m n := by simp [trP, trL]
theorem trP_step {m : List (List Int)} {n i k : Nat} (hi : i < m.length) (hk : k < n) : (trP m n i k).set k (xat (trP m n i k) k ++ [nth (xat m i) k]) = trP m n i (k + 1) := by
  apply List.ext_getElem
  · simp [trP]
  · intro c h1 h2
    have hc : c < n := by simpa [trP] using h2
    rw [List.getElem_set]
    by_cases e : k = c
    · subst e
      rw [if_pos rfl, xat_trP hk, if_neg (by omega)]
      simp only [trP, List.getElem_map, List.getElem_range]
      rw [if_pos (by omega), take_xat hi]; simp [colOf]
    · rw [if_neg e]
      simp only [trP, List.getElem_map, List.getElem_range]
      by_cases h : c < k
      · rw [if_pos h, if_pos (by omega)]
      · rw [if_neg h, if_neg (by omega)]

theorem St.nilRows {B : Nat} {w0 w : World} {L : List Ent} (h : St B w0 w L) : ∀ n : Nat, St B w0 w (L ++ rowsI (nils n) (List.replicate n []))
  | 0 => by simpa [nils, rowsI] using h
  | n + 1 => by
    have ih := (St.nilRows h n).newnil 2
    refine ih.perm ?_
    have e : rowsI (nils (n + 1)) (List.replicate (n + 1) []) = row 2 (.slice none 0 0) [] :: rowsI (nils n) (List.replicate n []) := by
      simp [nils, rowsI, List.replicate_succ, iv]
    rw [e]
    refine (List.perm_append_comm).trans ?_
    exact (List.perm_middle (a := row 2 (.slice none 0 0) []) (l₁ := L) (l₂ := rowsI (nils n) (List.replicate n []))).symm
theorem own2_put {v : Value} {us : List Value} {xss : List (List Int)} (hl : us.length = xss.length) {k : Nat} (hk : k < xss.length) (u : Value) (ys : List Int) :
    ((own2 v us xss).set (k + 1) (row 2 u (iv ys))).set 0 (row 23 v (us.set k u)) = own2 v (us.set k u) (xss.set k ys) := by
  simp only [own2, List.set_cons_succ, List.set_cons_zero]
  congr 1
  unfold rowsI
  apply List.ext_getElem
  · simp [hl]
  · intro j h1 h2
    rw [List.getElem_set, List.getElem_zipWith, List.getElem_zipWith, List.getElem_set, List.getElem_set]
    by_cases e : k = j
    · subst e; simp
    · simp [e]

set_option maxHeartbeats 4000000 in
set_option maxRecDepth 100000 in
theorem columnsOf_c (vm : Value) (us : List Value) (m : List (List Int)) (n : Nat) (w : World) (hm : RII w vm us m) (hn : n ≤ 4096) (hml : m.length ≤ 4096) (hrect : ∀ r ∈ m, r.length = n) :
    Calls Try.prog 192 #[vm, .int .i64 n] w (MakesII w (trL m n)) := by
  have hlm := hm.len
  have him := hm.ix
  have Hrect := Lib.hid hrect
  clear hrect
  go_enter Try.func192, Try.ntmps192
  go_wp2_with (at_make; refine mkII (St.refl w) rfl _ _ rfl _ _ n rfl rfl (by omega) ?_; intro v1 w1 hS1)
  have hS1 := hS1.nilRows n
  rw [← trP_0 m n] at hS1
  go_wp2_with fail
  go_loopw [7, 8, 9, 14, 20] (fun _ _ _ i _ wr => ∃ (j : Nat) (ws : List Value), j ≤ m.length ∧ i = .int .i64 j ∧ Hid (ws.length = n) ∧ St w.heap.size w wr (own2 v1 ws (trP m n j 0))) (fun _ _ _ i _ _ => m.length - (intOf i).toNat)
  case atStart => exact ⟨0, nils n, by omega, rfl, by simp [Hid, nils], hS1⟩
  case round =>
    obtain ⟨j, ws, hj, rfl, hw, hS⟩ := hrel
    by_cases hlt : j < m.length
    · have hcj := (hS.oldII hm).cell j hlt
      have hrj := Lib.hid (hm.row j hlt)
      have hnl := Lib.hid (Hrect.out _ (xat_mem hlt))
      have hlr := hrj.out.len
      have hir := hrj.out.ix
      rw [hnl.out] at hlr hir
      go_wp2_with fail
      go_loopw [8, 9, 20] (fun _ _ c wx => ∃ (k : Nat) (ws : List Value), k ≤ n ∧ c = .int .i64 k ∧ Hid (ws.length = n) ∧ St w.heap.size w wx (own2 v1 ws (trP m n j k))) (fun _ _ c _ => n - (intOf c).toNat)
      case atStart => exact ⟨0, ws, by omega, rfl, hw, hS⟩
      case round =>
        obtain ⟨k, ws, hk, rfl, hw, hS⟩ := hrel
        by_cases hkn : k < n
        · have hck := (hS.oldI hrj.out).cell k (by rw [hnl.out]; exact hkn)
          have hlw : Hid (ws.length = (trP m n j k).length) := by unfold Hid; rw [hw.out, trP_len]
          have hkl := Lib.hid (show k < (trP m n j k).length by rw [trP_len]; exact hkn)
          have hr0 := hS.rii hlw.out
          have hxk := hr0.ixe (k : Int) k rfl hkl.out
          have hcv := hr0.cell k hkl.out
          have hat : Hid ((own2 v1 ws (trP m n j k))[k + 1]? = some (row 2 (vat ws k) (iv (xat (trP m n j k) k)))) := by
            unfold Hid; rw [own2, List.getElem?_cons_succ]; exact rowsI_get hlw.out hkl.out
          have hxl : Hid ((xat (trP m n j k) k).length < 4294967296) := by unfold Hid; rw [xat_trP hkn]; simp [colOf]; omega
          have hstep := Lib.hid (trP_step (n := n) hlt hkn)
          have hput := fun u => Lib.hid (own2_put (v := v1) hlw.out hkl.out u (xat (trP m n j k) k ++ [nth (xat m j) k]))
          have hkw := Lib.hid (show k < ws.length by rw [hw.out]; exact hkn)
          clear hr0
          go_wp2_with (first
            | (at_builtin; refine appI hS (k + 1) hat.out hxl.out rfl _ _ rfl rfl _ rfl ?_; intro v3 w3 hS3; have hsl := (hS3.rd (k + 1) (by rw [List.getElem?_set_self (by have := List.getElem?_eq_some_iff.1 hat.out; exact this.1)])).sl)
            | (refine stoII hS3 0 rfl k hkw.out rfl (.tmp 34) (.tmp 33) rfl rfl v3 hsl.cells hsl.one rfl ?_; intro w4 hS4))
          go_roundw
          case rel =>
            refine ⟨k + 1, ws.set k v3, by omega, by go_num, by simp [Hid, hw.out], ?_⟩
            rw [(hput v3).out, hstep.out] at hS4
            exact hS4
          case measure => simp [intOf]; omega
        · obtain rfl : k = n := by omega
          go_wp2_with fail
          go_roundw
          case rel => exact ⟨j + 1, ws, by omega, by go_num, hw, by rw [← trP_row]; exact hS⟩
          case measure => simp [intOf]; omega
    · obtain rfl : j = m.length := by omega
      rw [trP_end] at hS
      go_wp2_with fail
      go_ret
      exact ⟨_, ws, rfl, by rw [hw.out, trL_len], hS⟩


theorem trL_take {m : List (List Int)} {n k : Nat} (hk : k < n) : (trL m n).take (k + 1) = (trL m n).take k ++ [colOf m k] := by
  rw [take_xat (by rw [trL_len]; exact hk)]
  congr 1
  simp [xat, trL, hk]
theorem colOf_take {m : List (List Int)} {c j : Nat} (hj : j < m.length) : colOf (m.take (j + 1)) c = colOf (m.take j) c ++ [nth (xat m j) c] := by
  rw [take_xat hj]; simp [colOf]

def trM (p d : Int) (xs : List Int) (xss : List (List Int)) : List (List Int) := if matOk p d xs xss = true then trL xss (xat xss 0).length else []
def matC (p d : Int) (xs : List Int) (xss : List (List Int)) : Int := if matOk p d xs xss = true then 0 else 1
/-- a matrix and a code -/
def MakesMC (w : World) (xss : List (List Int)) (c : Int) (e : Ending) (w' : World) : Prop := ∃ v us, e = .returned (.tuple #[v, .int .i64 c]) ∧ us.length = xss.length ∧ St w.heap.size w w' (own2 v us xss)
structure MV (p d : Int) (xs : List Int) (xss : List (List Int)) : Prop where
  f : FV p d xs
  rows1 : 1 ≤ xss.length
  rows : xss.length ≤ 32
  cols1 : 1 ≤ (xat xss 0).length
  cols : (xat xss 0).length ≤ 32
  rect : ∀ r ∈ xss, r.length = (xat xss 0).length
  inp : ∀ r ∈ xss, In (p ^ d.toNat) r
theorem vecOk_in {q : Int} {r : List Int} (h : vecOk q r = true) : In q r := by
  intro x hx
  simp only [vecOk, anyP, Bool.not_eq_true', List.any_eq_false] at h
  have := h x hx
  cases hb : inB x 0 (q - 1) with
  | false => rw [hb] at this; simp at this
  | true => simp [inB] at hb; omega
theorem rowBad_f {q : Int} {n : Nat} {r : List Int} (h : rowBad q n r = false) : r.length = n ∧ vecOk q r = true := by
  unfold rowBad at h
  cases hv : vecOk q r with
  | false => rw [hv] at h; simp at h
  | true => rw [hv] at h; simp at h; exact ⟨h, rfl⟩
theorem matOk_t {p d : Int} {xs : List Int} {xss : List (List Int)} (h : matOk p d xs xss = true) : MV p d xs xss := by
  simp only [matOk, Bool.and_eq_true, Bool.not_eq_true'] at h
  obtain ⟨⟨⟨h1, h2⟩, h3⟩, h4⟩ := h
  simp only [inB, Bool.and_eq_true, decide_eq_true_eq] at h2 h3
  have h5 : ∀ r ∈ xss, rowBad (p ^ d.toNat) (xat xss 0).length r = false := fun r hr => by
    have := List.any_eq_false.1 h4 r hr
    simpa using this
  exact ⟨fOk_t h1, by omega, by omega, by omega, by omega, fun r hr => (rowBad_f (h5 r hr)).1, fun r hr => vecOk_in (rowBad_f (h5 r hr)).2⟩


end Go.Proofs.Ytcenabaklokhhaa
