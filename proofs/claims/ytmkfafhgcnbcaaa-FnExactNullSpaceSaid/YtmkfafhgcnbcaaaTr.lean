/- Walks: rows and columns exchanged. Walks: TransposeMatrix of both sides. -/
import Derived.Test.YtmkfafhgcnbcaaaVMat3
namespace Go.Proofs.Ytmkfafhgcnbcaaa
set_option linter.unusedSimpArgs false
set_option linter.unusedVariables false
open Go.RowKit
attribute [local go_sem ↓] Go.wp_at_zero Go.wp_at_succ


def colOf (m : List (List Int)) (c : Nat) : List Int := m.map fun r => nth r c
/-- the columns, i rows being taken, and k places of the next one -/
def trP (m : List (List Int)) (n i k : Nat) : List (List Int) := (List.range n).map fun c => colOf (m.take (if c < k then i + 1 else i)) c
def trL (m : List (List Int)) (n : Nat) : List (List Int) := (List.range n).map fun c => colOf m c
theorem trP_len (m : List (List Int)) (n i k : Nat) : (trP m n i k).length = n := by simp [trP]
theorem trL_len (m : List (List Int)) (n : Nat) : (trL m n).length = n := by simp [trL]
theorem xat_trP {m : List (List Int)} {n i k c : Nat} (h : c < n) : xat (trP m n i k) c = colOf (m.take (if c < k then i + 1 else i)) c := by simp [xat, trP, h]
theorem trP_0 (m : List (List Int)) (n : Nat) : trP m n 0 0 = List.replicate n [] := by
  apply List.ext_getElem
  · simp [trP]
  · intro c h1 h2; simp [trP, colOf]
theorem trP_row (m : List (List Int)) (n i : Nat) : trP m n i n = trP m n (i + 1) 0 := by
  apply List.ext_getElem
  · simp [trP]
  · intro c h1 h2
    have : c < n := by simpa [trP] using h1
    simp [trP, this]
theorem trP_end (m : List (List Int)) (n : Nat) : trP m n m.length 0 = trL m n := by simp [trP, trL]
theorem trP_step {m : List (List Int)} {n i k : Nat} (hi : i < m.length) (hk : k < n) : (trP m n i k).set k (xat (trP m n i k) k ++ [nth (xat m i) k]) = trP m n i (k + 1) := by
  apply List.ext_getElem
  · simp [trP]
  · intro c h1 h2
    have hc : c < n := by simpa [trP] using h2
    rw [List.getElem_set]
    by_cases e : k = c
    · subst e
      rw [if_pos rfl, xat_trP hk, if_neg (by omega)]
      simp only [trP, List.getElem_map, List.getElem_range]
      rw [if_pos (by omega), take_xat hi]; simp [colOf]
    · rw [if_neg e]
      simp only [trP, List.getElem_map, List.getElem_range]
      by_cases h : c < k
      · rw [if_pos h, if_pos (by omega)]
      · rw [if_neg h, if_neg (by omega)]

theorem St.nilRows {B : Nat} {w0 w : World} {L : List Ent} (h : St B w0 w L) : ∀ n : Nat, St B w0 w (L ++ rowsI (nils n) (List.replicate n []))
  | 0 => by simpa [nils, rowsI] using h
  | n + 1 => by
    have ih := (St.nilRows h n).newnil 2
    refine ih.perm ?_
    have e : rowsI (nils (n + 1)) (List.replicate (n + 1) []) = row 2 (.slice none 0 0) [] :: rowsI (nils n) (List.replicate n []) := by
      simp [nils, rowsI, List.replicate_succ, iv]
    rw [e]
    refine (List.perm_append_comm).trans ?_
    exact (List.perm_middle (a := row 2 (.slice none 0 0) []) (l₁ := L) (l₂ := rowsI (nils n) (List.replicate n []))).symm
theorem own2_put {v : Value} {us : List Value} {xss : List (List Int)} (hl : us.length = xss.length) {k : Nat} (hk : k < xss.length) (u : Value) (ys : List Int) :
    ((own2 v us xss).set (k + 1) (row 2 u (iv ys))).set 0 (row 22 v (us.set k u)) = own2 v (us.set k u) (xss.set k ys) := by
  simp only [own2, List.set_cons_succ, List.set_cons_zero]
  congr 1
  unfold rowsI
  apply List.ext_getElem
  · simp [hl]
  · intro j h1 h2
    rw [List.getElem_set, List.getElem_zipWith, List.getElem_zipWith, List.getElem_set, List.getElem_set]
    by_cases e : k = j
    · subst e; simp
    · simp [e]

set_option maxHeartbeats 4000000 in
set_option maxRecDepth 100000 in
theorem columnsOf_c (vm : Value) (us : List Value) (m : List (List Int)) (n : Nat) (w : World) (hm : RII w vm us m) (hn : n ≤ 4096) (hml : m.length ≤ 4096) (hrect : ∀ r ∈ m, r.length = n) :
    Calls Try.prog 74 #[vm, .int .i64 n] w (MakesII w (trL m n)) := by
  have hlm := hm.len
  have him := hm.ix
  have Hrect := Lib.hid hrect
  clear hrect
  go_enter Try.func74, Try.ntmps74
  go_wp2_with (at_make; refine mkII (St.refl w) rfl _ _ rfl _ _ n rfl rfl (by omega) ?_; intro v1 w1 hS1)
  have hS1 := hS1.nilRows n
  rw [← trP_0 m n] at hS1
  go_wp2_with fail
  go_loopw [7, 8, 9, 14, 20] (fun _ _ _ i _ wr => ∃ (j : Nat) (ws : List Value), j ≤ m.length ∧ i = .int .i64 j ∧ Hid (ws.length = n) ∧ St w.heap.size w wr (own2 v1 ws (trP m n j 0))) (fun _ _ _ i _ _ => m.length - (intOf i).toNat)
  case atStart => exact ⟨0, nils n, by omega, rfl, by simp [Hid, nils], hS1⟩
  case round =>
    obtain ⟨j, ws, hj, rfl, hw, hS⟩ := hrel
    by_cases hlt : j < m.length
    · have hcj := (hS.oldII hm).cell j hlt
      have hrj := Lib.hid (hm.row j hlt)
      have hnl := Lib.hid (Hrect.out _ (xat_mem hlt))
      have hlr := hrj.out.len
      have hir := hrj.out.ix
      rw [hnl.out] at hlr hir
      go_wp2_with fail
      go_loopw [8, 9, 20] (fun _ _ c wx => ∃ (k : Nat) (ws : List Value), k ≤ n ∧ c = .int .i64 k ∧ Hid (ws.length = n) ∧ St w.heap.size w wx (own2 v1 ws (trP m n j k))) (fun _ _ c _ => n - (intOf c).toNat)
      case atStart => exact ⟨0, ws, by omega, rfl, hw, hS⟩
      case round =>
        obtain ⟨k, ws, hk, rfl, hw, hS⟩ := hrel
        by_cases hkn : k < n
        · have hck := (hS.oldI hrj.out).cell k (by rw [hnl.out]; exact hkn)
          have hlw : Hid (ws.length = (trP m n j k).length) := by unfold Hid; rw [hw.out, trP_len]
          have hkl := Lib.hid (show k < (trP m n j k).length by rw [trP_len]; exact hkn)
          have hr0 := hS.rii hlw.out
          have hxk := hr0.ixe (k : Int) k rfl hkl.out
          have hcv := hr0.cell k hkl.out
          have hat : Hid ((own2 v1 ws (trP m n j k))[k + 1]? = some (row 2 (vat ws k) (iv (xat (trP m n j k) k)))) := by
            unfold Hid; rw [own2, List.getElem?_cons_succ]; exact rowsI_get hlw.out hkl.out
          have hxl : Hid ((xat (trP m n j k) k).length < 4294967296) := by unfold Hid; rw [xat_trP hkn]; simp [colOf]; omega
          have hstep := Lib.hid (trP_step (n := n) hlt hkn)
          have hput := fun u => Lib.hid (own2_put (v := v1) hlw.out hkl.out u (xat (trP m n j k) k ++ [nth (xat m j) k]))
          have hkw := Lib.hid (show k < ws.length by rw [hw.out]; exact hkn)
          clear hr0
          go_wp2_with (first
            | (at_builtin; refine appI hS (k + 1) hat.out hxl.out rfl _ _ rfl rfl _ rfl ?_; intro v3 w3 hS3; have hsl := (hS3.rd (k + 1) (by rw [List.getElem?_set_self (by have := List.getElem?_eq_some_iff.1 hat.out; exact this.1)])).sl)
            | (refine stoII hS3 0 rfl k hkw.out rfl (.tmp 34) (.tmp 33) rfl rfl v3 hsl.cells hsl.one rfl ?_; intro w4 hS4))
          go_roundw
          case rel =>
            refine ⟨k + 1, ws.set k v3, by omega, by go_num, by simp [Hid, hw.out], ?_⟩
            rw [(hput v3).out, hstep.out] at hS4
            exact hS4
          case measure => simp [intOf]; omega
        · obtain rfl : k = n := by omega
          go_wp2_with fail
          go_roundw
          case rel => exact ⟨j + 1, ws, by omega, by go_num, hw, by rw [← trP_row]; exact hS⟩
          case measure => simp [intOf]; omega
    · obtain rfl : j = m.length := by omega
      rw [trP_end] at hS
      go_wp2_with fail
      go_ret
      exact ⟨_, ws, rfl, by rw [hw.out, trL_len], hS⟩


theorem trL_take {m : List (List Int)} {n k : Nat} (hk : k < n) : (trL m n).take (k + 1) = (trL m n).take k ++ [colOf m k] := by
  rw [take_xat (by rw [trL_len]; exact hk)]
  congr 1
  simp [xat, trL, hk]
theorem colOf_take {m : List (List Int)} {c j : Nat} (hj : j < m.length) : colOf (m.take (j + 1)) c = colOf (m.take j) c ++ [nth (xat m j) c] := by
  rw [take_xat hj]; simp [colOf]

set_option maxHeartbeats 4000000 in
set_option maxRecDepth 100000 in
theorem l17Turn_c (vm : Value) (us : List Value) (m : List (List Int)) (n : Nat) (w : World) (hm : RII w vm us m) (hn : n ≤ 4096) (hml : m.length ≤ 4096) (hm1 : 1 ≤ m.length) (hrect : ∀ r ∈ m, r.length = n) :
    Calls Try.prog 73 #[vm] w (MakesII w (trL m n)) := by
  have hlm := hm.len
  have him := hm.ix
  have hx0 := hm.ixe 0 0 rfl hm1
  have hl0 := (hm.row 0 hm1).len
  rw [hrect _ (xat_mem hm1)] at hl0
  have Hrect := Lib.hid hrect
  clear hrect
  have hS1 := (St.refl w).new 22 #[] (by simp)
  go_enter Try.func73, Try.ntmps73
  go_wp2_with fail
  go_loopw [3, 4, 5, 6] (fun o kk _ _ wr => ∃ (k : Nat) (ws : List Value), k ≤ n ∧ kk = .int .i64 k ∧ Hid (ws.length = k) ∧ St w.heap.size w wr (own2 o ws ((trL m n).take k))) (fun _ kk _ _ _ => n - (intOf kk).toNat)
  case atStart => exact ⟨0, [], by omega, rfl, rfl, hS1⟩
  case round =>
    obtain ⟨k, ws, hk, rfl, hw, hS⟩ := hrel
    have hc0 := (hS.oldII hm).cell 0 hm1
    have hlw : Hid (ws.length = ((trL m n).take k).length) := by unfold Hid; rw [hw.out, List.length_take, trL_len]; omega
    by_cases hkn : k < n
    · have hS2 := (hS.new 2 #[] (by simp)).perm List.perm_append_comm
      simp only [List.cons_append, List.nil_append] at hS2
      go_wp2_with fail
      go_loopw [5, 6] (fun r ii wx => ∃ j : Nat, j ≤ m.length ∧ ii = .int .i64 j ∧ St w.heap.size w wx (row 2 r (iv (colOf (m.take j) k)) :: own2 u3 ws ((trL m n).take k))) (fun _ ii _ => m.length - (intOf ii).toNat)
      case atStart => exact ⟨0, by omega, rfl, by simpa [colOf, iv] using hS2⟩
      case round =>
        obtain ⟨j, hj, rfl, hS3⟩ := hrel
        by_cases hlt : j < m.length
        · have hcj := (hS3.oldII hm).cell j hlt
          have hrj := Lib.hid ((hS3.oldII hm).row j hlt)
          have hkl := Lib.hid (show k < (xat m j).length by rw [Hrect.out _ (xat_mem hlt)]; exact hkn)
          have hxk := hrj.out.ixe (k : Int) k rfl hkl.out
          have hck := hrj.out.cell k hkl.out
          have hst := Lib.hid (colOf_take (c := k) hlt)
          go_wp2_with (at_builtin; refine appI hS3 0 rfl (by simp [colOf]; omega) rfl _ _ rfl rfl _ rfl ?_; intro v4 w4 hS4)
          go_roundw
          case rel => exact ⟨j + 1, by omega, by go_num, by rw [hst.out]; exact hS4⟩
          case measure => simp [intOf]; omega
        · obtain rfl : j = m.length := by omega
          rw [List.take_length] at hS3
          have hr := hS3.rdI 0 rfl
          have hone := Lib.hid hr.sl.one
          obtain ⟨ra, rc, hre⟩ := hr.shp'
          subst hre
          clear hr
          go_wp2_with (at_builtin; refine appII hS3 1 rfl (by rw [hw.out]; omega) rfl _ _ rfl rfl _ hone.out rfl ?_; intro v5 w5 hS5)
          go_roundw
          case rel =>
            refine ⟨k + 1, ws ++ [.slice ra (colOf m k).length rc], by omega, by go_num, by simp [Hid, hw.out], ?_⟩
            rw [trL_take hkn, own2, rowsI_app hlw.out]
            refine hS5.perm ?_
            simp only [own2, List.set_cons_succ, List.set_cons_zero, List.cons_append]
            exact (List.perm_append_comm (l₁ := [_]))
          case measure => simp [intOf]; omega
    · obtain rfl : k = n := by omega
      rw [List.take_of_length_le (by rw [trL_len]; omega)] at hS
      go_wp2_with fail
      go_ret
      exact ⟨_, ws, rfl, by rw [hw.out, trL_len], hS⟩

def trM (p d : Int) (xs : List Int) (xss : List (List Int)) : List (List Int) := if matOk p d xs xss = true then trL xss (xat xss 0).length else []
def matC (p d : Int) (xs : List Int) (xss : List (List Int)) : Int := if matOk p d xs xss = true then 0 else 1
/-- a matrix and a code -/
def MakesMC (w : World) (xss : List (List Int)) (c : Int) (e : Ending) (w' : World) : Prop := ∃ v us, e = .returned (.tuple #[v, .int .i64 c]) ∧ us.length = xss.length ∧ St w.heap.size w w' (own2 v us xss)
structure MV (p d : Int) (xs : List Int) (xss : List (List Int)) : Prop where
  f : FV p d xs
  rows1 : 1 ≤ xss.length
  rows : xss.length ≤ 32
  cols1 : 1 ≤ (xat xss 0).length
  cols : (xat xss 0).length ≤ 32
  rect : ∀ r ∈ xss, r.length = (xat xss 0).length
  inp : ∀ r ∈ xss, In (p ^ d.toNat) r
theorem vecOk_in {q : Int} {r : List Int} (h : vecOk q r = true) : In q r := by
  intro x hx
  simp only [vecOk, anyP, Bool.not_eq_true', List.any_eq_false] at h
  have := h x hx
  cases hb : inB x 0 (q - 1) with
  | false => rw [hb] at this; simp at this
  | true => simp [inB] at hb; omega
theorem rowBad_f {q : Int} {n : Nat} {r : List Int} (h : rowBad q n r = false) : r.length = n ∧ vecOk q r = true := by
  unfold rowBad at h
  cases hv : vecOk q r with
  | false => rw [hv] at h; simp at h
  | true => rw [hv] at h; simp at h; exact ⟨h, rfl⟩
theorem matOk_t {p d : Int} {xs : List Int} {xss : List (List Int)} (h : matOk p d xs xss = true) : MV p d xs xss := by
  simp only [matOk, Bool.and_eq_true, Bool.not_eq_true'] at h
  obtain ⟨⟨⟨h1, h2⟩, h3⟩, h4⟩ := h
  simp only [inB, Bool.and_eq_true, decide_eq_true_eq] at h2 h3
  have h5 : ∀ r ∈ xss, rowBad (p ^ d.toNat) (xat xss 0).length r = false := fun r hr => by
    have := List.any_eq_false.1 h4 r hr
    simpa using this
  exact ⟨fOk_t h1, by omega, by omega, by omega, by omega, fun r hr => (rowBad_f (h5 r hr)).1, fun r hr => vecOk_in (rowBad_f (h5 r hr)).2⟩

set_option maxHeartbeats 2000000 in
set_option maxRecDepth 100000 in
theorem TransposeMatrix_c (p d : Int) (v : Value) (xs : List Int) (vm : Value) (us : List Value) (xss : List (List Int)) (w : World) (hv : RdI w v xs) (hm : RII w vm us xss) (hd : d ≤ 9223372036854775807) :
    Calls Try.prog 25 #[fv p d v, vm] w (MakesMC w (trM p d xs xss) (matC p d xs xss)) := by
  have hS0 := (St.refl w).newboxF 29 #[.int .i64 p, .int .i64 d, v]
  have HV := Lib.hid (ValidMatrix_c p d v xs vm us xss _ (hS0.oldI hv) (hS0.oldII hm) hd)
  have a0 := hS0.bcell 0 rfl 0 rfl
  have a1 := hS0.bcell 0 rfl 1 rfl
  have a2 := hS0.bcell 0 rfl 2 rfl
  unfold fv at HV ⊢
  cases h1 : matOk p d xs xss
  · have HM := Lib.hid (show trM p d xs xss = [] by rw [trM, if_neg (by rw [h1]; simp)])
    have HC := Lib.hid (show matC p d xs xss = 1 by rw [matC, if_neg (by rw [h1]; simp)])
    have H1 := Lib.hid h1; clear h1
    go_enter Try.func25, Try.ntmps25
    go_wp2_with fail
    refine HV.out.mono ?_
    rw [H1.out]
    rintro e w1 ⟨rfl, h1⟩
    have hS1 := hS0.call0 h1
    go_wp2_with fail
    go_ret2
    rw [HM.out, HC.out]
    exact ⟨_, [], rfl, rfl, hS1.out.newnil _⟩
  · have hmv := matOk_t h1
    have HM := Lib.hid (show trM p d xs xss = trL xss (xat xss 0).length by rw [trM, if_pos h1])
    have HC := Lib.hid (show matC p d xs xss = 0 by rw [matC, if_pos h1])
    have H1 := Lib.hid h1; clear h1
    have hr1 := hmv.rows1
    have hcol := fun W (h : RII W vm us xss) => Lib.hid (columnsOf_c vm us xss (xat xss 0).length W h (by have := hmv.cols; omega) (by have := hmv.rows; omega) hmv.rect)
    have hx0 := hm.ixe 0 0 rfl hr1
    have hl0 := (hm.row 0 hr1).len
    clear hmv
    go_enter Try.func25, Try.ntmps25
    go_wp2_with fail
    refine HV.out.mono ?_
    rw [H1.out]
    rintro e w1 ⟨rfl, h1⟩
    have hS1 := hS0.call0 h1
    have hm1 := hS1.oldII hm
    have hc0 := hm1.cell 0 hr1
    go_wp2_with fail
    refine (hcol _ hm1).out.mono ?_
    rintro e w2 ⟨v2, us2, rfl, hl2, h2⟩
    have Hl2 := Lib.hid hl2
    have hS2 := hS1.call h2
    clear hl2
    go_wp2_with fail
    go_ret2
    rw [HM.out, HC.out]
    exact ⟨v2, us2, rfl, Hl2.out, hS2.sub (List.sublist_append_right _ _)⟩
set_option maxHeartbeats 2000000 in
set_option maxRecDepth 100000 in
theorem sTransposeMatrix_c (p d : Int) (v : Value) (xs : List Int) (vm : Value) (us : List Value) (xss : List (List Int)) (w : World) (hv : RdI w v xs) (hm : RII w vm us xss) :
    Calls Try.prog 24 #[fv p d v, vm] w (MakesMC w (trM p d xs xss) (matC p d xs xss)) := by
  have hS0 := (St.refl w).newboxF 29 #[.int .i64 p, .int .i64 d, v]
  have HV := Lib.hid (l17Ok_c p d w.heap.size v xs vm us xss _ (hS0.oldI hv) ⟨hS0.bcell 0 rfl 0 rfl, hS0.bcell 0 rfl 1 rfl, hS0.bcell 0 rfl 2 rfl⟩ (hS0.oldII hm))
  unfold fv
  cases h1 : matOk p d xs xss
  · have HM := Lib.hid (show trM p d xs xss = [] by rw [trM, if_neg (by rw [h1]; simp)])
    have HC := Lib.hid (show matC p d xs xss = 1 by rw [matC, if_neg (by rw [h1]; simp)])
    have H1 := Lib.hid h1; clear h1
    go_enter Try.func24, Try.ntmps24
    go_wp2_with fail
    refine HV.out.mono ?_
    rw [H1.out]
    rintro e w1 ⟨rfl, h1⟩
    have hS1 := hS0.call0 h1
    go_wp2_with fail
    go_ret2
    rw [HM.out, HC.out]
    exact ⟨_, [], rfl, rfl, hS1.out.newnil _⟩
  · have hmv := matOk_t h1
    have HM := Lib.hid (show trM p d xs xss = trL xss (xat xss 0).length by rw [trM, if_pos h1])
    have HC := Lib.hid (show matC p d xs xss = 0 by rw [matC, if_pos h1])
    have H1 := Lib.hid h1; clear h1
    have hcol := fun W (h : RII W vm us xss) => Lib.hid (l17Turn_c vm us xss (xat xss 0).length W h (by have := hmv.cols; omega) (by have := hmv.rows; omega) hmv.rows1 hmv.rect)
    clear hmv
    go_enter Try.func24, Try.ntmps24
    go_wp2_with fail
    refine HV.out.mono ?_
    rw [H1.out]
    rintro e w1 ⟨rfl, h1⟩
    have hS1 := hS0.call0 h1
    have hm1 := hS1.oldII hm
    go_wp2_with fail
    refine (hcol _ hm1).out.mono ?_
    rintro e w2 ⟨v2, us2, rfl, hl2, h2⟩
    have Hl2 := Lib.hid hl2
    have hS2 := hS1.call h2
    clear hl2
    go_wp2_with fail
    go_ret2
    rw [HM.out, HC.out]
    exact ⟨v2, us2, rfl, Hl2.out, hS2.sub (List.sublist_append_right _ _)⟩

end Go.Proofs.Ytmkfafhgcnbcaaa
