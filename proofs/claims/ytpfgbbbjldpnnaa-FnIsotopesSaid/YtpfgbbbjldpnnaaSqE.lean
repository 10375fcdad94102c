/- Walks: squares that the reference draws. -/
import Derived.Test.YtpfgbbbjldpnnaaSqD
import Derived.Test.YtpfgbbbjldpnnaaPm2
namespace Go.Proofs.Ytpfgbbbjldpnnaa
set_option linter.unusedSimpArgs false
set_option linter.unusedVariables false
open Go.RowKit
attribute [local go_sem ↓] Go.wp_at_zero Go.wp_at_succ

/-- some square of n rows with entries below n, and the source goes on -/
def SqS (w0 : World) (cv : Value) (g K n : Nat) (L : List Ent) (e : Ending) (w' : World) : Prop := ∃ v us A, e = .returned v ∧ Sq0 n A ∧ us.length = n ∧ Src w0 w' cv g K (own2 v us A ++ L)
set_option maxHeartbeats 8000000 in
set_option maxRecDepth 100000 in
theorem l06Switch_c (w0 w : World) (cv : Value) (bs : List UInt8) (g K : Nat) (L : List Ent) (n : Nat) (v : Value) (us : List Value) (A : List (List Int)) (hb : RdB w0 cv bs)
    (h : Src w0 w cv g K (own2 v us A ++ L)) (hl : us.length = n) (hA : Sq0 n A) (hK : K < 100000000000) (n1 : 1 ≤ n) (n2 : n ≤ 100) :
    Calls Try.prog 136 #[.pointer (some ⟨g, 0, none⟩), v] w (SqS w0 cv g (K + 10) n L) := by
  have HA := Lib.hid hA
  have Hul := Lib.hid hl
  have hRA : RII w v us A := by
    obtain ⟨p, s, h0, h1, hS⟩ := h
    exact (hS.sub ((List.sublist_append_left _ _).trans (List.sublist_cons_self _ _))).rii (by rw [hl, hA.len])
  have hln := hRA.len
  rw [hA.len] at hln
  have hxi := hRA.ixe
  rw [hA.len] at hxi
  have HO := Lib.hid (l06Own_c v us A w hRA (by rw [hA.len]; omega) (fun xs hx => by
    obtain ⟨j, hj, rfl⟩ := List.getElem_of_mem hx
    have := hA.row j (by rw [← hA.len]; exact hj)
    rw [xat_eq hj] at this; omega))
  clear hA hl hRA
  go_enter Try.func136, Try.ntmps136
  go_wp2_with fail
  refine HO.out.mono ?_
  rintro e w1 ⟨o, uo, rfl, hlo, h1⟩
  rw [HA.out.len] at hlo
  have Hl := Lib.hid hlo
  have h2 := h.call h1
  clear h h1 hlo HO
  go_wp2_with fail
  refine (pick_c w0 w1 cv bs g _ _ n hb h2 (by omega)).mono ?_
  rintro e w2 ⟨x, x0, x1, rfl, h3⟩
  obtain ⟨x, rfl⟩ := Int.eq_ofNat_of_zero_le x0
  have hxn : x < n := by omega
  clear h2 x0 x1
  go_wp2_with fail
  refine (pick_c w0 w2 cv bs g _ _ n hb h3 (by omega)).mono ?_
  rintro e w3 ⟨z, z0, z1, rfl, h4⟩
  obtain ⟨z, rfl⟩ := Int.eq_ofNat_of_zero_le z0
  have hzn : z < n := by omega
  clear h3 z0 z1
  by_cases hxz : x = z
  · have f1 : ((x : Int) == (z : Int)) = true := eq_t (by omega)
    have h5 := (h4.perm (L' := (own2 o uo A ++ L) ++ own2 v us A) (by (try simp only [own2, List.cons_append, List.nil_append, List.append_nil]); classical exact List.perm_iff_count.2 (fun a => by simp only [List.cons_append, List.nil_append, List.append_nil, List.count_append, List.count_cons, List.count_nil] <;> omega))).sub (List.sublist_append_left _ _)
    clear h4 hxz
    go_wp2_with fail
    go_ret
    exact ⟨o, uo, A, rfl, HA.out, Hl.out, h5.mono (by omega)⟩
  · have f1 : ((x : Int) == (z : Int)) = false := eq_f (by omega)
    have Hxz := Lib.hid hxz
    clear hxz
    go_wp2_with fail
    refine (pick_c w0 w3 cv bs g _ _ n hb h4 (by omega)).mono ?_
    rintro e w4 ⟨y, y0, y1, rfl, h5⟩
    obtain ⟨y, rfl⟩ := Int.eq_ofNat_of_zero_le y0
    have hyn : y < n := by omega
    clear h4 y0 y1
    obtain ⟨pp, ss, p0, p1, hS⟩ := h5
    obtain ⟨M, hM⟩ : ∃ M, M = box 102 g [cv, .int .i64 pp, .int .u64 ss] :: (L ++ own2 v us A) := ⟨_, rfl⟩
    have hS1 : St w0.heap.size w0 w4 (own2 o uo A ++ M) := by rw [hM]; exact hS.perm (by (try simp only [own2, List.cons_append, List.nil_append, List.append_nil]); classical exact List.perm_iff_count.2 (fun a => by simp only [List.cons_append, List.nil_append, List.append_nil, List.count_append, List.count_cons, List.count_nil] <;> omega))
    have HM := Lib.hid (show ∀ w' S, St w0.heap.size w0 w' (own2 o uo S ++ M) → Src w0 w' cv g (K + 10) (own2 o uo S ++ L) from fun w' S hs => by
      rw [hM] at hs
      exact ⟨pp, ss, p0, by omega, (hs.perm (L' := (box 102 g [cv, .int .i64 pp, .int .u64 ss] :: (own2 o uo S ++ L)) ++ own2 v us A) (by (try simp only [own2, List.cons_append, List.nil_append, List.append_nil]); classical exact List.perm_iff_count.2 (fun a => by simp only [List.cons_append, List.nil_append, List.append_nil, List.count_append, List.count_cons, List.count_nil] <;> omega))).sub (List.sublist_append_left _ _)⟩)
    have hRA : RII w4 v us A := (hS.sub ((List.sublist_append_left _ _).trans ((List.sublist_append_left _ _).trans (List.sublist_cons_self _ _)))).rii (by rw [Hul.out, HA.out.len])
    have ca := hRA.cell x (by rw [HA.out.len]; exact hxn)
    have cb := (hRA.row x (by rw [HA.out.len]; exact hxn)).cell y (by rw [HA.out.row x hxn]; exact hyn)
    have xa := (hRA.row x (by rw [HA.out.len]; exact hxn)).ixe (y : Int) y rfl (by rw [HA.out.row x hxn]; exact hyn)
    have xx := hxi (x : Int) x rfl hxn
    generalize nth (xat A x) y = fst at *
    clear hM hS hRA p0 p1
    go_wp2_with fail
    clear ca cb xa xx
    go_loopw [9, 11, 12, 13, 14, 15] (fun yv kk _ _ _ _ wr => ∃ (k y : Nat) (S : List (List Int)), k ≤ n ∧ kk = .int .i64 k ∧ yv = .int .i64 y ∧ y < n ∧ Hid (Sq0 n S) ∧ St w0.heap.size w0 wr (own2 o uo S ++ M)) (fun _ kk _ _ _ _ _ => n - (intOf kk).toNat)
    case atStart => exact ⟨0, y, A, by omega, rfl, rfl, hyn, HA.out, hS1⟩
    case round =>
      clear hS1 hyn
      obtain ⟨k, y, S, hk, rfl, rfl, hyn, hI, hS⟩ := hrel
      by_cases hlt : k < n
      · have hsl : S.length = n := hI.out.len
        have hlS : uo.length = S.length := by rw [Hl.out, hsl]
        have hsx : (xat S x).length = n := hI.out.row x hxn
        have hsz : (xat S z).length = n := hI.out.row z hzn
        have hR := rii2 hS hlS
        have hat := hS.at_row hlS (j := x) (by rw [hsl]; exact hxn)
        have c1 := hR.cell x (by rw [hsl]; exact hxn)
        have c2 := hR.cell z (by rw [hsl]; exact hzn)
        have i1 := hR.ixe (x : Int) x rfl (by rw [hsl]; exact hxn)
        have i2 := hR.ixe (z : Int) z rfl (by rw [hsl]; exact hzn)
        have j1 := (hR.row x (by rw [hsl]; exact hxn)).ixe (y : Int) y rfl (by rw [hsx]; exact hyn)
        have j2 := (hR.row z (by rw [hsl]; exact hzn)).ixe (y : Int) y rfl (by rw [hsz]; exact hyn)
        have d1 : wr.cell? (el (vat uo x) y) = some (.int .i64 (at2 S x y)) := (hR.row x (by rw [hsl]; exact hxn)).cell y (by rw [hsx]; exact hyn)
        have d2 : wr.cell? (el (vat uo z) y) = some (.int .i64 (at2 S z y)) := (hR.row z (by rw [hsl]; exact hzn)).cell y (by rw [hsz]; exact hyn)
        have hup := hI.out.el x y hxn hyn
        have hdn := hI.out.el z y hzn hyn
        obtain ⟨S2, hS2⟩ : ∃ S2, S2 = putS S x y (at2 S z y) := ⟨_, rfl⟩
        obtain ⟨S3, hS3⟩ : ∃ S3, S3 = putS S2 z y (at2 S x y) := ⟨_, rfl⟩
        have q2 : Sq0 n S2 := by rw [hS2]; exact putS_sq0 hI.out hxn hyn hdn.1 hdn.2
        have q3 : Sq0 n S3 := by rw [hS3]; exact putS_sq0 q2 hzn hyn hup.1 hup.2
        generalize at2 S x y = up at *
        generalize at2 S z y = dn at *
        have HE1 := Lib.hid (own2_set (v := o) (L2 := M) hlS (j := x) (by rw [hsl]; exact hxn) ((xat S x).set y dn))
        rw [show S.set x ((xat S x).set y dn) = S2 from hS2.symm] at HE1
        have hlS2 : uo.length = S2.length := by rw [Hl.out, q2.len]
        have HE2 := Lib.hid (own2_set (v := o) (L2 := M) hlS2 (j := z) (by rw [q2.len]; exact hzn) ((xat S2 z).set y up))
        rw [show S2.set z ((xat S2 z).set y up) = S3 from hS3.symm] at HE2
        have hT : ∀ w', St w0.heap.size w0 w' (own2 o uo S2 ++ M) → (own2 o uo S2 ++ M)[z + 1]? = some (row 2 (vat uo z) (iv (xat S2 z))) ∧ w'.cell? (el o z) = some (vat uo z) := fun w' hs => ⟨hs.at_row hlS2 (j := z) (by rw [q2.len]; exact hzn), (rii2 hs hlS2).cell z (by rw [q2.len]; exact hzn)⟩
        have HT := Lib.hid hT
        have hW : ∀ w', St w0.heap.size w0 w' (own2 o uo S3 ++ M) → w'.cell? (el o x) = some (vat uo x) := fun w' hs => (rii2 hs (by rw [Hl.out, q3.len])).cell x (by rw [q3.len]; exact hxn)
        have HW := Lib.hid hW
        have hV : ∀ w' (i : Nat), i < n → St w0.heap.size w0 w' (own2 o uo S3 ++ M) → w'.cell? (el (vat uo x) i) = some (.int .i64 (at2 S3 x i)) ∧ ∀ W, (Instr.indexAt 24 (vat uo x) (.int .i64 (i : Int))).run Try.prog W = .ok (.pointer (some (el (vat uo x) i))) W := fun w' i hi hs => by
          have hr := (rii2 hs (by rw [Hl.out, q3.len])).row x (by rw [q3.len]; exact hxn)
          exact ⟨hr.cell i (by rw [q3.row x hxn]; exact hi), fun W => hr.ixe (i : Int) i rfl (by rw [q3.row x hxn]; exact hi) W⟩
        have HV := Lib.hid hV
        have Q3 := Lib.hid q3
        have hsz2 : (xat S2 z).length = n := q2.row z hzn
        have Hat := Lib.hid hat
        have Hsz2 := Lib.hid hsz2
        have Hsx := Lib.hid hsx
        have hs2 := Lib.hid hS
        clear hT hW hV hR hI hS2 hS3 q2 q3 hlS hlS2 hsl hsx hsz hat hsz2 hup hdn
        by_cases hdf : dn = fst
        · have g1 : (dn == fst) = true := eq_t hdf
          clear hdf
          go_wp2_with (first
            | (have hz := hw2; clear hz; refine stoI hw2 (z + 1) hat2 y (by rw [Hsz2.out]; exact hyn) rfl _ _ rfl rfl _ rfl ?_; intro w3' hw3; rw [HE2.out] at hw3; have k1 := HW.out _ hw3)
            | (refine stoI hs2.out (x + 1) Hat.out y (by rw [Hsx.out]; exact hyn) rfl _ _ rfl rfl _ rfl ?_; intro w2' hw2; rw [HE1.out] at hw2; obtain ⟨hat2, k2⟩ := HT.out _ hw2))
          go_ret
          exact ⟨o, uo, S3, rfl, Q3.out, Hl.out, HM.out _ _ hw3⟩
        · have g1 : (dn == fst) = false := eq_f hdf
          clear hdf
          go_wp2_with (first
            | (have hz := hw2; clear hz; refine stoI hw2 (z + 1) hat2 y (by rw [Hsz2.out]; exact hyn) rfl _ _ rfl rfl _ rfl ?_; intro w3' hw3; rw [HE2.out] at hw3; have k1 := HW.out _ hw3)
            | (refine stoI hs2.out (x + 1) Hat.out y (by rw [Hsx.out]; exact hyn) rfl _ _ rfl rfl _ rfl ?_; intro w2' hw2; rw [HE1.out] at hw2; obtain ⟨hat2, k2⟩ := HT.out _ hw2))
          clear hw2 hat2 k1 k2 hS
          go_loopw [14, 15] (fun nx ii wz => ∃ i t : Nat, i ≤ n ∧ ii = .int .i64 i ∧ nx = .int .i64 t ∧ t < n ∧ St w0.heap.size w0 wz (own2 o uo S3 ++ M)) (fun _ ii _ => n - (intOf ii).toNat)
          case atStart => exact ⟨0, 0, by omega, rfl, rfl, by omega, hw3⟩
          case round =>
            clear hw3
            obtain ⟨i, t, hi, rfl, rfl, htn, hS9⟩ := hrel
            by_cases hil : i < n
            · have k1 := HW.out _ hS9
              have k2 := (HV.out _ i hil hS9).1
              have k3 := (HV.out _ i hil hS9).2
              generalize at2 S3 x i = q at *
              by_cases hiy : i = y
              · have g2 : ((i : Int) != (y : Int)) = false := ne_f (by omega)
                clear hiy
                go_wp2_with fail
                go_roundw
                case rel => exact ⟨i + 1, t, by omega, by go_num, rfl, htn, hS9⟩
                case measure => simp [intOf]; omega
              · have g2 : ((i : Int) != (y : Int)) = true := ne_t (by omega)
                clear hiy
                by_cases hqd : q = dn
                · have g3 : (q == dn) = true := eq_t hqd
                  clear hqd
                  go_wp2_with fail
                  go_roundw
                  case rel => exact ⟨i + 1, i, by omega, by go_num, rfl, hil, hS9⟩
                  case measure => simp [intOf]; omega
                · have g3 : (q == dn) = false := eq_f hqd
                  clear hqd
                  go_wp2_with fail
                  go_roundw
                  case rel => exact ⟨i + 1, t, by omega, by go_num, rfl, htn, hS9⟩
                  case measure => simp [intOf]; omega
            · go_wp2_with fail
              go_roundw
              case rel => exact ⟨k + 1, t, S3, by omega, by go_num, rfl, htn, Q3.out, hS9⟩
              case measure => simp [intOf]; omega
      · go_wp2_with fail
        go_ret
        exact ⟨o, uo, S, rfl, hI.out, Hl.out, HM.out _ _ hS⟩
end Go.Proofs.Ytpfgbbbjldpnnaa
