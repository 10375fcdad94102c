/- Walks: NullSpace of both sides. -/
import Derived.Test.YtmkfafhgcnbcaaaRR
import Derived.Test.YtmkfafhgcnbcaaaPNul
import Derived.Test.YtmkfafhgcnbcaaaHas
namespace Go.Proofs.Ytmkfafhgcnbcaaa
set_option linter.unusedSimpArgs false
set_option linter.unusedVariables false
open Go.RowKit
attribute [local go_sem ↓] Go.wp_at_zero Go.wp_at_succ

set_option maxHeartbeats 16000000 in
set_option maxRecDepth 100000 in
theorem nullSpace_c (p : Int) (D : Nat) (fs : List Int) (va : Value) (ua : List Value) (vs : Value) (us : List Value) (vm : Value) (um : List Value) (vi : Value) (vM : Value) (uM : List Value) (m : List (List Int)) (n : Nat) (w : World)
    (ht : TB w p D fs va ua vs us vm um vi) (hM : RII w vM uM m) (hf : FV p D fs) (hn : n ≤ 32) (hml : m.length ≤ 32) (hrect : Rect p D n m) :
    Calls Try.prog 89 #[tv p D va vs vm vi, vM, .int .i64 n] w (MakesII w (nulX p D fs m n)) := by
  have hS0 := (St.refl w).newboxF 78 #[.int .i64 (qn p D), va, vs, vm, vi]
  have HF := Lib.hid hf
  have HX := Lib.hid (show nulX p D fs m n = (red p D fs n 0 (nulB p D ((red p D fs n 0 m [] 1).1.take (red p D fs n 0 m [] 1).2.1.length) (red p D fs n 0 m [] 1).2.1 n n) [] 1).1.take (red p D fs n 0 (nulB p D ((red p D fs n 0 m [] 1).1.take (red p D fs n 0 m [] 1).2.1.length) (red p D fs n 0 m [] 1).2.1 n n) [] 1).2.1.length by rw [nulB_take]; rfl)
  have Hpre := Lib.hid (red_pre hf.fa n 0 (R := m) (piv := []) (det := 1) hrect (by simp))
  have Hpv := Lib.hid (red_piv (p := p) (D := D) (fs := fs) n 0 (R := m) (piv := []) (det := 1) (by simp))
  have HR := fun W (ht : TB W p D fs va ua vs us vm um vi) (h : RII W vM uM m) => Lib.hid (reduce_c p D fs va ua vs us vm um vi vM uM m n W ht h hf (by omega) (by omega) hrect)
  have HR2 := fun W vB uB B (ht : TB W p D fs va ua vs us vm um vi) (h : RII W vB uB B) (hl : B.length ≤ n) (hr : Rect p D n B) => Lib.hid (reduce_c p D fs va ua vs us vm um vi vB uB B n W ht h hf (by omega) (by omega) hr)
  have Hq1 := Lib.hid (show 0 < qn p D by have h := (el_zero hf.fa).2; unfold qn; omega)
  have HT := Lib.hid ht
  have a0 := hS0.bcell 0 rfl 0 rfl
  have a1 := hS0.bcell 0 rfl 1 rfl
  have a2 := hS0.bcell 0 rfl 2 rfl
  have a3 := hS0.bcell 0 rfl 3 rfl
  have a4 := hS0.bcell 0 rfl 4 rfl
  generalize red p D fs n 0 m [] 1 = X at *
  unfold tv at HR HR2 ⊢
  clear hf ht hrect
  go_enter Try.func89, Try.ntmps89
  go_wp2_with fail
  refine (HR _ (hS0.oldT HT.out) (hS0.oldII hM)).out.mono ?_
  rintro e w5 ⟨v5, u5, p5, rfl, hl5, hk5, h5⟩
  have HW := Lib.hid (hS0.call0 h5.out)
  have HT5 := Lib.hid (HW.out.oldT HT.out)
  have hk5' : X.2.1.length ≤ X.1.length := by have := Hpre.out.2; omega
  have hXt : X.2.1.length ≤ 32 := by have := Hpre.out.2; omega
  have hr5 : RII w5 v5 u5 (X.1.take X.2.1.length) := (h5.sub (List.sublist_cons_self _ _)).rii (by rw [hl5, List.length_take]; omega)
  have HQl := Lib.hid (show (X.1.take X.2.1.length).length = X.2.1.length by rw [List.length_take]; omega)
  have HQr := Lib.hid (show Rect p D n (X.1.take X.2.1.length) from fun r hr => Hpre.out.1 r (List.mem_of_mem_take hr))
  generalize X.1.take X.2.1.length = Q at hr5 HQl HQr HX
  have Hr5 := Lib.hid hr5
  have Hp5 := Lib.hid (h5.rdI 0 rfl)
  have xr5 := hr5.ixe
  have xp5 := Hp5.out.ixe
  have lp5 := Hp5.out.len
  have g0 := Lib.hid (HW.out.bcell 0 rfl 0 rfl)
  have g1 := Lib.hid (HW.out.bcell 0 rfl 1 rfl)
  have g2 := Lib.hid (HW.out.bcell 0 rfl 2 rfl)
  have g3 := Lib.hid (HW.out.bcell 0 rfl 3 rfl)
  have g4 := Lib.hid (HW.out.bcell 0 rfl 4 rfl)
  have hN5 := (St.refl w5).newnil 22
  clear hS0 h5 hl5 hk5 hk5' hr5 HR a0 a1 a2 a3 a4 HT
  go_wp2_with fail
  go_loopw [10, 11, 12, 13, 14, 23, 36] (fun o _ _ _ _ ii _ wr => ∃ (k : Nat) (uB : List Value), k ≤ n ∧ ii = .int .i64 k ∧ Hid (uB.length = (nulB p D Q X.2.1 n k).length) ∧ St w5.heap.size w5 wr (own2 o uB (nulB p D Q X.2.1 n k))) (fun _ _ _ _ _ ii _ _ => n - (intOf ii).toNat)
  case atStart => exact ⟨0, [], by omega, rfl, rfl, hN5⟩
  case round =>
    obtain ⟨k, uB, hk, rfl, huB, hS⟩ := hrel
    by_cases hlt : k < n
    · have hcon := Lib.hid (Contains_c p5 X.2.1 (k : Int) wr (hS.oldI Hp5.out))
      by_cases hkp : (k : Int) ∈ X.2.1
      · have Hd := Lib.hid (show decide ((k : Int) ∈ X.2.1) = true from decide_eq_true hkp)
        have Hnx := Lib.hid (nulB_yes (p := p) (D := D) (R := Q) (n := n) hkp)
        clear hkp
        go_wp2_with fail
        refine hcon.out.mono ?_
        rw [Hd.out]
        rintro e w6 ⟨rfl, rfl⟩
        go_wp2_with fail
        go_roundw
        case rel => exact ⟨k + 1, uB, by omega, by go_num, by rw [Hnx.out]; exact huB, by rw [Hnx.out]; exact hS⟩
        case measure => simp [intOf]; omega
      · have Hd := Lib.hid (show decide ((k : Int) ∈ X.2.1) = false from decide_eq_false hkp)
        have Hnx := Lib.hid (nulB_no (p := p) (D := D) (R := Q) (n := n) hkp)
        clear hkp
        have hul0 : k < (List.replicate n (0 : Int)).length := by simpa using hlt
        have Hset := Lib.hid (show (List.replicate n (0 : Int)).set k 1 = nulV p D Q X.2.1 n k 0 from rfl)
        have Hbl := Lib.hid (nulB_le (p := p) (D := D) (R := Q) (piv := X.2.1) (n := n) k)
        go_wp2_with fail
        refine hcon.out.mono ?_
        rw [Hd.out]
        rintro e w6 ⟨rfl, rfl⟩
        go_wp2_with (first
          | (at_make
             refine mkI hS rfl _ _ rfl _ _ n rfl rfl (by omega) ?_
             intro vx w7 hS7b
             have hS7 := hS7b.perm List.perm_append_comm
             simp only [List.cons_append, List.nil_append] at hS7
             clear hS7b
             have xu := (hS7.rdI 0 rfl).ixe (k : Int) k rfl hul0)
          | (refine stoI hS7 0 rfl k hul0 rfl _ _ rfl rfl _ rfl ?_
             intro w8 hS8
             simp only [List.set_cons_zero] at hS8
             rw [Hset.out] at hS8))
        clear hul0 Hset hS7 hS
        go_loopw [13, 14, 36] (fun _ _ ii wx => ∃ i : Nat, i ≤ X.2.1.length ∧ ii = .int .i64 i ∧ St w5.heap.size w5 wx (row 2 vx (iv (nulV p D Q X.2.1 n k i)) :: own2 u10 uB (nulB p D Q X.2.1 n k))) (fun _ _ ii _ => X.2.1.length - (intOf ii).toNat)
        case atStart => exact ⟨0, by omega, rfl, hS8⟩
        case round =>
          obtain ⟨i, hi, rfl, hS⟩ := hrel
          by_cases hil : i < X.2.1.length
          · have cp := (hS.oldI Hp5.out).cell i hil
            have xp := xp5 (i : Int) i rfl hil
            have hpi := Hpv.out _ (nth_mem hil)
            obtain ⟨pn, hpn⟩ := Int.eq_ofNat_of_zero_le hpi.1
            have hple : pn < n := by have := hpi.2; omega
            rw [hpn] at cp
            have hiQ : i < Q.length := by rw [HQl.out]; exact hil
            have ci := (hS.oldII Hr5.out).cell i hiQ
            have xi := xr5 (i : Int) i rfl hiQ
            have gi := (hS.oldII Hr5.out).row i hiQ
            have hQi := HQr.out.ra hiQ
            have hkl : k < (xat Q i).length := by rw [show xat Q i = ra Q i from rfl, hQi.1]; exact hlt
            have ce := gi.cell k hkl
            have xe := gi.ixe (k : Int) k rfl hkl
            obtain ⟨rn, hrn, hrq⟩ := (inEl HF.out.fa.pos hQi.2 k).nat
            rw [show nth (xat Q i) k = rn from hrn] at ce
            have hT := (hS.oldT HT5.out).s
            obtain ⟨s1, s2, s3, s4⟩ := hT.at2 (i := 0) (j := rn) Hq1.out hrq
            have s1' : ∀ W, (Instr.indexAt 25 vs (.int .i64 0)).run Try.prog W = .ok (.pointer (some (el vs 0))) W := s1
            obtain ⟨fn, hfn, hfq⟩ := (fneg_el (p := p) (D := D) HF.out.fa rn).nat
            rw [show fSub p D 0 rn = fn from hfn] at s4
            have hsl : (nulV p D Q X.2.1 n k i).length = n := nulV_len _
            have hpx : pn < (nulV p D Q X.2.1 n k i).length := by rw [hsl]; exact hple
            have xx := (hS.rdI 0 rfl).ixe (pn : Int) pn rfl hpx
            have co := (hS.rdI 0 rfl).cell pn hpx
            have Hpx := Lib.hid hpx
            have u0 := hS.unfrozen 0 rfl (j := pn) (by rw [iv_len]; exact hpx)
            have Hst := Lib.hid (show (nulV p D Q X.2.1 n k i).set pn fn = nulV p D Q X.2.1 n k (i + 1) by
              rw [nulV, show cf X.2.1 i = pn from hpn, Int.toNat_natCast, hrn, hfn])
            have b2 := hS.oldc g2.out
            clear hpn hpi hpx gi hsl hrn hfn hT s1 hQi
            go_wp2_with fail
            refine regionG (fun w' => w'.cell? ⟨w.heap.size, 2, none⟩ = some vs ∧ w'.cell? (el vs 0) = some (vat us 0) ∧ w'.cell? (el p5 i) = some (.int .i64 pn) ∧ w'.cell? (el v5 i) = some (vat u5 i) ∧ w'.cell? (el (vat u5 i) k) = some (.int .i64 rn) ∧ w'.cell? (el (vat us 0) rn) = some (.int .i64 fn)) 16 (by kernel_rfl) ⟨cell_dr b2, cell_dr s2, cell_dr cp, cell_dr ci, cell_dr ce, cell_dr s4⟩ (fun hHeld => ?_)
            refine takeP (i := 0) (v := ?_) rfl (by kernel_rfl) (fun _ _ _ h => h) (by rfl) ?_ (by assumption) ?_
            case refine_2 => (intro w'; go_simp; first | done | with_reducible rfl)
            try simp only [Act.put, List.setIfInBounds_toArray, List.set_cons_zero, List.set_cons_succ]
            refine takeP (i := 1) (v := ?_) rfl (by kernel_rfl) (fun _ _ _ h => h) (by rfl) ?_ (by assumption) ?_
            case refine_2 => (intro w'; go_simp; first | done | with_reducible rfl)
            try simp only [Act.put, List.setIfInBounds_toArray, List.set_cons_zero, List.set_cons_succ]
            refine takeP (i := 2) (v := ?_) rfl (by kernel_rfl) (fun _ _ _ h => h) (by rfl) ?_ (by assumption) ?_
            case refine_2 => (intro w'; go_simp; first | done | with_reducible rfl)
            try simp only [Act.put, List.setIfInBounds_toArray, List.set_cons_zero, List.set_cons_succ]
            refine takeH (i := 3) [4, 5, 13, 14] (v := ?_) rfl (by kernel_rfl) (fun _ _ _ h => h) (by rfl) ?_ (by assumption) ?_
            case refine_2 => (intro w' hSw; (try dsimp only at hSw); go_simp; first | done | with_reducible rfl)
            try simp only [Act.put, List.setIfInBounds_toArray, List.set_cons_zero, List.set_cons_succ]
            refine takeP (i := 4) (v := ?_) rfl (by kernel_rfl) (fun _ _ _ h => h) (by rfl) ?_ (by assumption) ?_
            case refine_2 => (intro w'; go_simp; first | done | with_reducible rfl)
            try simp only [Act.put, List.setIfInBounds_toArray, List.set_cons_zero, List.set_cons_succ]
            refine takeH (i := 5) [13, 14] (v := ?_) rfl (by kernel_rfl) (fun _ _ _ h => h) (by rfl) ?_ (by assumption) ?_
            case refine_2 => (intro w' hSw; (try dsimp only at hSw); go_simp; first | done | with_reducible rfl)
            try simp only [Act.put, List.setIfInBounds_toArray, List.set_cons_zero, List.set_cons_succ]
            refine takeP (i := 6) (v := ?_) rfl (by kernel_rfl) (fun _ _ _ h => h) (by rfl) ?_ (by assumption) ?_
            case refine_2 => (intro w'; go_simp; first | done | with_reducible rfl)
            try simp only [Act.put, List.setIfInBounds_toArray, List.set_cons_zero, List.set_cons_succ]
            refine takeP (i := 7) (v := ?_) rfl (by kernel_rfl) (fun _ _ _ h => h) (by rfl) ?_ (by assumption) ?_
            case refine_2 => (intro w'; go_simp; first | done | with_reducible rfl)
            try simp only [Act.put, List.setIfInBounds_toArray, List.set_cons_zero, List.set_cons_succ]
            refine takeP (i := 8) (v := ?_) rfl (by kernel_rfl) (fun _ _ _ h => h) (by rfl) ?_ (by assumption) ?_
            case refine_2 => (intro w'; go_simp; first | done | with_reducible rfl)
            try simp only [Act.put, List.setIfInBounds_toArray, List.set_cons_zero, List.set_cons_succ]
            refine takeH (i := 9) [11, 12, 13, 14] (v := ?_) rfl (by kernel_rfl) (fun _ _ _ h => h) (by rfl) ?_ (by assumption) ?_
            case refine_2 => (intro w' hSw; (try dsimp only at hSw); go_simp; first | done | with_reducible rfl)
            try simp only [Act.put, List.setIfInBounds_toArray, List.set_cons_zero, List.set_cons_succ]
            refine takeP (i := 10) (v := ?_) rfl (by kernel_rfl) (fun _ _ _ h => h) (by rfl) ?_ (by assumption) ?_
            case refine_2 => (intro w'; go_simp; first | done | with_reducible rfl)
            try simp only [Act.put, List.setIfInBounds_toArray, List.set_cons_zero, List.set_cons_succ]
            refine takeP (i := 11) (v := ?_) rfl (by kernel_rfl) (fun _ _ _ h => h) (by rfl) ?_ (by assumption) ?_
            case refine_2 => (intro w'; go_simp; first | done | with_reducible rfl)
            try simp only [Act.put, List.setIfInBounds_toArray, List.set_cons_zero, List.set_cons_succ]
            refine takeH (i := 12) [13, 14] (v := ?_) rfl (by kernel_rfl) (fun _ _ _ h => h) (by rfl) ?_ (by assumption) ?_
            case refine_2 => (intro w' hSw; (try dsimp only at hSw); go_simp; first | done | with_reducible rfl)
            try simp only [Act.put, List.setIfInBounds_toArray, List.set_cons_zero, List.set_cons_succ]
            refine takeP (i := 13) (v := ?_) rfl (by kernel_rfl) (fun _ _ _ h => h) (by rfl) ?_ (by assumption) ?_
            case refine_2 => (intro w'; go_simp; first | done | with_reducible rfl)
            try simp only [Act.put, List.setIfInBounds_toArray, List.set_cons_zero, List.set_cons_succ]
            refine takeH (i := 14) [] (v := ?_) rfl (by kernel_rfl) (fun _ _ _ h => h) (by rfl) ?_ (by assumption) ?_
            case refine_2 => (intro w' hSw; (try dsimp only at hSw); go_simp; first | done | with_reducible rfl)
            try simp only [Act.put, List.setIfInBounds_toArray, List.set_cons_zero, List.set_cons_succ]
            refine takeP (i := 15) (v := ?_) rfl (by kernel_rfl) (fun _ _ _ h => h) (by rfl) ?_ (by assumption) ?_
            case refine_2 => (intro w'; go_simp; first | done | with_reducible rfl)
            try simp only [Act.put, List.setIfInBounds_toArray, List.set_cons_zero, List.set_cons_succ]
            refine readyG (rs := [16]) (by kernel_rfl) (by simp) ?_
            refine AllG.last rfl (by kernel_rfl) (fun K hK => ?_) AllG.nil
            go_simp
            refine hK.out _ _ ?_
            clear hK K
            try simp only [Act.put, List.setIfInBounds_toArray, List.set_cons_zero, List.set_cons_succ]
            refine doneG (by kernel_rfl) ?_ _
            refine NoPanic.normal ?_
            have hS9 := hS.drew.store 0 rfl (j := pn) (by rw [iv_len]; exact Hpx.out) (.int .i64 fn)
            simp only [List.set_cons_zero] at hS9
            rw [iv_set, Hst.out] at hS9
            go_wp2_with fail
            go_roundw
            case rel => exact ⟨i + 1, by omega, by go_num, hS9⟩
            case measure => simp [intOf]; omega
          · have hip : i = X.2.1.length := by omega
            rw [hip] at hS
            clear hip
            obtain ⟨ax, cx, hex⟩ := (hS.rdI 0 rfl).shp'
            subst hex
            have Hl := Lib.hid (show (nulV p D Q X.2.1 n k X.2.1.length).length = n from nulV_len _)
            go_wp2_with (at_builtin; refine appII hS 1 rfl (by rw [huB.out]; have := Hbl.out; omega) rfl _ _ rfl rfl _ rfl rfl ?_; intro v9 w9 hS9)
            go_roundw
            case rel =>
              refine ⟨k + 1, uB ++ [.slice ax (nulV p D Q X.2.1 n k X.2.1.length).length cx], by omega, by go_num, by rw [Hnx.out]; simp [Hid, huB.out], ?_⟩
              rw [Hnx.out, own2, rowsI_app huB.out]
              simp only [own2, List.set_cons_succ, List.set_cons_zero] at hS9
              (try rw [Hl.out] at hS9 ⊢)
              exact hS9.perm (by (try simp only [own2, List.cons_append, List.nil_append, List.append_nil]); classical exact List.perm_iff_count.2 (fun a => by simp only [List.cons_append, List.nil_append, List.append_nil, List.count_append, List.count_cons, List.count_nil] <;> omega))
            case measure => simp [intOf]; omega
    · have hkn : k = n := by omega
      rw [hkn] at hS huB
      clear hkn
      have hB := hS.rii huB.out
      have e0 := hS.oldc g0.out
      have e1 := hS.oldc g1.out
      have e2 := hS.oldc g2.out
      have e3 := hS.oldc g3.out
      have e4 := hS.oldc g4.out
      have hbl := nulB_le (p := p) (D := D) (R := Q) (piv := X.2.1) (n := n) n
      have hbr := nulB_rect (R := Q) (piv := X.2.1) (n := n) HF.out.fa n
      have HC := Lib.hid (HR2 wr _ _ _ (hS.oldT HT5.out) hB hbl hbr).out
      clear hB hbl hbr HR2
      go_wp2_with fail
      refine HC.out.mono ?_
      rintro e w8 ⟨v8, u8, p8, rfl, hl8, hk8, h8⟩
      have Hlen := Lib.hid (show u8.length = (nulX p D fs m n).length by rw [HX.out, hl8, List.length_take]; omega)
      have h9 := h8.sub (List.sublist_cons_self _ _)
      rw [← HX.out] at h9
      clear hl8 hk8 h8
      go_wp2_with fail
      go_ret
      exact ⟨v8, u8, rfl, Hlen.out, (HW.out.trans hS).trans h9⟩

def nulM (p d : Int) (xs : List Int) (m : List (List Int)) : List (List Int) := if matOk p d xs m = true then nulX p d.toNat xs m (xat m 0).length else []

set_option maxHeartbeats 16000000 in
set_option maxRecDepth 100000 in
theorem NullSpace_c (p d : Int) (v : Value) (xs : List Int) (vm : Value) (us : List Value) (xss : List (List Int)) (w : World) (hv : RdI w v xs) (hm : RII w vm us xss) (hd : d ≤ 9223372036854775807) :
    Calls Try.prog 50 #[fv p d v, vm] w (MakesMC w (nulM p d xs xss) (matC p d xs xss)) := by
  have hS0 := (St.refl w).newboxF 29 #[.int .i64 p, .int .i64 d, v]
  have HV := Lib.hid (ValidMatrix_c p d v xs vm us xss _ (hS0.oldI hv) (hS0.oldII hm) hd)
  have a0 := hS0.bcell 0 rfl 0 rfl
  have a1 := hS0.bcell 0 rfl 1 rfl
  have a2 := hS0.bcell 0 rfl 2 rfl
  unfold fv at HV ⊢
  cases h1 : matOk p d xs xss
  · have HM := Lib.hid (show nulM p d xs xss = [] by rw [nulM, if_neg (by rw [h1]; simp)])
    have HC := Lib.hid (show matC p d xs xss = 1 by rw [matC, if_neg (by rw [h1]; simp)])
    have H1 := Lib.hid h1; clear h1
    go_enter Try.func50, Try.ntmps50
    go_wp2_with fail
    refine HV.out.mono ?_
    rw [H1.out]
    rintro e w1 ⟨rfl, h1⟩
    have hS1 := hS0.call0 h1
    go_wp2_with fail
    go_ret2
    rw [HM.out, HC.out]
    exact ⟨_, [], rfl, rfl, hS1.out.newnil _⟩
  · have hmv := matOk_t h1
    obtain ⟨D, rfl⟩ := Int.eq_ofNat_of_zero_le (show 0 ≤ d by have := hmv.f.d1; omega)
    have HM := Lib.hid (show nulM p D xs xss = nulX p D xs xss (xat xss 0).length by rw [nulM, if_pos h1]; rfl)
    have HC := Lib.hid (show matC p D xs xss = 0 by rw [matC, if_pos h1])
    have H1 := Lib.hid h1
    have HT := fun W (hv : RdI W v xs) => Lib.hid (tablesOf_c p D v xs W hv hmv.f)
    have HN := fun va ua vs us' vm' um vi W (ht : TB W p D xs va ua vs us' vm' um vi) (h : RII W vm us xss) => Lib.hid (nullSpace_c p D xs va ua vs us' vm' um vi vm us xss (xat xss 0).length W ht h hmv.f hmv.cols hmv.rows hmv.rct)
    have hr1 := hmv.rows1
    have hx0 := hm.ixe 0 0 rfl hr1
    have hl0 := (hm.row 0 hr1).len
    have Hxr := Lib.hid (show (nulX p D xs xss (xat xss 0).length).length ≤ 1048576 ∧ ∀ r ∈ nulX p D xs xss (xat xss 0).length, r.length ≤ 1048576 from by
      have h2 := red_pre hmv.f.fa (xat xss 0).length 0 (R := nulB p D (red p D xs (xat xss 0).length 0 xss [] 1).1 (red p D xs (xat xss 0).length 0 xss [] 1).2.1 (xat xss 0).length (xat xss 0).length) (piv := []) (det := 1) (nulB_rect hmv.f.fa _) (by simp)
      have h3 := nulB_le (p := p) (D := D) (R := (red p D xs (xat xss 0).length 0 xss [] 1).1) (piv := (red p D xs (xat xss 0).length 0 xss [] 1).2.1) (n := (xat xss 0).length) (xat xss 0).length
      have hc := hmv.cols
      refine ⟨?_, fun r hr => ?_⟩
      · unfold nulX; rw [List.length_take]; omega
      · have := (h2.1 r (List.mem_of_mem_take hr)).1; omega)
    clear h1 hmv
    generalize (xat xss 0).length = N at *
    generalize nulX p D xs xss N = Y at *
    unfold fv at HT
    unfold tv at HN
    go_enter Try.func50, Try.ntmps50
    go_wp2_with fail
    refine HV.out.mono ?_
    rw [H1.out]
    rintro e w1 ⟨rfl, h1⟩
    have hS1 := hS0.call0 h1
    have c0 := hS1.bcell 0 rfl 0 rfl
    have c1 := hS1.bcell 0 rfl 1 rfl
    have c2 := hS1.bcell 0 rfl 2 rfl
    have cm := (hS1.oldII hm).cell 0 hr1
    clear h1 a0 a1 a2 HV hS0
    go_wp2_with fail
    go_region_held3 (fun w' => w'.cell? ⟨w.heap.size, 0, none⟩ = some (.int .i64 p) ∧ w'.cell? ⟨w.heap.size, 1, none⟩ = some (.int .i64 D) ∧ w'.cell? ⟨w.heap.size, 2, none⟩ = some v ∧ w'.cell? (el vm 0) = some (vat us 0)) (((try dsimp only); (repeat' apply And.intro); all_goals (repeat (first | assumption | exact cell_dr (by assumption) | refine cell_dr ?_ | refine cell_al ?_ | refine cell_sc (by assumption) ?_))))
      (first
      | (go_at_call 76; refine (HT _ (hS1.drew.oldI hv)).out.mono ?_; rintro e w3 ⟨va, ua, vs, us', vm', um, vi, rfl, hua, hus, hum, h3⟩; have hTB := Lib.hid (tb_of h3 hua hus hum); have hS3 := hS1.drew.call0 h3.out; have d0 := hS3.bcell 0 rfl 0 rfl; have d1 := hS3.bcell 0 rfl 1 rfl; have d2 := hS3.bcell 0 rfl 2 rfl; have dm := (hS3.oldII hm).cell 0 hr1; clear hua hus hum h3)
      | (go_at_call 89; refine (HN va ua vs us' vm' um vi _ hTB.out (hS3.oldII hm)).out.mono ?_; rintro e w4 ⟨v4, u4, rfl, hl4, h4⟩; have hr4 := Lib.hid (h4.rii hl4); have hS4 := hS3.call0 h4.out; have d3 := hS4.bcell 0 rfl 0 rfl; have d4 := hS4.bcell 0 rfl 1 rfl; have d5 := hS4.bcell 0 rfl 2 rfl; have dm4 := (hS4.oldII hm).cell 0 hr1; clear hl4 h4)
      | (go_at_call 85; refine (copyLists_c v4 u4 Y _ hr4.out Hxr.out.1 Hxr.out.2).mono ?_; rintro e w5 ⟨v5, u5, rfl, hl5, h5⟩; have Hl5 := Lib.hid hl5; have hS5 := hS4.call h5; have d6 := hS5.bcell 0 rfl 0 rfl; have d7 := hS5.bcell 0 rfl 1 rfl; have d8 := hS5.bcell 0 rfl 2 rfl; have dm5 := (hS5.oldII hm).cell 0 hr1; clear hl5 h5))
    go_wp2_with fail
    go_ret2
    rw [HM.out, HC.out]
    exact ⟨v5, u5, rfl, Hl5.out, hS5.sub (List.sublist_append_right _ _)⟩

set_option maxHeartbeats 16000000 in
set_option maxRecDepth 100000 in
theorem l17Null_c (p : Int) (D : Nat) (g : Nat) (v : Value) (fs : List Int) (vM : Value) (uM : List Value) (m : List (List Int)) (n : Nat) (w : World)
    (hv : RdI w v fs) (hbx : BoxF w g p D v) (hf : FV p D fs) (hM : RII w vM uM m) (hn : n ≤ 32) (hml : m.length ≤ 32) (hm1 : 1 ≤ m.length) (hrect : Rect p D n m) :
    Calls Try.prog 88 #[.pointer (some ⟨g, 0, none⟩), vM] w (MakesII w (nulX p D fs m n)) := by
  have HF := Lib.hid hf
  have HX := Lib.hid (show nulX p D fs m n = (red p D fs n 0 (nulB p D (red p D fs n 0 m [] 1).1 (red p D fs n 0 m [] 1).2.1 n n) [] 1).1.take (red p D fs n 0 (nulB p D (red p D fs n 0 m [] 1).1 (red p D fs n 0 m [] 1).2.1 n n) [] 1).2.1.length from rfl)
  have Hpre := Lib.hid (red_pre hf.fa n 0 (R := m) (piv := []) (det := 1) hrect (by simp))
  have Hpv := Lib.hid (red_piv (p := p) (D := D) (fs := fs) n 0 (R := m) (piv := []) (det := 1) (by simp))
  have HR := fun W (hv : RdI W v fs) (hb : BoxF W g p D v) (h : RII W vM uM m) => Lib.hid (l17Reduce_c p D g v fs vM uM m n n W hv hb hf h (Nat.le_refl _) (by omega) (by omega) hrect)
  have HR2 := fun W vB uB B (hv : RdI W v fs) (hb : BoxF W g p D v) (h : RII W vB uB B) (hl : B.length ≤ n) (hl1 : 1 ≤ B.length) (hr : Rect p D n B) => Lib.hid (l17Form_c p D g v fs vB uB B n W hv hb hf h (by omega) (by omega) hl1 hr)
  have HB := Lib.hid hbx
  have HV := Lib.hid hv
  have HM := Lib.hid hM
  have p2 := hf.p2
  have p64 := hf.p64
  have hx0 := hM.ixe 0 0 rfl hm1
  have hl0 := (hM.row 0 hm1).len
  rw [show (xat m 0).length = n from (hrect _ (xat_mem hm1)).1] at hl0
  have cM0 := hM.cell 0 hm1
  generalize red p D fs n 0 m [] 1 = X at *
  clear hf hrect hbx hv
  go_enter Try.func88, Try.ntmps88
  go_wp2_with fail
  refine (HR _ HV.out HB.out HM.out).out.mono ?_
  rintro e w5 ⟨v5, u5, p5, rfl, hl5, hk5, h5⟩
  have HW := Lib.hid ((St.refl w).call0 h5.out)
  have hXt : X.2.1.length ≤ 32 := by have := Hpre.out.2; omega
  have hr5 := (h5.sub (List.sublist_cons_self _ _)).rii hl5
  have HQr := Lib.hid (show Rect p D n X.1 from Hpre.out.1)
  have hQl : X.2.1.length ≤ X.1.length := hk5
  have Hr5 := Lib.hid hr5
  have Hp5 := Lib.hid (h5.rdI 0 rfl)
  have xr5 := hr5.ixe
  have xp5 := Hp5.out.ixe
  have lp5 := Hp5.out.len
  have HB5 := Lib.hid (HB.out.keep HW.out.below)
  have Hv5 := Lib.hid (HW.out.oldI HV.out)
  have HM5 := Lib.hid (HW.out.oldII HM.out)
  have hN5 := (St.refl w5).new 22 #[] (by simp)
  clear h5 hl5 hk5 hr5 HR cM0 hM
  go_wp2_with fail
  go_loopw [7, 8, 9, 10] (fun o ii _ _ wr => ∃ (k : Nat) (uB : List Value), k ≤ n ∧ ii = .int .i64 k ∧ Hid (uB.length = (nulB p D X.1 X.2.1 n k).length) ∧ St w5.heap.size w5 wr (own2 o uB (nulB p D X.1 X.2.1 n k))) (fun _ ii _ _ _ => n - (intOf ii).toNat)
  case atStart => exact ⟨0, [], by omega, rfl, rfl, hN5⟩
  case round =>
    obtain ⟨k, uB, hk, rfl, huB, hS⟩ := hrel
    have cM0 := (hS.oldII HM5.out).cell 0 hm1
    by_cases hlt : k < n
    · have hcon := Lib.hid (l00Has_c p5 X.2.1 (k : Int) wr (hS.oldI Hp5.out))
      by_cases hkp : (k : Int) ∈ X.2.1
      · have Hd := Lib.hid (show decide ((k : Int) ∈ X.2.1) = true from decide_eq_true hkp)
        have Hnx := Lib.hid (nulB_yes (p := p) (D := D) (R := X.1) (n := n) hkp)
        clear hkp
        go_wp2_with fail
        refine hcon.out.mono ?_
        rw [Hd.out]
        rintro e w6 ⟨rfl, rfl⟩
        go_wp2_with fail
        go_roundw
        case rel => exact ⟨k + 1, uB, by omega, by go_num, by rw [Hnx.out]; exact huB, by rw [Hnx.out]; exact hS⟩
        case measure => simp [intOf]; omega
      · have Hd := Lib.hid (show decide ((k : Int) ∈ X.2.1) = false from decide_eq_false hkp)
        have Hnx := Lib.hid (nulB_no (p := p) (D := D) (R := X.1) (n := n) hkp)
        clear hkp
        have hul0 : k < (List.replicate n (0 : Int)).length := by simpa using hlt
        have Hset := Lib.hid (show (List.replicate n (0 : Int)).set k 1 = nulV p D X.1 X.2.1 n k 0 from rfl)
        have Hbl := Lib.hid (nulB_le (p := p) (D := D) (R := X.1) (piv := X.2.1) (n := n) k)
        go_wp2_with fail
        refine hcon.out.mono ?_
        rw [Hd.out]
        rintro e w6 ⟨rfl, rfl⟩
        go_wp2_with (first
          | (at_make
             refine mkI hS rfl _ _ rfl _ _ n rfl rfl (by omega) ?_
             intro vx w7 hS7b
             have hS7 := hS7b.perm List.perm_append_comm
             simp only [List.cons_append, List.nil_append] at hS7
             clear hS7b
             have xu := (hS7.rdI 0 rfl).ixe (k : Int) k rfl hul0)
          | (refine stoI hS7 0 rfl k hul0 rfl _ _ rfl rfl _ rfl ?_
             intro w8 hS8
             simp only [List.set_cons_zero] at hS8
             rw [Hset.out] at hS8))
        clear hul0 Hset hS7 hS
        go_loopw [10] (fun ii wx => ∃ i : Nat, i ≤ X.2.1.length ∧ ii = .int .i64 i ∧ St w5.heap.size w5 wx (row 2 vx (iv (nulV p D X.1 X.2.1 n k i)) :: own2 u7 uB (nulB p D X.1 X.2.1 n k))) (fun ii _ => X.2.1.length - (intOf ii).toNat)
        case atStart => exact ⟨0, by omega, rfl, hS8⟩
        case round =>
          obtain ⟨i, hi, rfl, hS⟩ := hrel
          by_cases hil : i < X.2.1.length
          · have cp := (hS.oldI Hp5.out).cell i hil
            have xp := xp5 (i : Int) i rfl hil
            have hpi := Hpv.out _ (nth_mem hil)
            obtain ⟨pn, hpn⟩ := Int.eq_ofNat_of_zero_le hpi.1
            have hple : pn < n := by have := hpi.2; omega
            rw [hpn] at cp
            have hiQ : i < X.1.length := by omega
            have ci := (hS.oldII Hr5.out).cell i hiQ
            have xi := xr5 (i : Int) i rfl hiQ
            have gi := (hS.oldII Hr5.out).row i hiQ
            have hQi := HQr.out.ra hiQ
            have hkl : k < (xat X.1 i).length := by rw [show xat X.1 i = ra X.1 i from rfl, hQi.1]; exact hlt
            have ce := gi.cell k hkl
            have xe := gi.ixe (k : Int) k rfl hkl
            rw [show nth (xat X.1 i) k = cf (ra X.1 i) k from rfl] at ce
            have hel := (inEl HF.out.fa.pos hQi.2 k).lim HF.out
            have hsl : (nulV p D X.1 X.2.1 n k i).length = n := nulV_len _
            have hpx : pn < (nulV p D X.1 X.2.1 n k i).length := by rw [hsl]; exact hple
            have xx := (hS.rdI 0 rfl).ixe (pn : Int) pn rfl hpx
            have Hpx := Lib.hid hpx
            have Hsum := fun W (hb : BoxF W g p D v) => Lib.hid (l03Sum_c p D g v fs 0 (cf (ra X.1 i) k) (p - 1) W hb HF.out (by omega) (by omega) hel.1 hel.2 (by omega) (by omega))
            have Hst := Lib.hid (show (nulV p D X.1 X.2.1 n k i).set pn (fsum p D 0 (cf (ra X.1 i) k) (p - 1)) = nulV p D X.1 X.2.1 n k (i + 1) by
              rw [nulV, show cf X.2.1 i = pn from hpn, Int.toNat_natCast, fsum_neg']; rfl)
            have Hpn := Lib.hid (show nth X.2.1 i = pn from hpn)
            have b0 := (hS.oldF HB5.out).1
            clear hpn hpi hpx gi hsl hQi
            go_wp2_with fail
            refine regionG (fun w' => w'.cell? ⟨g, 0, none⟩ = some (.int .i64 p) ∧ w'.cell? (el p5 i) = some (.int .i64 pn) ∧ w'.cell? (el v5 i) = some (vat u5 i) ∧ w'.cell? (el (vat u5 i) k) = some (.int .i64 (cf (ra X.1 i) k))) 20 (by kernel_rfl) ⟨cell_dr b0, cell_dr cp, cell_dr ci, cell_dr ce⟩ (fun hHeld => ?_)
            refine takeP (i := 0) (v := ?_) rfl (by kernel_rfl) (fun _ _ _ h => h) (by rfl) ?_ (by assumption) ?_
            case refine_2 => (intro w'; go_simp; first | done | with_reducible rfl)
            try simp only [Act.put, List.setIfInBounds_toArray, List.set_cons_zero, List.set_cons_succ]
            refine takeP (i := 1) (v := ?_) rfl (by kernel_rfl) (fun _ _ _ h => h) (by rfl) ?_ (by assumption) ?_
            case refine_2 => (intro w'; go_simp; first | done | with_reducible rfl)
            try simp only [Act.put, List.setIfInBounds_toArray, List.set_cons_zero, List.set_cons_succ]
            refine takeP (i := 2) (v := ?_) rfl (by kernel_rfl) (fun _ _ _ h => h) (by rfl) ?_ (by assumption) ?_
            case refine_2 => (intro w'; go_simp; first | done | with_reducible rfl)
            try simp only [Act.put, List.setIfInBounds_toArray, List.set_cons_zero, List.set_cons_succ]
            refine takeP (i := 3) (v := ?_) rfl (by kernel_rfl) (fun _ _ _ h => h) (by rfl) ?_ (by assumption) ?_
            case refine_2 => (intro w'; go_simp; first | done | with_reducible rfl)
            try simp only [Act.put, List.setIfInBounds_toArray, List.set_cons_zero, List.set_cons_succ]
            refine takeH (i := 4) [19] (v := ?_) rfl (by kernel_rfl) (fun _ _ _ h => h) (by rfl) ?_ (by assumption) ?_
            case refine_2 => (intro w' hSw; (try dsimp only at hSw); go_simp; first | done | with_reducible rfl)
            try simp only [Act.put, List.setIfInBounds_toArray, List.set_cons_zero, List.set_cons_succ]
            refine takeP (i := 5) (v := ?_) rfl (by kernel_rfl) (fun _ _ _ h => h) (by rfl) ?_ (by assumption) ?_
            case refine_2 => (intro w'; go_simp; first | done | with_reducible rfl)
            try simp only [Act.put, List.setIfInBounds_toArray, List.set_cons_zero, List.set_cons_succ]
            refine takeP (i := 6) (v := ?_) rfl (by kernel_rfl) (fun _ _ _ h => h) (by rfl) ?_ (by assumption) ?_
            case refine_2 => (intro w'; go_simp; first | done | with_reducible rfl)
            try simp only [Act.put, List.setIfInBounds_toArray, List.set_cons_zero, List.set_cons_succ]
            refine takeP (i := 7) (v := ?_) rfl (by kernel_rfl) (fun _ _ _ h => h) (by rfl) ?_ (by assumption) ?_
            case refine_2 => (intro w'; go_simp; first | done | with_reducible rfl)
            try simp only [Act.put, List.setIfInBounds_toArray, List.set_cons_zero, List.set_cons_succ]
            refine takeP (i := 8) (v := ?_) rfl (by kernel_rfl) (fun _ _ _ h => h) (by rfl) ?_ (by assumption) ?_
            case refine_2 => (intro w'; go_simp; first | done | with_reducible rfl)
            try simp only [Act.put, List.setIfInBounds_toArray, List.set_cons_zero, List.set_cons_succ]
            refine takeH (i := 9) [11, 12, 18] (v := ?_) rfl (by kernel_rfl) (fun _ _ _ h => h) (by rfl) ?_ (by assumption) ?_
            case refine_2 => (intro w' hSw; (try dsimp only at hSw); go_simp; first | done | with_reducible rfl)
            try simp only [Act.put, List.setIfInBounds_toArray, List.set_cons_zero, List.set_cons_succ]
            refine takeP (i := 10) (v := ?_) rfl (by kernel_rfl) (fun _ _ _ h => h) (by rfl) ?_ (by assumption) ?_
            case refine_2 => (intro w'; go_simp; first | done | with_reducible rfl)
            try simp only [Act.put, List.setIfInBounds_toArray, List.set_cons_zero, List.set_cons_succ]
            refine takeP (i := 11) (v := ?_) rfl (by kernel_rfl) (fun _ _ _ h => h) (by rfl) ?_ (by assumption) ?_
            case refine_2 => (intro w'; go_simp; first | done | with_reducible rfl)
            try simp only [Act.put, List.setIfInBounds_toArray, List.set_cons_zero, List.set_cons_succ]
            refine takeH (i := 12) [18] (v := ?_) rfl (by kernel_rfl) (fun _ _ _ h => h) (by rfl) ?_ (by assumption) ?_
            case refine_2 => (intro w' hSw; (try dsimp only at hSw); go_simp; first | done | with_reducible rfl)
            try simp only [Act.put, List.setIfInBounds_toArray, List.set_cons_zero, List.set_cons_succ]
            refine takeP (i := 13) (v := ?_) rfl (by kernel_rfl) (fun _ _ _ h => h) (by rfl) ?_ (by assumption) ?_
            case refine_2 => (intro w'; go_simp; first | done | with_reducible rfl)
            try simp only [Act.put, List.setIfInBounds_toArray, List.set_cons_zero, List.set_cons_succ]
            refine takeP (i := 14) (v := ?_) rfl (by kernel_rfl) (fun _ _ _ h => h) (by rfl) ?_ (by assumption) ?_
            case refine_2 => (intro w'; go_simp; first | done | with_reducible rfl)
            try simp only [Act.put, List.setIfInBounds_toArray, List.set_cons_zero, List.set_cons_succ]
            refine takeP (i := 15) (v := ?_) rfl (by kernel_rfl) (fun _ _ _ h => h) (by rfl) ?_ (by assumption) ?_
            case refine_2 => (intro w'; go_simp; first | done | with_reducible rfl)
            try simp only [Act.put, List.setIfInBounds_toArray, List.set_cons_zero, List.set_cons_succ]
            refine takeH (i := 16) [17, 18] (v := ?_) rfl (by kernel_rfl) (fun _ _ _ h => h) (by rfl) ?_ (by assumption) ?_
            case refine_2 => (intro w' hSw; (try dsimp only at hSw); go_simp; first | done | with_reducible rfl)
            try simp only [Act.put, List.setIfInBounds_toArray, List.set_cons_zero, List.set_cons_succ]
            refine takeP (i := 17) (v := ?_) rfl (by kernel_rfl) (fun _ _ _ h => h) (by rfl) ?_ (by assumption) ?_
            case refine_2 => (intro w'; go_simp; first | done | with_reducible rfl)
            try simp only [Act.put, List.setIfInBounds_toArray, List.set_cons_zero, List.set_cons_succ]
            refine readyG (rs := [18]) (by kernel_rfl) (by simp) ?_
            refine AllG.cons rfl (fun K hK => ?_) AllG.nil
            go_simp
            rw [show IntKind.i64.wrap (p - 1) = p - 1 from IntWalk.i64_in _ (by omega)]
            refine (Hsum _ (hS.drew.oldF HB5.out)).out.mono ?_
            rintro e w9 ⟨rfl, h9⟩
            have hS9 := hS.drew.call0 h9
            have b9 := (hS9.oldF HB5.out).1
            have cp9 := (hS9.oldI Hp5.out).cell i hil
            rw [Hpn.out] at cp9
            have ci9 := (hS9.oldII Hr5.out).cell i hiQ
            have ce9 := ((hS9.oldII Hr5.out).row i hiQ).cell k hkl
            have co := (hS9.rdI 0 rfl).cell pn Hpx.out
            have u0 := hS9.unfrozen 0 rfl (j := pn) (by rw [iv_len]; exact Hpx.out)
            refine hK.out _ _ ⟨b9, cp9, ci9, ce9⟩ (fun hHeld => ?_)
            clear hK K
            try simp only [Act.put, List.setIfInBounds_toArray, List.set_cons_zero, List.set_cons_succ]
            refine takeP (i := 19) (v := ?_) rfl (by kernel_rfl) (fun _ _ _ h => h) (by rfl) ?_ (by assumption) ?_
            case refine_2 => (intro w'; go_simp; first | done | with_reducible rfl)
            try simp only [Act.put, List.setIfInBounds_toArray, List.set_cons_zero, List.set_cons_succ]
            refine readyG (rs := [20]) (by kernel_rfl) (by simp) ?_
            refine AllG.last rfl (by kernel_rfl) (fun K hK => ?_) AllG.nil
            go_simp
            refine hK.out _ _ ?_
            clear hK K
            try simp only [Act.put, List.setIfInBounds_toArray, List.set_cons_zero, List.set_cons_succ]
            refine doneG (by kernel_rfl) ?_ _
            refine NoPanic.normal ?_
            have hS10 := hS9.store 0 rfl (j := pn) (by rw [iv_len]; exact Hpx.out) (.int .i64 (fsum p D 0 (cf (ra X.1 i) k) (p - 1)))
            simp only [List.set_cons_zero] at hS10
            rw [iv_set, Hst.out] at hS10
            go_wp2_with fail
            go_roundw
            case rel => exact ⟨i + 1, by omega, by go_num, hS10⟩
            case measure => simp [intOf]; omega
          · have hip : i = X.2.1.length := by omega
            rw [hip] at hS
            clear hip
            obtain ⟨ax, cx, hex⟩ := (hS.rdI 0 rfl).shp'
            subst hex
            have Hl := Lib.hid (show (nulV p D X.1 X.2.1 n k X.2.1.length).length = n from nulV_len _)
            go_wp2_with (at_builtin; refine appII hS 1 rfl (by rw [huB.out]; have := Hbl.out; omega) rfl _ _ rfl rfl _ rfl rfl ?_; intro v9 w9 hS9)
            go_roundw
            case rel =>
              refine ⟨k + 1, uB ++ [.slice ax (nulV p D X.1 X.2.1 n k X.2.1.length).length cx], by omega, by go_num, by rw [Hnx.out]; simp [Hid, huB.out], ?_⟩
              rw [Hnx.out, own2, rowsI_app huB.out]
              simp only [own2, List.set_cons_succ, List.set_cons_zero] at hS9
              (try rw [Hl.out] at hS9 ⊢)
              exact hS9.perm (by (try simp only [own2, List.cons_append, List.nil_append, List.append_nil]); classical exact List.perm_iff_count.2 (fun a => by simp only [List.cons_append, List.nil_append, List.append_nil, List.count_append, List.count_cons, List.count_nil] <;> omega))
            case measure => simp [intOf]; omega
    · have hkn : k = n := by omega
      rw [hkn] at hS huB
      clear hkn
      have hB := hS.rii huB.out
      have hlB := hB.len
      have hbl := nulB_le (p := p) (D := D) (R := X.1) (piv := X.2.1) (n := n) n
      have hbr := nulB_rect (R := X.1) (piv := X.2.1) (n := n) HF.out.fa n
      by_cases h0 : (nulB p D X.1 X.2.1 n n).length = 0
      · have f1 := eq_t (show ((nulB p D X.1 X.2.1 n n).length : Int) = 0 by omega)
        have HE := Lib.hid (show nulX p D fs m n = nulB p D X.1 X.2.1 n n by rw [HX.out, List.eq_nil_of_length_eq_zero h0, red_nil]; rfl)
        clear h0 hbl hbr
        go_wp2_with fail
        go_ret
        exact ⟨_, uB, rfl, by rw [HE.out]; exact huB.out, by rw [HE.out]; exact HW.out.trans hS⟩
      · have f1 := eq_f (show ((nulB p D X.1 X.2.1 n n).length : Int) ≠ 0 by omega)
        have HC := Lib.hid (HR2 wr _ _ _ (hS.oldI Hv5.out) (HB5.out.keep hS.below) hB hbl (by omega) hbr).out
        clear hB hbl hbr HR2 h0
        go_wp2_with fail
        refine HC.out.mono ?_
        rintro e w8 ⟨v8, u8, rfl, hl8, hk8, h8⟩
        have Hlen := Lib.hid (show u8.length = (nulX p D fs m n).length by rw [HX.out, hl8, List.length_take]; omega)
        rw [← HX.out] at h8
        clear hl8 hk8
        go_wp2_with fail
        go_ret
        exact ⟨v8, u8, rfl, Hlen.out, (HW.out.trans hS).trans h8⟩

set_option maxHeartbeats 8000000 in
set_option maxRecDepth 100000 in
theorem sNullSpace_c (p d : Int) (v : Value) (xs : List Int) (vm : Value) (us : List Value) (xss : List (List Int)) (w : World) (hv : RdI w v xs) (hm : RII w vm us xss) :
    Calls Try.prog 49 #[fv p d v, vm] w (MakesMC w (nulM p d xs xss) (matC p d xs xss)) := by
  have hS0 := (St.refl w).newboxF 29 #[.int .i64 p, .int .i64 d, v]
  have hB0 : BoxF _ w.heap.size p d v := ⟨hS0.bcell 0 rfl 0 rfl, hS0.bcell 0 rfl 1 rfl, hS0.bcell 0 rfl 2 rfl⟩
  have HV := Lib.hid (l17Ok_c p d w.heap.size v xs vm us xss _ (hS0.oldI hv) hB0 (hS0.oldII hm))
  unfold fv
  cases h1 : matOk p d xs xss
  · have HM := Lib.hid (show nulM p d xs xss = [] by rw [nulM, if_neg (by rw [h1]; simp)])
    have HC := Lib.hid (show matC p d xs xss = 1 by rw [matC, if_neg (by rw [h1]; simp)])
    have H1 := Lib.hid h1; clear h1
    go_enter Try.func49, Try.ntmps49
    go_wp2_with fail
    refine HV.out.mono ?_
    rw [H1.out]
    rintro e w1 ⟨rfl, h1⟩
    have hS1 := hS0.call0 h1
    go_wp2_with fail
    go_ret2
    rw [HM.out, HC.out]
    exact ⟨_, [], rfl, rfl, hS1.out.newnil _⟩
  · have hmv := matOk_t h1
    obtain ⟨D, rfl⟩ := Int.eq_ofNat_of_zero_le (show 0 ≤ d by have := hmv.f.d1; omega)
    have HM := Lib.hid (show nulM p D xs xss = nulX p D xs xss (xat xss 0).length by rw [nulM, if_pos h1]; rfl)
    have HC := Lib.hid (show matC p D xs xss = 0 by rw [matC, if_pos h1])
    have H1 := Lib.hid h1
    have HN := fun W (hv : RdI W v xs) (hb : BoxF W w.heap.size p D v) (h : RII W vm us xss) => Lib.hid (l17Null_c p D w.heap.size v xs vm us xss (xat xss 0).length W hv hb hmv.f h hmv.cols hmv.rows hmv.rows1 hmv.rct)
    clear h1 hmv
    generalize nulX p D xs xss (xat xss 0).length = Y at *
    go_enter Try.func49, Try.ntmps49
    go_wp2_with fail
    refine HV.out.mono ?_
    rw [H1.out]
    rintro e w1 ⟨rfl, h1⟩
    have hS1 := hS0.call0 h1
    go_wp2_with fail
    refine (HN _ (hS1.oldI hv) (hB0.keep h1.below) (hS1.oldII hm)).out.mono ?_
    rintro e w4 ⟨v4, u4, rfl, hl4, h4⟩
    have Hl4 := Lib.hid hl4
    have hS4 := hS1.call h4
    clear hl4
    go_wp2_with fail
    go_ret2
    rw [HM.out, HC.out]
    exact ⟨v4, u4, rfl, Hl4.out, hS4.sub (List.sublist_append_right _ _)⟩
end Go.Proofs.Ytmkfafhgcnbcaaa
