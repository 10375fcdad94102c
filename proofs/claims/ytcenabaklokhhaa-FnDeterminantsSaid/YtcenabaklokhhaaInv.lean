/- Walks: InverseMatrix of both sides. -/
import Derived.Test.YtcenabaklokhhaaDet
import Derived.Test.YtcenabaklokhhaaPInv
import Derived.Test.YtcenabaklokhhaaSol
namespace Go.Proofs.Ytcenabaklokhhaa
set_option linter.unusedSimpArgs false
set_option linter.unusedVariables false
open Go.RowKit
attribute [local go_sem ↓] Go.wp_at_zero Go.wp_at_succ

def invC (p d : Int) (xs : List Int) (m : List (List Int)) : Int := if detC p d xs m = 0 then (if detM p d xs m = 0 then 3 else 0) else detC p d xs m
def invM (p d : Int) (xs : List Int) (m : List (List Int)) : List (List Int) := if invC p d xs m = 0 then (red p d.toNat xs m.length 0 (wideI m m.length m.length) [] 1).1.map (List.drop m.length) else []
theorem detC_0 {p d : Int} {xs : List Int} {m : List (List Int)} (h : detC p d xs m = 0) : matOk p d xs m = true ∧ m.length = (xat m 0).length := by
  unfold detC at h
  by_cases h1 : matOk p d xs m = true
  · rw [if_pos h1] at h
    by_cases h2 : m.length = (xat m 0).length
    · exact ⟨h1, h2⟩
    · rw [if_neg h2] at h; cases h
  · rw [if_neg h1] at h; cases h
theorem map_take_snoc {R : List (List Int)} {k n : Nat} (hk : k < R.length) : (R.take (k + 1)).map (List.drop n) = (R.take k).map (List.drop n) ++ [(xat R k).drop n] := by
  rw [take_xat hk]; simp

set_option maxHeartbeats 16000000 in
set_option maxRecDepth 100000 in
theorem InverseMatrix_c (p d : Int) (v : Value) (xs : List Int) (vm : Value) (us : List Value) (xss : List (List Int)) (w : World) (hv : RdI w v xs) (hm : RII w vm us xss) (hd : d ≤ 9223372036854775807) :
    Calls Try.prog 20 #[fv p d v, vm] w (MakesMC w (invM p d xs xss) (invC p d xs xss)) := by
  have hS0 := (St.refl w).newboxF 25 #[.int .i64 p, .int .i64 d, v]
  have HV := Lib.hid (DeterminantOf_c p d v xs vm us xss _ (hS0.oldI hv) (hS0.oldII hm) hd)
  have a0 := hS0.bcell 0 rfl 0 rfl
  have a1 := hS0.bcell 0 rfl 1 rfl
  have a2 := hS0.bcell 0 rfl 2 rfl
  have HCdef := Lib.hid (show invC p d xs xss = if detC p d xs xss = 0 then (if detM p d xs xss = 0 then 3 else 0) else detC p d xs xss from rfl)
  have HMdef := Lib.hid (show invM p d xs xss = if invC p d xs xss = 0 then (red p d.toNat xs xss.length 0 (wideI xss xss.length xss.length) [] 1).1.map (List.drop xss.length) else [] from rfl)
  unfold fv at HV ⊢
  by_cases hc : detC p d xs xss = 0
  · by_cases hd0 : detM p d xs xss = 0
    · have HC := Lib.hid (show invC p d xs xss = 3 by rw [HCdef.out, if_pos hc, if_pos hd0])
      have HM := Lib.hid (show invM p d xs xss = [] by rw [HMdef.out, HC.out]; rfl)
      rw [hc, hd0] at HV
      clear hc hd0
      go_enter Try.func20, Try.ntmps20
      go_wp2_with fail
      refine HV.out.mono ?_
      rintro e w1 ⟨rfl, h1⟩
      have hS1 := hS0.call0 h1
      go_wp2_with fail
      go_ret2
      rw [HM.out, HC.out]
      exact ⟨_, [], rfl, rfl, hS1.out.newnil _⟩
    · have f1 := eq_f hd0
      have HC := Lib.hid (show invC p d xs xss = 0 by rw [HCdef.out, if_pos hc, if_neg hd0])
      obtain ⟨h1, hsq⟩ := detC_0 hc
      have hmv := matOk_t h1
      obtain ⟨D, rfl⟩ := Int.eq_ofNat_of_zero_le (show 0 ≤ d by have := hmv.f.d1; omega)
      have hrct : Rect p D xss.length xss := by rw [hsq]; exact hmv.rct
      have hrw := wideI_rect hmv.f.fa hrct
      have hdm : detM p D xs xss = (red p D xs xss.length 0 xss [] 1).2.2 := by rw [detM, if_pos hc]; unfold redM; rw [← hsq]; rfl
      obtain ⟨hX1, hX2⟩ := (inv_full hmv.f hrct rfl hrw (wideI_len _ _ _) (wideI_col hrct rfl)).2 (by rw [← hdm]; exact hd0)
      have hr32 := hmv.rows
      have hr1 := hmv.rows1
      have HM := Lib.hid (show invM p D xs xss = (red p D xs xss.length 0 (wideI xss xss.length xss.length) [] 1).1.map (List.drop xss.length) by rw [HMdef.out, if_pos HC.out]; rfl)
      have HT := fun W (hv : RdI W v xs) => Lib.hid (tablesOf_c p D v xs W hv hmv.f)
      have HR := fun va ua vs us' vm' um vi W vw uw (ht : TB W p D xs va ua vs us' vm' um vi) (h : RII W vw uw (wideI xss xss.length xss.length)) => Lib.hid (reduce_c p D xs va ua vs us' vm' um vi vw uw (wideI xss xss.length xss.length) (xss.length + xss.length) W ht h hmv.f (by omega) (by rw [wideI_len]; omega) hrw)
      rw [hX1] at HR
      have Hpre := Lib.hid (red_pre hmv.f.fa xss.length 0 (R := wideI xss xss.length xss.length) (piv := []) (det := 1) hrw (by simp))
      have hcp := fun W (h : RII W vm us xss) => Lib.hid (copyLists_c vm us xss W h (by omega) (fun r hr => by have := (hrct r hr).1; omega))
      have Hrl := Lib.hid (fun k (hk : k < xss.length) => (hrct _ (xat_mem hk)).1)
      have HX2 := Lib.hid hX2
      have hlm := hm.len
      rw [hc] at HV
      clear hc hd0 h1 hmv hrct hrw hdm hX1 hX2 hsq HCdef HMdef
      generalize red p D xs xss.length 0 (wideI xss xss.length xss.length) [] 1 = X at HM HR Hpre HX2
      have HXt := Lib.hid (show X.1.take X.2.1.length = X.1 by rw [List.take_of_length_le]; rw [HX2.out, Hpre.out.2.1, wideI_len]; exact Nat.le_refl _)
      have HXl := Lib.hid (show X.1.length = xss.length by rw [Hpre.out.2.1, wideI_len])
      unfold fv at HT
      unfold tv at HR
      go_enter Try.func20, Try.ntmps20
      go_wp2_with fail
      refine HV.out.mono ?_
      rintro e w1 ⟨rfl, h1⟩
      have hS1 := hS0.call0 h1
      go_wp2_with fail
      refine (hcp _ (hS1.oldII hm)).out.mono ?_
      rintro e w4 ⟨vw, ul, rfl, hul, h4⟩
      have Hul := Lib.hid (show ul.length = xss.length from hul)
      have hS4 : St w.heap.size w w4 (box 25 w.heap.size [.int .i64 p, .int .i64 D, v] :: row 23 vw ul :: rowsI ul (wideI xss xss.length 0)) := by rw [wideI_0]; exact hS1.call h4
      have hlw := (h4.rii hul).len
      clear hS0 hS1 h1 h4 hul a0 a1 a2 HV hcp
      go_wp2_with fail
      go_loopw [9, 10, 32] (fun _ _ ii wr => ∃ (k : Nat) (uw : List Value), k ≤ xss.length ∧ ii = .int .i64 k ∧ Hid (uw.length = xss.length) ∧ St w.heap.size w wr (box 25 w.heap.size [.int .i64 p, .int .i64 D, v] :: row 23 vw uw :: rowsI uw (wideI xss xss.length k))) (fun _ _ ii _ => xss.length - (intOf ii).toNat)
      case atStart => exact ⟨0, ul, by omega, rfl, Hul.out, hS4⟩
      case round =>
        obtain ⟨k, uw, hk, rfl, huw, hS⟩ := hrel
        by_cases hlt : k < xss.length
        · have hkw : k < (wideI xss xss.length k).length := by rw [wideI_len]; exact hlt
          have Hlu := Lib.hid (show uw.length = (wideI xss xss.length k).length by rw [wideI_len]; exact huw.out)
          have hku : k < uw.length := by rw [huw.out]; exact hlt
          have Hxk := Lib.hid (show xat (wideI xss xss.length k) k = xat xss k from ra_wideI hlt)
          have hul0 : k < (List.replicate xss.length (0 : Int)).length := by simpa using hlt
          have Hset := Lib.hid (show (List.replicate xss.length (0 : Int)).set k 1 = unitL xss.length k from rfl)
          have Hnl := Lib.hid (show (xat xss k).length + (unitL xss.length k).length ≤ 4294967296 by rw [Hrl.out k hlt, unitL_len]; omega)
          have Hws := Lib.hid (wideI_set (m := xss) (n := xss.length) hlt)
          go_wp2_with (first
            | (at_make
               refine mkI hS rfl _ _ rfl _ _ xss.length rfl rfl (by omega) ?_
               intro vu w5 hS5b
               have hS5 := hS5b.perm List.perm_append_comm
               simp only [List.cons_append, List.nil_append] at hS5
               clear hS5b
               have xu := (hS5.rdI 0 rfl).ixe (k : Int) k rfl hul0)
            | (refine stoI hS5 0 rfl k hul0 rfl _ _ rfl rfl _ rfl ?_
               intro w6 hS6
               simp only [List.set_cons_zero] at hS6
               rw [Hset.out] at hS6
               have hat : (row 2 vu (iv (unitL xss.length k)) :: box 25 w.heap.size [.int .i64 p, .int .i64 D, v] :: row 23 vw uw :: rowsI uw (wideI xss xss.length k))[k + 3]? = some (row 2 (vat uw k) (iv (xat xss k))) := by
                 have h := rowsI_get Hlu.out hkw
                 rw [Hxk.out] at h
                 exact h
               have ck : w6.cell? (el vw k) = some (vat uw k) := (hS6.rd 2 rfl).cell hku
               have xk := ((hS6.sub ((List.sublist_cons_self _ _).cons _)).rii Hlu.out).ixe (k : Int) k rfl hkw
               have hru := hS6.rdI 0 rfl)
            | (at_builtin
               refine appsI hS6 (k + 3) hat _ _ hru Hnl.out rfl _ _ rfl rfl rfl ?_
               intro v9 w9 hS9
               simp only [List.set_cons_succ] at hS9
               rw [rowsI_set2 Hlu.out hkw, show xat xss k = ra xss k from rfl, Hws.out] at hS9
               have hl9 : (uw.set k v9).length = (wideI xss xss.length (k + 1)).length := by rw [List.length_set, wideI_len]; exact huw.out
               have hg9 := rowsI_get hl9 (j := k) (by rw [wideI_len]; exact hlt)
               rw [vat_set hku, if_pos rfl] at hg9
               have hsl9 := Lib.hid (hS9.rdI (k + 3) hg9).sl
               clear hl9 hg9)
            | (refine stoII hS9 2 rfl k hku rfl _ _ rfl rfl v9 hsl9.out.cells hsl9.out.one rfl ?_
               intro w10 hS10
               simp only [List.set_cons_succ, List.set_cons_zero] at hS10))
          go_roundw
          case rel => exact ⟨k + 1, _, by omega, by go_num, by unfold Hid; rw [List.length_set]; exact huw.out, hS10.sub (List.sublist_cons_self _ _)⟩
          case measure => simp [intOf]; omega
        · have hkx : k = xss.length := by omega
          rw [hkx] at hS
          clear hkx
          have hw := (hS.sub (List.sublist_cons_self _ _)).rii (by rw [wideI_len]; exact huw.out)
          have c0 := hS.bcell 0 rfl 0 rfl
          have c1 := hS.bcell 0 rfl 1 rfl
          have c2 := hS.bcell 0 rfl 2 rfl
          go_wp2_with fail
          refine (HT _ (hS.oldI hv)).out.mono ?_
          rintro e w3 ⟨va, ua, vs, us', vm', um, vi, rfl, hua, hus, hum, h3⟩
          have hS3 := hS.call0 h3.out
          have hTB := tb_of h3 hua hus hum
          go_wp2_with fail
          refine (HR va ua vs us' vm' um vi _ vw uw hTB (hw.keep h3.below)).out.mono ?_
          rintro e w5 ⟨v5, u5, p5, rfl, hl5, hk5, h5⟩
          have HW := Lib.hid (hS3.call0 h5.out)
          rw [HXt.out] at h5
          have Hl5 := Lib.hid (show u5.length = X.1.length by rw [hl5, HX2.out, HXl.out])
          have hr5 : RII w5 v5 u5 X.1 := (h5.sub (List.sublist_cons_self _ _)).rii Hl5.out
          have Hr5 := Lib.hid hr5
          have hl5' := hr5.len
          have xr5 := hr5.ixe
          have hXb : X.1.length ≤ 32 := by have := HXl.out; omega
          have hN5 := (St.refl w5).newnil 23
          clear hS hS3 hS4 h3 h5 hTB hw hua hus hum hl5 hk5 c0 c1 c2 HT HR hlw hr5
          go_wp2_with fail
          go_loopw [14, 16, 61] (fun o _ ii wy => ∃ (k : Nat) (uo : List Value), k ≤ X.1.length ∧ ii = .int .i64 k ∧ Hid (uo.length = k) ∧ St w5.heap.size w5 wy (own2 o uo ((X.1.take k).map (List.drop xss.length)))) (fun _ _ ii _ => X.1.length - (intOf ii).toNat)
          case atStart => exact ⟨0, [], by omega, rfl, rfl, hN5⟩
          case round =>
            obtain ⟨k, uo, hk, rfl, huo, hS⟩ := hrel
            have Hlo := Lib.hid (show uo.length = ((X.1.take k).map (List.drop xss.length)).length by rw [List.length_map, List.length_take, huo.out]; omega)
            by_cases hlt : k < X.1.length
            · have ck := (hS.oldII Hr5.out).cell k hlt
              have xk := xr5 (k : Int) k rfl hlt
              have gk := (hS.oldII Hr5.out).row k hlt
              have hln : (xat X.1 k).length = xss.length + xss.length := (Hpre.out.1 _ (xat_mem hlt)).1
              have hsl := rsl_lo gk xss.length (by omega)
              have hrs := rsl_rd gk (lo := xss.length) (hi := (xat X.1 k).length) (by omega) (Nat.le_refl _)
              rw [List.take_length] at hrs
              have hcl := Lib.hid (Clone_c _ _ _ hrs (by rw [List.length_drop]; omega))
              have Hst := Lib.hid (map_take_snoc (n := xss.length) hlt)
              clear gk hln hrs
              go_wp2_with fail
              refine hcl.out.mono ?_
              rintro e w6 ⟨v6, rfl, h6⟩
              obtain ⟨a6, c6, he6⟩ := (h6.rdI 0 rfl).shp'
              subst he6
              have hS6 := hS.call h6
              have Hon := Lib.hid (show (Value.slice a6 ((xat X.1 k).drop xss.length).length c6).oneCell' = true from rfl)
              go_wp2_with (at_builtin; refine appII hS6 0 rfl (by rw [huo.out]; omega) rfl _ _ rfl rfl _ rfl rfl ?_; intro v7 w7 hS7)
              go_roundw
              case rel =>
                refine ⟨k + 1, uo ++ [.slice a6 ((xat X.1 k).drop xss.length).length c6], by omega, by go_num, by simp [Hid, huo.out], ?_⟩
                rw [Hst.out]
                (try rw [← List.length_drop] at hS7)
                exact own2_snoc Hlo.out hS7
              case measure => simp [intOf]; omega
            · have hkx : k = X.1.length := by omega
              rw [hkx, List.take_length, ← HM.out] at hS
              have Hlo2 := Lib.hid (show uo.length = (invM p D xs xss).length by rw [HM.out, List.length_map, huo.out, hkx])
              clear hkx
              go_wp2_with fail
              go_ret2
              rw [HC.out]
              exact ⟨_, uo, rfl, Hlo2.out, HW.out.trans hS⟩
  · have f1 := ne_t hc
    have HC := Lib.hid (show invC p d xs xss = detC p d xs xss by rw [HCdef.out, if_neg hc])
    have HM := Lib.hid (show invM p d xs xss = [] by rw [HMdef.out, if_neg (by rw [HC.out]; exact hc)])
    clear hc HCdef HMdef
    generalize detC p d xs xss = C at *
    go_enter Try.func20, Try.ntmps20
    go_wp2_with fail
    refine HV.out.mono ?_
    rintro e w1 ⟨rfl, h1⟩
    have hS1 := hS0.call0 h1
    go_wp2_with fail
    go_ret2
    rw [HM.out, HC.out]
    exact ⟨_, [], rfl, rfl, hS1.out.newnil _⟩

theorem wideI_xtake {m : List (List Int)} {k : Nat} (h : k < m.length) : (wideI m m.length m.length).take (k + 1) = (wideI m m.length m.length).take k ++ [xat m k ++ unitL m.length k] := wideI_take h

end Go.Proofs.Ytcenabaklokhhaa
