/- The texts of this claim, run 11: Cp2 Tr18 DsK DsM Pa2 PPe Im1. -/
import Derived.Test.YtegmjlblehjccaaGreatK4
import Derived.Test.YtegmjlblehjccaaGreatK5
import Derived.Test.YtegmjlblehjccaaGreatK6
import Derived.Test.YtegmjlblehjccaaGreatK9
import Derived.Test.YtegmjlblehjccaaGreatK10
import Derived.Deep.RegionHeld3
import Derived.Deep.DrawnRows
import Derived.Shelf.SlicesG.CompactI
import Derived.Sort.OwnSortedInts
import Derived.Shelf.SlicesG.Delete
section
/- Walks: slices.CompactFunc over lists. -/
namespace Go.Proofs.YtegmjlblehjccaaGreat
set_option linter.unusedSimpArgs false
set_option linter.unusedVariables false
open Go.RowKit
attribute [local go_sem ↓] Go.wp_at_zero Go.wp_at_succ

/-- the same lists, read -/
def MakesKp {B : Nat} {w0 : World} (R : List (List Int)) (N : List Ent) (e : Ending) (w' : World) : Prop := ∃ v us R', e = .returned v ∧ RII w' v us R' ∧ (∀ q, q ∈ R' ↔ q ∈ R) ∧ R'.length ≤ R.length ∧ St B w0 w' N
theorem callE : ∀ (args : Array Value) (W : World), (callFunc 89 args).run Tryz.prog W = .ok (.enter 89 args) W :=
  fun args W => callFunc_go (P := Tryz.prog) Tryz.func89 (by kernel_rfl) (by kernel_rfl) args W
theorem St.shg {B : Nat} {w0 w : World} {L : List Ent} (h : St B w0 w L) (i : Nat) {e : TypeId} {v : Value} {us : List Value} (hi : L[i]? = some (row e v us)) (h0 : 0 < us.length) : ∃ g cap, v = .slice (some ⟨g, 0, none⟩) us.length cap ∧ us.length ≤ cap := by
  have hx := h.ok _ (List.mem_of_getElem? hi)
  rcases hx with ⟨hp, _⟩ | ⟨_, hv, hu⟩ | ⟨_, g, cap, cur, hv, hB, hh, h1, h2, h3, h4⟩
  · simp [row] at hp
  · simp only [row] at hu; rw [hu] at h0; simp at h0
  · simp only [row] at hv h1
    exact ⟨g, cap, hv, h1⟩
theorem el_at (g n c j : Nat) : el (.slice (some ⟨g, 0, none⟩) n c) j = ⟨g, j, none⟩ := by simp [el, add_mk]
/-- the header in the midst: the kept ones in front, the rest as it was -/
def KpI (R : List (List Int)) (us : List Value) (m : Nat) (us1 : List Value) : Prop := us1.length = R.length ∧ (∀ j, j < (kpL R m).length → vat us1 j = vat us ((kpL R m).getD j 0)) ∧ (∀ j, m - 1 ≤ j → j < R.length → vat us1 j = vat us j) ∧ (kpL R m).length ≤ m - 1
theorem vat_set {us : List Value} {i j : Nat} {u : Value} (h : i < us.length) : vat (us.set i u) j = if i = j then u else vat us j := by
  unfold vat
  rw [List.getD_eq_getElem?_getD, List.getD_eq_getElem?_getD, List.getElem?_set]
  by_cases e : i = j
  · subst e; rw [if_pos rfl, if_pos h, if_pos rfl]; rfl
  · rw [if_neg e, if_neg e]
theorem KpI.skip {R : List (List Int)} {us us1 : List Value} {m : Nat} (h : KpI R us m us1) (h0 : 0 < m) (he : xat R m = xat R (m - 1)) : KpI R us (m + 1) us1 := by
  have e : kpL R (m + 1) = kpL R m := by rw [kpL, if_neg (by omega), if_pos he]
  obtain ⟨h1, h2, h3, h4⟩ := h
  refine ⟨h1, by rw [e]; exact h2, fun j hj hj2 => h3 j (by omega) hj2, by rw [e]; omega⟩
theorem KpI.put {R : List (List Int)} {us us1 : List Value} {m : Nat} (h : KpI R us m us1) (h0 : 0 < m) (hm : m < R.length) (hne : xat R m ≠ xat R (m - 1)) : KpI R us (m + 1) (us1.set (kpL R m).length (vat us m)) ∧ (kpL R (m + 1)).length = (kpL R m).length + 1 := by
  have e : kpL R (m + 1) = kpL R m ++ [m] := by rw [kpL, if_neg (by omega), if_neg hne]
  obtain ⟨h1, h2, h3, h4⟩ := h
  refine ⟨⟨by rw [List.length_set]; exact h1, fun j hj => ?_, fun j hj hj2 => ?_, by rw [e, List.length_append, List.length_singleton]; omega⟩, by rw [e, List.length_append, List.length_singleton]⟩
  · rw [e, List.length_append, List.length_singleton] at hj
    rw [vat_set (by omega), e]
    by_cases hc : (kpL R m).length = j
    · rw [if_pos hc]; subst hc
      rw [List.getD_eq_getElem?_getD, List.getElem?_append_right (Nat.le_refl _), Nat.sub_self]; rfl
    · rw [if_neg hc, h2 j (by omega), List.getD_eq_getElem?_getD, List.getD_eq_getElem?_getD, List.getElem?_append_left (by omega)]
  · rw [vat_set (by omega), if_neg (by omega)]
    exact h3 j (by omega) hj2
theorem kpL_n {R : List (List Int)} {n : Nat} (h : 0 < n) : 0 < (kpL R n).length := by
  obtain ⟨j, hj, _⟩ := kpL_all (R := R) (n := n) (i := 0) h
  exact List.length_pos_of_mem hj
set_option maxHeartbeats 16000000 in
set_option maxRecDepth 100000 in
theorem CompactR_c {B : Nat} {w0 w : World} {N : List Ent} (v : Value) (us : List Value) (R : List (List Int)) (hS : St B w0 w (row 30 v us :: N)) (hl : us.length = R.length) (hN : ∀ W, St B w0 W N → ∀ j, j < R.length → RdI W (vat us j) (xat R j)) (hlen : R.length ≤ 1000000) :
    Calls Tryz.prog 103 #[v, .func (.func 89) #[] #[]] w (MakesKp (B := B) (w0 := w0) R N) := by
  have hcf := callE
  have hr0 := hS.rd 0 (e := 30) (v := v) (us := us) rfl
  have HR := Lib.hid (fun W us1 (h : St B w0 W (row 30 v us1 :: N)) (h2 : us1.length = R.length) => (show (∀ ty, (Builtin.len_ #[24] ty #[v]).run Tryz.prog W = .ok (.int .i64 R.length) W) ∧ ∀ j, j < R.length → W.cell? (el v j) = some (vat us1 j) from by
    have hr := h.rd 0 (e := 30) (v := v) (us := us1) rfl
    refine ⟨fun ty => ?_, fun j hj => hr.cell (i := j) (by omega)⟩
    have := run_len_sl (P := Tryz.prog) hr.sl 24 ty Tryz.und_iss W
    rwa [h2] at this))
  have hln : ∀ (ty : TypeId) (W : World), (Builtin.len_ #[24] ty #[v]).run Tryz.prog W = .ok (.int .i64 R.length) W := fun ty W => by
    have := run_len_sl (P := Tryz.prog) hr0.sl 24 ty Tryz.und_iss W
    rwa [hl] at this
  have hix : ∀ (i : Int) (j : Nat), i = (j : Int) → j < R.length → ∀ W : World, (Instr.indexAt 24 v (.int .i64 i)).run Tryz.prog W = .ok (.pointer (some (el v j))) W := fun i j e hj W => by
    subst e
    have := run_ix_sl (P := Tryz.prog) hr0.sl 24 Tryz.und_iss Tryz.size_is .i64 (j : Int) (by omega) (by omega) W
    simpa using this
  have HN := Lib.hid hN
  have Hl := Lib.hid hl
  clear hN hr0 hl
  by_cases h2 : R.length < 2
  · have f1 : (R.length : Int) < 2 := by omega
    go_enter Tryz.func103, Tryz.ntmps103
    go_wp2_with fail
    go_ret
    exact ⟨v, us, R, rfl, ⟨hS.rd 0 rfl, Hl.out, fun j hj => HN.out w (hS.sub (List.sublist_cons_self _ _)) j hj⟩, fun q => Iff.rfl, Nat.le_refl _, hS.sub (List.sublist_cons_self _ _)⟩
  · have f1 : ¬ (R.length : Int) < 2 := by omega
    go_enter Tryz.func103, Tryz.ntmps103
    go_wp2_with fail
    go_loopw [5, 6, 7] (fun ki _ _ wr => ∃ (k : Nat), ki = .int .i64 k ∧ 1 ≤ k ∧ k ≤ R.length ∧ Hid (∀ i, 1 ≤ i → i < k → xat R i ≠ xat R (i - 1)) ∧ St B w0 wr (row 30 v us :: N)) (fun ki _ _ _ => R.length - (intOf ki).toNat)
    case atStart => exact ⟨1, rfl, by omega, by omega, fun i h1 h2 => by omega, hS⟩
    case round =>
      clear hS
      obtain ⟨k, rfl, hk1, hk, hI, hS⟩ := hrel
      by_cases hkR : k < R.length
      · have hki : (k : Int) < (R.length : Int) := by omega
        have xk := hix (k : Int) k rfl hkR
        have xp := hix ((k : Int) - 1) (k - 1) (by omega) (by omega)
        have w1 : IntKind.i64.wrap ((k : Int) - 1) = (k : Int) - 1 := IntWalk.i64_in _ (by omega)
        obtain ⟨L, hL⟩ : ∃ L, L = row 30 v us :: N := ⟨_, rfl⟩
        have HC := Lib.hid (fun W (h : St B w0 W (row 30 v us :: N)) => And.intro (HR.out W us h Hl.out).2 (HN.out W (h.sub (List.sublist_cons_self _ _))))
        rw [← hL] at hS HC
        have c1 := fun q : SS B w0 L => (HC.out _ q.st).1 k hkR
        have c2 := fun q : SS B w0 L => (HC.out _ q.st).1 (k - 1) (by omega)
        have KE := Lib.hid (fun q : SS B w0 L => Equal_c (vat us k) (vat us (k - 1)) (xat R k) (xat R (k - 1)) q.w ((HC.out _ q.st).2 k hkR) ((HC.out _ q.st).2 (k - 1) (by omega)))
        have HL := Lib.hid hL
        clear hL
        by_cases he : xat R k = xat R (k - 1)
        · rw [decide_eq_true he] at KE
          have He := Lib.hid he
          clear he
          go_wp2_with fail
          have hne : Nonempty (SS _ _ _) := ⟨⟨_, hS⟩⟩
          refine wp_region_st (by kernel_rfl) (by kernel_rfl) hS ?_
          repeat (go_big_quiet_step ((go_at_call 89; exact st_quiet (KE.out _))))
          refine wpQuiet_nil ?_
          rintro _ ⟨s2, rfl⟩
          have hS3 := s2.st
          generalize s2.w = w3 at hS3 ⊢
          clear c1 c2
          rw [HL.out] at hS3
          have hkl : kpL R k = List.range k := kpL_id hI.out
          have hk1l : kpL R (k + 1) = kpL R k := by rw [kpL, if_neg (by omega), if_pos He.out]
          obtain ⟨g, cap, hve, hcap⟩ := hS3.shg 0 rfl (by rw [Hl.out]; omega)
          rw [Hl.out] at hve hcap
          have hsl := rslII_lo2 (hS3.rd 0 (e := 30) (v := v) (us := us) rfl) k (by rw [Hl.out]; omega)
          rw [Hl.out] at hsl
          obtain ⟨v2, hv2⟩ : ∃ v2, v2 = rsl v k R.length := ⟨_, rfl⟩
          rw [← hv2] at hsl
          have R2 := Lib.hid (fun W us1 (h : St B w0 W (row 30 v us1 :: N)) (hh : us1.length = R.length) => (show Rd W v2 ((us1.take R.length).drop k) from by
            rw [hv2]; exact rsl_Rd (h.rd 0 (e := 30) (v := v) (us := us1) rfl) (by omega) (by omega)))
          have hl2 : ((us.take R.length).drop k).length = R.length - k := by have := Hl.out; simp; omega
          have hln2 := fun (ty : TypeId) (W : World) => run_len_sl (P := Tryz.prog) (R2.out _ us hS3 Hl.out).sl 24 ty Tryz.und_iss W
          have hix2 := run_ix_sl (P := Tryz.prog) (R2.out _ us hS3 Hl.out).sl 24 Tryz.und_iss Tryz.size_is
          rw [hl2] at hln2 hix2
          have hcast : ((R.length - k : Nat) : Int) = (R.length : Int) - (k : Int) := by omega
          have HI0 : Hid (KpI R us (k + 1) us) := Lib.hid ⟨Hl.out, fun j hj => by
            rw [hk1l, hkl] at hj ⊢
            rw [List.length_range] at hj
            congr 1
            simp [List.getD_eq_getElem?_getD, hj], fun j _ _ => rfl, by rw [hk1l, hkl]; simp⟩
          have hk1n : (kpL R (k + 1)).length = k := by rw [hk1l, hkl]; simp
          have Hk1n := Lib.hid hk1n
          have Hv2 := Lib.hid hv2
          have Hve := Lib.hid (And.intro hve hcap)
          clear hl2 hkl hk1l hk1n hv2 hve hcap
          go_wp2_with fail
          go_loopw [5, 7] (fun kki ni wr => ∃ (n : Nat) (us1 : List Value), ni = .int .i64 n ∧ 1 ≤ n ∧ n ≤ R.length - k ∧ kki = .int .i64 ((kpL R (k + n)).length : Nat) ∧ Hid (KpI R us (k + n) us1) ∧ St B w0 wr (row 30 v us1 :: N)) (fun _ ni _ => R.length - (intOf ni).toNat)
          case atStart => exact ⟨1, us, rfl, by omega, by omega, by rw [Hk1n.out], HI0, hS3⟩
          case round =>
            clear hS3 HI0
            obtain ⟨n, us1, rfl, hn1, hn2, rfl, hI1, hS⟩ := hrel
            by_cases hnR : n < R.length - k
            · have hni : (n : Int) < (R.length : Int) - (k : Int) := by omega
              obtain ⟨m, hm⟩ : ∃ m, k + n = m := ⟨_, rfl⟩
              rw [hm] at hI1
              have hmR : m < R.length := by omega
              have xa := hix2 .i64 (n : Int) (by omega) (by omega)
              have xb := hix2 .i64 ((n : Int) - 1) (by omega) (by omega)
              rw [show ((n : Int) - 1).toNat = n - 1 by omega] at xb
              rw [Int.toNat_natCast] at xa
              have w1 : IntKind.i64.wrap ((n : Int) - 1) = (n : Int) - 1 := IntWalk.i64_in _ (by omega)
              obtain ⟨L, hL⟩ : ∃ L, L = row 30 v us1 :: N := ⟨_, rfl⟩
              have HC := Lib.hid (fun W (h : St B w0 W (row 30 v us1 :: N)) => (show W.cell? (el v2 n) = some (vat us m) ∧ W.cell? (el v2 (n - 1)) = some (vat us (m - 1)) ∧ RdI W (vat us m) (xat R m) ∧ RdI W (vat us (m - 1)) (xat R (m - 1)) from by
                have r2 := R2.out W us1 h hI1.out.1
                have hl1 := hI1.out.1
                have e1 : ((us1.take R.length).drop k)[n]? = some (vat us m) := by
                  rw [List.getElem?_drop, List.getElem?_take_of_lt (by omega), hm]
                  have := hI1.out.2.2.1 m (by omega) hmR
                  unfold vat at this ⊢
                  rw [List.getD_eq_getElem?_getD] at this
                  rw [← this, List.getElem?_eq_getElem (by omega)]; rfl
                have e2 : ((us1.take R.length).drop k)[n - 1]? = some (vat us (m - 1)) := by
                  rw [List.getElem?_drop, List.getElem?_take_of_lt (by omega), show k + (n - 1) = m - 1 by omega]
                  have := hI1.out.2.2.1 (m - 1) (by omega) (by omega)
                  unfold vat at this ⊢
                  rw [List.getD_eq_getElem?_getD] at this
                  rw [← this, List.getElem?_eq_getElem (by omega)]; rfl
                exact ⟨r2.2 n _ e1, r2.2 (n - 1) _ e2, HN.out W (h.sub (List.sublist_cons_self _ _)) m hmR, HN.out W (h.sub (List.sublist_cons_self _ _)) (m - 1) (by omega)⟩))
              rw [← hL] at hS HC
              have c1 := fun q : SS B w0 L => (HC.out _ q.st).1
              have c2 := fun q : SS B w0 L => (HC.out _ q.st).2.1
              have KE := Lib.hid (fun q : SS B w0 L => Equal_c (vat us m) (vat us (m - 1)) (xat R m) (xat R (m - 1)) q.w (HC.out _ q.st).2.2.1 (HC.out _ q.st).2.2.2)
              have HL := Lib.hid hL
              have Hm := Lib.hid hm
              clear hL
              by_cases he : xat R m = xat R (m - 1)
              · rw [decide_eq_true he] at KE
                have HK := Lib.hid (hI1.out.skip (by omega) he)
                have hkl2 : kpL R (m + 1) = kpL R m := by rw [kpL, if_neg (by omega), if_pos he]
                have Hkl2 := Lib.hid hkl2
                clear he hkl2
                go_wp2_with fail
                have hne : Nonempty (SS _ _ _) := ⟨⟨_, hS⟩⟩
                refine wp_region_st (by kernel_rfl) (by kernel_rfl) hS ?_
                repeat (go_big_quiet_step ((go_at_call 89; exact st_quiet (KE.out _))))
                refine wpQuiet_nil ?_
                rintro _ ⟨s2, rfl⟩
                have hS5 := s2.st
                generalize s2.w = w5 at hS5 ⊢
                clear c1 c2
                rw [HL.out] at hS5
                go_wp2_with fail
                go_roundw
                case rel => exact ⟨n + 1, us1, by go_num, by omega, by omega, by rw [show k + (n + 1) = m + 1 by have := Hm.out; omega, Hkl2.out, ← Hm.out], by rw [show k + (n + 1) = m + 1 by have := Hm.out; omega]; exact HK.out, hS5⟩
                case measure => simp [intOf]; omega
              · rw [decide_eq_false he] at KE
                have hkk := hI1.out.2.2.2
                obtain ⟨hK, hKl⟩ := hI1.out.put (by omega) hmR he
                have HK := Lib.hid hK
                have HKl := Lib.hid hKl
                have hsl1 := (HC.out _ hS).2.2.1.sl
                have Hce := Lib.hid (And.intro hsl1.cells hsl1.one)
                have Hul := Lib.hid hI1.out.1
                obtain ⟨kk, hkke⟩ : ∃ kk, (kpL R m).length = kk := ⟨_, rfl⟩
                rw [hm, hkke]
                rw [hkke] at hkk HK HKl
                have xkk := hix (kk : Int) kk rfl (by omega)
                have w2 : IntKind.i64.wrap ((kk : Int) + 1) = (kk : Int) + 1 := IntWalk.i64_in _ (by omega)
                clear he hK hKl hsl1 hkke
                go_wp2_with fail
                have hne : Nonempty (SS _ _ _) := ⟨⟨_, hS⟩⟩
                refine wp_region_st (by kernel_rfl) (by kernel_rfl) hS ?_
                repeat (go_big_quiet_step ((go_at_call 89; exact st_quiet (KE.out _))))
                refine wpQuiet_nil ?_
                rintro _ ⟨s2, rfl⟩
                have hS5 := s2.st
                generalize s2.w = w5 at hS5 ⊢
                clear c1 c2
                have c1 := (HC.out _ hS5).1
                rw [HL.out] at hS5
                go_wp2_with (refine stoII hS5 0 rfl kk (by rw [Hul.out]; omega) rfl _ _ rfl rfl (vat us m) Hce.out.1 Hce.out.2 rfl ?_; intro w6 hS6)
                simp only [List.set_cons_zero] at hS6
                go_roundw
                case rel => exact ⟨n + 1, _, by go_num, by omega, by omega, by rw [show k + (n + 1) = m + 1 by have := Hm.out; omega, HKl.out]; go_num, by rw [show k + (n + 1) = m + 1 by have := Hm.out; omega]; exact HK.out, hS6⟩
                case measure => simp [intOf]; omega
            · obtain rfl : n = R.length - k := by omega
              rw [show k + (R.length - k) = R.length by omega] at hI1 ⊢
              have hkk := hI1.out.2.2.2
              have hk0 := kpL_n (R := R) (n := R.length) (by omega)
              obtain ⟨kk, hkke⟩ : ∃ kk, (kpL R R.length).length = kk := ⟨_, rfl⟩
              rw [hkke] at hkk hk0 ⊢
              have Hkk := Lib.hid hkke
              have hsA := rslII_lo2 (hS.rd 0 (e := 30) (v := v) (us := us1) rfl) kk (by rw [hI1.out.1]; omega)
              rw [hI1.out.1] at hsA
              have hve := Hve.out
              have e1 : rsl v kk R.length = .slice (some ⟨g, kk, none⟩) (R.length - kk) (cap - kk) := by
                rw [hve.1]
                have : cap ≠ kk := by omega
                simp [rsl, sliced, this, Addr.add]
                omega
              rw [e1] at hsA
              have hcl : ∀ ty, (Builtin.clear_ #[24] ty #[.slice (some ⟨g, kk, none⟩) (R.length - kk) (cap - kk)]).run Tryz.prog wr = .ok (.tuple #[]) (wr.setCells g kk (List.replicate (R.length - kk) (.slice none 0 0))) := fun ty => by
                refine Go.Lib.run_clear_slice wr 24 30 ty (.slice none 0 0) Tryz.und_iss ?_ rfl rfl g kk (R.length - kk) (cap - kk) (by omega) ?_ ?_
                · intro w
                  obtain ⟨inf, hinf, hz⟩ := Option.map_eq_some_iff.1 Tryz.info_is
                  simp only [Prod.mk.injEq] at hz
                  simp [zeroValue, typeInfo, hinf, hz.1]
                · intro j hj
                  have := (HR.out wr us1 hS hI1.out.1).2 (kk + j) (by omega)
                  rw [hve.1, el_at] at this
                  rw [this]; rfl
                · intro j hj
                  have := hS.unfrozen 0 rfl (j := kk + j) (by rw [hI1.out.1]; omega)
                  rw [hve.1, el_at] at this
                  exact this
              have hS7 := St.setTail (B := B) (w0 := w0) 0 (e := 30) (v := v) (g := g) (.slice none 0 0) (R.length - kk) kk hS rfl (fun j _ => by rw [hve.1, el_at]) (by rw [hI1.out.1]; omega)
              simp only [List.set_cons_zero] at hS7
              have hrd7 := hS7.rd 0 (e := 30) (v := v) rfl
              have hl7 : (us1.take kk ++ List.replicate (R.length - kk) (Value.slice none 0 0)).length = R.length := by rw [List.length_append, List.length_take, List.length_replicate, hI1.out.1]; omega
              have hsB := rslII_hi hrd7 kk (by rw [hl7]; omega)
              obtain ⟨vb, hvb⟩ : ∃ vb, vb = rsl v 0 kk := ⟨_, rfl⟩
              have hfin : RII (wr.setCells g kk (List.replicate (R.length - kk) (.slice none 0 0))) vb (us1.take kk) ((kpL R R.length).map (xat R)) := by
                have r2 := rsl_Rd hrd7 (lo := 0) (hi := kk) (Nat.zero_le _) (by rw [hl7]; omega)
                have e2 : ((us1.take kk ++ List.replicate (R.length - kk) (Value.slice none 0 0)).take kk).drop 0 = us1.take kk := by
                  rw [List.drop_zero, List.take_append_of_le_length (by rw [List.length_take, hI1.out.1]; omega), List.take_take, Nat.min_self]
                rw [e2, ← hvb] at r2
                refine ⟨r2, by rw [List.length_take, List.length_map, hI1.out.1, Hkk.out]; omega, fun j hj => ?_⟩
                rw [List.length_map, Hkk.out] at hj
                have hjk : j < (kpL R R.length).length := by rw [Hkk.out]; exact hj
                have h1 : vat (us1.take kk) j = vat us ((kpL R R.length).getD j 0) := by
                  rw [← hI1.out.2.1 j hjk]
                  unfold vat
                  rw [List.getD_eq_getElem?_getD, List.getD_eq_getElem?_getD, List.getElem?_take_of_lt hj]
                have h2 : xat ((kpL R R.length).map (xat R)) j = xat R ((kpL R R.length).getD j 0) := by
                  rw [xat_eq (by rw [List.length_map]; exact hjk), List.getElem_map, List.getD_eq_getElem?_getD, List.getElem?_eq_getElem hjk]; rfl
                rw [h1, h2]
                refine HN.out _ (hS7.sub (List.sublist_cons_self _ _)) _ ?_
                rw [List.getD_eq_getElem?_getD, List.getElem?_eq_getElem hjk]
                exact kpL_lt (List.getElem_mem hjk)
              rw [← hvb] at hsB
              have HF := Lib.hid (And.intro hfin (hS7.sub (List.sublist_cons_self _ _)))
              clear hvb hS hfin hrd7 hl7 hS7 hve e1
              go_wp2_with fail
              go_ret
              refine ⟨vb, us1.take kk, _, rfl, HF.out.1, fun q => ?_, by rw [List.length_map]; exact kpL_len R R.length, HF.out.2⟩
              rw [List.mem_map]
              constructor
              · rintro ⟨i, hi, rfl⟩; exact xat_mem (kpL_lt hi)
              · intro hq
                obtain ⟨i, hi, rfl⟩ := List.getElem_of_mem hq
                obtain ⟨j, hj, e⟩ := kpL_all (R := R) hi
                exact ⟨j, hj, by rw [e, xat_eq hi]⟩
        · rw [decide_eq_false he] at KE
          have He := Lib.hid he
          clear he
          go_wp2_with fail
          have hne : Nonempty (SS _ _ _) := ⟨⟨_, hS⟩⟩
          refine wp_region_st (by kernel_rfl) (by kernel_rfl) hS ?_
          repeat (go_big_quiet_step ((go_at_call 89; exact st_quiet (KE.out _))))
          refine wpQuiet_nil ?_
          rintro _ ⟨s2, rfl⟩
          have hS3 := s2.st
          generalize s2.w = w3 at hS3 ⊢
          clear c1 c2
          rw [HL.out] at hS3
          go_wp2_with fail
          go_roundw
          case rel => exact ⟨k + 1, by go_num, by omega, by omega, fun i h1 h2 => by
            rcases Nat.lt_or_ge i k with h | h
            · exact hI.out i h1 h
            · obtain rfl : i = k := by omega
              exact He.out, hS3⟩
          case measure => simp [intOf]; omega
      · obtain rfl : k = R.length := by omega
        go_wp2_with fail
        go_ret
        exact ⟨v, us, R, rfl, ⟨hS.rd 0 rfl, Hl.out, fun j hj => HN.out _ (hS.sub (List.sublist_cons_self _ _)) j hj⟩, fun q => Iff.rfl, Nat.le_refl _, hS.sub (List.sublist_cons_self _ _)⟩
end Go.Proofs.YtegmjlblehjccaaGreat
end

section
/- Walks: the list of the quadrilaterals of the reference. -/
namespace Go.Proofs.YtegmjlblehjccaaGreat
set_option linter.unusedSimpArgs false
set_option linter.unusedVariables false
open Go.RowKit
attribute [local go_sem ↓] Go.wp_at_zero Go.wp_at_succ

section
variable {P : Nat} {A : List (List Int)}
theorem TS.other (hT : TS P A) {i a : Nat} (hi : i < A.length) (ha : (a : Int) ∈ xat A i) : ∃ b c : Nat, b < c ∧ IsB (xat A i) a b c ∧ a ≠ b ∧ a ≠ c := by
  obtain ⟨p, q, r, h1, h2, h3, e⟩ := three_of (hT.inc (xat_mem hi)) (hT.three _ (xat_mem hi))
  rw [e] at ha ⊢
  have hz : ∀ z : Int, z ∈ [(p : Int), (q : Int), (r : Int)] ↔ z = p ∨ z = q ∨ z = r := fun z => by simp
  have ha := (hz _).1 ha
  have : a = p ∨ a = q ∨ a = r := by omega
  rcases this with rfl | rfl | rfl
  · exact ⟨q, r, h2, fun z => (hz z).trans (by omega), by omega, by omega⟩
  · exact ⟨p, r, by omega, fun z => (hz z).trans (by omega), by omega, by omega⟩
  · exact ⟨p, q, h1, fun z => (hz z).trans (by omega), by omega, by omega⟩
theorem TS.cross (hT : TS P A) {i k : Nat} (hi : i < A.length) (hk : k < A.length) (hc : (bothL (xat A i) (xat A k) true).length = 1) :
    ∃ a b c d e : Nat, bothL (xat A i) (xat A k) true = [(a : Int)] ∧ IsB (xat A i) a b c ∧ IsB (xat A k) a d e ∧ [a, b, c, d, e].Nodup ∧ b < c ∧ d < e := by
  obtain ⟨z, hz⟩ := List.length_eq_one_iff.1 hc
  have hzm : ∀ y : Int, (y ∈ xat A i ∧ y ∈ xat A k) → y = z := fun y hy => by
    have : y ∈ bothL (xat A i) (xat A k) true := by
      unfold bothL; rw [List.mem_filter]; exact ⟨hy.1, by rw [decide_eq_true hy.2]; rfl⟩
    rw [hz] at this; exact List.mem_singleton.1 this
  have hzz : z ∈ xat A i ∧ z ∈ xat A k := by
    have : z ∈ bothL (xat A i) (xat A k) true := by rw [hz]; simp
    unfold bothL at this
    rw [List.mem_filter] at this
    exact ⟨this.1, by simpa using this.2⟩
  obtain ⟨a, rfl⟩ : ∃ a : Nat, z = a := by
    have := incB_gt ((dOk_t hT.ok).inc _ (xat_mem hi)) _ hzz.1
    exact ⟨z.toNat, by omega⟩
  obtain ⟨b, c, h1, h2, h3, h4⟩ := hT.other hi hzz.1
  obtain ⟨d, e, g1, g2, g3, g4⟩ := hT.other hk hzz.2
  refine ⟨a, b, c, d, e, hz, h2, g2, ?_, h1, g1⟩
  have n1 : b ≠ d := fun q => by have := hzm b ⟨h2.m2, q ▸ g2.m2⟩; omega
  have n2 : b ≠ e := fun q => by have := hzm b ⟨h2.m2, q ▸ g2.m3⟩; omega
  have n3 : c ≠ d := fun q => by have := hzm c ⟨h2.m3, q ▸ g2.m2⟩; omega
  have n4 : c ≠ e := fun q => by have := hzm c ⟨h2.m3, q ▸ g2.m3⟩; omega
  simp [h3, h4, g3, g4, n1, n2, n3, n4]; omega
end
theorem put_perm {E : Type} (h q p n : E) (Y X : List E) : ((h :: Y) ++ (q :: p :: X) ++ [n]).Perm (h :: n :: ((Y ++ [p]) ++ (q :: X))) := by
  rw [List.cons_append, List.cons_append]
  refine List.Perm.cons _ ?_
  refine (List.perm_append_singleton n _).trans (List.Perm.cons _ ?_)
  rw [List.append_assoc]
  exact List.Perm.append_left _ (List.Perm.swap _ _ _)
theorem drop_vat {us : List Value} {k : Nat} (hk : k < us.length) : us.drop k = vat us k :: us.drop (k + 1) := by
  rw [vat_eq hk]; exact List.drop_eq_getElem_cons hk
set_option maxHeartbeats 16000000 in
set_option maxRecDepth 100000 in
theorem l11PaschsO_c (P g : Nat) (v : Value) (us : List Value) (A : List (List Int)) (w : World) (hv : RII w v us A) (hb : BoxD w g P v) (hA : TS P A) :
    Calls Tryz.prog 94 #[.pointer (some ⟨g, 0, none⟩)] w (MakesPo w A 32768) := by
  have hAl := (dOk_t hA.ok).len
  have hP := hA.p32
  have hs32 : ∀ B ∈ A, incB (-1) 32 B = true := fun B hB => incB_of (fun t ht => by have := incB_gt ((dOk_t hA.ok).inc _ hB) t ht; omega) (incB_pw ((dOk_t hA.ok).inc _ hB))
  have KM := fun W i k (h1 : RdI W (vat us i) (xat A i)) (h2 : RdI W (vat us k) (xat A k)) (hi : i < A.length) (hk : k < A.length) => Lib.hid (sMeetSets_c (vat us i) (vat us k) (xat A i) (xat A k) W h1 h2 (hs32 _ (xat_mem hi)) (hs32 _ (xat_mem hk)))
  have KQ := fun W i k a b c d e (h : RII W v us A) (h2 : BoxD W g P v) (hi : i < A.length) (hk : k < A.length) (h3 : IsB (xat A i) a b c) (h4 : IsB (xat A k) a d e) (h5 : [a, b, c, d, e].Nodup) (h6 : b < c) (h7 : d < e) => Lib.hid (l11Quads_c P g i k a b c d e v us A W h h2 hA hi hk h3 h4 h5 h6 h7)
  have HC := Lib.hid (fun i k (hi : i < A.length) (hk : k < A.length) h => hA.cross hi hk h)
  have hix := hv.ixe
  have hln := hv.len
  have Hb := Lib.hid hb
  have Hv := Lib.hid hv
  have hS0 := St.refl w
  have hS2 : St w.heap.size w _ (own2 (.slice (some ⟨w.heap.size, 0, none⟩) 0 0) [] []) := hS0.new 30 #[] (by simp)
  clear hA hv hb hs32 hS0
  go_enter Tryz.func94, Tryz.ntmps94
  go_wp2_with fail
  go_loopw [3, 4, 5, 6, 7, 8, 9, 10] (fun o ii _ _ _ _ _ _ wr => ∃ (i : Nat) (uo : List Value) (R : List (List Int)), i ≤ A.length ∧ ii = .int .i64 i ∧ Hid (R.length ≤ 256 * i ∧ uo.length = R.length ∧ (∀ q ∈ R, IsPas A q)) ∧ St w.heap.size w wr (own2 o uo R)) (fun _ ii _ _ _ _ _ _ _ => A.length - (intOf ii).toNat)
  case atStart => exact ⟨0, [], [], by omega, rfl, ⟨by simp, rfl, fun q hq => by cases hq⟩, hS2⟩
  case round =>
    clear hS2
    obtain ⟨i, uo, R, hi, rfl, hI, hS⟩ := hrel
    have c0 := (hS.oldBoxD Hb.out).2
    by_cases hiA : i < A.length
    · have hii : (i : Int) < (A.length : Int) := by omega
      have w1 : IntKind.i64.wrap ((i : Int) + 1) = (i : Int) + 1 := IntWalk.i64_in _ (by omega)
      have xi := hix (i : Int) i rfl hiA
      go_wp2_with fail
      go_loopw [3, 5, 6, 7, 8, 9, 10] (fun o ki _ _ _ _ _ wr => ∃ (k : Nat) (uo : List Value) (R : List (List Int)), k ≤ A.length ∧ ki = .int .i64 k ∧ Hid (R.length ≤ 256 * i + 2 * k ∧ uo.length = R.length ∧ (∀ q ∈ R, IsPas A q)) ∧ St w.heap.size w wr (own2 o uo R)) (fun _ ki _ _ _ _ _ _ => A.length - (intOf ki).toNat)
      case atStart => exact ⟨i + 1, uo, R, by omega, by first | rfl | go_num, ⟨by have := hI.out.1; omega, hI.out.2⟩, hS⟩
      case round =>
        clear hS hI c0 R uo
        obtain ⟨k, uo, R, hk, rfl, hI, hS⟩ := hrel
        have c0 := (hS.oldBoxD Hb.out).2
        by_cases hkA : k < A.length
        · have hki : (k : Int) < (A.length : Int) := by omega
          have xk := hix (k : Int) k rfl hkA
          have ci := (hS.oldII Hv.out).cell i hiA
          have ck := (hS.oldII Hv.out).cell k hkA
          have hSd := (St.refl wr).drew
          have ri := Lib.hid (((hS.oldII Hv.out).row i hiA))
          have rk := Lib.hid (((hS.oldII Hv.out).row k hkA))
          have KMi := fun W h1 h2 => KM W i k h1 h2 hiA hkA
          have HCi := Lib.hid (HC.out i k hiA hkA)
          generalize hM : bothL (xat A i) (xat A k) true = M at *
          have HM := Lib.hid hM
          clear hM
          by_cases hM1 : M.length = 1
          · obtain ⟨a, b, c, d, e, hMa, hB1, hB2, hN, hbc, hde⟩ := HCi.out hM1
            subst hMa
            have HB := Lib.hid (And.intro hB1 (And.intro hB2 hN))
            clear hB1 hB2 hN hM1 HCi
            go_wp2_with fail
            go_region_held3 (fun w' => w'.cell? ⟨g, 1, none⟩ = some v ∧ w'.cell? (el v i) = some (vat us i) ∧ w'.cell? (el v k) = some (vat us k)) (((try dsimp only); (repeat' apply And.intro); all_goals (repeat (first | assumption | exact cell_dr (by assumption) | refine cell_dr ?_ | refine cell_al ?_ | refine cell_sc (by assumption) ?_)))) (first
              | (go_at_call 152; refine (KMi _ (hSd.oldI ri.out) (hSd.oldI rk.out)).out.mono ?_; rintro e3 w3 ⟨vm, rfl, h3⟩; have d1 := cell_keepT h3.below (cell_dr c0); have d2 := cell_keepT h3.below (cell_dr ci); have d3 := cell_keepT h3.below (cell_dr ck)))
            have hS3 := hS.call0 ((hSd.call h3).out)
            have rM := h3.rdI 0 rfl
            have lM := rM.len
            have xM := rM.ixe 0 0 rfl (by simp)
            have cM := rM.cell 0 (by simp)
            rw [show nth [(a : Int)] 0 = (a : Int) from rfl] at cM
            simp only [List.length_singleton, Int.natCast_one] at lM
            have K := Lib.hid (KQ w3 i k a b c d e (hS3.oldII Hv.out) (hS3.oldBoxD Hb.out) hiA hkA HB.out.1 HB.out.2.1 HB.out.2.2 hbc hde)
            clear hS h3 hSd d1 d2 d3 c0 ci ck ri rk rM
            go_wp2_with fail
            refine K.out.mono ?_
            rintro e4 w4 ⟨vq, uq, Q, rfl, eQ, lQ, pQ, h4⟩
            have hS4 := hS3.call h4
            have rQ := h4.rii eQ
            have lnQ := rQ.len
            have ixQ := rQ.ixe
            have HQ := Lib.hid (And.intro lQ (And.intro eQ pQ))
            have hlQ : Q.length ≤ 2 := lQ
            have HI2 : Hid (R.length ≤ 256 * i + 2 * k + 0 ∧ uo.length = R.length ∧ (∀ q ∈ R, IsPas A q)) := hI
            have hS5 : St w.heap.size w w4 (own2 u3 uo R ++ (row 30 vq uq :: rowsI (uq.drop 0) (Q.drop 0))) := hS4
            clear h4 hS3 hS4 K rQ lQ pQ eQ lM xM cM hI HB
            go_wp2_with fail
            go_loopw [3, 8, 9, 10] (fun o ji _ _ wr => ∃ (j : Nat) (uo : List Value) (R : List (List Int)), j ≤ Q.length ∧ ji = .int .i64 j ∧ Hid (R.length ≤ 256 * i + 2 * k + j ∧ uo.length = R.length ∧ (∀ q ∈ R, IsPas A q)) ∧ St w.heap.size w wr (own2 o uo R ++ (row 30 vq uq :: rowsI (uq.drop j) (Q.drop j)))) (fun _ ji _ _ _ => Q.length - (intOf ji).toNat)
            case atStart => exact ⟨0, uo, R, by omega, rfl, HI2, hS5⟩
            case round =>
              clear hS5 HI2 R uo
              obtain ⟨j, uo, R, hj, rfl, hI, hS⟩ := hrel
              by_cases hjQ : j < Q.length
              · have hji : (j : Int) < (Q.length : Int) := by omega
                have xj := ixQ (j : Int) j rfl hjQ
                have eQ := HQ.out.2.1
                have hju : j < uq.length := by omega
                rw [drop_vat hju, drop_xat hjQ] at hS
                have hS : St w.heap.size w wr (own2 u3 uo R ++ (row 30 vq uq :: row 2 (vat uq j) (iv (xat Q j)) :: rowsI (uq.drop (j + 1)) (Q.drop (j + 1)))) := hS
                have hSq := hS.sub (List.sublist_append_right _ _)
                have cj := (hSq.rd 0 (e := 30) (v := vq) (us := uq) rfl).cell (i := j) hju
                rw [show uq.getD j undef = vat uq j from rfl] at cj
                have rj := Lib.hid (hSq.rdI (xs := xat Q j) 1 rfl)
                have hR := Lib.hid ((hS.sub (List.sublist_append_left _ _)).rii hI.out.2.1)
                have HRl := Lib.hid (show R.length ≤ 1000000 by have := hI.out.1; omega)
                have KF := Lib.hid (l05Find_c u3 (vat uq j) uo R (xat Q j) wr hR.out rj.out HRl.out)
                clear eQ hju hSq
                go_wp2_with fail
                refine KF.out.mono ?_
                rintro e5 w5 ⟨m, b', rfl, hF, h5⟩
                have hR5 := Lib.hid (h5.oldII hR.out)
                have rj5 := Lib.hid (h5.oldI rj.out)
                have hS5 := hS.call0 h5
                have cj := cell_keepT h5.below cj
                have HF := Lib.hid hF
                clear hS h5 hR rj KF hF
                cases b'
                · have KP := Lib.hid (l05Put_c u3 (vat uq j) uo R (xat Q j) m w5 hR5.out rj5.out HF.out.1 HRl.out)
                  go_wp2_with fail
                  refine KP.out.mono ?_
                  rintro e6 w6 ⟨v6, rfl, h6⟩
                  have hS6 : St w.heap.size w w6 (row 30 u3 uo :: row 30 v6 (uo.take m ++ [vat uq j] ++ uo.drop m) :: ((rowsI uo R ++ [row 2 (vat uq j) (iv (xat Q j))]) ++ (row 30 vq uq :: rowsI (uq.drop (j + 1)) (Q.drop (j + 1))))) := (hS5.call h6).perm (put_perm _ _ _ _ _ _)
                  have hS7 : St w.heap.size w w6 (own2 v6 (uo.take m ++ [vat uq j] ++ uo.drop m) (insA R m (xat Q j)) ++ (row 30 vq uq :: rowsI (uq.drop (j + 1)) (Q.drop (j + 1)))) := (hS6.sub (List.sublist_cons_self _ _)).perm (by
                    unfold own2 insA
                    rw [List.cons_append]
                    exact List.Perm.cons _ (List.Perm.append_right _ (rows_ins hI.out.2.1 HF.out.1 _ _)))
                  clear h6 hS5 hS6 hR5 KP cj rj5
                  go_wp2_with fail
                  go_roundw
                  case rel => exact ⟨j + 1, _, _, by omega, by go_num, ⟨by rw [insA_len HF.out.1]; have := hI.out.1; omega, by rw [insA_len HF.out.1]; have := hI.out.2.1; have := HF.out.1; simp only [List.length_append, List.length_take, List.length_drop, List.length_singleton]; omega, fun q hq => by
                    rcases insA_mem.1 hq with h | h
                    · rw [h]; exact HQ.out.2.2 _ (xat_mem hjQ)
                    · exact hI.out.2.2 q h⟩, hS7⟩
                  case measure => simp [intOf]; omega
                · have hS7 := hS5.sub (L' := own2 u3 uo R ++ (row 30 vq uq :: rowsI (uq.drop (j + 1)) (Q.drop (j + 1)))) (List.Sublist.append_left ((List.sublist_cons_self _ _).cons_cons _) _)
                  clear hS5 hR5 rj5 cj
                  go_wp2_with fail
                  go_roundw
                  case rel => exact ⟨j + 1, uo, R, by omega, by go_num, ⟨by have := hI.out.1; omega, hI.out.2⟩, hS7⟩
                  case measure => simp [intOf]; omega
              · obtain rfl : j = Q.length := by omega
                have hS9 := hS.sub (List.sublist_append_left _ _)
                clear hS
                go_wp2_with fail
                go_roundw
                case rel => exact ⟨k + 1, uo, R, by omega, by go_num, ⟨by have := hI.out.1; omega, hI.out.2⟩, hS9⟩
                case measure => simp [intOf]; omega
          · have f1 : ((M.length : Int) == 1) = false := eq_f (by omega)
            have f2 : ¬ (M.length : Int) = 1 := by omega
            clear HCi
            go_wp2_with fail
            go_region_held3 (fun w' => w'.cell? ⟨g, 1, none⟩ = some v ∧ w'.cell? (el v i) = some (vat us i) ∧ w'.cell? (el v k) = some (vat us k)) (((try dsimp only); (repeat' apply And.intro); all_goals (repeat (first | assumption | exact cell_dr (by assumption) | refine cell_dr ?_ | refine cell_al ?_ | refine cell_sc (by assumption) ?_)))) (first
              | (go_at_call 152; refine (KMi _ (hSd.oldI ri.out) (hSd.oldI rk.out)).out.mono ?_; rintro e3 w3 ⟨vm, rfl, h3⟩; have d1 := cell_keepT h3.below (cell_dr c0); have d2 := cell_keepT h3.below (cell_dr ci); have d3 := cell_keepT h3.below (cell_dr ck)))
            have hS3 := hS.call0 ((hSd.call h3).out)
            have lM := (h3.rdI 0 rfl).len
            clear hS h3 hSd d1 d2 d3 c0 ci ck ri rk
            go_wp2_with fail
            go_roundw
            case rel => exact ⟨k + 1, uo, R, by omega, by go_num, ⟨by have := hI.out.1; omega, hI.out.2⟩, hS3⟩
            case measure => simp [intOf]; omega
        · obtain rfl : k = A.length := by omega
          go_wp2_with fail
          go_roundw
          case rel => exact ⟨i + 1, uo, R, by omega, by go_num, ⟨by have := hI.out.1; omega, hI.out.2⟩, hS⟩
          case measure => simp [intOf]; omega
    · obtain rfl : i = A.length := by omega
      go_wp2_with fail
      go_ret
      exact ⟨_, uo, R, rfl, hI.out.2.1, by have := hI.out.1; omega, hI.out.2.2, hS⟩
theorem l11Paschs_c (P g : Nat) (v : Value) (us : List Value) (A : List (List Int)) (w : World) (hv : RII w v us A) (hb : BoxD w g P v) (hA : TS P A) :
    Calls Tryz.prog 94 #[.pointer (some ⟨g, 0, none⟩)] w (MakesPs w A 32768) :=
  (l11PaschsO_c P g v us A w hv hb hA).mono fun _ _ h => h.ps
end Go.Proofs.YtegmjlblehjccaaGreat
end

section
/- Walks: dual designs of the program. -/
namespace Go.Proofs.YtegmjlblehjccaaGreat
set_option linter.unusedSimpArgs false
set_option linter.unusedVariables false
open Go.RowKit
attribute [local go_sem ↓] Go.wp_at_zero Go.wp_at_succ

/-- the numbers of the first k blocks that hold the point x -/
def dua (A : List (List Int)) (x : Nat) : Nat → List Int
  | 0 => []
  | k + 1 => dua A x k ++ if (x : Int) ∈ xat A k then [(k : Int)] else []
def duaL (P : Nat) (A : List (List Int)) : List (List Int) := (List.range P).map fun x => dua A x A.length
def duP (A : List (List Int)) (k j x : Nat) : List Int := dua A x k ++ if (x : Int) ∈ (xat A k).take j then [(k : Int)] else []
structure DuS (P : Nat) (A : List (List Int)) (k j : Nat) (M : List (List Int)) : Prop where
  len : M.length = P
  at' : ∀ x, x < P → xat M x = duP A k j x
theorem DuS.start (P : Nat) (A : List (List Int)) : DuS P A 0 0 (List.replicate P []) :=
  ⟨by simp, fun x hx => by rw [xat_eq (by simpa using hx)]; simp [duP, dua]⟩
theorem DuS.step {P : Nat} {A : List (List Int)} {k j x : Nat} {M : List (List Int)} (h : DuS P A k j M) (hi : Inc P (xat A k)) (hj : j < (xat A k).length) (hx : nth (xat A k) j = x) (hxP : x < P) : DuS P A k (j + 1) (M.set x (xat M x ++ [(k : Int)])) := by
  refine ⟨by rw [List.length_set]; exact h.len, fun y hy => ?_⟩
  have hm := mem_take1 hj (y : Int)
  rw [hx] at hm
  rw [xat_setA (by rw [h.len]; exact hxP)]
  by_cases e : x = y
  · subst e
    have hf := hi.fresh hj
    rw [hx] at hf
    rw [if_pos rfl, h.at' x hxP]
    unfold duP
    rw [if_neg hf, if_pos (hm.2 (.inr rfl)), List.append_nil]
  · rw [if_neg e, h.at' y hy]
    unfold duP
    by_cases h1 : (y : Int) ∈ (xat A k).take j
    · rw [if_pos h1, if_pos (hm.2 (.inl h1))]
    · rw [if_neg h1, if_neg (fun h2 => (hm.1 h2).elim h1 (fun h3 => e (by omega)))]
theorem DuS.next {P : Nat} {A : List (List Int)} {k : Nat} {M : List (List Int)} (h : DuS P A k (xat A k).length M) : DuS P A (k + 1) 0 M :=
  ⟨h.len, fun x hx => by rw [h.at' x hx]; unfold duP; rw [List.take_length, dua]; simp⟩
theorem DuS.fin {P : Nat} {A : List (List Int)} {M : List (List Int)} (h : DuS P A A.length 0 M) : M = duaL P A := by
  refine List.ext_getElem (by rw [h.len]; simp [duaL]) fun x h1 h2 => ?_
  have hx : x < P := by rw [← h.len]; exact h1
  rw [← xat_eq h1, h.at' x hx]
  simp [duaL, duP]
end Go.Proofs.YtegmjlblehjccaaGreat
end

section
/- Walks: the numbers of points that two blocks share. -/
namespace Go.Proofs.YtegmjlblehjccaaGreat
set_option linter.unusedSimpArgs false
set_option linter.unusedVariables false
open Go.RowKit
attribute [local go_sem ↓] Go.wp_at_zero Go.wp_at_succ
theorem take_vat {us : List Value} {i j : Nat} (h : j < i) : vat ((us.take i).drop 0) j = vat us j := by
  unfold vat
  rw [List.drop_zero, List.getD_eq_getElem?_getD, List.getElem?_take_of_lt h, ← List.getD_eq_getElem?_getD]
end Go.Proofs.YtegmjlblehjccaaGreat
end

section
/- Walks: all quadrilaterals of a triple system, found by the program. -/
namespace Go.Proofs.YtegmjlblehjccaaGreat
set_option linter.unusedSimpArgs false
set_option linter.unusedVariables false
open Go.RowKit
attribute [local go_sem ↓] Go.wp_at_zero Go.wp_at_succ

/-- all quadrilaterals, each at least once -/
def MakesPa (w : World) (A : List (List Int)) (e : Ending) (w' : World) : Prop := ∃ v us R, e = .returned v ∧ RII w' v us R ∧ (∀ q, q ∈ R ↔ IsPas A q) ∧ R.length ≤ 40000 ∧ St w.heap.size w w' []
theorem set_snocE (X : List Ent) (r r' : Ent) : (X ++ [r]).set X.length r' = X ++ [r'] := by
  rw [List.set_append_right _ _ (Nat.le_refl _), Nat.sub_self]; rfl
theorem get_snocE (X : List Ent) (r : Ent) : (X ++ [r])[X.length]? = some r := by simp
theorem trp_incN {a b c : Nat} (h1 : a ≠ b) (h2 : a ≠ c) (h3 : b ≠ c) : (trp a b c).Pairwise (· < ·) := incB_pw (trp_ok (P := a + b + c + 1) (by omega) (by omega) (by omega) h1 h2 h3).2
theorem srt3_trp {b s z : Nat} (h1 : b ≠ s) (h2 : b ≠ z) (h3 : s ≠ z) : srt [(b : Int), (s : Int), (z : Int)] = trp z b s := by
  rw [srt_trp h1 h2 h3]
  exact inc_ext (trp_incN h1 h2 h3) (trp_incN h2.symm h3.symm h1) fun t => by rw [trp_B b s z t, trp_B z b s t]; omega
/-- the indices found are those of the blocks -/
theorem TS.idx3 {P : Nat} {A : List (List Int)} (hT : TS P A) {b s : Nat} (hb : b < P) (hs : s < P) (hne : b ≠ s) : srt [(b : Int), (s : Int), (thF A b s : Int)] ∈ A ∧ srt [(b : Int), (s : Int), (thF A b s : Int)] = trp (thF A b s) b s := by
  have h1 := hT.th_ne hb hs hne
  have e := srt3_trp hne h1.1.symm h1.2.symm
  exact ⟨by rw [e]; exact (hT.thB hb hs hne).1, e⟩
/-- what the loop needs to know of a choice of the second points -/
structure Chs (P : Nat) (A : List (List Int)) (i j a b c s t : Nat) : Prop where
  sP : s < P
  tP : t < P
  bs : b ≠ s
  ct : c ≠ t
  i1 : srt [(b : Int), (s : Int), (thF A b s : Int)] ∈ A
  i2 : srt [(c : Int), (t : Int), (thF A c t : Int)] ∈ A
  sr : thF A b s = thF A c t → srt [(i : Int), (j : Int), (A.idxOf (srt [(b : Int), (s : Int), (thF A b s : Int)]) : Nat), (A.idxOf (srt [(c : Int), (t : Int), (thF A c t : Int)]) : Nat)] = qd4 A i j b c s t
theorem TS.chs {P : Nat} {A : List (List Int)} (hT : TS P A) {i j a b c s t : Nat} (hi : i < A.length) (hj : j < A.length) (h1 : IsB (xat A i) a b c) (h2 : IsB (xat A j) a s t) (hn : [a, b, c, s, t].Nodup) : Chs P A i j a b c s t := by
  obtain ⟨n1, n2, n3, n4, n5, n6, n7, n8, n9, n10⟩ := nd5 hn
  have hb := hT.lt (xat_mem hi) h1.m2
  have hc := hT.lt (xat_mem hi) h1.m3
  have hs := hT.lt (xat_mem hj) h2.m2
  have ht := hT.lt (xat_mem hj) h2.m3
  obtain ⟨a1, a2⟩ := hT.idx3 hb hs n6
  obtain ⟨a3, a4⟩ := hT.idx3 hc ht n9
  refine ⟨hs, ht, n6, n9, a1, a3, fun hf => ?_⟩
  rw [a2, a4, ← hf]
  exact srt_q4s (hT.quad hi hj h1 h2 hn hf).idx
set_option maxHeartbeats 32000000 in
set_option maxRecDepth 100000 in
theorem paschsOf_c (P : Nat) (vd : Value) (ud : List Value) (A : List (List Int)) (w : World) (hd : RII w vd ud A) (hA : TS P A) :
    Calls Tryz.prog 33 #[dv P vd] w (MakesPa w A) := by
  obtain ⟨ad, cd, hsh⟩ := hd.1.sl.sh
  rw [hd.2.1] at hsh
  subst hsh
  have hAl := (dOk_t hA.ok).len
  have hP := hA.p32
  have hS0 := (St.refl w).newboxF 26 #[.int .i64 P, .slice ad A.length cd]
  have b1 := hS0.bcell 0 rfl 1 rfl
  have b0 := hS0.bcell 0 rfl 0 rfl
  have K2 := Lib.hid (fun W (h : RII W (.slice ad A.length cd) ud A) => thirdPoints_c P (.slice ad A.length cd) ud A W h hA)
  have HA := Lib.hid hA
  have Hd := Lib.hid hd
  have hul := Lib.hid hd.2.1
  have hlnD := hd.len
  have hixD := hd.ixe
  have hmf : ∀ (fn : Fn) (first cap : Array Value) (w : World), (Instr.makeFunc fn first cap).run Tryz.prog w = .ok (.func fn first cap) w := fun _ _ _ _ => rfl
  unfold dv at K2 ⊢
  clear hA hd
  have hcf := callFunc_go Tryz.func98 (by kernel_rfl) (by kernel_rfl)
  go_enter Tryz.func33, Tryz.ntmps33
  go_wp2_with fail
  refine (K2.out _ (hS0.oldII Hd.out)).mono ?_
  rintro e w2 ⟨vt, ut, rfl, hlt, h2⟩
  have hS2 := hS0.call h2
  have rt := h2.rii hlt
  rw [sqF_len] at hlt
  have hTl : (sqF P fun x y => (thF A x y : Int)).length = P := sqF_len P _
  obtain ⟨a3, c3, hsh⟩ := rt.1.sl.sh
  rw [rt.2.1, hTl] at hsh
  subst hsh
  have hTr : ∀ x, x < P → (xat (sqF P fun x y => (thF A x y : Int)) x).length = P := fun x hx => (sqF_sqr P _).row x hx
  have hTa : ∀ x y, x < P → y < P → nth (xat (sqF P fun x y => (thF A x y : Int)) x) y = (thF A x y : Int) := fun x y hx hy => at2_sqF hx hy
  generalize (sqF P fun x y => (thF A x y : Int)) = S at *
  have Hix := Lib.hid (fun x y (hx : x < P) (hy : y < P) => (show (∀ W : World, (Instr.indexAt 24 (.slice a3 P c3) (.int .i64 (x : Int))).run Tryz.prog W = .ok (.pointer (some (el (.slice a3 P c3) x))) W) ∧ (∀ W : World, (Instr.indexAt 30 (vat ut x) (.int .i64 (y : Int))).run Tryz.prog W = .ok (.pointer (some (el (vat ut x) y))) W) from
    ⟨fun W => rt.ixe (x : Int) x rfl (by rw [hTl]; exact hx) W, fun W => (rt.row x (by rw [hTl]; exact hx)).ixe (y : Int) y rfl (by rw [hTr x hx]; exact hy) W⟩))
  have h4 := hS2.newboxF 24 #[.slice a3 P c3]
  obtain ⟨LT, hLT⟩ : ∃ LT : List Ent, LT = box 24 w2.heap.size [.slice a3 P c3] :: box 26 w.heap.size [.int .i64 P, .slice ad A.length cd] :: own2 (.slice a3 P c3) ut S := ⟨_, rfl⟩
  have hS4 := h4
  change St w.heap.size w _ (box 24 w2.heap.size [.slice a3 P c3] :: box 26 w.heap.size [.int .i64 P, .slice ad A.length cd] :: own2 (.slice a3 P c3) ut S) at hS4
  rw [← hLT] at hS4
  have HBx := Lib.hid (fun W X (h : St w.heap.size w W (X ++ LT)) => (show W.cell? ⟨w2.heap.size, 0, none⟩ = some (.slice a3 P c3) ∧ BoxD W w.heap.size P (.slice ad A.length cd) ∧ RII W (.slice a3 P c3) ut S from by
    have h' := (h.sub (List.sublist_append_right _ _))
    rw [hLT] at h'
    exact ⟨h'.bcell 0 rfl 0 rfl, ⟨h'.bcell 1 rfl 0 rfl, h'.bcell 1 rfl 1 rfl⟩, (h'.sub ((List.sublist_cons_self _ _).trans (List.sublist_cons_self _ _))).rii (by rw [hlt, hTl])⟩))
  obtain ⟨z1, z2, z3⟩ := HBx.out _ [] hS4
  have z2' := z2.2
  have KI := Lib.hid (fun (x y z : Nat) (hx : x < P) (hy : y < P) (hz : thF A x y = z) (hm : srt [(x : Int), (y : Int), (z : Int)] ∈ A) W X (h : St w.heap.size w W (X ++ LT)) => pas1_c w.heap.size w2.heap.size x y z P (.slice ad A.length cd) (.slice a3 P c3) ud ut A S W (h.oldII Hd.out) (HBx.out W X h).2.1 (HBx.out W X h).1 (HBx.out W X h).2.2 (by rw [hTl]; exact hx) (by rw [hTr x hx]; exact hy) (by rw [hTa x y hx hy, hz]) hm)
  have HC := Lib.hid (fun (x y : Nat) (hx : x < P) (hy : y < P) W X (h : St w.heap.size w W (X ++ LT)) => (show W.cell? (el (.slice a3 P c3) x) = some (vat ut x) ∧ W.cell? (el (vat ut x) y) = some (.int .i64 (thF A x y)) from by
    have hr := (HBx.out W X h).2.2
    refine ⟨hr.cell x (by rw [hTl]; exact hx), ?_⟩
    have := (hr.row x (by rw [hTl]; exact hx)).cell y (by rw [hTr x hx]; exact hy)
    rwa [hTa x y hx hy] at this))
  have hS5 := (hS4.newnil 30).perm (L' := own2 (.slice none 0 0) [] [] ++ LT) (by rw [own2_nil']; exact List.perm_append_comm)
  clear hTl hTr hTa rt h2 hS2 h4 hS4 hLT z2 z3 hlt b0 b1
  go_wp2_with fail
  clear z1 z2'
  go_loopw [22, 5, 6, 7, 8, 9, 10, 11, 12, 14, 15] (fun ii o _ _ _ _ _ _ _ _ _ wr => ∃ (i : Nat) (uo : List Value) (R : List (List Int)), ii = .int .i64 i ∧ i ≤ A.length ∧ Hid (PsD A i 0 R ∧ uo.length = R.length) ∧ St w.heap.size w wr (own2 o uo R ++ LT)) (fun ii _ _ _ _ _ _ _ _ _ _ _ => A.length - (intOf ii).toNat)
  case atStart => exact ⟨0, [], [], rfl, by omega, Lib.hid ⟨PsD.nil A, rfl⟩, hS5⟩
  case round =>
    clear hS5
    obtain ⟨i, uo, R, rfl, hi, hI, hS⟩ := hrel
    by_cases hiA : i < A.length
    · have hii : (i : Int) < (A.length : Int) := by omega
      have xi := hixD (i : Int) i rfl hiA
      have hRw := hS.oldII Hd.out
      have ci := hRw.cell i hiA
      have z2 := (HBx.out _ _ hS).2.1.2
      have hiu : i ≤ ud.length := by rw [hul.out]; omega
      have hsl := rslII_hi hRw.1 i hiu
      have hr2 := rsl_Rd hRw.1 (Nat.zero_le i) hiu
      have hl2' : ((ud.take i).drop 0).length = i := by simp; omega
      have hl2 := fun (ty : TypeId) (W : World) => run_len_sl (P := Tryz.prog) hr2.sl 24 ty Tryz.und_iss W
      have hi2 := run_ix_sl (P := Tryz.prog) hr2.sl 24 Tryz.und_iss Tryz.size_is
      rw [hl2'] at hl2 hi2
      have Hiu := Lib.hid hiu
      clear hr2 hl2' hRw hiu
      go_wp2_with fail
      clear z2
      go_loopw [32, 5, 8, 9, 10, 11, 12, 14, 15] (fun ji o _ _ _ _ _ _ _ wr => ∃ (j : Nat) (uo : List Value) (R : List (List Int)), ji = .int .i64 j ∧ j ≤ i ∧ Hid (PsD A i j R ∧ uo.length = R.length) ∧ St w.heap.size w wr (own2 o uo R ++ LT)) (fun ji _ _ _ _ _ _ _ _ _ => i - (intOf ji).toNat)
      case atStart => exact ⟨0, uo, R, rfl, by omega, hI, hS⟩
      case round =>
        clear hS hI ci
        obtain ⟨j, uo, R, rfl, hj, hI, hS⟩ := hrel
        by_cases hji : j < i
        · have hjii : (j : Int) < (i : Int) := by omega
          have hjA : j < A.length := by omega
          have hRw := hS.oldII Hd.out
          have cj : wr.cell? (el (rsl (.slice ad A.length cd) 0 i) j) = some (vat ud j) := by
            have := Rd.cell (rsl_Rd hRw.1 (Nat.zero_le i) Hiu.out) (i := j) (by simp; have := Hiu.out; omega)
            rw [show ((ud.take i).drop 0).getD j undef = vat ud j from take_vat hji] at this; exact this
          have xj := hi2 .i64 (j : Int) (by omega) (by omega)
          rw [Int.toNat_natCast] at xj
          have KM := Lib.hid (MeetSets_c _ _ _ _ _ (hRw.row i hiA) (hRw.row j hjA))
          rw [show ifSets (xat A i) (xat A j) (mee (xat A i) (xat A j)) = meB (xat A i) (xat A j) from rfl] at KM
          rcases HA.out.pair hiA hjA with hne | ⟨a, b, c, d, e, h5⟩
          · have Hn : Hid (PsD A i (j + 1) R ∧ uo.length = R.length) := Lib.hid ⟨hI.out.1.skip HA.out hiA hjA hne, hI.out.2⟩
            generalize meB (xat A i) (xat A j) = M at *
            have f1 : ((M.length : Int) != 1) = true := ne_t (by omega)
            clear hRw
            go_wp2_with fail
            refine KM.out.mono ?_
            clear KM
            rintro e w5 ⟨vM, rfl, h5⟩
            have lM := (h5.rdI 0 rfl).len
            have hS5 := hS.call h5
            clear hS h5
            go_wp2_with fail
            go_roundw
            case rel => exact ⟨j + 1, uo, R, by go_num, by omega, Hn, hS5.sub (List.sublist_append_left _ _)⟩
            case measure => simp [intOf]; omega
          · rw [h5.me] at KM
            have Hp5 := Lib.hid h5
            have Hn : Hid (PsD A i (j + 1) (R ++ pcR A i j b c d e 2)) := Lib.hid (hI.out.1.step HA.out hiA hjA h5)
            have hC1 := HA.out.chs hiA hjA h5.b1 h5.b2 h5.nd
            have hC2 := HA.out.chs hiA hjA h5.b1 h5.swap.1 h5.swap.2
            have hb := HA.out.lt (xat_mem hiA) h5.b1.m2
            have hc := HA.out.lt (xat_mem hiA) h5.b1.m3
            have hRl := hI.out.1.le
            have hlo := Lib.hid hI.out.2
            have KN1 := Lib.hid (fun W vM (h : RII W (.slice ad A.length cd) ud A) (hm : RdI W vM [(a : Int)]) => MinusSets_c (vat ud i) vM (xat A i) [(a : Int)] W (h.row i hiA) hm)
            have KN2 := Lib.hid (fun W vM (h : RII W (.slice ad A.length cd) ud A) (hm : RdI W vM [(a : Int)]) => MinusSets_c (vat ud j) vM (xat A j) [(a : Int)] W (h.row j hjA) hm)
            rw [show ifSets (xat A i) [(a : Int)] (min' (xat A i) [(a : Int)]) = mnB (xat A i) [(a : Int)] from rfl, h5.m1] at KN1
            rw [show ifSets (xat A j) [(a : Int)] (min' (xat A j) [(a : Int)]) = mnB (xat A j) [(a : Int)] from rfl, h5.m2] at KN2
            have HC1 := Lib.hid hC1
            have HC2 := Lib.hid hC2
            have hHI := Lib.hid hI.out.1
            clear hRw h5 hC1 hC2 hI
            go_wp2_with fail
            refine KM.out.mono ?_
            clear KM
            rintro e5 w5 ⟨vM, rfl, h5⟩
            have lM := (h5.rdI 0 rfl).len
            simp only [List.length_singleton] at lM
            have hS5 := hS.call h5
            have K1 := Lib.hid (KN1.out w5 vM (hS5.oldII Hd.out) (h5.rdI 0 rfl))
            clear hS KN1
            go_wp2_with fail
            refine K1.out.mono ?_
            clear K1
            rintro e6 w6 ⟨vp, rfl, h6⟩
            have hS6 := hS5.call h6
            have K1 := Lib.hid (KN2.out w6 vM (hS6.oldII Hd.out) (h6.oldI (h5.rdI 0 rfl)))
            clear hS5 KN2
            go_wp2_with fail
            refine K1.out.mono ?_
            clear K1
            rintro e7 w7 ⟨vq, rfl, h7⟩
            have hS7 := hS6.call h7
            obtain ⟨aq, cq, hsh⟩ := (h7.rdI 0 rfl).sl.sh
            rw [iv_len, show ([(d : Int), (e : Int)] : List Int).length = 2 from rfl] at hsh
            subst hsh
            have xq := (h7.rdI 0 rfl).ixe
            have cq0 := (h7.rdI 0 rfl).cell 0 (by simp)
            have cq1 := (h7.rdI 0 rfl).cell 1 (by simp)
            rw [show nth [(d : Int), (e : Int)] 0 = d from rfl] at cq0
            rw [show nth [(d : Int), (e : Int)] 1 = e from rfl] at cq1
            have x0 := xq 0 0 rfl (by simp)
            have x1 := xq 1 1 rfl (by simp)
            have hS8 := ((hS7.drew).new 2 #[.int .i64 (e : Int), .int .i64 (d : Int)] (by simp [maxLen])).new 30 #[.slice aq 2 cq, .slice (some ⟨w7.heap.size, 0, none⟩) 2 2] (by simp [maxLen])
            obtain ⟨E, hE⟩ : ∃ E : List Ent, E = [row 2 vM (iv [(a : Int)]), row 2 vp (iv [(b : Int), (c : Int)]), row 2 (.slice aq 2 cq) (iv [(d : Int), (e : Int)]), row 2 (.slice (some ⟨w7.heap.size, 0, none⟩) 2 2) (iv [(e : Int), (d : Int)]), row 30 (.slice (some ⟨w7.heap.size + 1, 0, none⟩) 2 2) [.slice aq 2 cq, .slice (some ⟨w7.heap.size, 0, none⟩) 2 2]] := ⟨_, rfl⟩
            simp only [World.size_alloc] at hS8
            have hS9 := hS8.perm (L' := own2 u5 uo (R ++ pcR A i j b c d e 0) ++ (LT ++ E)) (by
              rw [hE, show R ++ pcR A i j b c d e 0 = R from List.append_nil R]
              refine List.Perm.of_eq ?_
              simp only [List.append_assoc, List.cons_append, List.nil_append]
              rfl)
            have HE := Lib.hid (fun W X (h : St w.heap.size w W (X ++ (LT ++ E))) => (show RdI W vp [(b : Int), (c : Int)] ∧ RdI W (.slice aq 2 cq) [(d : Int), (e : Int)] ∧ RdI W (.slice (some ⟨w7.heap.size, 0, none⟩) 2 2) [(e : Int), (d : Int)] ∧ Rd W (.slice (some ⟨w7.heap.size + 1, 0, none⟩) 2 2) [.slice aq 2 cq, .slice (some ⟨w7.heap.size, 0, none⟩) 2 2] from by
              have h' := h.sub ((List.sublist_append_right LT E).trans (List.sublist_append_right X _))
              rw [hE] at h'
              exact ⟨h'.rdI 1 rfl, h'.rdI 2 rfl, h'.rdI 3 rfl, h'.rd 4 rfl⟩))
            have HLT := Lib.hid (fun W X (h : St w.heap.size w W (X ++ (LT ++ E))) => (show St w.heap.size w W (X ++ LT) from h.sub ((List.sublist_append_left LT E).append_left X)))
            have xrr := run_ix_sl (P := Tryz.prog) (HE.out _ _ hS9).2.2.2.sl 24 Tryz.und_iss Tryz.size_is
            have xp := (HE.out _ _ hS9).1.ixe
            have xp0 := xp 0 0 rfl (by simp)
            have xp1 := xp 1 1 rfl (by simp)
            have Hxr := Lib.hid (fun (r : Nat) (hr : r < 2) => (show ∃ (vr : Value) (s t : Nat), (∀ W X, St w.heap.size w W (X ++ (LT ++ E)) → W.cell? (el (.slice (some ⟨w7.heap.size + 1, 0, none⟩) 2 2) r) = some vr ∧ RdI W vr [(s : Int), (t : Int)]) ∧ pcR A i j b c d e (r + 1) = pcR A i j b c d e r ++ pcX A i j b c s t ∧ Chs P A i j a b c s t from by
              rcases (show r = 0 ∨ r = 1 by omega) with rfl | rfl
              · exact ⟨_, d, e, fun W X h => ⟨(HE.out W X h).2.2.2.2 0 _ rfl, (HE.out W X h).2.1⟩, rfl, HC1.out⟩
              · exact ⟨_, e, d, fun W X h => ⟨(HE.out W X h).2.2.2.2 1 _ rfl, (HE.out W X h).2.2.1⟩, rfl, HC2.out⟩))
            have hlo0 : Hid (uo.length = (R ++ pcR A i j b c d e 0).length) := by rw [show R ++ pcR A i j b c d e 0 = R from List.append_nil R]; exact hlo
            have hpl : ∀ r, (pcR A i j b c d e r).length ≤ 2 := fun r => by
              have l1 := pcX_len (A := A) i j b c d e
              have l2 := pcX_len (A := A) i j b c e d
              match r with
              | 0 => simp [pcR]
              | 1 => show (pcX A i j b c d e).length ≤ 2; omega
              | r + 2 => show (pcX A i j b c d e ++ pcX A i j b c e d).length ≤ 2; rw [List.length_append]; omega
            have Hpl := Lib.hid hpl
            have hD7 := hS7.drew
            clear h5 h6 h7 hS6 hS7 hS8 hE xp xq hpl hlo
            go_wp2_with fail
            go_region_held3 (fun w' => w'.cell? (el (.slice aq 2 cq) 0) = some (.int .i64 (d : Int)) ∧ w'.cell? (el (.slice aq 2 cq) 1) = some (.int .i64 (e : Int))) (((try dsimp only); (repeat' apply And.intro); all_goals (repeat (first | assumption | exact cell_dr (by assumption) | refine cell_dr ?_ | refine cell_al ?_ | refine cell_sc (by assumption) ?_)))) (fail)
            go_wp2_with fail
            clear cq0 cq1 x0 x1 hD7
            go_loopw [59, 5, 14, 15] (fun ri o _ _ wr => ∃ (r : Nat) (uo : List Value), ri = .int .i64 r ∧ r ≤ 2 ∧ Hid (uo.length = (R ++ pcR A i j b c d e r).length) ∧ St w.heap.size w wr (own2 o uo (R ++ pcR A i j b c d e r) ++ (LT ++ E))) (fun ri _ _ _ _ => 2 - (intOf ri).toNat)
            case atStart => exact ⟨0, uo, rfl, by omega, hlo0, hS9⟩
            case round =>
              clear hS9 hlo0
              obtain ⟨r, uo, rfl, hr, hlo, hS⟩ := hrel
              by_cases hr2 : r < 2
              · have hri : (r : Int) < 2 := by omega
                obtain ⟨vr, s, t, hcr, hst, hch⟩ := Hxr.out r hr2
                have xr := xrr .i64 (r : Int) (by omega) (by simp; omega)
                rw [Int.toNat_natCast] at xr
                have cr := (hcr _ _ hS).1
                have Hcr := Lib.hid hcr
                have Hst := Lib.hid hst
                have hsP := hch.sP
                have htP := hch.tP
                have xv := (hcr _ _ hS).2.ixe
                have xv0 := xv 0 0 rfl (by simp)
                have xv1 := xv 1 1 rfl (by simp)
                obtain ⟨y1, y2⟩ := Hix.out b s hb hsP
                obtain ⟨y3, y4⟩ := Hix.out c t hc htP
                obtain ⟨m1, hm1⟩ : ∃ m, thF A b s = m := ⟨_, rfl⟩
                obtain ⟨m2, hm2⟩ : ∃ m, thF A c t = m := ⟨_, rfl⟩
                have hsr := hch.sr
                have hi1 := hch.i1
                have hi2' := hch.i2
                rw [hm1, hm2] at hsr
                rw [hm1] at hi1
                rw [hm2] at hi2'
                have KI1 := Lib.hid (KI.out b s m1 hb hsP hm1 hi1)
                have KI2 := Lib.hid (KI.out c t m2 hc htP hm2 hi2')
                obtain ⟨k1, hk1⟩ : ∃ k, A.idxOf (srt [(b : Int), (s : Int), (m1 : Int)]) = k := ⟨_, rfl⟩
                obtain ⟨k2, hk2⟩ : ∃ k, A.idxOf (srt [(c : Int), (t : Int), (m2 : Int)]) = k := ⟨_, rfl⟩
                rw [hk1] at KI1
                rw [hk2] at KI2
                rw [hk1, hk2] at hsr
                have Hsr := Lib.hid hsr
                have HCe := Lib.hid (fun W X (h : St w.heap.size w W (X ++ (LT ++ E))) => (show (W.cell? ⟨w2.heap.size, 0, none⟩ = some (.slice a3 P c3) ∧ W.cell? (el vp 0) = some (.int .i64 b) ∧ W.cell? (el vp 1) = some (.int .i64 c) ∧ W.cell? (el vr 0) = some (.int .i64 s) ∧ W.cell? (el vr 1) = some (.int .i64 t)) ∧ W.cell? (el (.slice a3 P c3) b) = some (vat ut b) ∧ W.cell? (el (.slice a3 P c3) c) = some (vat ut c) ∧ W.cell? (el (vat ut b) s) = some (.int .i64 m1) ∧ W.cell? (el (vat ut c) t) = some (.int .i64 m2) from by
                  have h1 := HLT.out W X h
                  have q1 := HC.out b s hb hsP W X h1
                  have q2 := HC.out c t hc htP W X h1
                  rw [hm1] at q1
                  rw [hm2] at q2
                  have rp := (HE.out W X h).1
                  have rr := (Hcr.out W X h).2
                  exact ⟨⟨(HBx.out W X h1).1, rp.cell 0 (by simp), rp.cell 1 (by simp), rr.cell 0 (by simp), rr.cell 1 (by simp)⟩, q1.1, q2.1, q1.2, q2.2⟩))
                have Hpx : Hid (pcX A i j b c s t = if m1 = m2 then [qd4 A i j b c s t] else []) := Lib.hid (by rw [pcX, hm1, hm2])
                obtain ⟨L, hL⟩ : ∃ L, L = own2 u5 uo (R ++ pcR A i j b c d e r) ++ (LT ++ E) := ⟨_, rfl⟩
                have HL := Lib.hid hL
                rw [← hL] at hS
                have HQ := Lib.hid (fun W (h : St w.heap.size w W L) => HCe.out W (own2 u5 uo (R ++ pcR A i j b c d e r)) (by rw [hL] at h; exact h))
                have g1 := fun q : SS w.heap.size w L => (HQ.out q.w q.st).1.1
                have g2 := fun q : SS w.heap.size w L => (HQ.out q.w q.st).1.2.1
                have g3 := fun q : SS w.heap.size w L => (HQ.out q.w q.st).1.2.2.1
                have g4 := fun q : SS w.heap.size w L => (HQ.out q.w q.st).1.2.2.2.1
                have g5 := fun q : SS w.heap.size w L => (HQ.out q.w q.st).1.2.2.2.2
                have g6 := fun q : SS w.heap.size w L => (HQ.out q.w q.st).2.1
                have g7 := fun q : SS w.heap.size w L => (HQ.out q.w q.st).2.2.1
                have g8 := fun q : SS w.heap.size w L => (HQ.out q.w q.st).2.2.2.1
                have g9 := fun q : SS w.heap.size w L => (HQ.out q.w q.st).2.2.2.2
                have hrl := Hpl.out r
                clear hcr hst hch hm1 hm2 hsr hi1 hi2' hk1 hk2 hL xv
                by_cases hmm : m1 = m2
                · have fm : ((m1 : Int) == (m2 : Int)) = true := eq_t (by omega)
                  have Hmm := Lib.hid hmm
                  clear hmm
                  go_wp2_with fail
                  have hne : Nonempty (SS _ _ _) := ⟨⟨_, hS⟩⟩
                  refine wp_region_st (by kernel_rfl) (by kernel_rfl) hS ?_
                  repeat (go_big_quiet_step (fail))
                  refine wpQuiet_nil ?_
                  rintro _ ⟨s2, rfl⟩
                  have hS3 := s2.st
                  generalize s2.w = w3 at hS3 ⊢
                  go_wp2_with fail
                  rw [HL.out] at hS3
                  obtain ⟨_, e1, e2, e3, e4⟩ := (HCe.out w3 _ hS3).1
                  have hd3 := hS3.drew
                  clear g1 g2 g3 g4 g5 g6 g7 g8 g9
                  go_region_held3 (fun w' => w'.cell? (el vp 0) = some (.int .i64 b) ∧ w'.cell? (el vp 1) = some (.int .i64 c) ∧ w'.cell? (el vr 0) = some (.int .i64 s) ∧ w'.cell? (el vr 1) = some (.int .i64 t)) (((try dsimp only); (repeat' apply And.intro); all_goals (repeat (first | assumption | exact cell_dr (by assumption) | refine cell_dr ?_ | refine cell_al ?_ | refine cell_sc (by assumption) ?_)))) (first
                    | (have hz := hS4; clear hz; go_at_call 98; refine (KI2.out _ _ (HLT.out _ _ hS4)).mono ?_; rintro e5 w5 ⟨rfl, h5⟩; have hS5 := hS4.call0 h5; have e1 := cell_keepT h5.below e1; have e2 := cell_keepT h5.below e2; have e3 := cell_keepT h5.below e3; have e4 := cell_keepT h5.below e4)
                    | (go_at_call 98; refine (KI1.out _ _ (HLT.out _ _ hd3)).mono ?_; rintro e5 w4 ⟨rfl, h4⟩; have hS4 := hd3.call0 h4; have e1 := cell_keepT h4.below (cell_dr e1); have e2 := cell_keepT h4.below (cell_dr e2); have e3 := cell_keepT h4.below (cell_dr e3); have e4 := cell_keepT h4.below (cell_dr e4)))
                  have hS6 := hS5.new 2 #[.int .i64 i, .int .i64 j, .int .i64 k1, .int .i64 k2] (by simp [maxLen])
                  have hst' : R ++ pcR A i j b c d e (r + 1) = R ++ pcR A i j b c d e r ++ [qd4 A i j b c s t] := by rw [Hst.out, Hpx.out, if_pos Hmm.out, List.append_assoc]
                  have Hst2 := Lib.hid hst'
                  have hN := Lib.hid (show uo.length < 4294967296 by rw [hlo.out, List.length_append]; omega)
                  have KS := Lib.hid (Sort_c hS6 (own2 u5 uo (R ++ pcR A i j b c d e r) ++ (LT ++ E)).length (xs := [(i : Int), (j : Int), (k1 : Int), (k2 : Int)]) (get_snocE _ _) (by simp))
                  clear hst' hS3 hd3 hS4 hS5 hS6 e1 e2 e3 e4 h4 h5
                  go_wp2_with fail
                  refine KS.out.mono ?_
                  clear KS
                  rintro e6 w6 ⟨rfl, h6⟩
                  rw [set_snocE, Hsr.out Hmm.out] at h6
                  go_wp2_with (at_builtin; refine appII h6 0 rfl hN.out rfl _ _ rfl rfl _ rfl (by first | rfl | simp [Act.eval, World.size_alloc]) ?_; intro v8 w8 hS8)
                  have hS9 := own2_snocP hlo.out hS8
                  rw [← Hst2.out] at hS9
                  go_roundw
                  case rel => exact ⟨r + 1, _, by go_num, by omega, by rw [Hid, Hst2.out, List.length_append, List.length_append, hlo.out]; rfl, hS9⟩
                  case measure => simp [intOf]; omega
                · have fm : ((m1 : Int) == (m2 : Int)) = false := eq_f (by omega)
                  have Hmm := Lib.hid hmm
                  clear hmm
                  go_wp2_with fail
                  have hne : Nonempty (SS _ _ _) := ⟨⟨_, hS⟩⟩
                  refine wp_region_st (by kernel_rfl) (by kernel_rfl) hS ?_
                  repeat (go_big_quiet_step (fail))
                  refine wpQuiet_nil ?_
                  rintro _ ⟨s2, rfl⟩
                  have hS3 := s2.st
                  generalize s2.w = w3 at hS3 ⊢
                  go_wp2_with fail
                  rw [HL.out] at hS3
                  have hpe : pcR A i j b c d e (r + 1) = pcR A i j b c d e r := by rw [Hst.out, Hpx.out, if_neg Hmm.out, List.append_nil]
                  rw [← hpe] at hS3
                  have hlo3 : Hid (uo.length = (R ++ pcR A i j b c d e (r + 1)).length) := by rw [hpe]; exact hlo
                  clear hpe
                  go_roundw
                  case rel => exact ⟨r + 1, uo, by go_num, by omega, hlo3, hS3⟩
                  case measure => simp [intOf]; omega
              · obtain rfl : r = 2 := by omega
                go_wp2_with fail
                go_roundw
                case rel => exact ⟨j + 1, uo, _, by go_num, by omega, Lib.hid ⟨Hn.out, hlo.out⟩, HLT.out _ _ hS⟩
                case measure => simp [intOf]; omega
        · obtain rfl : j = i := by omega
          have Hn : Hid (PsD A (j + 1) 0 R ∧ uo.length = R.length) := Lib.hid ⟨hI.out.1.next (by omega), hI.out.2⟩
          go_wp2_with fail
          go_roundw
          case rel => exact ⟨j + 1, uo, R, by go_num, by omega, Hn, hS⟩
          case measure => simp [intOf]; omega
    · obtain rfl : i = A.length := by omega
      have hle := hI.out.1.le
      have HF := Lib.hid (fun q => hI.out.1.fin q)
      have hll := hI.out.2
      have KS := Lib.hid (SortRows_c hS hll (by omega))
      have Hle := Lib.hid (show R.length ≤ 40000 by omega)
      clear hI hll hle hS
      go_wp2_with fail
      refine KS.out.mono ?_
      clear KS
      rintro e3 w3 ⟨us', rfl, hl3, h3⟩
      have hl3' : us'.length = (srtL R).length := by rw [hl3, srtL_len]
      have KC := Lib.hid (CompactR_c (N := rowsI us' (srtL R) ++ LT) u5 us' (srtL R) h3 hl3' (fun W h j hj => h.rdI j (e := 2) (by rw [List.getElem?_append_left (by rw [rowsI_len hl3']; exact hj)]; exact rowsI_get hl3' hj)) (by rw [srtL_len]; have := Hle.out; omega))
      clear h3 hl3 hl3'
      go_wp2_with fail
      refine KC.out.mono ?_
      clear KC
      rintro e4 w4 ⟨v4, us4, R4, rfl, r4, hm4, hl4, h4⟩
      have HR := Lib.hid (And.intro r4 (And.intro hm4 hl4))
      clear r4 hm4 hl4
      go_wp2_with fail
      go_ret
      refine ⟨v4, us4, R4, rfl, HR.out.1, fun q => ?_, ?_, h4.out⟩
      · rw [HR.out.2.1 q, (srtL_perm R).mem_iff]; exact HF.out q
      · have h1 := HR.out.2.2; rw [srtL_len] at h1; have := Hle.out; omega
end Go.Proofs.YtegmjlblehjccaaGreat
end

section
/- Plain: the switching of a quadrilateral by the program. -/
namespace Go.Proofs.YtegmjlblehjccaaGreat
set_option linter.unusedSimpArgs false
set_option linter.unusedVariables false
open Go

/-- the points of the first t blocks, and of those with the point a -/
def unQ (A : List (List Int)) (q : List Int) : Nat → List Int
  | 0 => []
  | t + 1 => uni (unQ A q t) (xat A (nth q t).toNat)
def wtQ (A : List (List Int)) (q : List Int) (a : Int) : Nat → List Int
  | 0 => []
  | t + 1 => if a ∈ xat A (nth q t).toNat then uni (wtQ A q a t) (xat A (nth q t).toNat) else wtQ A q a t
/-- blocks of which the first t are switched -/
def bkQ (A : List (List Int)) (q : List Int) (a f : Int) : Nat → List (List Int)
  | 0 => A
  | t + 1 => (bkQ A q a f t).set (nth q t).toNat (swB a f (xat A (nth q t).toNat))
theorem bkQ_len (A : List (List Int)) (q : List Int) (a f : Int) : ∀ t, (bkQ A q a f t).length = A.length
  | 0 => rfl
  | t + 1 => by rw [bkQ, List.length_set, bkQ_len A q a f t]
theorem ifSets_yes {x y r : List Int} (hx : IsSet x) (hy : IsSet y) : ifSets x y r = r := if_pos ⟨hx, hy⟩
theorem nil_set : IsSet [] := rfl
section
variable {P : Nat} {A : List (List Int)} {q : List Int} {i j k l a b c d e f : Nat}
theorem Pas.blk (hT : TS P A) (h : Pas A q i j k l a b c d e f) {t : Nat} (ht : t < 4) : IsSet (xat A (nth q t).toNat) := by
  obtain ⟨m, hm, hl, _⟩ := h.qi ht
  rw [hm, Int.toNat_natCast]; exact hT.in32 (xat_mem hl)
theorem Pas.unS (hT : TS P A) (h : Pas A q i j k l a b c d e f) : ∀ t, t ≤ 4 → IsSet (unQ A q t) ∧ ∀ z, z ∈ unQ A q t ↔ ∃ s, s < t ∧ z ∈ xat A (nth q s).toNat
  | 0, _ => ⟨nil_set, fun z => ⟨fun h => absurd h (by simp [unQ, wtQ]), fun ⟨s, hs, _⟩ => absurd hs (by omega)⟩⟩
  | t + 1, ht => by
    obtain ⟨h1, h2⟩ := Pas.unS hT h t (by omega)
    have h3 := h.blk hT (t := t) (by omega)
    refine ⟨by rw [unQ]; exact isSet_upF _, fun z => ?_⟩
    rw [unQ, mem_uni h1 h3, h2]
    constructor
    · rintro (⟨s, hs, hz⟩ | hz)
      · exact ⟨s, by omega, hz⟩
      · exact ⟨t, by omega, hz⟩
    · rintro ⟨s, hs, hz⟩
      by_cases e : s = t
      · subst e; exact .inr hz
      · exact .inl ⟨s, by omega, hz⟩
theorem Pas.wtS (hT : TS P A) (h : Pas A q i j k l a b c d e f) (y : Int) : ∀ t, t ≤ 4 → IsSet (wtQ A q y t) ∧ ∀ z, z ∈ wtQ A q y t ↔ ∃ s, s < t ∧ y ∈ xat A (nth q s).toNat ∧ z ∈ xat A (nth q s).toNat
  | 0, _ => ⟨nil_set, fun z => ⟨fun h => absurd h (by simp [unQ, wtQ]), fun ⟨s, hs, _⟩ => absurd hs (by omega)⟩⟩
  | t + 1, ht => by
    obtain ⟨h1, h2⟩ := Pas.wtS hT h y t (by omega)
    have h3 := h.blk hT (t := t) (by omega)
    rw [wtQ]
    by_cases hy : y ∈ xat A (nth q t).toNat
    · rw [if_pos hy]
      refine ⟨isSet_upF _, fun z => ?_⟩
      rw [mem_uni h1 h3, h2]
      constructor
      · rintro (⟨s, hs, hz⟩ | hz)
        · exact ⟨s, by omega, hz⟩
        · exact ⟨t, by omega, hy, hz⟩
      · rintro ⟨s, hs, hz⟩
        by_cases e : s = t
        · subst e; exact .inr hz.2
        · exact .inl ⟨s, by omega, hz⟩
    · rw [if_neg hy]
      refine ⟨h1, fun z => ?_⟩
      rw [h2]
      constructor
      · rintro ⟨s, hs, hz⟩; exact ⟨s, by omega, hz⟩
      · rintro ⟨s, hs, hz⟩
        by_cases e : s = t
        · subst e; exact absurd hz.1 hy
        · exact ⟨s, by omega, hz⟩
theorem Pas.some (h : Pas A q i j k l a b c d e f) (p : Nat → Prop) : (∃ s, s < 4 ∧ p (nth q s).toNat) ↔ (p i ∨ p j ∨ p k ∨ p l) := by
  constructor
  · rintro ⟨s, hs, hp⟩
    obtain ⟨m, hm, _, he⟩ := h.qi hs
    rw [hm, Int.toNat_natCast] at hp
    rcases he with rfl | rfl | rfl | rfl
    · exact .inl hp
    · exact .inr (.inl hp)
    · exact .inr (.inr (.inl hp))
    · exact .inr (.inr (.inr hp))
  · intro hp
    have key : ∀ m, (m = i ∨ m = j ∨ m = k ∨ m = l) → p m → ∃ s, s < 4 ∧ p (nth q s).toNat := fun m hm hpm => by
      obtain ⟨t, ht, e⟩ := h.onto hm
      exact ⟨t, ht, by rw [e, Int.toNat_natCast]; exact hpm⟩
    rcases hp with hp | hp | hp | hp
    · exact key i (by simp) hp
    · exact key j (by simp) hp
    · exact key k (by simp) hp
    · exact key l (by simp) hp
/-- the opposite point is what is left -/
theorem Pas.opp (hT : TS P A) (h : Pas A q i j k l a b c d e f) : mnB (unQ A q 4) (wtQ A q a 4) = [(f : Int)] := by
  obtain ⟨h1, h2⟩ := h.unS hT 4 (Nat.le_refl _)
  obtain ⟨h3, h4⟩ := h.wtS hT a 4 (Nat.le_refl _)
  unfold mnB
  rw [ifSets_yes h1 h3]
  refine inc_ext (incB_pw (isSet_upF _)) (by simp) fun z => ?_
  rw [mem_min h1, h2, h4, h.some fun m => z ∈ xat A m, h.some fun m => (a : Int) ∈ xat A m ∧ z ∈ xat A m, List.mem_singleton]
  have n1 := h.b3.no h.nd.af h.nd.ab h.nd.ad
  have n2 := h.b4.no h.nd.af h.nd.ac h.nd.ae
  have m1 := h.b1.m1
  have m2 := h.b2.m1
  simp only [m1, m2, n1, n2, true_and, false_and, or_false]
  rw [h.b1 z, h.b2 z, h.b3 z, h.b4 z]
  have g1 := h.nd.af; have g2 := h.nd.bf; have g3 := h.nd.cf; have g4 := h.nd.df; have g5 := h.nd.ef
  omega
/-- the exchange as a permutation -/
def trpP (P a f : Nat) : List Int := ((iot P).set a (f : Int)).set f (a : Int)
theorem trpP_len (P a f : Nat) : (trpP P a f).length = P := by unfold trpP; rw [List.length_set, List.length_set, iot_len]
theorem nth_trpP {P a f z : Nat} (ha : a < P) (hf : f < P) (hz : z < P) (hne : a ≠ f) : nth (trpP P a f) z = exP a f z := by
  unfold trpP exP
  rw [nth_set (by rw [List.length_set, iot_len]; exact hf), nth_set (by rw [iot_len]; exact ha), nth_iot hz]
  by_cases e1 : f = z
  · subst e1; rw [if_pos rfl, if_neg (by omega), if_pos rfl]
  · rw [if_neg e1]
    by_cases e2 : a = z
    · subst e2; rw [if_pos rfl, if_pos rfl]
    · rw [if_neg e2, if_neg (by omega), if_neg (by omega)]
theorem imL_trp {P a f : Nat} {B : List Int} (hB : incB (-1) P B = true) (hP : P ≤ 32) (ha : a < P) (hf : f < P) (hne : a ≠ f) : imL (trpP P a f) B = swB a f B := by
  have hin : ∀ t ∈ B, 0 ≤ t ∧ t < (P : Int) := fun t ht => by have := incB_gt hB t ht; omega
  have hval : ∀ t ∈ B, nth (trpP P a f) t.toNat = exP a f t := fun t ht => by
    have := hin t ht
    obtain ⟨n, rfl⟩ := Int.eq_ofNat_of_zero_le this.1
    rw [Int.toNat_natCast]; exact nth_trpP ha hf (by omega) hne
  have hmem : ∀ z, z ∈ (B.map fun x => nth (trpP P a f) x.toNat) ↔ exP a f z ∈ B := fun z => by
    rw [List.mem_map]
    constructor
    · rintro ⟨t, ht, rfl⟩; rw [hval t ht, exP_exP]; exact ht
    · intro h; exact ⟨exP a f z, h, by rw [hval _ h, exP_exP]⟩
  have hnd : (B.map fun x => nth (trpP P a f) x.toNat).Nodup := by
    rw [List.nodup_iff_pairwise_ne, List.pairwise_map]
    refine (List.Pairwise.and_mem.1 (incB_pw hB)).imp ?_
    rintro x y ⟨hx, hy, hlt⟩ e
    rw [hval x hx, hval y hy] at e
    have : exP a f (exP a f x) = exP a f (exP a f y) := by rw [e]
    rw [exP_exP, exP_exP] at this; omega
  unfold imL
  have h1 : (srt (B.map fun x => nth (trpP P a f) x.toNat)).Nodup := (srt_perm _).nodup_iff.2 hnd
  refine inc_ext (pw_lt (srt_up _) h1) (incB_pw (isSet_upF _)) fun z => ?_
  rw [(srt_perm _).mem_iff, hmem, swB_mem (fun t ht => by have := hin t ht; omega) (by omega) (by omega)]
theorem bkQ_at (h : Pas A q i j k l a b c d e f) (x y : Int) : ∀ t, t ≤ 4 → ∀ m, m < A.length → xat (bkQ A q x y t) m = if (m : Int) ∈ q.take t then swB x y (xat A m) else xat A m
  | 0, _, m, hm => by rw [List.take_zero, if_neg (by simp)]; rfl
  | t + 1, ht, m, hm => by
    have ih := bkQ_at h x y t (by omega) m hm
    obtain ⟨n, hn, hnl, _⟩ := h.qi (t := t) (by omega)
    have hq4 := h.ql
    rw [bkQ, hn, Int.toNat_natCast, take_nth (show t < q.length by omega), hn]
    have e1 : xat ((bkQ A q x y t).set n (swB x y (xat A n))) m = if n = m then swB x y (xat A n) else xat (bkQ A q x y t) m := by
      unfold xat
      rw [List.getD_eq_getElem?_getD, List.getElem?_set]
      by_cases e : n = m
      · subst e
        rw [if_pos rfl, if_pos (by rw [bkQ_len]; exact hm), if_pos rfl]; rfl
      · rw [if_neg e, if_neg e, List.getD_eq_getElem?_getD]
    rw [e1]
    by_cases e : n = m
    · subst e; rw [if_pos rfl, if_pos (by simp)]
    · rw [if_neg e, ih]
      have : ((m : Int) ∈ q.take t ++ [(n : Int)]) ↔ (m : Int) ∈ q.take t := by
        rw [List.mem_append, List.mem_singleton]
        constructor
        · rintro (h | h)
          · exact h
          · omega
        · exact .inl
      by_cases h1 : (m : Int) ∈ q.take t
      · rw [if_pos h1, if_pos (this.2 h1)]
      · rw [if_neg h1, if_neg fun h2 => h1 (this.1 h2)]
theorem Pas.bk4 (hT : TS P A) (h : Pas A q i j k l a b c d e f) : bkQ A q a f 4 = swQ A q a f := by
  have hl : (swQ A q a f).length = A.length := by unfold swQ; rw [List.length_map]
  apply List.ext_getElem
  · rw [bkQ_len, hl]
  · intro m h1 h2
    rw [bkQ_len] at h1
    have e1 := bkQ_at h a f 4 (Nat.le_refl _) m h1
    have e2 := h.row hT h1
    rw [List.take_of_length_le (by rw [h.ql]; exact Nat.le_refl _)] at e1
    rw [← xat_eq, ← xat_eq, e1, e2]
theorem Pas.bkt (h : Pas A q i j k l a b c d e f) (x y : Int) {t : Nat} (ht : t < 4) {m : Nat} (hm : nth q t = m) (hmA : m < A.length) : xat (bkQ A q x y t) m = xat A m := by
  rw [bkQ_at h x y t (by omega) m hmA, if_neg]
  intro hmem
  obtain ⟨s, hs, e⟩ := List.getElem_of_mem hmem
  rw [List.length_take, h.ql] at hs
  rw [List.getElem_take] at e
  have hp := h.inc
  rw [List.pairwise_iff_getElem] at hp
  have := hp s t (by rw [h.ql]; omega) (by rw [h.ql]; omega) (by omega)
  rw [e, ← nth_eq, hm] at this; omega
end
end Go.Proofs.YtegmjlblehjccaaGreat
end

section
/- slices.Delete at []int64: a row that a call owns, without one of its numbers. Walks: images of sets, ranks of permutations. -/
namespace Go.Proofs.YtegmjlblehjccaaGreat
set_option linter.unusedSimpArgs false
set_option linter.unusedVariables false
open Go.RowKit
attribute [local go_sem ↓] Go.wp_at_zero Go.wp_at_succ
theorem incB_len : ∀ {xs : List Int} {l n : Int}, incB l n xs = true → l < n → (xs.length : Int) ≤ n - l - 1
  | [], l, n, _, h => by simp; omega
  | x :: t, l, n, h, hl => by
    unfold incB at h; split at h
    · simp at h
    · have := incB_len h (by omega)
      simp; omega
set_option maxHeartbeats 4000000 in
set_option maxRecDepth 100000 in
theorem image_c (v u : Value) (xs ss : List Int) (w : World) (hv : RdI w v xs) (hu : RdI w u ss) (hs : incB (-1) xs.length ss = true) (hN : xs.length ≤ 1000) :
    Calls Tryz.prog 45 #[v, u] w (MakesI w (imL xs ss)) := by
  have hlu := hu.len
  have hiu := hu.ix
  have hix := hv.ix
  have hsl := incB_len hs (by omega)
  have HM := Lib.hid (fun x hx => incB_gt hs x hx)
  have HS := fun {B : Nat} {w0 w : World} {L : List Ent} (hS : St B w0 w L) (i : Nat) {v : Value} {ys : List Int} (hl : ys.length = ss.length) (hi : L[i]? = some (row 2 v (iv ys))) => Lib.hid (Sort_c hS i hi (by omega))
  have HF := Lib.hid (show imL xs ss = srt (ss.map fun x => nth xs x.toNat) from rfl)
  generalize hf : (fun x : Int => nth xs x.toNat) = f at *
  have Hf := Lib.hid (fun x => congrFun hf x)
  clear hf hs
  generalize imL xs ss = R at *
  go_enter Tryz.func45, Tryz.ntmps45
  go_wp2_with fail
  go_loopw [5, 7, 10] (fun o _ x wr => ∃ k : Nat, k ≤ ss.length ∧ x = .int .i64 k ∧ St w.heap.size w wr [row 2 o (iv ((ss.take k).map f))]) (fun _ _ x _ => ss.length - (intOf x).toNat)
  case atStart => exact ⟨0, by omega, rfl, (St.refl w).emp⟩
  case round =>
    obtain ⟨k, hk, rfl, hS⟩ := hrel
    by_cases hlt : k < ss.length
    · have hck := (hS.oldI hu).cell k hlt
      have hm := HM.out _ (nth_mem hlt)
      have hcx := (hS.oldI hv).cell (nth ss k).toNat (by omega)
      rw [Hf.out] at hcx
      have Hst := Lib.hid (show (ss.take (k + 1)).map f = (ss.take k).map f ++ [f (nth ss k)] by rw [take_nth hlt]; simp)
      have Hlt := Lib.hid (show ((ss.take k).map f).length < 4294967296 by simp; omega)
      generalize f (nth ss k) = y at *
      generalize nth ss k = x at *
      obtain ⟨m0, m1⟩ := hm
      have hixx := hix .i64 x (by omega) m1
      go_wp2_with (at_builtin; refine appI hS 0 rfl Hlt.out rfl _ _ rfl rfl _ rfl ?_; intro v' w2 hS2)
      simp only [List.set_cons_zero] at hS2
      rw [← Hst.out] at hS2
      go_roundw
      case rel => exact ⟨k + 1, by omega, by go_num, hS2⟩
      case measure => simp [intOf]; omega
    · obtain rfl : k = ss.length := by omega
      rw [List.take_length] at hS
      go_wp2_with fail
      refine (HS hS 0 (by simp) rfl).out.mono ?_
      rintro e w2 ⟨rfl, hS2⟩
      rw [← HF.out] at hS2
      simp only [List.set_cons_zero] at hS2
      go_wp2_with fail
      go_ret
      exact ⟨_, rfl, hS2⟩
end Go.Proofs.YtegmjlblehjccaaGreat
end
