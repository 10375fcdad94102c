/- Walks: the index of a strength. -/
import Derived.Test.YtcenabaklokhhaaStr2
namespace Go.Proofs.Ytcenabaklokhhaa
set_option linter.unusedSimpArgs false
set_option linter.unusedVariables false
open Go.RowKit
attribute [local go_sem ↓] Go.wp_at_zero Go.wp_at_succ

theorem sizeII_c (v : Value) (us : List Value) (xss : List (List Int)) (w : World) (hv : RII w v us xss) :
    Calls Try.prog 127 #[v] w fun e w' => e = .returned (.int .i64 xss.length) ∧ w = w' := by
  have hln := hv.len
  go_enter Try.func127, Try.ntmps127
  go_wp2_with fail
  go_ret
  exact ⟨rfl, rfl⟩

/-- the index of the strength t, K being the power of the levels -/
noncomputable def strN (lv co : Int) (rows : List (List Int)) (t : Nat) : Int := strG lv co rows t (pu lv 256 t 1)
def subL (co t : Int) (r : Nat) : List Int := if (r : Int) < choose co t then subsAt co t r else []
theorem subL_lt {co t : Int} {r : Nat} (h : (r : Int) < choose co t) : subL co t r = subsAt co t r := by rw [subL, if_pos h]
theorem subL_ge {co t : Int} {r : Nat} (h : ¬ (r : Int) < choose co t) : subL co t r = [] := by rw [subL, if_neg h]

/-- all that holds of the sets of columns -/
theorem subs_ok {co : Nat} {t : Nat} (h : co ≤ 8) (t1 : 1 ≤ t) (t2 : t ≤ co) {r : Nat} (hr : (r : Int) < choose co t) :
    (subsAt co t r).length = t ∧ (∀ c ∈ subsAt co t r, 0 ≤ c ∧ c < co) ∧ nxtV co (subsAt co t r) = if ((r + 1 : Nat) : Int) < choose co t then some (subL co t (r + 1)) else none := by
  have h1 := (subs_small h t1 t2).2 r hr
  have hv : validSetB (subsAt co t r) co = true := by simp only [validSetB, h1.1, Bool.true_and, inB, Bool.and_eq_true, decide_eq_true_eq]; omega
  refine ⟨h1.2.1, (validSetB_t hv).2.2.2, ?_⟩
  rw [nxtV, if_pos hv, h1.2.2]
  push_cast
  by_cases h2 : (r : Int) + 1 < choose co t
  · rw [if_pos h2, if_pos h2, subL, if_pos (by push_cast; exact h2)]; push_cast; rfl
  · rw [if_neg h2, if_neg h2]

theorem strG_small {lv co : Int} {rows : List (List Int)} {t : Nat} (h : (rows.length : Int) < pu lv 256 t 1) : strN lv co rows t = 0 := by rw [strN, strG, if_pos h]
theorem strG_no {lv co : Int} {rows : List (List Int)} {t : Nat} {r : Nat} (hr : (r : Int) < choose co t) (h : evB lv (subsAt co t r) rows (pu lv 256 t 1).toNat = 0) : strN lv co rows t = 0 := by
  rw [strN, strG]
  split
  · rfl
  · rw [if_neg]; intro ha; exact ha r hr h
theorem strG_yes {lv co : Int} {rows : List (List Int)} {t : Nat} (h : ¬ (rows.length : Int) < pu lv 256 t 1) (ha : ∀ r : Nat, (r : Int) < choose co t → evB lv (subsAt co t r) rows (pu lv 256 t 1).toNat ≠ 0) : strN lv co rows t = rows.length / pu lv 256 t 1 := by
  rw [strN, strG, if_neg h, if_pos]; exact ha

set_option maxHeartbeats 4000000 in
set_option maxRecDepth 100000 in
theorem strengthIndex_c (lv : Int) (co : Nat) (v : Value) (us : List Value) (rows : List (List Int)) (t : Nat) (w : World) (hv : RII w v us rows)
    (l1 : 2 ≤ lv) (l2 : lv ≤ 16) (hco : co ≤ 8) (t1 : 1 ≤ t) (t2 : t ≤ co) (hrow : ∀ row ∈ rows, (row.length : Int) = co ∧ ∀ x ∈ row, 0 ≤ x ∧ x ≤ lv - 1) (hlen : rows.length ≤ 256) :
    Calls Try.prog 139 #[av lv co v, .int .i64 t] w (GivesI w (strN lv co rows t)) := by
  have hS0 := (St.refl w).newboxF 47 #[.int .i64 lv, .int .i64 co, v]
  have hpp := pu_pos (base := lv) (lim := 256) (by omega) t (p := 1) (by omega)
  obtain ⟨K, hK⟩ := Int.eq_ofNat_of_zero_le (show 0 ≤ pu lv 256 t 1 by omega)
  have hpow : ∀ W, Hid (Calls Try.prog 135 #[.int .i64 lv, .int .i64 t, .int .i64 256] W fun r w' => r = .returned (.int .i64 K) ∧ W = w') := fun W => by
    have := powerUpTo_c lv t 256 W (by omega) (by omega) (by omega) (by omega) (by omega) (by omega)
    rw [Int.toNat_natCast, hK] at this
    exact this
  have hsz := fun W (h : RII W v us rows) => Lib.hid (sizeII_c v us rows W h)
  have hKp : 0 < K := by omega
  have Hrow := Lib.hid hrow
  have HK := Lib.hid hK
  clear hrow hpp hK
  have a0 := hS0.bcell 0 rfl 0 rfl
  have a1 := hS0.bcell 0 rfl 1 rfl
  have a2 := hS0.bcell 0 rfl 2 rfl
  by_cases hbig : (rows.length : Int) < K
  · have HB := Lib.hid (strG_small (co := co) (show (rows.length : Int) < pu lv 256 t 1 by rw [HK.out]; exact hbig))
    unfold av
    go_enter Try.func139, Try.ntmps139
    go_wp2_with fail
    go_region_held3 (fun w' => w'.cell? ⟨w.heap.size, 0, none⟩ = some (.int .i64 lv) ∧ w'.cell? ⟨w.heap.size, 2, none⟩ = some v) (go_keep)
      (first
      | (go_at_call 127; refine (hsz _ ((hS0.oldII hv).keep (St.refl _).drew.below)).out.mono ?_; rintro e w3 ⟨rfl, rfl⟩)
      | (go_at_call 135; refine (hpow _).out.mono ?_; rintro e w3 ⟨rfl, rfl⟩))
    go_wp2_with fail
    go_ret
    exact ⟨ret_i64 HB.out.symm, hS0.drew.out⟩
  · have hK256 : K ≤ 256 := by omega
    have HP := Lib.hid (show (K : Int) = lv ^ t by
      have := pu_pow (base := lv) (lim := 256) (by omega) t 1 (by omega) (by rw [HK.out]; omega)
      rw [HK.out, Int.one_mul] at this; exact this)
    have HC := Lib.hid (choose_bd co t)
    have HCp := Lib.hid (choose_pos (n := co) (k := t) (by omega) (by omega) (by omega) (by omega))
    have Hsub : Hid (∀ r : Nat, (r : Int) < choose co t → (subsAt co t r).length = t ∧ (∀ c ∈ subsAt co t r, 0 ≤ c ∧ c < co) ∧ nxtV co (subsAt co t r) = if ((r + 1 : Nat) : Int) < choose co t then some (subL co t (r + 1)) else none) := fun r hr => subs_ok hco t1 t2 hr
    have Hid0 := Lib.hid (show idn t = subL co t 0 by rw [subL_lt (by have := HCp.out; push_cast; omega)]; exact (subs_small hco t1 t2).1.symm)
    have Hev : Hid (∀ (r : Nat) (W : World) (vc : Value), (r : Int) < choose co t → RII W v us rows → RdI W vc (subL co t r) → Calls Try.prog 216 #[av lv co v, vc] W (GivesI W (evB lv (subsAt co t r) rows K))) := by
      intro r W vc hr hv hc
      rw [subL_lt hr] at hc
      obtain ⟨s1, s2, _⟩ := Hsub.out r hr
      exact evenly_c lv co v us rows vc _ K W hv hc l1 l2 (by omega) Hrow.out s2 (by rw [s1, HK.out]) hK256 (by rw [s1]; exact HP.out) hlen
    unfold av at Hev ⊢
    go_enter Try.func139, Try.ntmps139
    go_wp2_with fail
    go_region_held3 (fun w' => w'.cell? ⟨w.heap.size, 0, none⟩ = some (.int .i64 lv) ∧ w'.cell? ⟨w.heap.size, 2, none⟩ = some v) (go_keep)
      (first
      | (go_at_call 127; refine (hsz _ ((hS0.oldII hv).keep (St.refl _).drew.below)).out.mono ?_; rintro e w3 ⟨rfl, rfl⟩)
      | (go_at_call 135; refine (hpow _).out.mono ?_; rintro e w3 ⟨rfl, rfl⟩))
    have hS1 := hS0.drew
    clear hsz hpow hS0 a0 a1 a2
    go_wp2_with fail
    refine (identity_c t _ (by omega)).mono ?_
    rw [Hid0.out]
    rintro e w1 ⟨vc, rfl, h1⟩
    have hS2 := hS1.call h1
    have hr1 := h1.rdI 0 rfl
    clear hS1 h1
    have a0 := hS2.bcell 0 rfl 0 rfl
    have a1 := hS2.bcell 0 rfl 1 rfl
    have a2 := hS2.bcell 0 rfl 2 rfl
    have hC0 := Lib.hid (show ((0 : Nat) : Int) < choose co t by have := HCp.out; push_cast; omega)
    go_wp2_with fail
    refine (Hev.out 0 _ _ hC0.out (hS2.oldII hv) hr1).mono ?_
    rintro e w2 ⟨rfl, h2⟩
    have hS3 := hS2.call0 h2
    simp only [List.cons_append, List.nil_append] at hS3
    clear hS2 h2 a0 a1 a2 hr1
    have hdt : Value.bool true = Value.bool (decide (((0 : Nat) : Int) < choose co t)) := by rw [decide_eq_true hC0.out]
    have Hdt := Lib.hid hdt; clear hdt
    go_wp2_with fail
    go_loopg [5, 6] (choose co t).toNat (fun n c m wr => ∃ r : Nat, (r : Int) ≤ choose co t ∧ (choose co t - r).toNat = n ∧ m = .bool (decide ((r : Int) < choose co t)) ∧ Hid (∀ r' : Nat, r' < r → evB lv (subsAt co t r') rows K ≠ 0) ∧ St w.heap.size w wr [box 47 w.heap.size [.int .i64 lv, .int .i64 co, v], row 2 c (iv (subL co t r))])
    case atStart => exact ⟨0, by have := HCp.out; push_cast; omega, by simp, Hdt.out, fun r' h => by omega, hS3⟩
    case round =>
      obtain ⟨r, hr, hn, rfl, hI, hS⟩ := hrel
      have Hn := Lib.hid hn
      clear hn
      by_cases hlt : (r : Int) < choose co t
      · have hd : decide ((r : Int) < choose co t) = true := decide_eq_true hlt
        have Hlt := Lib.hid hlt
        have Hr := Lib.hid hr
        rw [hd]
        clear hd hlt hr
        have a0 := hS.bcell 0 rfl 0 rfl
        have a1 := hS.bcell 0 rfl 1 rfl
        have a2 := hS.bcell 0 rfl 2 rfl
        go_wp2_with fail
        refine (Hev.out r _ _ Hlt.out (hS.oldII hv) (hS.rdI 1 rfl)).mono ?_
        rintro e w3 ⟨rfl, h3⟩
        have hS4 := hS.call0 h3
        clear hS h3 a0 a1 a2
        by_cases he : evB lv (subsAt co t r) rows K = 0
        · have f1 := eq_t he
          have HE := Lib.hid he; clear he
          go_wp2_with fail
          go_ret
          refine ⟨ret_i64 ?_, hS4.out⟩
          exact (strG_no Hlt.out (by rw [HK.out]; exact HE.out)).symm
        · have f1 := eq_f he
          have HE := Lib.hid he; clear he
          have a1 := hS4.bcell 0 rfl 1 rfl
          have hrc := hS4.rdI 1 rfl
          have hnx := fun W h => Lib.hid (NextSubset_c u5 (subL co t r) co W h)
          have Hnx := Lib.hid (Hsub.out r Hlt.out).2.2
          go_wp2_with fail
          refine (hnx _ hrc).out.mono ?_
          rw [show nxtV co (subL co t r) = nxtV co (subsAt co t r) by rw [subL_lt Hlt.out], Hnx.out]
          rintro e w4 ⟨v4, rfl, h4⟩
          have hS5 := (hS4.call h4).sub (L' := [box 47 w.heap.size [.int .i64 lv, .int .i64 co, v], row 2 v4 (iv ((if ((r + 1 : Nat) : Int) < choose co t then some (subL co t (r + 1)) else none).getD []))]) (((List.Sublist.refl _).cons _).cons_cons _)
          have e1 : Hid (((if ((r + 1 : Nat) : Int) < choose co t then some (subL co t (r + 1)) else none).getD []) = subL co t (r + 1)) := by
            unfold Hid
            by_cases h : ((r + 1 : Nat) : Int) < choose co t
            · rw [if_pos h]; rfl
            · rw [if_neg h, subL_ge h]; rfl
          have e2 : Hid ((if ((r + 1 : Nat) : Int) < choose co t then some (subL co t (r + 1)) else none).isSome = decide (((r + 1 : Nat) : Int) < choose co t)) := by
            unfold Hid
            by_cases h : ((r + 1 : Nat) : Int) < choose co t
            · rw [if_pos h, decide_eq_true h]; rfl
            · rw [if_neg h, decide_eq_false h]; rfl
          rw [e1.out] at hS5
          rw [e2.out]
          clear hS4 h4 hrc
          go_wp2_with fail
          go_roundg (choose co t - ((r + 1 : Nat) : Int)).toNat
          case measure => have := Hn.out; have := Hlt.out; omega
          case rel =>
            refine ⟨r + 1, by have := Hlt.out; push_cast; omega, rfl, rfl, ?_, hS5⟩
            intro r' hr'
            by_cases e : r' = r
            · subst e; exact HE.out
            · exact hI.out r' (by omega)
      · have hd : decide ((r : Int) < choose co t) = false := decide_eq_false hlt
        have Hlt := Lib.hid hlt
        rw [hd]
        clear hd hlt
        go_wp2_with fail
        go_ret
        have hall : ∀ r' : Nat, (r' : Int) < choose co t → evB lv (subsAt co t r') rows K ≠ 0 := fun r' h' => hI.out r' (by have := Hlt.out; omega)
        refine ⟨ret_i64 ?_, hS.out⟩
        rw [strG_yes (by rw [HK.out]; omega) (by rw [HK.out]; exact hall), HK.out]
        have s0 := Hsub.out 0 hC0.out
        exact (evB_ne hKp (fun row hrw => by
          have h1 := Hrow.out row hrw
          have := numC_lt l1 (cols := subsAt co t ((0 : Nat) : Int)) (row := row) (fun c hc => by have := s0.2.1 c hc; omega) h1.2
          rw [s0.1, ← HP.out] at this
          exact this) (hall 0 hC0.out)).2.1

def strC (lv co : Int) (rows : List (List Int)) (t : Int) : Int := if okA lv co rows = false then 1 else if inB t 1 co = false then 2 else 0
noncomputable def strI (lv co : Int) (rows : List (List Int)) (t : Int) : Int := if strC lv co rows t = 0 then strN lv co rows t.toNat else 0
theorem strC_1 {lv co : Int} {rows : List (List Int)} {t : Int} (h : okA lv co rows = false) : strC lv co rows t = 1 ∧ strI lv co rows t = 0 := by
  have : strC lv co rows t = 1 := by rw [strC, if_pos h]
  exact ⟨this, by rw [strI, this, if_neg (by omega)]⟩
theorem strC_2 {lv co : Int} {rows : List (List Int)} {t : Int} (h : okA lv co rows = true) (h2 : inB t 1 co = false) : strC lv co rows t = 2 ∧ strI lv co rows t = 0 := by
  have : strC lv co rows t = 2 := by rw [strC, if_neg (by rw [h]; simp), if_pos h2]
  exact ⟨this, by rw [strI, this, if_neg (by omega)]⟩
theorem strC_0 {lv co : Int} {rows : List (List Int)} {t : Int} (h : okA lv co rows = true) (h2 : inB t 1 co = true) : strC lv co rows t = 0 ∧ strI lv co rows t = strN lv co rows t.toNat := by
  have : strC lv co rows t = 0 := by rw [strC, if_neg (by rw [h]; simp), if_neg (by rw [h2]; simp)]
  exact ⟨this, by rw [strI, this, if_pos rfl]⟩

set_option maxHeartbeats 4000000 in
set_option maxRecDepth 100000 in
theorem StrengthIndex_c (lv co t : Int) (v : Value) (us : List Value) (rows : List (List Int)) (w : World) (hv : RII w v us rows) :
    Calls Try.prog 44 #[av lv co v, .int .i64 t] w (Gives2I w (strI lv co rows t) (strC lv co rows t)) := by
  have hS0 := (St.refl w).newboxF 47 #[.int .i64 lv, .int .i64 co, v]
  have HV := fun w hv => Lib.hid (ValidArray_c lv co v us rows w hv)
  unfold av at HV ⊢
  go_enter Try.func44, Try.ntmps44
  go_wp2_with fail
  refine (HV _ (hS0.oldII hv)).out.mono ?_
  rintro e w1 ⟨rfl, h1⟩
  have hS1 := hS0.call0 h1
  clear hS0 h1 HV
  have a0 := hS1.bcell 0 rfl 0 rfl
  have a1 := hS1.bcell 0 rfl 1 rfl
  have a2 := hS1.bcell 0 rfl 2 rfl
  cases hok : okA lv co rows
  · have H := Lib.hid (strC_1 (t := t) hok)
    go_wp2_with fail
    go_ret2
    exact ⟨ret_2i H.out.2.symm H.out.1.symm, hS1.out⟩
  · have Hok := Lib.hid hok
    clear hok
    cases ht : inB t 1 co
    · have H := Lib.hid (strC_2 Hok.out ht)
      go_wp2_with (go_at_call 134; refine (within_c _ _ _ _).mono ?_; rintro e w3 ⟨rfl, rfl⟩)
      go_ret2
      exact ⟨ret_2i H.out.2.symm H.out.1.symm, hS1.out⟩
    · have H := Lib.hid (strC_0 Hok.out ht)
      obtain ⟨t1, t2⟩ : 1 ≤ t ∧ t ≤ co := by simpa [inB] using ht
      obtain ⟨hsh, hlen, hrow⟩ := okA_t Hok.out
      obtain ⟨l1, l2, k1, k2⟩ := shapeB_t hsh
      have hcall := Lib.hid (strengthIndex_c lv co.toNat v us rows t.toNat w1 (hS1.oldII hv) l1 l2 (by omega) (by omega) (by omega) (fun row hr => by have := hrow row hr; rw [Int.toNat_of_nonneg (by omega)]; exact this) hlen)
      have ec : Hid (((co.toNat : Nat) : Int) = co) := by unfold Hid; omega
      have et : Hid (((t.toNat : Nat) : Int) = t) := by unfold Hid; omega
      rw [ec.out, et.out] at hcall
      unfold av at hcall
      clear hrow hsh
      go_wp2_with (go_at_call 134; refine (within_c _ _ _ _).mono ?_; rintro e w3 ⟨rfl, rfl⟩)
      refine hcall.out.mono ?_
      rintro e w2 ⟨rfl, h2⟩
      have hS2 := hS1.call0 h2
      go_wp2_with fail
      go_ret2
      exact ⟨ret_2i H.out.2.symm H.out.1.symm, hS2.out⟩

/-- the greatest strength of at most n, or 0 -/
noncomputable def strF (lv co : Int) (rows : List (List Int)) : Nat → Int
  | 0 => 0
  | t + 1 => if 0 < strN lv co rows (t + 1) then ((t + 1 : Nat) : Int) else strF lv co rows t
noncomputable def strO (lv co : Int) (rows : List (List Int)) : Int := if okA lv co rows = true then strF lv co rows co.toNat else 0

set_option maxHeartbeats 4000000 in
set_option maxRecDepth 100000 in
theorem StrengthOf_c (lv co : Int) (v : Value) (us : List Value) (rows : List (List Int)) (w : World) (hv : RII w v us rows) :
    Calls Try.prog 45 #[av lv co v] w (GivesI w (strO lv co rows)) := by
  have hS0 := (St.refl w).newboxF 47 #[.int .i64 lv, .int .i64 co, v]
  have HV := fun w hv => Lib.hid (ValidArray_c lv co v us rows w hv)
  unfold av at HV ⊢
  go_enter Try.func45, Try.ntmps45
  go_wp2_with fail
  refine (HV _ (hS0.oldII hv)).out.mono ?_
  rintro e w1 ⟨rfl, h1⟩
  have hS1 := hS0.call0 h1
  clear hS0 h1 HV
  have a1 := hS1.bcell 0 rfl 1 rfl
  cases hok : okA lv co rows
  · have H := Lib.hid (show strO lv co rows = 0 by rw [strO, if_neg (by rw [hok]; simp)])
    go_wp2_with fail
    go_ret
    exact ⟨ret_i64 H.out.symm, hS1.out⟩
  · have H := Lib.hid (show strO lv co rows = strF lv co rows co.toNat by rw [strO, if_pos hok])
    obtain ⟨hsh, hlen, hrow⟩ := okA_t hok
    obtain ⟨l1, l2, k1, k2⟩ := shapeB_t hsh
    have ec : Hid (((co.toNat : Nat) : Int) = co) := by unfold Hid; omega
    have hcall := fun (t : Nat) (h : 1 ≤ t ∧ t ≤ co.toNat) W hv => Lib.hid (strengthIndex_c lv co.toNat v us rows t W hv l1 l2 (by omega) h.1 h.2 (fun row hr => by have := hrow row hr; rw [Int.toNat_of_nonneg (by omega)]; exact this) hlen)
    rw [ec.out] at hcall
    unfold av at hcall
    clear hrow hsh hok
    go_wp2_with fail
    go_loopw [3] (fun s wr => ∃ t : Nat, (t : Int) ≤ co ∧ s = .int .i64 t ∧ Hid (strO lv co rows = strF lv co rows t) ∧ St w.heap.size w wr [box 47 w.heap.size [.int .i64 lv, .int .i64 co, v]]) (fun s _ => (intOf s).toNat)
    case atStart => exact ⟨co.toNat, by omega, by rw [ec.out], H, hS1⟩
    case round =>
      obtain ⟨t, ht, rfl, hI, hS⟩ := hrel
      cases t with
      | zero =>
        go_wp2_with fail
        go_ret
        exact ⟨ret_i64 (by rw [hI.out]; rfl), hS.out⟩
      | succ t =>
        have a0 := hS.bcell 0 rfl 0 rfl
        have a1 := hS.bcell 0 rfl 1 rfl
        have a2 := hS.bcell 0 rfl 2 rfl
        have hc := hcall (t + 1) (by omega) wr (hS.oldII hv)
        clear hcall
        go_wp2_with fail
        refine hc.out.mono ?_
        rintro e w2 ⟨rfl, h2⟩
        have hS2 := hS.call0 h2
        by_cases hp : 0 < strN lv co rows (t + 1)
        · go_wp2_with fail
          go_ret
          exact ⟨ret_i64 (by rw [hI.out, strF, if_pos hp]; push_cast; rfl), hS2.out⟩
        · have HP := Lib.hid (show strF lv co rows (t + 1) = strF lv co rows t by rw [strF, if_neg hp])
          go_wp2_with fail
          go_roundw
          case rel => exact ⟨t, by omega, by first | rfl | (congr 1; push_cast; omega), by rw [Hid, hI.out, HP.out], hS2⟩
          case measure => simp [intOf]
end Go.Proofs.Ytcenabaklokhhaa
