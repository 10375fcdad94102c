/- The texts of this claim, run 6: RrB Ds3 Po RrD Ds7 Ds8. -/
import Derived.Test.YtgflhgkcmfjkgaaK1
import Derived.Test.YtgflhgkcmfjkgaaK2
import Derived.Test.YtgflhgkcmfjkgaaK3
import Derived.Test.YtgflhgkcmfjkgaaK4
import Derived.Test.YtgflhgkcmfjkgaaK5

section
/- Walk: whether a schedule is valid, of the program. -/
namespace Go.Proofs.Ytgflhgkcmfjkgaa
set_option linter.unusedSimpArgs false
set_option linter.unusedVariables false
open Go.RowKit
attribute [local go_sem ↓] Go.wp_at_zero Go.wp_at_succ

/-- who met whom -/
structure MP (n : Nat) (S : List (List Int)) (M : List (List Int)) : Prop where
  sqr : Sqr n M
  el : ∀ a b : Nat, a < n → b < n → at2 M a b = if [(a : Int), (b : Int)] ∈ S then 1 else 0
/-- who plays -/
structure PP (n : Nat) (q : List (List Int)) (P : List Bool) : Prop where
  len : P.length = n
  el : ∀ x : Nat, x < n → bat P x = plB q x
theorem MP.nil (n : Nat) : MP n [] (sqF n fun _ _ => 0) := ⟨sqF_sqr n _, fun a b ha hb => by rw [at2_sqF ha hb]; simp⟩
theorem MP.snoc {n : Nat} {S M : List (List Int)} (h : MP n S M) {a b : Nat} (ha : a < n) (hb : b < n) : MP n (S ++ [[(a : Int), (b : Int)]]) (putS M a b 1) := by
  refine ⟨putS_sqr h.sqr ha b 1, fun x y hx hy => ?_⟩
  rw [at2_putS h.sqr ha hb, h.el x y hx hy]
  by_cases e : a = x ∧ b = y
  · obtain ⟨rfl, rfl⟩ := e
    simp
  · rw [if_neg e]
    have : ([(x : Int), (y : Int)] ∈ S ++ [[(a : Int), (b : Int)]]) ↔ [(x : Int), (y : Int)] ∈ S := by
      simp only [List.mem_append, List.mem_singleton, List.cons.injEq, and_true]
      constructor
      · rintro (h | h)
        · exact h
        · exact absurd ⟨by omega, by omega⟩ e
      · exact .inl
    simp only [this]
theorem PP.nil (n : Nat) : PP n [] (List.replicate n false) := ⟨by simp, fun x _ => by rw [bat_rep]; rfl⟩
theorem PP.snoc {n : Nat} {q : List (List Int)} {P : List Bool} (h : PP n q P) {a b : Nat} (ha : a < n) (hb : b < n) : PP n (q ++ [[(a : Int), (b : Int)]]) ((P.set a true).set b true) := by
  refine ⟨by simp [h.len], fun x hx => ?_⟩
  rw [bat_set (by simp [h.len]; exact hb), bat_set (by rw [h.len]; exact ha), h.el x hx]
  unfold plB
  rw [List.any_append]
  by_cases e1 : b = x
  · subst e1; simp
  · by_cases e2 : a = x
    · subst e2; rw [if_neg e1]; simp
    · rw [if_neg e1, if_neg e2]
      have : decide ((x : Int) ∈ [(a : Int), (b : Int)]) = false := by
        simp only [decide_eq_false_iff_not, List.mem_cons, List.not_mem_nil, or_false]; omega
      simp [this]
      omega
def rowA (n : Nat) (S : List (List Int)) (a : Nat) : Bool := (List.range n).all fun b => decide (b ≤ a) || decide ([(a : Int), (b : Int)] ∈ S)
theorem dec_row {n : Nat} {S M : List (List Int)} (h : MP n S M) {a : Nat} (ha : a < n) : decide ((0 : Int) ∈ ((xat M a).take n).drop (a + 1)) = !rowA n S a := by
  have hl := h.sqr.row a ha
  rw [List.take_of_length_le (by omega)]
  cases hr : rowA n S a
  · rw [Bool.not_false, decide_eq_true_eq]
    have : ∃ b, b < n ∧ a < b ∧ [(a : Int), (b : Int)] ∉ S := by
      apply Classical.byContradiction
      intro hc
      have : rowA n S a = true := by
        simp only [rowA, List.all_eq_true, List.mem_range, Bool.or_eq_true, decide_eq_true_eq]
        intro b hb
        by_cases e : b ≤ a
        · exact .inl e
        · exact .inr (Classical.byContradiction fun h => hc ⟨b, hb, by omega, h⟩)
      rw [this] at hr; cases hr
    obtain ⟨b, hb, hab, hn⟩ := this
    have e := h.el a b ha hb
    rw [if_neg hn, at2, nth, List.getD_eq_getElem?_getD, List.getElem?_eq_getElem (by omega)] at e
    simp only [Option.getD_some] at e
    rw [List.mem_iff_getElem]
    exact ⟨b - (a + 1), by rw [List.length_drop]; omega, by rw [List.getElem_drop]; rw [← e]; congr 1; omega⟩
  · rw [Bool.not_true, decide_eq_false_iff_not]
    intro hm
    obtain ⟨j, hj, e⟩ := List.getElem_of_mem hm
    rw [List.length_drop] at hj
    rw [List.getElem_drop] at e
    have e2 := h.el a (a + 1 + j) ha (by omega)
    rw [at2, nth, List.getD_eq_getElem?_getD, List.getElem?_eq_getElem (by omega)] at e2
    simp only [Option.getD_some] at e2
    rw [e] at e2
    simp only [rowA, List.all_eq_true, List.mem_range, Bool.or_eq_true, decide_eq_true_eq] at hr
    rcases hr (a + 1 + j) (by omega) with h | h
    · omega
    · rw [if_pos h] at e2; omega
theorem vsB_no {n : Int} {R : List (List (List Int))} {r k : Nat} (hr : r < R.length) (hk : k < (x3at R r).length) (h : okAt n R r k = false) : vsB n R = false := by
  have : ((List.range R.length).all fun r => (List.range (x3at R r).length).all fun k => okAt n R r k) = false := by
    rw [Bool.eq_false_iff]
    intro hc
    simp only [List.all_eq_true, List.mem_range] at hc
    rw [hc r hr k hk] at h; cases h
  rw [vsB, this]; simp
/-- a row of an owned list of rows, written -/
theorem own2_get {v : Value} {us : List Value} {A : List (List Int)} {L2 : List Ent} (hl : us.length = A.length) {j : Nat} (hj : j < A.length) : (own2 v us A ++ L2)[j + 1]? = some (row 2 (vat us j) (iv (xat A j))) := by
  rw [own2, List.cons_append, List.getElem?_cons_succ, List.getElem?_append_left (by rw [rowsI_len hl]; exact hj), rowsI_get hl hj]
theorem met_set {v vp : Value} {us : List Value} {P : List Bool} {M : List (List Int)} (hl : us.length = M.length) {x : Nat} (hx : x < M.length) (y : Nat) (z : Int) :
    (row 4 vp (bo P) :: own2 v us M).set (x + 2) (row 2 (vat us x) (iv ((xat M x).set y z))) = row 4 vp (bo P) :: own2 v us (putS M x y z) := by
  rw [List.set_cons_succ]
  have := own2_set (v := v) (L2 := []) hl hx ((xat M x).set y z)
  rw [List.append_nil, List.append_nil] at this
  rw [this]; rfl
theorem met_get {v vp : Value} {us : List Value} {P : List Bool} {M : List (List Int)} (hl : us.length = M.length) {x : Nat} (hx : x < M.length) :
    (row 4 vp (bo P) :: own2 v us M)[x + 2]? = some (row 2 (vat us x) (iv (xat M x))) := by
  rw [List.getElem?_cons_succ]
  have := own2_get (v := v) (L2 := []) hl hx
  rwa [List.append_nil] at this
theorem len_two {p : List Int} (h : p.length = 2) : ∃ a b : Int, p = [a, b] := by
  match p, h with
  | [a, b], _ => exact ⟨a, b, rfl⟩

set_option maxHeartbeats 16000000 in
set_option maxRecDepth 100000 in
theorem ValidSchedule_c (n : Int) (v : Value) (vs : List Value) (uss : List (List Value)) (R : List (List (List Int))) (w : World) (hv : RIII w v vs uss R) :
    Calls Try.prog 9 #[.int .i64 n, v] w (GivesB w (vsB n R)) := by
  have KT := isTeams_c n w
  by_cases hn : 2 ≤ n ∧ n ≤ 32
  case neg =>
    rw [inB_false hn] at KT
    have HN : Hid (vsB n R = false) := Lib.hid (by rw [vsB, inB_false hn]; rfl)
    go_enter Try.func9, Try.ntmps9
    go_wp2_with fail
    refine KT.mono ?_
    rintro e w1 ⟨rfl, rfl⟩
    go_wp2_with fail
    go_ret
    exact ⟨ret_bool HN.out.symm, St.refl w⟩
  case pos =>
    rw [inB_true hn] at KT
    obtain ⟨m, rfl⟩ := Int.eq_ofNat_of_zero_le (show 0 ≤ n by omega)
    have hln := hv.len
    have hle := hv.le
    have hix := hv.ixe
    have KE := emptySquare_c m w (by omega)
    have hm2 : 2 ≤ m ∧ m ≤ 32 := by omega
    have HF := fun r k hr hk hf => Lib.hid (vsB_no (n := (m : Int)) (R := R) (r := r) (k := k) hr hk hf)
    go_enter Try.func9, Try.ntmps9
    go_wp2_with fail
    refine KT.mono ?_
    clear KT
    rintro e w1 ⟨rfl, rfl⟩
    go_wp2_with fail
    refine KE.mono ?_
    clear KE
    rintro e w1 ⟨vm, um, rfl, hlm, h1⟩
    rw [sqF_len] at hlm
    have hlm := Lib.hid hlm
    have hM0 := Lib.hid (MP.nil m)
    generalize sqF m (fun _ _ => (0 : Int)) = M0 at *
    go_wp2_with fail
    go_loopw [21, 7, 8, 9, 10, 11, 12] (fun i _ _ _ _ _ _ wr => ∃ (r : Nat) (M : List (List Int)), r ≤ R.length ∧ i = .int .i64 r ∧ Hid ((∀ r', r' < r → ∀ k, k < (x3at R r').length → okAt m R r' k = true) ∧ MP m (seen R r 0) M) ∧ St w.heap.size w wr (own2 vm um M)) (fun i _ _ _ _ _ _ _ => R.length - (intOf i).toNat)
    case atStart => exact ⟨0, M0, by omega, rfl, ⟨fun r' h => by omega, by rw [seen_00]; exact hM0.out⟩, h1⟩
    case round =>
      clear h1 hM0
      obtain ⟨r, M, hr, rfl, hI, hS⟩ := hrel
      by_cases hlt : r < R.length
      · have hc := (hS.oldIII hv).cell r hlt
        have hx := hix (r : Int) r rfl hlt
        have RR := Lib.hid fun (W : World) (hW : RIII W v vs uss R) => hW.row r hlt
        have hlr := (hv.row r hlt).len
        have hler := (hv.row r hlt).le
        have hxr := (hv.row r hlt).ixe
        go_wp2_with (refine mkO hS rfl _ _ rfl .i64 .i64 m rfl rfl (by omega) ?_; intro vp w2 hS2)
        have hS2 := hS2.perm (L' := row 4 vp (bo (List.replicate m false)) :: own2 vm um M) List.perm_append_comm
        go_loopw [29, 9, 10, 11, 12] (fun i _ _ _ _ wr => ∃ (k : Nat) (M : List (List Int)) (P : List Bool), k ≤ (x3at R r).length ∧ i = .int .i64 k ∧ Hid ((∀ k', k' < k → okAt m R r k' = true) ∧ MP m (seen R r k) M ∧ PP m ((x3at R r).take k) P) ∧ St w.heap.size w wr (row 4 vp (bo P) :: own2 vm um M)) (fun i _ _ _ _ _ => (x3at R r).length - (intOf i).toNat)
        case atStart => exact ⟨0, M, _, by omega, rfl, ⟨fun k' h => by omega, hI.out.2, by rw [List.take_zero]; exact PP.nil m⟩, hS2⟩
        case round =>
          clear hS2 hS hc
          obtain ⟨k, M, P, hk, rfl, hJ, hS⟩ := hrel
          by_cases hkt : k < (x3at R r).length
          · have hrp := (hv.row r hlt).row k hkt
            have hlp := hrp.len
            have hxp := hrp.ixe
            have hck := ((hS.oldIII hv).row r hlt).cell k hkt
            have hxk := hxr (k : Int) k rfl hkt
            by_cases c1 : (xat (x3at R r) k).length = 2
            case neg =>
              have f1 := ne_t (show ¬ ((xat (x3at R r) k).length : Int) = 2 by omega)
              have HN := HF r k hlt hkt (by rw [okAt, gdP, decide_eq_false c1]; simp)
              clear hrp c1
              go_wp2_with fail
              have hne : Nonempty (SS _ _ _) := ⟨⟨_, hS⟩⟩
              refine wp_region_st (by kernel_rfl) (by kernel_rfl) hS ?_
              repeat (go_big_quiet_step ((go_at_call 37; exact st_quiet0 (within_c _ _ _ _))))
              refine wpQuiet_nil ?_
              rintro _ ⟨s2, rfl⟩
              have hS3 := s2.st
              generalize s2.w = w3 at hS3 ⊢
              go_wp2_with fail
              go_ret
              exact ⟨ret_bool HN.out.symm, hS3.out⟩
            case pos =>
              obtain ⟨a, b, hp⟩ := len_two c1
              have q0 := fun s : SS w.heap.size w (row 4 vp (bo P) :: own2 vm um M) => by
                have := (((s.st.oldIII hv).row r hlt).row k hkt).cell 0 (by omega)
                rw [hp] at this
                exact this
              have q1 := fun s : SS w.heap.size w (row 4 vp (bo P) :: own2 vm um M) => by
                have := (((s.st.oldIII hv).row r hlt).row k hkt).cell 1 (by omega)
                rw [hp] at this
                exact this
              simp only [nth, List.getD_cons_zero, List.getD_cons_succ] at q0 q1
              have x0 := hxp (0 : Int) 0 rfl (by omega)
              have x1 := hxp (1 : Int) 1 rfl (by omega)
              have f1 := ne_f (show ((xat (x3at R r) k).length : Int) = 2 by omega)
              clear hxp
              by_cases c2 : a < b
              case neg =>
                have HN := HF r k hlt hkt (by rw [okAt, gdP, hp]; simp only [nth, List.getD_cons_zero, List.getD_cons_succ]; rw [decide_eq_false c2]; simp)
                clear hrp c1 hp
                go_wp2_with fail
                have hne : Nonempty (SS _ _ _) := ⟨⟨_, hS⟩⟩
                refine wp_region_st (by kernel_rfl) (by kernel_rfl) hS ?_
                repeat (go_big_quiet_step ((go_at_call 37; exact st_quiet0 (within_c _ _ _ _))))
                refine wpQuiet_nil ?_
                rintro _ ⟨s2, rfl⟩
                have hS3 := s2.st
                generalize s2.w = w3 at hS3 ⊢
                go_wp2_with fail
                go_ret
                exact ⟨ret_bool HN.out.symm, hS3.out⟩
              case pos =>
                have dba : decide (b ≤ a) = false := decide_eq_false (by omega)
                cases hA : inB a 0 ((m : Int) - 1)
                case false =>
                  have HN := HF r k hlt hkt (by rw [okAt, gdP, hp]; simp only [nth, List.getD_cons_zero, List.getD_cons_succ]; rw [hA]; simp)
                  clear hrp c1 hp
                  go_wp2_with fail
                  have hne : Nonempty (SS _ _ _) := ⟨⟨_, hS⟩⟩
                  refine wp_region_st (by kernel_rfl) (by kernel_rfl) hS ?_
                  repeat (go_big_quiet_step ((go_at_call 37; exact st_quiet0 (within_c _ _ _ _))))
                  refine wpQuiet_nil ?_
                  rintro _ ⟨s2, rfl⟩
                  have hS3 := s2.st
                  generalize s2.w = w3 at hS3 ⊢
                  go_wp2_with fail
                  go_ret
                  exact ⟨ret_bool HN.out.symm, hS3.out⟩
                case true =>
                  cases hB : inB b 0 ((m : Int) - 1)
                  case false =>
                    have HN := HF r k hlt hkt (by rw [okAt, gdP, hp]; simp only [nth, List.getD_cons_zero, List.getD_cons_succ]; rw [hB]; simp)
                    clear hrp c1 hp
                    go_wp2_with fail
                    have hne : Nonempty (SS _ _ _) := ⟨⟨_, hS⟩⟩
                    refine wp_region_st (by kernel_rfl) (by kernel_rfl) hS ?_
                    repeat (go_big_quiet_step ((go_at_call 37; exact st_quiet0 (within_c _ _ _ _))))
                    refine wpQuiet_nil ?_
                    rintro _ ⟨s2, rfl⟩
                    have hS3 := s2.st
                    generalize s2.w = w3 at hS3 ⊢
                    go_wp2_with fail
                    go_ret
                    exact ⟨ret_bool HN.out.symm, hS3.out⟩
                  case true =>
                    have hab : (0 ≤ a ∧ a ≤ (m : Int) - 1) ∧ (0 ≤ b ∧ b ≤ (m : Int) - 1) := by simpa [inB] using And.intro hA hB
                    obtain ⟨x, rfl⟩ := Int.eq_ofNat_of_zero_le hab.1.1
                    obtain ⟨y, rfl⟩ := Int.eq_ofNat_of_zero_le hab.2.1
                    have hxy : x < y := by omega
                    have dxy : decide (y ≤ x) = false := decide_eq_false (by omega)
                    have hxm : x < m := by omega
                    have hym : y < m := by omega
                    have HZ : [(x : Int), (y : Int)] ∉ seen R r k → Hid (at2 M x y = 0) := fun h => Lib.hid (by rw [hJ.out.2.1.el x y hxm hym, if_neg h])
                    clear hab c1
                    by_cases hk0 : k = 0
                    · have HC : Hid (k = 0 ∨ cmpI (xat (x3at R r) (k - 1)) [(x : Int), (y : Int)] < 0) := Lib.hid (.inl hk0)
                      have hk1 : ¬ 0 < k := by omega
                      clear hk0
                      clear hrp
                      go_wp2_with fail
                      have hne : Nonempty (SS _ _ _) := ⟨⟨_, hS⟩⟩
                      refine wp_region_st (by kernel_rfl) (by kernel_rfl) hS ?_
                      repeat (go_big_quiet_step ((go_at_call 37; exact st_quiet0 (within_c _ _ _ _))))
                      refine wpQuiet_nil ?_
                      rintro _ ⟨s2, rfl⟩
                      have hS3 := s2.st
                      generalize s2.w = w3 at hS3 ⊢
                      go_wp2_with fail
                      have hne : Nonempty (SS _ _ _) := ⟨⟨_, hS3⟩⟩
                      refine wp_region_st (by kernel_rfl) (by kernel_rfl) hS3 ?_
                      repeat (go_big_quiet_step (fail))
                      refine wpQuiet_nil ?_
                      rintro _ ⟨s2, rfl⟩
                      have hS4 := s2.st
                      generalize s2.w = w4 at hS4 ⊢
                      have rP := hS4.rdO 0 (e := 4) rfl
                      have dx := rP.cell x (by rw [hJ.out.2.2.len]; exact hxm)
                      have dy := rP.cell y (by rw [hJ.out.2.2.len]; exact hym)
                      have ix := rP.ixe (x : Int) x rfl (by rw [hJ.out.2.2.len]; exact hxm)
                      have iy := rP.ixe (y : Int) y rfl (by rw [hJ.out.2.2.len]; exact hym)
                      rw [hJ.out.2.2.el x hxm] at dx
                      rw [hJ.out.2.2.el y hym] at dy
                      clear rP
                      by_cases c6 : plB ((x3at R r).take k) (x : Int) = true
                      · have HN := HF r k hlt hkt (by rw [okAt, hp]; simp only [nth, List.getD_cons_zero]; rw [c6]; simp)
                        rw [c6] at dx
                        clear hp
                        go_wp2_with fail
                        go_ret
                        exact ⟨ret_bool HN.out.symm, hS4.out⟩
                      · have c6 : plB ((x3at R r).take k) (x : Int) = false := by simpa using c6
                        rw [c6] at dx
                        by_cases c7 : plB ((x3at R r).take k) (y : Int) = true
                        · have HN := HF r k hlt hkt (by rw [okAt, hp]; simp only [nth, List.getD_cons_zero, List.getD_cons_succ]; rw [c7]; simp)
                          rw [c7] at dy
                          clear hp
                          go_wp2_with fail
                          go_ret
                          exact ⟨ret_bool HN.out.symm, hS4.out⟩
                        · have c7 : plB ((x3at R r).take k) (y : Int) = false := by simpa using c7
                          rw [c7] at dy
                          have hlM : M.length = m := hJ.out.2.1.sqr.len
                          have hlu : um.length = M.length := by rw [hlm.out, hlM]
                          have rM := (hS4.sub (List.sublist_cons_self _ _)).rii hlu
                          have jx := rM.ixe (x : Int) x rfl (by rw [hlM]; exact hxm)
                          have ex := rM.cell x (by rw [hlM]; exact hxm)
                          have rx := rM.row x (by rw [hlM]; exact hxm)
                          have jy := rx.ixe (y : Int) y rfl (by rw [hJ.out.2.1.sqr.row x hxm]; exact hym)
                          have ey := rx.cell y (by rw [hJ.out.2.1.sqr.row x hxm]; exact hym)
                          have hel := hJ.out.2.1.el x y hxm hym
                          rw [show nth (xat M x) y = at2 M x y from rfl, hel] at ey
                          by_cases c8 : [(x : Int), (y : Int)] ∈ seen R r k
                          · have HN := HF r k hlt hkt (by rw [okAt, hp, decide_eq_true c8]; simp)
                            rw [if_pos c8] at ey
                            clear hp hel c8
                            go_wp2_with fail
                            go_ret
                            exact ⟨ret_bool HN.out.symm, hS4.out⟩
                          · rw [if_neg c8] at ey
                            have HK : Hid (okAt m R r k = true) := Lib.hid (by
                              rw [okAt, hp]
                              simp only [nth, List.getD_cons_zero, List.getD_cons_succ, gdP]
                              rw [c6, c7, decide_eq_false c8, decide_eq_true (show (x : Int) < (y : Int) by omega), hA, hB]
                              simp
                              exact HC.out)
                            have Hp := Lib.hid hp
                            have HZ0 := HZ c8
                            have Hel := Lib.hid hlu
                            have HlM := Lib.hid hlM
                            have hPl := Lib.hid hJ.out.2.2.len
                            clear hp hel c8 c6 c7 rM rx hlM hlu
                            go_wp2_with (first
                              | (refine stoI hS6 (x + 2) (met_get Hel.out (by rw [HlM.out]; exact hxm)) y (by rw [hJ.out.2.1.sqr.row x hxm]; exact hym) rfl _ _ rfl rfl _ rfl ?_; intro w7 hS7)
                              | (refine stoO hS5 0 rfl y (by rw [List.length_set, hPl.out]; exact hym) rfl _ _ rfl rfl true rfl ?_; intro w6 hS6; simp only [List.set_cons_zero] at hS6; have rM := (hS6.sub (List.sublist_cons_self _ _)).rii Hel.out; have ex := rM.cell x (by rw [HlM.out]; exact hxm); have ey := (rM.row x (by rw [HlM.out]; exact hxm)).cell y (by rw [hJ.out.2.1.sqr.row x hxm]; exact hym); rw [show nth (xat M x) y = at2 M x y from rfl, HZ0.out] at ey)
                              | (refine stoO hS4 0 rfl x (by rw [hPl.out]; exact hxm) rfl _ _ rfl rfl true rfl ?_; intro w5 hS5; simp only [List.set_cons_zero] at hS5))
                            rw [met_set Hel.out (by rw [HlM.out]; exact hxm)] at hS7
                            go_roundw
                            case rel => exact ⟨k + 1, putS M x y 1, _, by omega, by go_num, ⟨fun k' hk' => by
                              by_cases e : k' = k
                              · subst e; exact HK.out
                              · exact hJ.out.1 k' (by omega), by rw [seen_snoc hkt, Hp.out]; exact hJ.out.2.1.snoc hxm hym, by rw [take_xat hkt, Hp.out]; exact hJ.out.2.2.snoc hxm hym⟩, hS7⟩
                            case measure => simp [intOf]; omega
                    · obtain ⟨j, hjk⟩ : ∃ j, j + 1 = k := ⟨k - 1, by omega⟩
                      have hk1 : 0 < k := by omega
                      have xj := hxr ((k : Int) - 1) j (by omega) (by omega)
                      have wj : IntKind.i64.wrap ((k : Int) - 1) = ((k : Int) - 1) := IntWalk.i64_in _ (by omega)
                      have cj := fun (W : World) (s : St w.heap.size w W (row 4 vp (bo P) :: own2 vm um M)) => ((s.oldIII hv).row r hlt).cell j (by omega)
                      have RJ := fun (W : World) (s : St w.heap.size w W (row 4 vp (bo P) :: own2 vm um M)) => Lib.hid (Compare_c _ _ _ _ W (((s.oldIII hv).row r hlt).row j (by omega)) (((s.oldIII hv).row r hlt).row k hkt))
                      rw [hp] at RJ
                      have Hjk : Hid (k - 1 = j) := Lib.hid (by omega)
                      clear hrp hjk hk0
                      by_cases c5 : cmpI (xat (x3at R r) j) [(x : Int), (y : Int)] < 0
                      · have HC : Hid (k = 0 ∨ cmpI (xat (x3at R r) (k - 1)) [(x : Int), (y : Int)] < 0) := Lib.hid (.inr (by rw [Hjk.out]; exact c5))
                        generalize cmpI (xat (x3at R r) j) [(x : Int), (y : Int)] = z at RJ c5
                        go_wp2_with fail
                        have hne : Nonempty (SS _ _ _) := ⟨⟨_, hS⟩⟩
                        refine wp_region_st (by kernel_rfl) (by kernel_rfl) hS ?_
                        repeat (go_big_quiet_step ((go_at_call 37; exact st_quiet0 (within_c _ _ _ _))))
                        refine wpQuiet_nil ?_
                        rintro _ ⟨s2, rfl⟩
                        have hS3 := s2.st
                        generalize s2.w = w3 at hS3 ⊢
                        have cj := cj _ hS3
                        have RJ := RJ _ hS3
                        go_wp2_with (go_at_call 35; refine RJ.out.mono ?_; rintro e2 w4 ⟨rfl, hw4⟩; subst hw4)
                        clear RJ cj
                        have hne : Nonempty (SS _ _ _) := ⟨⟨_, hS3⟩⟩
                        refine wp_region_st (by kernel_rfl) (by kernel_rfl) hS3 ?_
                        repeat (go_big_quiet_step (fail))
                        refine wpQuiet_nil ?_
                        rintro _ ⟨s2, rfl⟩
                        have hS4 := s2.st
                        generalize s2.w = w4 at hS4 ⊢
                        have rP := hS4.rdO 0 (e := 4) rfl
                        have dx := rP.cell x (by rw [hJ.out.2.2.len]; exact hxm)
                        have dy := rP.cell y (by rw [hJ.out.2.2.len]; exact hym)
                        have ix := rP.ixe (x : Int) x rfl (by rw [hJ.out.2.2.len]; exact hxm)
                        have iy := rP.ixe (y : Int) y rfl (by rw [hJ.out.2.2.len]; exact hym)
                        rw [hJ.out.2.2.el x hxm] at dx
                        rw [hJ.out.2.2.el y hym] at dy
                        clear rP
                        by_cases c6 : plB ((x3at R r).take k) (x : Int) = true
                        · have HN := HF r k hlt hkt (by rw [okAt, hp]; simp only [nth, List.getD_cons_zero]; rw [c6]; simp)
                          rw [c6] at dx
                          clear hp
                          go_wp2_with fail
                          go_ret
                          exact ⟨ret_bool HN.out.symm, hS4.out⟩
                        · have c6 : plB ((x3at R r).take k) (x : Int) = false := by simpa using c6
                          rw [c6] at dx
                          by_cases c7 : plB ((x3at R r).take k) (y : Int) = true
                          · have HN := HF r k hlt hkt (by rw [okAt, hp]; simp only [nth, List.getD_cons_zero, List.getD_cons_succ]; rw [c7]; simp)
                            rw [c7] at dy
                            clear hp
                            go_wp2_with fail
                            go_ret
                            exact ⟨ret_bool HN.out.symm, hS4.out⟩
                          · have c7 : plB ((x3at R r).take k) (y : Int) = false := by simpa using c7
                            rw [c7] at dy
                            have hlM : M.length = m := hJ.out.2.1.sqr.len
                            have hlu : um.length = M.length := by rw [hlm.out, hlM]
                            have rM := (hS4.sub (List.sublist_cons_self _ _)).rii hlu
                            have jx := rM.ixe (x : Int) x rfl (by rw [hlM]; exact hxm)
                            have ex := rM.cell x (by rw [hlM]; exact hxm)
                            have rx := rM.row x (by rw [hlM]; exact hxm)
                            have jy := rx.ixe (y : Int) y rfl (by rw [hJ.out.2.1.sqr.row x hxm]; exact hym)
                            have ey := rx.cell y (by rw [hJ.out.2.1.sqr.row x hxm]; exact hym)
                            have hel := hJ.out.2.1.el x y hxm hym
                            rw [show nth (xat M x) y = at2 M x y from rfl, hel] at ey
                            by_cases c8 : [(x : Int), (y : Int)] ∈ seen R r k
                            · have HN := HF r k hlt hkt (by rw [okAt, hp, decide_eq_true c8]; simp)
                              rw [if_pos c8] at ey
                              clear hp hel c8
                              go_wp2_with fail
                              go_ret
                              exact ⟨ret_bool HN.out.symm, hS4.out⟩
                            · rw [if_neg c8] at ey
                              have HK : Hid (okAt m R r k = true) := Lib.hid (by
                                rw [okAt, hp]
                                simp only [nth, List.getD_cons_zero, List.getD_cons_succ, gdP]
                                rw [c6, c7, decide_eq_false c8, decide_eq_true (show (x : Int) < (y : Int) by omega), hA, hB]
                                simp
                                exact HC.out)
                              have Hp := Lib.hid hp
                              have HZ0 := HZ c8
                              have Hel := Lib.hid hlu
                              have HlM := Lib.hid hlM
                              have hPl := Lib.hid hJ.out.2.2.len
                              clear hp hel c8 c6 c7 rM rx hlM hlu
                              go_wp2_with (first
                                | (refine stoI hS6 (x + 2) (met_get Hel.out (by rw [HlM.out]; exact hxm)) y (by rw [hJ.out.2.1.sqr.row x hxm]; exact hym) rfl _ _ rfl rfl _ rfl ?_; intro w7 hS7)
                                | (refine stoO hS5 0 rfl y (by rw [List.length_set, hPl.out]; exact hym) rfl _ _ rfl rfl true rfl ?_; intro w6 hS6; simp only [List.set_cons_zero] at hS6; have rM := (hS6.sub (List.sublist_cons_self _ _)).rii Hel.out; have ex := rM.cell x (by rw [HlM.out]; exact hxm); have ey := (rM.row x (by rw [HlM.out]; exact hxm)).cell y (by rw [hJ.out.2.1.sqr.row x hxm]; exact hym); rw [show nth (xat M x) y = at2 M x y from rfl, HZ0.out] at ey)
                                | (refine stoO hS4 0 rfl x (by rw [hPl.out]; exact hxm) rfl _ _ rfl rfl true rfl ?_; intro w5 hS5; simp only [List.set_cons_zero] at hS5))
                              rw [met_set Hel.out (by rw [HlM.out]; exact hxm)] at hS7
                              go_roundw
                              case rel => exact ⟨k + 1, putS M x y 1, _, by omega, by go_num, ⟨fun k' hk' => by
                                by_cases e : k' = k
                                · subst e; exact HK.out
                                · exact hJ.out.1 k' (by omega), by rw [seen_snoc hkt, Hp.out]; exact hJ.out.2.1.snoc hxm hym, by rw [take_xat hkt, Hp.out]; exact hJ.out.2.2.snoc hxm hym⟩, hS7⟩
                              case measure => simp [intOf]; omega
                      · have HN := HF r k hlt hkt (by rw [okAt, hp, Hjk.out, decide_eq_false c5, decide_eq_false (show ¬ k = 0 by omega)]; simp)
                        generalize cmpI (xat (x3at R r) j) [(x : Int), (y : Int)] = z at RJ c5
                        clear hp
                        go_wp2_with fail
                        have hne : Nonempty (SS _ _ _) := ⟨⟨_, hS⟩⟩
                        refine wp_region_st (by kernel_rfl) (by kernel_rfl) hS ?_
                        repeat (go_big_quiet_step ((go_at_call 37; exact st_quiet0 (within_c _ _ _ _))))
                        refine wpQuiet_nil ?_
                        rintro _ ⟨s2, rfl⟩
                        have hS3 := s2.st
                        generalize s2.w = w3 at hS3 ⊢
                        have cj := cj _ hS3
                        have RJ := RJ _ hS3
                        go_wp2_with (go_at_call 35; refine RJ.out.mono ?_; rintro e2 w4 ⟨rfl, hw4⟩; subst hw4)
                        go_ret
                        exact ⟨ret_bool HN.out.symm, hS3.out⟩
          · obtain rfl : k = (x3at R r).length := by omega
            go_wp2_with fail
            go_roundw
            case rel => exact ⟨r + 1, M, by omega, by go_num, ⟨fun r' hr' k2 hk2 => by
              by_cases e : r' = r
              · subst e; exact hJ.out.1 k2 hk2
              · exact hI.out.1 r' (by omega) k2 hk2, by rw [seen_next hlt]; exact hJ.out.2.1⟩, hS.sub (List.sublist_cons_self _ _)⟩
            case measure => simp [intOf]; omega
      · obtain rfl : r = R.length := by omega
        have hfl := Lib.hid (show MP m R.flatten M by rw [← seen_end]; exact hI.out.2)
        have Hok := Lib.hid hI.out.1
        have hlM := hfl.out.sqr.len
        have rM := hS.rii (show um.length = M.length by rw [hlm.out, hlM])
        have jM := rM.ixe
        clear hI hix
        go_wp2_with fail
        go_loopw [120, 13] (fun i _ wr' => ∃ a : Nat, a ≤ m ∧ i = .int .i64 a ∧ Hid (∀ a', a' < a → rowA m R.flatten a' = true) ∧ wr = wr') (fun i _ _ => m - (intOf i).toNat)
        case atStart => exact ⟨0, by omega, rfl, fun a' h => by omega, rfl⟩
        case round =>
          obtain ⟨a, ha, rfl, hA, rfl⟩ := hrel
          by_cases hat : a < m
          · have jx := jM (a : Int) a rfl (by rw [hlM]; exact hat)
            have ex := rM.cell a (by rw [hlM]; exact hat)
            have rx := rM.row a (by rw [hlM]; exact hat)
            have hlr := hfl.out.sqr.row a hat
            have hsl : ∀ W, (Instr.slice 30 (vat um a) (some (.int .i64 ((a : Int) + 1))) none none).run Try.prog W = .ok (rsl (vat um a) (a + 1) m) W := fun W => by
              have := rsl_lo rx (a + 1) (by rw [hlr]; exact hat) W
              rwa [hlr, show ((a + 1 : Nat) : Int) = (a : Int) + 1 by omega] at this
            have rs := rsl_rd rx (lo := a + 1) (hi := m) (by omega) (by rw [hlr]; exact Nat.le_refl _)
            have hD := dec_row hfl.out hat
            have KC := Lib.hid (Contains_c (rsl (vat um a) (a + 1) m) _ 0 _ rs)
            rw [hD] at KC
            generalize rsl (vat um a) (a + 1) m = vr at *
            cases hrow : rowA m R.flatten a
            · have HN : Hid (vsB m R = false) := Lib.hid (by
                rw [vsB, Int.toNat_natCast]
                have : ((List.range m).all fun a => (List.range m).all fun b => decide (b ≤ a) || decide ([(a : Int), (b : Int)] ∈ R.flatten)) = false := by
                  rw [Bool.eq_false_iff]
                  intro hc
                  have := List.all_eq_true.1 hc a (List.mem_range.2 hat)
                  rw [show ((List.range m).all fun b => decide (b ≤ a) || decide ([(a : Int), (b : Int)] ∈ R.flatten)) = rowA m R.flatten a from rfl, hrow] at this
                  cases this
                rw [this, Bool.and_false])
              rw [hrow] at KC
              clear rs rx hD hrow
              go_wp2_with (go_at_call 38; refine KC.out.mono ?_; rintro e2 w4 ⟨rfl, hw4⟩; subst hw4)
              go_ret
              exact ⟨ret_bool HN.out.symm, hS.out⟩
            · rw [hrow] at KC
              have Hrow := Lib.hid hrow
              clear rs rx hD hrow
              go_wp2_with (go_at_call 38; refine KC.out.mono ?_; rintro e2 w4 ⟨rfl, hw4⟩; subst hw4)
              go_roundw
              case rel => exact ⟨a + 1, by omega, by go_num, fun a' ha' => by
                by_cases e : a' = a
                · subst e; exact Hrow.out
                · exact hA.out a' (by omega), by first | trivial | rfl⟩
              case measure => simp [intOf]; omega
          · obtain rfl : a = m := by omega
            have HY : Hid (vsB a R = true) := Lib.hid (by
              rw [vsB, Int.toNat_natCast, inB_true hn, Bool.true_and, Bool.and_eq_true]
              exact ⟨List.all_eq_true.2 fun r hr => List.all_eq_true.2 fun k hk => Hok.out r (List.mem_range.1 hr) k (List.mem_range.1 hk), List.all_eq_true.2 fun x hx => hA.out x (List.mem_range.1 hx)⟩)
            go_wp2_with fail
            go_ret
            exact ⟨ret_bool HY.out.symm, hS.out⟩
end Go.Proofs.Ytgflhgkcmfjkgaa
end

section
/- Walks: a design of sorted copies; complements. -/
namespace Go.Proofs.Ytgflhgkcmfjkgaa
set_option linter.unusedSimpArgs false
set_option linter.unusedVariables false
open Go.RowKit
attribute [local go_sem ↓] Go.wp_at_zero Go.wp_at_succ

/-- it hands over a design of its own, and a code -/
def MakesD (w : World) (P : Int) (A : List (List Int)) (c : Int) (e : Ending) (w' : World) : Prop := ∃ v us, e = .returned (.tuple #[dv P v, .int .i64 c]) ∧ us.length = A.length ∧ St w.heap.size w w' (own2 v us A)
theorem MakesD.no {w w' : World} {L : List Ent} {c : Int} (h : St w.heap.size w w' L) : MakesD w 0 [] c (.returned (.tuple #[.agg #[.int .i64 0, .slice none 0 0], .int .i64 c])) w' :=
  ⟨_, [], rfl, rfl, h.out.newnil _⟩
theorem sorted_no (P : Int) (v : Value) (us : List Value) (A : List (List Int)) (w : World) (hv : RII w v us A) (hl : 128 < A.length) :
    Calls Try.prog 39 #[.int .i64 P, v] w (MakesD w 0 [] 5) := by
  have hS0 := (St.refl w).newboxF 35 #[.int .i64 0, .slice none 0 0]
  have b0 := hS0.bcell 0 rfl 0 rfl
  have b1 := hS0.bcell 0 rfl 1 rfl
  have f0 := hS0.bfree 0 rfl
  have hln := hv.len
  have h6 := (hS0.bstore 0 rfl 0 (.int .i64 0)).bstore 0 rfl 1 (.slice none 0 0)
  have d0 := h6.bcell 0 rfl 0 rfl
  have d1 := h6.bcell 0 rfl 1 rfl
  go_enter Try.func39, Try.ntmps39
  go_wp2_with fail
  refine bodyPost_ret (v := .tuple #[.agg #[.int .i64 0, .slice none 0 0], .int .i64 5]) (by simp [results, Try.results39, go_sem, d0, d1, b0, b1]) rfl ?_
  first | exact MakesD.no h6 | exact MakesD.no hS0
set_option maxHeartbeats 1000000 in
theorem sorted_c (P : Int) (v : Value) (us : List Value) (A : List (List Int)) (w : World) (hv : RII w v us A) (hl : A.length ≤ 128) (hN : ∀ xs ∈ A, xs.length ≤ 1048576) :
    Calls Try.prog 39 #[.int .i64 P, v] w (MakesD w P (srtL A) 0) := by
  have hS0 := (St.refl w).newboxF 35 #[.int .i64 0, .slice none 0 0]
  have hln := hv.len
  have hc := Lib.hid (copyLists_c v us A _ (hS0.oldII hv) (by omega) hN)
  go_enter Try.func39, Try.ntmps39
  go_wp2_with fail
  refine hc.out.mono ?_
  clear hc
  rintro e w1 ⟨v1, us1, rfl, hl1, h1⟩
  have h2 := hS0.call h1
  obtain ⟨a1, c1, hv1⟩ := (h1.rd 0 (e := 30) (v := v1) (us := us1) rfl).sl.sh
  rw [hl1] at hv1
  subst hv1
  have hB := h2.newboxF 35 #[.int .i64 P, .slice a1 A.length c1]
  have b0 := hB.bcell 0 rfl 0 rfl
  have b1 := hB.bcell 0 rfl 1 rfl
  have h3 := hB.perm (L' := own2 (.slice a1 A.length c1) us1 A ++ [box 35 w.heap.size [.int .i64 0, .slice none 0 0], box 35 w1.heap.size [.int .i64 P, .slice a1 A.length c1]]) (by (try simp only [own2, List.cons_append, List.nil_append, List.append_nil]); classical exact List.perm_iff_count.2 (fun a => by simp only [List.cons_append, List.nil_append, List.append_nil, List.count_append, List.count_cons, List.count_nil] <;> omega))
  clear h1 h2 hB hS0
  go_wp2_with fail
  refine (SortRows_c h3 hl1 (by omega)).mono ?_
  rintro e w2 ⟨us2, rfl, hl2, h4⟩
  have h5 := h4.perm (L' := box 35 w.heap.size [.int .i64 0, .slice none 0 0] :: box 35 w1.heap.size [.int .i64 P, .slice a1 A.length c1] :: own2 (.slice a1 A.length c1) us2 (srtL A)) (by (try simp only [own2, List.cons_append, List.nil_append, List.append_nil]); classical exact List.perm_iff_count.2 (fun a => by simp only [List.cons_append, List.nil_append, List.append_nil, List.count_append, List.count_cons, List.count_nil] <;> omega))
  clear h3 h4 b0 b1
  have b0 := h5.bcell 1 rfl 0 rfl
  have b1 := h5.bcell 1 rfl 1 rfl
  have e0 := h5.bcell 0 rfl 0 rfl
  have e1 := h5.bcell 0 rfl 1 rfl
  have f0 := h5.bfree 0 rfl
  have h6 := (h5.bstore 0 rfl 0 (.int .i64 P)).bstore 0 rfl 1 (.slice a1 A.length c1)
  have d0 := h6.bcell 0 rfl 0 rfl
  have d1 := h6.bcell 0 rfl 1 rfl
  go_wp2_with fail
  refine bodyPost_ret (v := .tuple #[.agg #[.int .i64 P, .slice a1 A.length c1], .int .i64 0]) (by simp [results, Try.results39, go_sem, d0, d1]) rfl ?_
  exact ⟨_, us2, rfl, by rw [hl2, srtL_len], h6.sub ((List.sublist_cons_self _ _).trans (List.sublist_cons_self _ _))⟩

end Go.Proofs.Ytgflhgkcmfjkgaa
end

section
/- Posts: a row and a code; a list of rows and a code. -/
namespace Go.Proofs.Ytgflhgkcmfjkgaa
set_option linter.unusedSimpArgs false
set_option linter.unusedVariables false
/-- a row of its own, and a code -/
def MakesC1 (w : World) (xs : List Int) (c : Int) (e : Ending) (w' : World) : Prop := ∃ v, e = .returned (.tuple #[v, .int .i64 c]) ∧ St w.heap.size w w' [row 2 v (iv xs)]
end Go.Proofs.Ytgflhgkcmfjkgaa
end

section
/- Walks: opponents of a team, of the program; lists of rows laid flat. -/
namespace Go.Proofs.Ytgflhgkcmfjkgaa
set_option linter.unusedSimpArgs false
set_option linter.unusedVariables false
open Go.RowKit
attribute [local go_sem ↓] Go.wp_at_zero Go.wp_at_succ

/-- rows, one behind the other -/
def FRw (w : World) (us : List Value) (A : List (List Int)) : Prop := us.length = A.length ∧ ∀ j, j < A.length → RdI w (vat us j) (xat A j)
theorem FRw.app {w : World} {us us' : List Value} {A B : List (List Int)} (h1 : FRw w us A) (h2 : FRw w us' B) : FRw w (us ++ us') (A ++ B) := by
  refine ⟨by simp [h1.1, h2.1], fun j hj => ?_⟩
  have e1 := h1.1
  have e2 := h2.1
  simp only [List.length_append] at hj
  by_cases hlt : j < A.length
  · have h3 := h1.2 j hlt
    have e3 : vat (us ++ us') j = vat us j := by simp [vat, List.getElem?_append_left (show j < us.length by omega)]
    have e4 : xat (A ++ B) j = xat A j := by simp [xat, List.getElem?_append_left hlt]
    rw [e3, e4]; exact h3
  · have h3 := h2.2 (j - A.length) (by omega)
    have e3 : vat (us ++ us') j = vat us' (j - A.length) := by simp [vat, List.getElem?_append_right (show us.length ≤ j by omega), e1]
    have e4 : xat (A ++ B) j = xat B (j - A.length) := by simp [xat, List.getElem?_append_right (show A.length ≤ j by omega)]
    rw [e3, e4]; exact h3
section
variable {w : World} {v : Value} {vs : List Value} {uss : List (List Value)} {X : List (List (List Int))}
theorem RIII.fr (h : RIII w v vs uss X) (hl : uss.length = X.length) : ∀ k, k ≤ X.length → FRw w (uss.take k).flatten (X.take k).flatten
  | 0, _ => ⟨by simp, fun j hj => by simp at hj⟩
  | k + 1, hk => by
    rw [take_vsat (by omega), take_x3at (by omega), List.flatten_append, List.flatten_append]
    have hr := h.row k (by omega)
    simpa using (RIII.fr h hl k (by omega)).app ⟨hr.2.1, hr.2.2⟩
theorem RIII.flat (h : RIII w v vs uss X) (hl : uss.length = X.length) : FRw w uss.flatten X.flatten := by
  have := h.fr hl X.length (Nat.le_refl _)
  rwa [List.take_length, List.take_of_length_le (by omega)] at this
theorem RIII.rvv (h : RIII w v vs uss X) (hl : uss.length = X.length) : RVV w v vs uss := ⟨h.1, by rw [h.2.1, hl], fun j hj => (h.row j (by omega)).1⟩
theorem RIII.totV (h : RIII w v vs uss X) (hl : uss.length = X.length) : totV uss = X.flatten.length := by rw [← totV_flat, (h.flat hl).1]
theorem RIII.one (h : RIII w v vs uss X) (hl : uss.length = X.length) : ∀ us ∈ uss, ∀ u ∈ us, u.oneCell' = true := by
  intro us hus u hu
  obtain ⟨i, hi, rfl⟩ := List.getElem_of_mem hus
  have hr := h.row i (by omega)
  rw [vsat_eq hi] at hr
  obtain ⟨j, hj, rfl⟩ := List.getElem_of_mem hu
  have := (hr.row j (by rw [← hr.2.1]; exact hj)).sl.one
  rwa [vat_eq hj] at this
theorem RIII.cat {w2 : World} {v2 : Value} (h : RIII w v vs uss X) (hl : uss.length = X.length) (h2 : St w.heap.size w w2 [Go.Proofs.Ytgflhgkcmfjkgaa.row 30 v2 uss.flatten]) : RII w2 v2 uss.flatten X.flatten :=
  ⟨h2.rd 0 (e := 30) rfl, (h.flat hl).1, fun j hj => ((h.flat hl).2 j hj).keep h2.below⟩
end

/-! ### opponents -/
def opK (t : Int) (q : List (List Int)) (k : Nat) : Int := (q.take k).foldl (opS t) (-1)
theorem opK_succ {t : Int} {q : List (List Int)} {k : Nat} (hk : k < q.length) : opK t q (k + 1) = opS t (opK t q k) (xat q k) := by rw [opK, take_xat hk, List.foldl_append]; rfl
theorem opK_end (t : Int) (q : List (List Int)) : opK t q q.length = opF t q := by rw [opK, List.take_length]; rfl
theorem oppL_take {t : Int} {R : List (List (List Int))} {r : Nat} (hr : r < R.length) : (oppL t R).take (r + 1) = (oppL t R).take r ++ [opF t (x3at R r)] := by
  rw [oppL, ← List.map_take, ← List.map_take, take_x3at hr, List.map_append]; rfl
theorem oppL_len (t : Int) (R : List (List (List Int))) : (oppL t R).length = R.length := by simp [oppL]
set_option maxHeartbeats 4000000 in
set_option maxRecDepth 100000 in
theorem OpponentsOf_c (n t : Nat) (v : Value) (vs : List Value) (uss : List (List Value)) (R : List (List (List Int))) (w : World) (hv : RIII w v vs uss R) (h : VS n R) (ht : t < n) (hl : R.length ≤ 1000000) :
    Calls Try.prog 11 #[.int .i64 n, v, .int .i64 t] w (MakesC1 w (oppL t R) 0) := by
  have KV := ValidSchedule_c n v vs uss R w hv
  rw [h.t] at KV
  have hW := within_c (t : Int) 0 ((n : Int) - 1)
  rw [inB_true (by omega)] at hW
  have hln := hv.len
  have hle := hv.le
  have hix := hv.ixe
  have hS0 := (St.refl w).newnil 2
  simp only [List.nil_append] at hS0
  have HG := fun q hq p hp => Lib.hid (gdP_t (h.gd q hq p hp))
  have n32 := h.n32
  clear h
  go_enter Try.func11, Try.ntmps11
  go_wp2_with fail
  refine KV.mono ?_
  clear KV
  rintro e w1 ⟨rfl, h1⟩
  have hS1 := h1.newnil 2
  simp only [List.nil_append] at hS1
  clear hS0
  go_wp2_with (go_at_call 37; refine (hW _).mono ?_; rintro e2 w4 ⟨rfl, hw4⟩; subst hw4)
  go_loopw [25, 8, 10, 11, 13] (fun i o _ _ _ wr => ∃ (r : Nat) (v2 : Value), v2 = o ∧ r ≤ R.length ∧ i = .int .i64 r ∧ St w.heap.size w wr [row 2 v2 (iv ((oppL t R).take r))]) (fun i _ _ _ _ _ => R.length - (intOf i).toNat)
  case atStart => exact ⟨0, _, rfl, by omega, rfl, hS1⟩
  case round =>
    clear hS1
    obtain ⟨r, v2, rfl, hr, rfl, hS⟩ := hrel
    by_cases hlt : r < R.length
    · have hc := (hS.oldIII hv).cell r hlt
      have hx := hix (r : Int) r rfl hlt
      have hlr := (hv.row r hlt).len
      have hler := (hv.row r hlt).le
      have hxr := (hv.row r hlt).ixe
      have HG := fun k (hk : k < (x3at R r).length) => HG _ (x3at_mem hlt) _ (xat_mem hk)
      have HT := Lib.hid (oppL_take (t := (t : Int)) hlt)
      have HE := Lib.hid (opK_end (t : Int) (x3at R r))
      go_wp2_with fail
      go_loopw [31, 11, 13] (fun i o _ wr => ∃ k : Nat, k ≤ (x3at R r).length ∧ i = .int .i64 k ∧ o = .int .i64 (opK t (x3at R r) k) ∧ St w.heap.size w wr [row 2 v2 (iv ((oppL t R).take r))]) (fun i _ _ _ => (x3at R r).length - (intOf i).toNat)
      case atStart => exact ⟨0, by omega, rfl, rfl, hS⟩
      case round =>
        clear hS hc
        obtain ⟨k, hk, rfl, rfl, hS⟩ := hrel
        by_cases hkt : k < (x3at R r).length
        · have hrp := (hv.row r hlt).row k hkt
          have hxp := hrp.ixe
          have hck := ((hS.oldIII hv).row r hlt).cell k hkt
          have hxk := hxr (k : Int) k rfl hkt
          have hG := (HG k hkt).out
          have HS := Lib.hid (opK_succ (t := (t : Int)) hkt)
          have h2 : (xat (x3at R r) k).length = 2 := by rw [hG.eq]; rfl
          have q0 := fun s : SS w.heap.size w [row 2 v2 (iv ((oppL t R).take r))] => (((s.st.oldIII hv).row r hlt).row k hkt).cell 0 (by omega)
          have q1 := fun s : SS w.heap.size w [row 2 v2 (iv ((oppL t R).take r))] => (((s.st.oldIII hv).row r hlt).row k hkt).cell 1 (by omega)
          have x0 := hxp (0 : Int) 0 rfl (by omega)
          have x1 := hxp (1 : Int) 1 rfl (by omega)
          have hlo := hG.lo
          have hlt' := hG.lt
          have hhi := hG.hi
          have KC := Lib.hid (Contains_c _ _ (t : Int) _ (((hS.oldIII hv).row r hlt).row k hkt))
          by_cases hm : (t : Int) ∈ xat (x3at R r) k
          · rw [decide_eq_true hm] at KC
            have HS2 : Hid (opK t (x3at R r) (k + 1) = nth (xat (x3at R r) k) 0 + nth (xat (x3at R r) k) 1 - t) := Lib.hid (by rw [HS.out, opS, if_pos hm])
            have hti : 0 ≤ (t : Int) := by omega
            generalize nth (xat (x3at R r) k) 0 = a at *
            generalize nth (xat (x3at R r) k) 1 = b at *
            have wa : IntKind.i64.wrap (a + b) = a + b := IntWalk.i64_in _ (by omega)
            have wb : IntKind.i64.wrap (a + b - t) = a + b - t := IntWalk.i64_in _ (by omega)
            clear hm HS hG hxp h2 hrp
            go_wp2_with (go_at_call 38; refine KC.out.mono ?_; rintro e2 w4 ⟨rfl, hw4⟩; subst hw4)
            have hne : Nonempty (SS _ _ _) := ⟨⟨_, hS⟩⟩
            refine wp_region_st (by kernel_rfl) (by kernel_rfl) hS ?_
            repeat (go_big_quiet_step (fail))
            refine wpQuiet_nil ?_
            rintro _ ⟨s2, rfl⟩
            have hS3 := s2.st
            generalize s2.w = w3 at hS3 ⊢
            go_wp2_with fail
            go_roundw
            case rel => exact ⟨k + 1, by omega, by go_num, by rw [HS2.out], hS3⟩
            case measure => simp [intOf]; omega
          · rw [decide_eq_false hm] at KC
            have HS2 : Hid (opK t (x3at R r) (k + 1) = opK t (x3at R r) k) := Lib.hid (by rw [HS.out, opS, if_neg hm])
            clear hm HS hG hxp h2 hrp
            go_wp2_with (go_at_call 38; refine KC.out.mono ?_; rintro e2 w4 ⟨rfl, hw4⟩; subst hw4)
            go_roundw
            case rel => exact ⟨k + 1, by omega, by go_num, by rw [HS2.out], hS⟩
            case measure => simp [intOf]; omega
        · obtain rfl : k = (x3at R r).length := by omega
          rw [HE.out]
          have hN := Lib.hid (show ((oppL t R).take r).length < 4294967296 by rw [List.length_take]; omega)
          go_wp2_with (at_builtin; refine appI hS 0 rfl hN.out rfl _ _ rfl rfl _ rfl ?_; intro v5 w5 hS5; simp only [List.set_cons_zero] at hS5)
          rw [← HT.out] at hS5
          go_roundw
          case rel => exact ⟨r + 1, _, rfl, by omega, by go_num, hS5⟩
          case measure => simp [intOf]; omega
    · obtain rfl : r = R.length := by omega
      rw [show (oppL t R).take R.length = oppL t R by rw [← oppL_len t R, List.take_length]] at hS
      go_wp2_with fail
      go_ret2
      exact ⟨_, rfl, hS⟩

/-! ### the design of a schedule -/
theorem clsR_take {D q : List (List Int)} {k : Nat} (hk : k < q.length) : (clsR D q).take (k + 1) = (clsR D q).take k ++ [(D.idxOf (xat q k) : Int)] := by
  rw [clsR, ← List.map_take, ← List.map_take, take_xat hk, List.map_append]; rfl
theorem clsR_len (D q : List (List Int)) : (clsR D q).length = q.length := by simp [clsR]
theorem clsL_take {D : List (List Int)} {R : List (List (List Int))} {r : Nat} (hr : r < R.length) : (clsL D R).take (r + 1) = (clsL D R).take r ++ [clsR D (x3at R r)] := by
  rw [clsL, ← List.map_take, ← List.map_take, take_x3at hr, List.map_append]; rfl
theorem clsL_len (D : List (List Int)) (R : List (List (List Int))) : (clsL D R).length = R.length := by simp [clsL]
/-- a design, lists of numbers and a code -/
def MakesDS (w : World) (P : Int) (A C : List (List Int)) (c : Int) (e : Ending) (w' : World) : Prop := ∃ v us vc uc, e = .returned (.tuple #[dv P v, vc, .int .i64 c]) ∧ us.length = A.length ∧ uc.length = C.length ∧ St w.heap.size w w' (own2 v us A ++ own2 vc uc C)
set_option maxHeartbeats 4000000 in
set_option maxRecDepth 100000 in
theorem DesignOfSchedule_no (n : Nat) (v : Value) (vs : List Value) (uss : List (List Value)) (R : List (List (List Int))) (w : World) (hv : RIII w v vs uss R) (hul : uss.length = R.length) (h : VS n R) (hl : R.flatten.length ≤ 1048576) (h128 : 128 < R.flatten.length) :
    Calls Try.prog 12 #[.int .i64 n, v] w fun e w' => e = .returned (.tuple #[.agg #[.int .i64 0, .slice none 0 0], .slice none 0 0, .int .i64 5]) ∧ St w.heap.size w w' [] := by
  have KV := fun W hW => Lib.hid (ValidSchedule_c n v vs uss R W hW)
  rw [h.t] at KV
  have hS0 := (St.refl w).newboxF 35 #[.int .i64 0, .slice none 0 0]
  have KC := fun W (hW : RIII W v vs uss R) => Lib.hid (ConcatII_c v vs uss W (hW.rvv hul) (hW.one hul) (by rw [hW.totV hul]; exact hl))
  have HC := fun W (hW : RIII W v vs uss R) w2 v2 h2 => Lib.hid (hW.cat (w2 := w2) (v2 := v2) hul h2)
  clear h
  go_enter Try.func12, Try.ntmps12
  go_wp2_with (first
    | (go_at_call 39; refine (sorted_no n v3 uss.flatten R.flatten w3 hR.out h128).mono ?_; rintro e4 w4 ⟨v4, us4, rfl, hl4, h4⟩; obtain ⟨a4, c4, hv4⟩ := (h4.rd 0 (e := 30) (v := v4) (us := us4) rfl).sl.sh; rw [show us4.length = 0 from hl4] at hv4; subst hv4; unfold dv; have hB := (hS3.call0 h4.out).newboxF 35 #[.int .i64 0, .slice a4 0 c4]; have f0 := hB.bfree 1 rfl; have e0 := hB.bcell 1 rfl 0 rfl; have e1 := hB.bcell 1 rfl 1 rfl; have h6 := (hB.bstore 1 rfl 0 (.int .i64 0)).bstore 1 rfl 1 (.slice none 0 0); have d0 := h6.bcell 1 rfl 0 rfl; have d1 := h6.bcell 1 rfl 1 rfl)
    | (go_at_call 40; refine (KC _ (hS2.oldIII hv)).out.mono ?_; rintro e3 w3 ⟨v3, rfl, h3⟩; have hR := HC _ (hS2.oldIII hv) _ _ h3; have hS3 := hS2.call0 h3.out)
    | (go_at_call 9; refine (KV _ (hS0.oldIII hv)).out.mono ?_; rintro e2 w2 ⟨rfl, h2⟩; have hS2 := hS0.call0 h2))
  refine bodyPost_ret (v := .tuple #[.agg #[.int .i64 0, .slice none 0 0], .slice none 0 0, .int .i64 5]) (by simp [results, Try.results12, go_sem, d0, d1]) rfl ?_
  exact ⟨rfl, h6.out⟩
set_option maxHeartbeats 8000000 in
set_option maxRecDepth 100000 in
theorem DesignOfSchedule_c (n : Nat) (v : Value) (vs : List Value) (uss : List (List Value)) (R : List (List (List Int))) (w : World) (hv : RIII w v vs uss R) (hul : uss.length = R.length) (h : VS n R) (hl : R.flatten.length ≤ 128) (hR : R.length ≤ 1000) :
    Calls Try.prog 12 #[.int .i64 n, v] w (MakesDS w n (dsL R) (clsL (dsL R) R) 0) := by
  have KV := fun W hW => Lib.hid (ValidSchedule_c n v vs uss R W hW)
  rw [h.t] at KV
  have hS0 := (St.refl w).newboxF 35 #[.int .i64 0, .slice none 0 0]
  have KC := fun W (hW : RIII W v vs uss R) => Lib.hid (ConcatII_c v vs uss W (hW.rvv hul) (hW.one hul) (by rw [hW.totV hul]; omega))
  have HC := fun W (hW : RIII W v vs uss R) w2 v2 h2 => Lib.hid (hW.cat (w2 := w2) (v2 := v2) hul h2)
  have HX := Lib.hid (fun xs (hx : xs ∈ R.flatten) => (show xs.length ≤ 1048576 by
    obtain ⟨q, hq, hp⟩ := List.mem_flatten.1 hx
    rw [(gdP_t (h.gd q hq xs hp)).eq]; simp))
  have HV := Lib.hid h
  have hln := hv.len
  have hle := hv.le
  have hix := hv.ixe
  clear h
  go_enter Try.func12, Try.ntmps12
  go_wp2_with (first
    | (go_at_call 39; refine (sorted_c n v3 uss.flatten R.flatten w3 hR2.out hl HX.out).mono ?_; rintro e4 w4 ⟨v4, us4, rfl, hl4, h4⟩; obtain ⟨a4, c4, hv4⟩ := (h4.rd 0 (e := 30) (v := v4) (us := us4) rfl).sl.sh; rw [hl4] at hv4; subst hv4; unfold dv; have hB := (hS3.call h4).newboxF 35 #[.int .i64 n, .slice a4 (srtL R.flatten).length c4])
    | (go_at_call 40; refine (KC _ (hS2.oldIII hv)).out.mono ?_; rintro e3 w3 ⟨v3, rfl, h3⟩; have hR2 := HC _ (hS2.oldIII hv) _ _ h3; have hS3 := hS2.call0 h3.out)
    | (go_at_call 9; refine (KV _ (hS0.oldIII hv)).out.mono ?_; rintro e2 w2 ⟨rfl, h2⟩; have hS2 := hS0.call0 h2))
  have hS0' := (hB.newnil 30).perm (L' := own2 (.slice none 0 0) [] [] ++ (box 35 w4.heap.size [.int .i64 n, .slice a4 (srtL R.flatten).length c4] :: box 35 w.heap.size [.int .i64 0, .slice none 0 0] :: own2 (.slice a4 (srtL R.flatten).length c4) us4 (srtL R.flatten))) (by rw [own2_nil']; exact List.perm_append_comm)
  clear hB hS3 h4
  obtain ⟨LB, hLB⟩ : ∃ LB : List Ent, LB = (box 35 w4.heap.size [.int .i64 n, .slice a4 (srtL R.flatten).length c4] :: box 35 w.heap.size [.int .i64 0, .slice none 0 0] :: own2 (.slice a4 (srtL R.flatten).length c4) us4 (srtL R.flatten)) := ⟨_, rfl⟩
  rw [← hLB] at hS0'
  have hbx : Hid (LB[0]? = some (box 35 w4.heap.size [.int .i64 n, .slice a4 (srtL R.flatten).length c4])) := Lib.hid (by rw [hLB]; rfl)
  have hsb : Hid ((own2 (.slice a4 (srtL R.flatten).length c4) us4 (srtL R.flatten)).Sublist LB) := Lib.hid (by rw [hLB]; exact .cons _ (.cons _ (.refl _)))
  have HLB := Lib.hid hLB
  clear hLB
  rw [show srtL R.flatten = dsL R from rfl] at *
  have HD1 := fun q (hq : q ∈ R) p (hp : p ∈ q) => Lib.hid (idx_at (D := dsL R) (p := p) ((srtL_perm _).mem_iff.2 (List.mem_flatten.2 ⟨q, hq, hp⟩)))
  have HD2 : Hid (∀ i j, i < j → j < (dsL R).length → cmpI (xat (dsL R) i) (xat (dsL R) j) < 0) := Lib.hid (fun i j hij hj => HV.out.dst hij hj)
  have HD3 : Hid ((dsL R).length ≤ 128) := Lib.hid (by rw [dsL_len]; exact hl)
  generalize dsL R = D at *
  have HlD := Lib.hid hl4
  clear hl4
  go_wp2_with fail
  go_loopw [35, 9, 11, 12, 14, 15, 16] (fun i o _ _ _ _ _ wr => ∃ (r : Nat) (v2 : Value) (uc : List Value), v2 = o ∧ r ≤ R.length ∧ i = .int .i64 r ∧ Hid (uc.length = ((clsL D R).take r).length) ∧ St w.heap.size w wr (own2 v2 uc ((clsL D R).take r) ++ LB)) (fun i _ _ _ _ _ _ _ => R.length - (intOf i).toNat)
  case atStart => exact ⟨0, _, [], rfl, by omega, rfl, rfl, hS0'⟩
  case round =>
    clear hS0'
    obtain ⟨r, v2, uc, rfl, hr, rfl, hul2, hS⟩ := hrel
    by_cases hlt : r < R.length
    · have hc := (hS.oldIII hv).cell r hlt
      have hx := hix (r : Int) r rfl hlt
      have hlr := (hv.row r hlt).len
      have hler := (hv.row r hlt).le
      have hxr := (hv.row r hlt).ixe
      have HT := Lib.hid (clsL_take (D := D) hlt)
      have HD1 := fun k (hk : k < (x3at R r).length) => HD1 _ (x3at_mem hlt) _ (xat_mem hk)
      have hq128 : Hid ((x3at R r).length ≤ 128) := Lib.hid (by
        have h1 := seen_pre hlt (Nat.le_refl (x3at R r).length)
        have h2 := congrArg List.length h1
        rw [seen] at h2
        simp only [List.length_append, List.length_take, Nat.min_self] at h2
        omega)
      have hS' := (hS.newnil 2).perm (L' := row 2 (.slice none 0 0) (iv ((clsR D (x3at R r)).take 0)) :: (own2 v2 uc ((clsL D R).take r) ++ LB)) List.perm_append_comm
      go_wp2_with fail
      go_loopw [41, 12, 14, 15, 16] (fun i o _ _ _ wr => ∃ (k : Nat) (v3 : Value), v3 = o ∧ k ≤ (x3at R r).length ∧ i = .int .i64 k ∧ St w.heap.size w wr (row 2 v3 (iv ((clsR D (x3at R r)).take k)) :: (own2 v2 uc ((clsL D R).take r) ++ LB))) (fun i _ _ _ _ _ => (x3at R r).length - (intOf i).toNat)
      case atStart => exact ⟨0, _, rfl, by omega, rfl, hS'⟩
      case round =>
        clear hS hS' hc
        obtain ⟨k, v3, rfl, hk, rfl, hS⟩ := hrel
        by_cases hkt : k < (x3at R r).length
        · have hck := ((hS.oldIII hv).row r hlt).cell k hkt
          have hxk := hxr (k : Int) k rfl hkt
          have b1 := hS.bcell _ (at_cons (at_app hbx.out)) 1 rfl
          have hI := (HD1 k hkt).out
          have rD := (hS.sub ((hsb.out.trans (List.sublist_append_right _ _)).cons _)).rii HlD.out
          have KB := Lib.hid (BinSearchR_c _ (vat (vsat uss r) k) us4 D (D.idxOf (xat (x3at R r) k)) _ rD (by rw [hI.2]; exact ((hS.oldIII hv).row r hlt).row k hkt) hI.1 (by have := HD3.out; omega) HD2.out)
          have HTk := Lib.hid (clsR_take (D := D) hkt)
          have hN := Lib.hid (show ((clsR D (x3at R r)).take k).length < 4294967296 by rw [List.length_take]; have := hq128.out; omega)
          generalize D.idxOf (xat (x3at R r) k) = kk at *
          clear hI rD
          go_wp2_with (first
            | (at_builtin; refine appI hS 0 rfl hN.out rfl _ _ rfl rfl _ rfl ?_; intro v5 w5 hS5; simp only [List.set_cons_zero] at hS5)
            | (go_at_call 41; refine KB.out.mono ?_; rintro e2 w4 ⟨rfl, hw4⟩; subst hw4))
          rw [← HTk.out] at hS5
          go_roundw
          case rel => exact ⟨k + 1, _, rfl, by omega, by go_num, hS5⟩
          case measure => simp [intOf]; omega
        · obtain rfl : k = (x3at R r).length := by omega
          rw [show (clsR D (x3at R r)).take (x3at R r).length = clsR D (x3at R r) by rw [← clsR_len D (x3at R r), List.take_length]] at hS
          obtain ⟨qa, qc, hq⟩ := (hS.rdI 0 rfl).sl.sh
          rw [iv_len, clsR_len] at hq
          subst hq
          have hS7 := hS.perm (L' := own2 v2 uc ((clsL D R).take r) ++ LB ++ [row 2 (.slice qa (x3at R r).length qc) (iv (clsR D (x3at R r)))]) (List.perm_append_singleton _ _).symm
          have hN := Lib.hid (show uc.length < 4294967296 by rw [hul2.out, List.length_take]; omega)
          go_wp2_with (at_builtin; refine appII hS7 0 rfl hN.out rfl _ _ rfl rfl _ rfl rfl ?_; intro v5 w5 hS5)
          have hS8 := own2_snocL hul2.out hS5
          rw [← HT.out] at hS8
          have hu3 : Hid ((uc ++ [Value.slice qa (x3at R r).length qc]).length = ((clsL D R).take (r + 1)).length) := Lib.hid (by rw [HT.out]; simp [hul2.out])
          go_roundw
          case rel => exact ⟨r + 1, _, _, rfl, by omega, by go_num, hu3, hS8⟩
          case measure => simp [intOf]; omega
    · obtain rfl : r = R.length := by omega
      rw [show (clsL D R).take R.length = clsL D R by rw [← clsL_len D R, List.take_length]] at hS hul2
      rw [HLB.out] at hS
      have h5 := hS.perm (L' := box 35 w4.heap.size [.int .i64 n, .slice a4 D.length c4] :: box 35 w.heap.size [.int .i64 0, .slice none 0 0] :: (own2 (.slice a4 D.length c4) us4 D ++ own2 v2 uc (clsL D R))) List.perm_append_comm
      clear hS
      have b0 := h5.bcell 0 rfl 0 rfl
      have b1 := h5.bcell 0 rfl 1 rfl
      have e0 := h5.bcell 1 rfl 0 rfl
      have e1 := h5.bcell 1 rfl 1 rfl
      have f0 := h5.bfree 1 rfl
      have h6 := (h5.bstore 1 rfl 0 (.int .i64 n)).bstore 1 rfl 1 (.slice a4 D.length c4)
      have d0 := h6.bcell 1 rfl 0 rfl
      have d1 := h6.bcell 1 rfl 1 rfl
      go_wp2_with fail
      refine bodyPost_ret (v := .tuple #[.agg #[.int .i64 n, .slice a4 D.length c4], v2, .int .i64 0]) (by simp [results, Try.results12, go_sem, d0, d1]) rfl ?_
      exact ⟨_, us4, v2, uc, rfl, HlD.out, hul2.out, h6.sub (.cons _ (.cons _ (.refl _)))⟩
end Go.Proofs.Ytgflhgkcmfjkgaa
end

section
/- Walks: how often points and pairs of points occur in a design. -/
namespace Go.Proofs.Ytgflhgkcmfjkgaa
set_option linter.unusedSimpArgs false
set_option linter.unusedVariables false
open Go.RowKit
attribute [local go_sem ↓] Go.wp_at_zero Go.wp_at_succ

/-- a block of points 0 .. P - 1 that increases -/
structure Inc (P : Nat) (b : List Int) : Prop where
  bd : ∀ i, i < b.length → 0 ≤ nth b i ∧ nth b i < P
  lt : ∀ i j, i < j → j < b.length → nth b i < nth b j
  len : b.length ≤ P
theorem inc_of {P : Nat} {b : List Int} (h : incB (-1) P b = true) : Inc P b where
  len := by have := inc_len h (by omega); omega
  bd i hi := by have := incB_gt h _ (nth_mem hi); omega
  lt i j hij hj := by
    have := List.pairwise_iff_getElem.1 (incB_pw h) i j (by omega) hj hij
    rwa [← nth_eq (show i < b.length by omega), ← nth_eq hj] at this
theorem DOk.inc' {P : Nat} {A : List (List Int)} (h : DOk P A) {k : Nat} (hk : k < A.length) : Inc P (xat A k) := inc_of (h.inc _ (xat_mem hk))
theorem Inc.nat {P : Nat} {b : List Int} (h : Inc P b) {i : Nat} (hi : i < b.length) : ∃ x : Nat, nth b i = x ∧ x < P :=
  ⟨(nth b i).toNat, by have := h.bd i hi; omega, by have := h.bd i hi; omega⟩
theorem Inc.fresh {P : Nat} {b : List Int} (h : Inc P b) {j : Nat} (hj : j < b.length) : nth b j ∉ b.take j := by
  intro hm
  obtain ⟨i, hi, he⟩ := List.getElem_of_mem hm
  have hi' : i < j := by simp at hi; omega
  rw [List.getElem_take, ← nth_eq (show i < b.length by omega)] at he
  have := h.lt i j hi' hj
  omega
theorem mem_take1 {b : List Int} {j : Nat} (hj : j < b.length) (x : Int) : x ∈ b.take (j + 1) ↔ x ∈ b.take j ∨ x = nth b j := by
  rw [List.take_add_one, List.getElem?_eq_getElem hj, nth_eq hj, List.mem_append]
  simp only [Option.toList, List.mem_singleton]
/-- how often the points have come up, behind k blocks and j points -/
def repS (P : Nat) (A : List (List Int)) (k j : Nat) : List Int := (List.range P).map fun x => repF (A.take k) x + if (x : Int) ∈ (xat A k).take j then 1 else 0
theorem repS_len (P : Nat) (A : List (List Int)) (k j : Nat) : (repS P A k j).length = P := by simp [repS]
theorem repS_at {P : Nat} {A : List (List Int)} {k j x : Nat} (hx : x < P) : nth (repS P A k j) x = repF (A.take k) x + if (x : Int) ∈ (xat A k).take j then 1 else 0 := by
  rw [nth_eq (by rw [repS_len]; exact hx)]; simp [repS]
theorem repS_0 (P : Nat) (A : List (List Int)) : repS P A 0 0 = List.replicate P 0 := by
  apply List.ext_getElem
  · simp [repS]
  · intro i h1 h2
    simp [repS, repF, cntD]
theorem repS_bd {P : Nat} {A : List (List Int)} {k j x : Nat} (hk : k < A.length) (hA : A.length ≤ 128) (hx : x < P) : 0 ≤ nth (repS P A k j) x ∧ nth (repS P A k j) x ≤ 129 := by
  rw [repS_at hx]
  have := cntD_bd (fun b => decide ((x : Int) ∈ b)) (A.take k)
  have hl : (A.take k).length ≤ 128 := by simp; omega
  unfold repF
  split <;> omega
theorem repS_step {P : Nat} {A : List (List Int)} {k j x : Nat} (hi : Inc P (xat A k)) (hj : j < (xat A k).length) (hx : nth (xat A k) j = x) (hxP : x < P) :
    (repS P A k j).set x (nth (repS P A k j) x + 1) = repS P A k (j + 1) := by
  apply List.ext_getElem
  · simp [repS]
  · intro i h1 h2
    have hiP : i < P := by simpa [repS] using h2
    rw [← nth_eq h2, repS_at hiP, List.getElem_set]
    have hf := hi.fresh hj
    rw [hx] at hf
    have hm := mem_take1 hj (i : Int)
    rw [hx] at hm
    by_cases e : x = i
    · subst e
      rw [if_pos rfl, repS_at hxP, if_neg hf, if_pos (hm.2 (.inr rfl))]; omega
    · rw [if_neg e, ← nth_eq (by rw [repS_len]; exact hiP), repS_at hiP]
      congr 1
      have : ((i : Int) ∈ (xat A k).take (j + 1)) ↔ (i : Int) ∈ (xat A k).take j := by rw [hm]; constructor
                                                                                       · rintro (h | h)
                                                                                         · exact h
                                                                                         · omega
                                                                                       · exact .inl
      simp only [this]
theorem repS_next {P : Nat} {A : List (List Int)} {k : Nat} (hk : k < A.length) : repS P A k (xat A k).length = repS P A (k + 1) 0 := by
  refine List.map_congr_left fun x _ => ?_
  rw [List.take_length, take_xat hk]
  unfold repF
  rw [cntD_snoc]
  simp
theorem repS_end {P : Nat} {A : List (List Int)} : repS P A A.length 0 = repL P A := by
  refine List.map_congr_left fun x _ => ?_
  rw [List.take_length]; simp

set_option maxHeartbeats 2000000 in
set_option maxRecDepth 100000 in
theorem replicationsOf_c (P : Nat) (v : Value) (us : List Value) (A : List (List Int)) (w : World) (hv : RII w v us A) (hD : DOk P A) :
    Calls Try.prog 78 #[dv P v] w (MakesI w (repL P A)) := by
  obtain ⟨a, c, hsh⟩ := hv.1.sl.sh
  rw [hv.2.1] at hsh
  subst hsh
  have hP := hD.le
  have hDl := hD.len
  have HD := Lib.hid hD
  clear hD
  have hS1 := (St.refl w).newboxF 35 #[.int .i64 P, .slice a A.length c]
  have b0 := hS1.bcell 0 rfl 0 rfl
  have b1 := hS1.bcell 0 rfl 1 rfl
  have hix := hv.ix
  unfold dv
  go_enter Try.func78, Try.ntmps78
  go_wp2_with (at_make; refine mkI hS1 rfl _ _ rfl _ _ P (by go_num) (by go_num) (by omega) ?_; intro vc w3 hS3; have b1 := hS3.bcell 0 rfl 1 rfl)
  have hxc := (hS3.rdI 1 rfl).ixe
  rw [← repS_0 P A] at hS3 hxc
  rw [repS_len] at hxc
  go_loopw [5, 7, 14] (fun _ _ i wr => ∃ k : Nat, k ≤ A.length ∧ i = .int .i64 k ∧ St w.heap.size w wr [box 35 w.heap.size [.int .i64 P, .slice a A.length c], row 2 vc (iv (repS P A k 0))]) (fun _ _ i _ => A.length - (intOf i).toNat)
  case atStart => exact ⟨0, by omega, rfl, hS3⟩
  case round =>
    clear hS3 b0 b1
    obtain ⟨k, hk, rfl, hS⟩ := hrel
    by_cases hlt : k < A.length
    · have hc := (hS.oldII hv).cell k hlt
      have hrk := (hS.oldII hv).row k hlt
      have hlk := hrk.len
      have hik := hrk.ix
      have HI := Lib.hid (HD.out.inc' hlt)
      have hl32 := HI.out.len
      have Hnx := Lib.hid (repS_next (P := P) hlt)
      go_wp2_with fail
      obtain ⟨wo, rfl⟩ : ∃ wo : World, wo = wr := ⟨_, rfl⟩
      go_loopw [7, 20] (fun _ i wr => ∃ j : Nat, j ≤ (xat A k).length ∧ i = .int .i64 j ∧ St w.heap.size w wr [box 35 w.heap.size [.int .i64 P, .slice a A.length c], row 2 vc (iv (repS P A k j))]) (fun _ i _ => (xat A k).length - (intOf i).toNat)
      case atStart => exact ⟨0, by omega, rfl, hS⟩
      case round =>
        clear hS hc hrk
        obtain ⟨j, hj, rfl, hS⟩ := hrel
        by_cases hjt : j < (xat A k).length
        · have cb := ((hS.oldII hv).row k hlt).cell j hjt
          obtain ⟨x, hx, hxP⟩ := HI.out.nat hjt
          rw [hx] at cb
          have Hst := Lib.hid (repS_step HI.out hjt hx hxP)
          have cx := (hS.rdI 1 rfl).cell x (by rw [repS_len]; exact hxP)
          have ux := hS.unfrozen 1 rfl (j := x) (by rw [iv_len, repS_len]; exact hxP)
          have xx := hxc (x : Int) x rfl hxP
          have hbd := repS_bd (P := P) (j := j) hlt hDl hxP
          have HS9 := Lib.hid (hS.store 1 rfl (j := x) (by rw [iv_len, repS_len]; exact hxP) (.int .i64 (nth (repS P A k j) x + 1)))
          generalize hq : nth (repS P A k j) x = q at *
          clear hq hx
          go_wp2_with fail
          have hS9 := HS9.out
          simp only [List.set_cons_zero, List.set_cons_succ] at hS9
          rw [iv_set, Hst.out] at hS9
          go_roundw
          case rel => exact ⟨j + 1, by omega, by go_num, hS9⟩
          case measure => simp [intOf]; omega
        · obtain rfl : j = (xat A k).length := by omega
          rw [Hnx.out] at hS
          go_wp2_with fail
          go_roundw
          case rel => exact ⟨k + 1, by omega, by go_num, hS⟩
          case measure => simp [intOf]; omega
    · obtain rfl : k = A.length := by omega
      rw [repS_end] at hS
      go_wp2_with fail
      go_ret
      exact ⟨vc, rfl, hS.sub (List.sublist_cons_self _ _)⟩
end Go.Proofs.Ytgflhgkcmfjkgaa
end

section
/- Walks: how often pairs of points occur in a design. -/
namespace Go.Proofs.Ytgflhgkcmfjkgaa
set_option linter.unusedSimpArgs false
set_option linter.unusedVariables false
open Go.RowKit
attribute [local go_sem ↓] Go.wp_at_zero Go.wp_at_succ

def parC (b : List Int) (i j x y : Nat) : Prop := ((x : Int) ∈ b.take i ∧ (y : Int) ∈ b) ∨ ((x : Int) = nth b i ∧ (y : Int) ∈ (b.drop (i + 1)).take j)
open Classical in
noncomputable def parT (A : List (List Int)) (k i j x y : Nat) : Int := parF (A.take k) x y + if parC (xat A k) i j x y then 1 else 0
/-- the table behind k blocks, i points and j further points -/
structure PrM (P : Nat) (A : List (List Int)) (k i j : Nat) (M : List (List Int)) : Prop where
  sq : Sqr P M
  at' : ∀ x y, x < y → y < P → at2 M x y = parT A k i j x y
theorem parT_bd {A : List (List Int)} {k i j x y : Nat} (hA : A.length ≤ 128) : 0 ≤ parT A k i j x y ∧ parT A k i j x y ≤ 129 := by
  unfold parT parF
  have := cntD_bd (fun b => decide ((x : Int) ∈ b) && decide ((y : Int) ∈ b)) (A.take k)
  have hl : (A.take k).length ≤ 128 := by simp; omega
  split <;> omega
theorem nth_drop (b : List Int) (i j : Nat) : nth (b.drop i) j = nth b (i + j) := by simp [nth]
theorem Inc.fresh2 {P : Nat} {b : List Int} (h : Inc P b) {i j : Nat} (hj : i + j < b.length) : nth b (i + j) ∉ (b.drop i).take j := by
  intro hm
  obtain ⟨m, hm', he⟩ := List.getElem_of_mem hm
  have hmj : m < j := by simp at hm'; omega
  rw [List.getElem_take, List.getElem_drop, ← nth_eq (show i + m < b.length by omega)] at he
  have := h.lt (i + m) (i + j) (by omega) hj
  omega
theorem PrM.step {P : Nat} {A : List (List Int)} {k i j x y : Nat} {M : List (List Int)} (h : PrM P A k i j M) (hi : Inc P (xat A k)) (hj : i + 1 + j < (xat A k).length) (hx : nth (xat A k) i = x) (hy : nth (xat A k) (i + 1 + j) = y) :
    PrM P A k i (j + 1) (putS M x y (at2 M x y + 1)) := by
  have hxP : x < P := by have := (hi.bd i (by omega)).2; omega
  have hyP : y < P := by have := (hi.bd (i + 1 + j) hj).2; omega
  have hxy : x < y := by have := hi.lt i (i + 1 + j) (by omega) hj; omega
  have hd : nth ((xat A k).drop (i + 1)) j = y := by rw [nth_drop, hy]
  have hdl : j < ((xat A k).drop (i + 1)).length := by simp; omega
  refine ⟨putS_sqr h.sq hxP _ _, fun t u htu huP => ?_⟩
  rw [at2_putS h.sq hxP hyP]
  have hm := mem_take1 hdl (u : Int)
  rw [hd] at hm
  by_cases e : x = t ∧ y = u
  · obtain ⟨rfl, rfl⟩ := e
    rw [if_pos ⟨rfl, rfl⟩, h.at' x y hxy hyP]
    have c0 : ¬ parC (xat A k) i j x y := by
      rintro (⟨h1, _⟩ | ⟨_, h2⟩)
      · have := hi.fresh (show i < (xat A k).length by omega); rw [hx] at this; exact this h1
      · have := hi.fresh2 (i := i + 1) (j := j) hj; rw [hy] at this; exact this h2
    have c1 : parC (xat A k) i (j + 1) x y := .inr ⟨hx.symm, hm.2 (.inr rfl)⟩
    unfold parT
    rw [if_neg c0, if_pos c1]; omega
  · rw [if_neg e, h.at' t u htu huP]
    unfold parT
    have : parC (xat A k) i j t u ↔ parC (xat A k) i (j + 1) t u := by
      unfold parC
      rw [hm, hx]
      constructor
      · rintro (h1 | ⟨h1, h2⟩)
        · exact .inl h1
        · exact .inr ⟨h1, .inl h2⟩
      · rintro (h1 | ⟨h1, h2 | h2⟩)
        · exact .inl h1
        · exact .inr ⟨h1, h2⟩
        · exact absurd ⟨by omega, by omega⟩ e
    by_cases hc : parC (xat A k) i j t u
    · rw [if_pos hc, if_pos (this.1 hc)]
    · rw [if_neg hc, if_neg (fun h => hc (this.2 h))]
theorem PrM.next {P : Nat} {A : List (List Int)} {k i : Nat} {M : List (List Int)} (h : PrM P A k i ((xat A k).length - (i + 1)) M) (hi : Inc P (xat A k)) (hl : i < (xat A k).length) : PrM P A k (i + 1) 0 M := by
  refine ⟨h.sq, fun x y hxy hy => ?_⟩
  rw [h.at' x y hxy hy]
  unfold parT
  have : parC (xat A k) i ((xat A k).length - (i + 1)) x y ↔ parC (xat A k) (i + 1) 0 x y := by
    unfold parC
    rw [mem_take1 hl, List.take_zero, show ((xat A k).drop (i + 1)).take ((xat A k).length - (i + 1)) = (xat A k).drop (i + 1) from List.take_of_length_le (by simp)]
    constructor
    · rintro (⟨h1, h2⟩ | ⟨h1, h2⟩)
      · exact .inl ⟨.inl h1, h2⟩
      · exact .inl ⟨.inr h1, List.mem_of_mem_drop h2⟩
    · rintro (⟨h1 | h1, h2⟩ | ⟨_, h2⟩)
      · exact .inl ⟨h1, h2⟩
      · refine .inr ⟨h1, ?_⟩
        obtain ⟨m, hm, he⟩ := List.getElem_of_mem h2
        rw [← nth_eq hm] at he
        have him : i < m := by
          rcases Nat.lt_trichotomy i m with h3 | h3 | h3
          · exact h3
          · subst h3; omega
          · have := hi.lt m i h3 hl; omega
        rw [List.mem_iff_getElem]
        exact ⟨m - (i + 1), by simp; omega, by rw [List.getElem_drop, ← he, nth_eq hm]; congr 1; omega⟩
      · cases h2
  by_cases hc : parC (xat A k) i ((xat A k).length - (i + 1)) x y
  · rw [if_pos hc, if_pos (this.1 hc)]
  · rw [if_neg hc, if_neg (fun h => hc (this.2 h))]
theorem PrM.block {P : Nat} {A : List (List Int)} {k : Nat} {M : List (List Int)} (h : PrM P A k (xat A k).length 0 M) (hk : k < A.length) : PrM P A (k + 1) 0 0 M := by
  refine ⟨h.sq, fun x y hxy hy => ?_⟩
  rw [h.at' x y hxy hy]
  unfold parT
  have c1 : ¬ parC (xat A (k + 1)) 0 0 x y := by rintro (⟨h1, _⟩ | ⟨_, h1⟩) <;> cases h1
  have c0 : parC (xat A k) (xat A k).length 0 x y ↔ ((x : Int) ∈ xat A k ∧ (y : Int) ∈ xat A k) := by
    unfold parC
    rw [List.take_length, List.take_zero]
    constructor
    · rintro (h1 | ⟨_, h1⟩)
      · exact h1
      · cases h1
    · exact .inl
  rw [if_neg c1, take_xat hk]
  unfold parF
  rw [cntD_snoc]
  by_cases hc : (x : Int) ∈ xat A k ∧ (y : Int) ∈ xat A k
  · rw [if_pos (c0.2 hc), if_pos (by rw [decide_eq_true hc.1, decide_eq_true hc.2]; rfl)]; omega
  · rw [if_neg (fun h => hc (c0.1 h)), if_neg (by rw [Bool.and_eq_true, decide_eq_true_eq, decide_eq_true_eq]; exact hc)]; omega
theorem PrM.start (P : Nat) (A : List (List Int)) : PrM P A 0 0 0 (sqF P fun _ _ => 0) := by
  refine ⟨sqF_sqr _ _, fun x y hxy hy => ?_⟩
  rw [at2_sqF (by omega) hy]
  unfold parT
  have c1 : ¬ parC (xat A 0) 0 0 x y := by rintro (⟨h1, _⟩ | ⟨_, h1⟩) <;> cases h1
  rw [if_neg c1]; simp [parF, cntD]
theorem PrM.row {P : Nat} {A : List (List Int)} {M : List (List Int)} (h : PrM P A A.length 0 0 M) {x : Nat} (hx : x < P) : ((xat M x).take P).drop (x + 1) = parR P A x := by
  have hl := h.sq.row x hx
  apply List.ext_getElem
  · simp [parR, hl]
  · intro t h1 h2
    have ht : t < P - (x + 1) := by simpa [parR] using h2
    rw [List.getElem_drop, List.getElem_take, ← nth_eq (by rw [hl]; omega)]
    have := h.at' x (x + 1 + t) (by omega) (by omega)
    have c1 : ¬ parC (xat A A.length) 0 0 x (x + 1 + t) := by rintro (⟨h1, _⟩ | ⟨_, h1⟩) <;> cases h1
    unfold parT at this
    rw [if_neg c1, List.take_length] at this
    rw [show nth (xat M x) (x + 1 + t) = at2 M x (x + 1 + t) from rfl, this]
    simp [parR]
theorem St.nilrow4 {B : Nat} {w0 w : World} {L : List Ent} (h : St B w0 w L) (e : TypeId) : St B w0 w (L ++ [row e (.slice none 0 0) []]) :=
  h.add ⟨rfl, rfl, rfl, Nat.le_refl _, fun _ _ _ => rfl⟩ _ (.inr (.inl ⟨rfl, rfl, rfl⟩)) (fun k hk => by simp [bk, row] at hk)
/-- the numbers of the pairs of the first k points -/
def parK (P : Nat) (A : List (List Int)) (k : Nat) : List Int := ((List.range k).map (parR P A)).flatten
theorem parK_succ (P : Nat) (A : List (List Int)) (k : Nat) : parK P A (k + 1) = parK P A k ++ parR P A k := by
  rw [parK, List.range_succ, List.map_append, List.flatten_append]; simp [parK]
theorem parK_len (P : Nat) (A : List (List Int)) : ∀ k, (parK P A k).length ≤ k * P
  | 0 => Nat.zero_le _
  | k + 1 => by
    rw [parK_succ, List.length_append, Nat.succ_mul]
    have := parK_len P A k
    have : (parR P A k).length ≤ P := by simp [parR]
    omega
theorem parK_end (P : Nat) (A : List (List Int)) : parK P A P = parL P A := rfl

set_option maxHeartbeats 4000000 in
set_option maxRecDepth 100000 in
theorem pairCounts_c (P : Nat) (v : Value) (us : List Value) (A : List (List Int)) (w : World) (hv : RII w v us A) (hD : DOk P A) :
    Calls Try.prog 77 #[dv P v] w (MakesI w (parL P A)) := by
  obtain ⟨a, c, hsh⟩ := hv.1.sl.sh
  rw [hv.2.1] at hsh
  subst hsh
  have hP := hD.le
  have hDl := hD.len
  have HD := Lib.hid hD
  clear hD
  have hS1 := (St.refl w).newboxF 35 #[.int .i64 P, .slice a A.length c]
  have b0 := hS1.bcell 0 rfl 0 rfl
  have b1 := hS1.bcell 0 rfl 1 rfl
  have hix := hv.ix
  unfold dv
  go_enter Try.func77, Try.ntmps77
  go_wp2_with fail
  refine (emptySquare_c P _ (by omega)).mono ?_
  rintro e w2 ⟨vo, uo, rfl, hlo, h2⟩
  have hS2 := hS1.call h2
  have b1 := hS2.bcell 0 rfl 1 rfl
  have hS3 := hS2.perm (L' := own2 vo uo (sqF P fun _ _ => 0) ++ [box 35 w.heap.size [.int .i64 P, .slice a A.length c]]) List.perm_append_comm
  have hM := PrM.start P A
  have hlo' : uo.length = P := by rw [hlo, hM.sq.len]
  have Hlo := Lib.hid hlo'
  have hro := h2.rii hlo
  have hxo := hro.ixe
  have hlno := hro.len
  rw [hM.sq.len] at hxo hlno
  generalize (sqF P fun _ _ => (0 : Int)) = M0 at *
  have HM := Lib.hid hM
  clear hS1 hS2 h2 hlo hlo' hM b0 hro
  go_wp2_with fail
  go_loopw [5, 6, 7, 9, 19] (fun _ _ _ _ i wr => ∃ (k : Nat) (M : List (List Int)), k ≤ A.length ∧ i = .int .i64 k ∧ Hid (PrM P A k 0 0 M) ∧ St w.heap.size w wr (own2 vo uo M ++ [box 35 w.heap.size [.int .i64 P, .slice a A.length c]])) (fun _ _ _ _ i _ => A.length - (intOf i).toNat)
  case atStart => exact ⟨0, M0, by omega, rfl, HM, hS3⟩
  case round =>
    clear hS3 b1 HM
    obtain ⟨k, M, hk, rfl, hM, hS⟩ := hrel
    by_cases hlt : k < A.length
    · have hc := (hS.oldII hv).cell k hlt
      have hrk := (hS.oldII hv).row k hlt
      have hlk := hrk.len
      have hik := hrk.ix
      have HI := Lib.hid (HD.out.inc' hlt)
      have hl32 := HI.out.len
      go_wp2_with fail
      obtain ⟨wo, rfl⟩ : ∃ wo : World, wo = wr := ⟨_, rfl⟩
      go_loopw [6, 7, 9, 25] (fun _ _ _ m wr => ∃ (i : Nat) (M : List (List Int)), i ≤ (xat A k).length ∧ m = .int .i64 i ∧ Hid (PrM P A k i 0 M) ∧ St w.heap.size w wr (own2 vo uo M ++ [box 35 w.heap.size [.int .i64 P, .slice a A.length c]])) (fun _ _ _ m _ => (xat A k).length - (intOf m).toNat)
      case atStart => exact ⟨0, M, by omega, rfl, hM, hS⟩
      case round =>
        clear hS hc hrk hM
        obtain ⟨i, M, hi, rfl, hM, hS⟩ := hrel
        by_cases hil : i < (xat A k).length
        · have hrk := (hS.oldII hv).row k hlt
          have ci := hrk.cell i hil
          obtain ⟨x, hx, hxP⟩ := HI.out.nat hil
          rw [hx] at ci
          have hsl : ∀ W, (Instr.slice 30 (vat us k) (some (.int .i64 ((i : Int) + 1))) none none).run Try.prog W = .ok (rsl (vat us k) (i + 1) (xat A k).length) W := fun W => by
            have := rsl_lo hrk (i + 1) (by omega) W; rwa [show ((i + 1 : Nat) : Int) = (i : Int) + 1 by omega] at this
          have hsr := rsl_rd hrk (lo := i + 1) (hi := (xat A k).length) (by omega) (Nat.le_refl _)
          rw [List.take_length] at hsr
          have hsn := hsr.len
          have hsx := hsr.ix
          have hdl : ((xat A k).drop (i + 1)).length = (xat A k).length - (i + 1) := by simp
          rw [hdl] at hsn hsx
          have Hx := Lib.hid hx
          have Hsr := Lib.hid (fun W (hW : St w.heap.size w W (own2 vo uo M ++ [box 35 w.heap.size [.int .i64 P, .slice a A.length c]])) => hW)
          clear Hsr hsr hdl hx
          go_wp2_with fail
          obtain ⟨wq, rfl⟩ : ∃ wq : World, wq = wr := ⟨_, rfl⟩
          go_loopw [9, 35] (fun _ m wr => ∃ (j : Nat) (M : List (List Int)), j ≤ (xat A k).length - (i + 1) ∧ m = .int .i64 j ∧ Hid (PrM P A k i j M) ∧ St w.heap.size w wr (own2 vo uo M ++ [box 35 w.heap.size [.int .i64 P, .slice a A.length c]])) (fun _ m _ => (xat A k).length - (intOf m).toNat)
          case atStart => exact ⟨0, M, by omega, rfl, hM, hS⟩
          case round =>
            clear hS hM hrk ci
            obtain ⟨j, M, hj, rfl, hM, hS⟩ := hrel
            by_cases hjl : j < (xat A k).length - (i + 1)
            · have hrk := (hS.oldII hv).row k hlt
              have hsr := rsl_rd hrk (lo := i + 1) (hi := (xat A k).length) (by omega) (Nat.le_refl _)
              rw [List.take_length] at hsr
              have cj := hsr.cell j (by simp; omega)
              rw [nth_drop] at cj
              obtain ⟨y, hy, hyP⟩ := HI.out.nat (show i + 1 + j < (xat A k).length by omega)
              rw [hy] at cj
              have hst := Lib.hid (hM.out.step HI.out (by omega) Hx.out hy)
              have hMl := hM.out.sq.len
              have hMr := hM.out.sq.row x hxP
              have hlS : uo.length = M.length := by rw [Hlo.out, hMl]
              have hat := hS.at_row hlS (j := x) (by rw [hMl]; exact hxP)
              have hrx := hS.rdI (x + 1) hat
              have cx := (rii2 hS hlS).cell x (by rw [hMl]; exact hxP)
              have cxy : wr.cell? (el (vat uo x) y) = some (.int .i64 (at2 M x y)) := hrx.cell y (by rw [hMr]; exact hyP)
              have uxy := hS.unfrozen (x + 1) hat (j := y) (by rw [iv_len, hMr]; exact hyP)
              have xx := hxo (x : Int) x rfl hxP
              have xy := hrx.ixe (y : Int) y rfl (by rw [hMr]; exact hyP)
              have hbd : 0 ≤ at2 M x y ∧ at2 M x y ≤ 129 := by
                rw [hM.out.at' x y (by have := HI.out.lt i (i + 1 + j) (by omega) (by omega); have := Hx.out; omega) hyP]; exact parT_bd hDl
              have HS9 := Lib.hid (hS.store (x + 1) hat (j := y) (by rw [iv_len, hMr]; exact hyP) (.int .i64 (at2 M x y + 1)))
              have Hset := Lib.hid (own2_set (v := vo) (L2 := [box 35 w.heap.size [.int .i64 P, .slice a A.length c]]) hlS (j := x) (by rw [hMl]; exact hxP) ((xat M x).set y (at2 M x y + 1)))
              unfold putS at hst
              generalize at2 M x y = q at *
              clear hat hrx hlS hMl hMr hy hrk hsr hM hS
              go_wp2_with fail
              have hS9 := HS9.out
              rw [iv_set, Hset.out] at hS9
              go_roundw
              case rel => exact ⟨j + 1, _, by omega, by go_num, hst, hS9⟩
              case measure => simp [intOf]; omega
            · obtain rfl : j = (xat A k).length - (i + 1) := by omega
              have HN := Lib.hid (hM.out.next HI.out hil)
              go_wp2_with fail
              go_roundw
              case rel => exact ⟨i + 1, M, by omega, by go_num, HN, hS⟩
              case measure => simp [intOf]; omega
        · obtain rfl : i = (xat A k).length := by omega
          have HN := Lib.hid (hM.out.block hlt)
          go_wp2_with fail
          go_roundw
          case rel => exact ⟨k + 1, M, by omega, by go_num, HN, hS⟩
          case measure => simp [intOf]; omega
    · obtain rfl : k = A.length := by omega
      have hN0 := (hS.nilrow4 2).perm (L' := row 2 (.slice none 0 0) [] :: (own2 vo uo M ++ [box 35 w.heap.size [.int .i64 P, .slice a A.length c]])) (by (try simp only [own2, List.cons_append, List.nil_append, List.append_nil]); classical exact List.perm_iff_count.2 (fun a => by simp only [List.cons_append, List.nil_append, List.append_nil, List.count_append, List.count_cons, List.count_nil] <;> omega))
      have hMl := hM.out.sq.len
      have hMr := Lib.hid hM.out.sq.row
      have hlS := Lib.hid (show uo.length = M.length by rw [Hlo.out, hMl])
      clear hS
      go_wp2_with fail
      go_loopw [10, 11, 12, 53] (fun ct _ _ i wr => ∃ x : Nat, x ≤ P ∧ i = .int .i64 x ∧ St w.heap.size w wr (row 2 ct (iv (parK P A x)) :: (own2 vo uo M ++ [box 35 w.heap.size [.int .i64 P, .slice a A.length c]]))) (fun _ _ _ i _ => P - (intOf i).toNat)
      case atStart => exact ⟨0, by omega, rfl, hN0⟩
      case round =>
        clear hN0
        obtain ⟨x, hx, rfl, hS⟩ := hrel
        by_cases hxP : x < P
        · have hR := rii2 (hS.sub (List.sublist_cons_self _ _)) hlS.out
          have cx := hR.cell x (by rw [hMl]; exact hxP)
          have hrx := hR.row x (by rw [hMl]; exact hxP)
          have hxl := hMr.out x hxP
          have hsl : ∀ W, (Instr.slice 30 (vat uo x) (some (.int .i64 ((x : Int) + 1))) none none).run Try.prog W = .ok (rsl (vat uo x) (x + 1) (xat M x).length) W := fun W => by
            have := rsl_lo hrx (x + 1) (by rw [hxl]; omega) W; rwa [show ((x + 1 : Nat) : Int) = (x : Int) + 1 by omega] at this
          have hsr := rsl_rd hrx (lo := x + 1) (hi := (xat M x).length) (by rw [hxl]; omega) (Nat.le_refl _)
          rw [hxl] at hsl hsr
          rw [hM.out.row hxP] at hsr
          have Hsr := Lib.hid hsr
          have hpl := Lib.hid (show (parK P A x).length + (parR P A x).length < 100000 by
            have := parK_len P A x
            have h2 : x * P ≤ 32 * 32 := Nat.mul_le_mul (by omega) (by omega)
            have : (parR P A x).length ≤ P := by simp [parR]
            omega)
          clear hrx hR hsr hxl
          have xx := hxo (x : Int) x rfl hxP
          go_wp2_with (at_builtin; refine appsI hS 0 rfl _ _ Hsr.out (by have := hpl.out; omega) rfl _ _ rfl rfl rfl ?_; intro v2 w2 hS2)
          simp only [List.set_cons_zero] at hS2
          rw [← parK_succ] at hS2
          go_roundw
          case rel => exact ⟨x + 1, by omega, by go_num, hS2⟩
          case measure => simp [intOf]; omega
        · obtain rfl : x = P := by omega
          rw [parK_end] at hS
          go_wp2_with fail
          go_ret
          exact ⟨_, rfl, hS.sub (by simp)⟩
end Go.Proofs.Ytgflhgkcmfjkgaa
end
