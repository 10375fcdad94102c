/- The texts of this claim, run 13: Tr18 PPc Tr19. -/
import Derived.Test.YtlmbaeaakpmhnaaGreatK9
import Derived.Test.YtlmbaeaakpmhnaaGreatK12

section
/- Walks: the list of the quadrilaterals of the reference. -/
namespace Go.Proofs.YtlmbaeaakpmhnaaGreat
set_option linter.unusedSimpArgs false
set_option linter.unusedVariables false
open Go.RowKit
attribute [local go_sem ↓] Go.wp_at_zero Go.wp_at_succ

section
variable {P : Nat} {A : List (List Int)}
theorem TS.other (hT : TS P A) {i a : Nat} (hi : i < A.length) (ha : (a : Int) ∈ xat A i) : ∃ b c : Nat, b < c ∧ IsB (xat A i) a b c ∧ a ≠ b ∧ a ≠ c := by
  obtain ⟨p, q, r, h1, h2, h3, e⟩ := three_of (hT.inc (xat_mem hi)) (hT.three _ (xat_mem hi))
  rw [e] at ha ⊢
  have hz : ∀ z : Int, z ∈ [(p : Int), (q : Int), (r : Int)] ↔ z = p ∨ z = q ∨ z = r := fun z => by simp
  have ha := (hz _).1 ha
  have : a = p ∨ a = q ∨ a = r := by omega
  rcases this with rfl | rfl | rfl
  · exact ⟨q, r, h2, fun z => (hz z).trans (by omega), by omega, by omega⟩
  · exact ⟨p, r, by omega, fun z => (hz z).trans (by omega), by omega, by omega⟩
  · exact ⟨p, q, h1, fun z => (hz z).trans (by omega), by omega, by omega⟩
theorem TS.cross (hT : TS P A) {i k : Nat} (hi : i < A.length) (hk : k < A.length) (hc : (bothL (xat A i) (xat A k) true).length = 1) :
    ∃ a b c d e : Nat, bothL (xat A i) (xat A k) true = [(a : Int)] ∧ IsB (xat A i) a b c ∧ IsB (xat A k) a d e ∧ [a, b, c, d, e].Nodup ∧ b < c ∧ d < e := by
  obtain ⟨z, hz⟩ := List.length_eq_one_iff.1 hc
  have hzm : ∀ y : Int, (y ∈ xat A i ∧ y ∈ xat A k) → y = z := fun y hy => by
    have : y ∈ bothL (xat A i) (xat A k) true := by
      unfold bothL; rw [List.mem_filter]; exact ⟨hy.1, by rw [decide_eq_true hy.2]; rfl⟩
    rw [hz] at this; exact List.mem_singleton.1 this
  have hzz : z ∈ xat A i ∧ z ∈ xat A k := by
    have : z ∈ bothL (xat A i) (xat A k) true := by rw [hz]; simp
    unfold bothL at this
    rw [List.mem_filter] at this
    exact ⟨this.1, by simpa using this.2⟩
  obtain ⟨a, rfl⟩ : ∃ a : Nat, z = a := by
    have := incB_gt ((dOk_t hT.ok).inc _ (xat_mem hi)) _ hzz.1
    exact ⟨z.toNat, by omega⟩
  obtain ⟨b, c, h1, h2, h3, h4⟩ := hT.other hi hzz.1
  obtain ⟨d, e, g1, g2, g3, g4⟩ := hT.other hk hzz.2
  refine ⟨a, b, c, d, e, hz, h2, g2, ?_, h1, g1⟩
  have n1 : b ≠ d := fun q => by have := hzm b ⟨h2.m2, q ▸ g2.m2⟩; omega
  have n2 : b ≠ e := fun q => by have := hzm b ⟨h2.m2, q ▸ g2.m3⟩; omega
  have n3 : c ≠ d := fun q => by have := hzm c ⟨h2.m3, q ▸ g2.m2⟩; omega
  have n4 : c ≠ e := fun q => by have := hzm c ⟨h2.m3, q ▸ g2.m3⟩; omega
  simp [h3, h4, g3, g4, n1, n2, n3, n4]; omega
end
theorem put_perm {E : Type} (h q p n : E) (Y X : List E) : ((h :: Y) ++ (q :: p :: X) ++ [n]).Perm (h :: n :: ((Y ++ [p]) ++ (q :: X))) := by
  rw [List.cons_append, List.cons_append]
  refine List.Perm.cons _ ?_
  refine (List.perm_append_singleton n _).trans (List.Perm.cons _ ?_)
  rw [List.append_assoc]
  exact List.Perm.append_left _ (List.Perm.swap _ _ _)
theorem drop_vat {us : List Value} {k : Nat} (hk : k < us.length) : us.drop k = vat us k :: us.drop (k + 1) := by
  rw [vat_eq hk]; exact List.drop_eq_getElem_cons hk
set_option maxHeartbeats 16000000 in
set_option maxRecDepth 100000 in
theorem l11PaschsO_c (P g : Nat) (v : Value) (us : List Value) (A : List (List Int)) (w : World) (hv : RII w v us A) (hb : BoxD w g P v) (hA : TS P A) :
    Calls Tryz.prog 119 #[.pointer (some ⟨g, 0, none⟩)] w (MakesPo w A 32768) := by
  have hAl := (dOk_t hA.ok).len
  have hP := hA.p32
  have hs32 : ∀ B ∈ A, incB (-1) 32 B = true := fun B hB => incB_of (fun t ht => by have := incB_gt ((dOk_t hA.ok).inc _ hB) t ht; omega) (incB_pw ((dOk_t hA.ok).inc _ hB))
  have KM := fun W i k (h1 : RdI W (vat us i) (xat A i)) (h2 : RdI W (vat us k) (xat A k)) (hi : i < A.length) (hk : k < A.length) => Lib.hid (sMeetSets_c (vat us i) (vat us k) (xat A i) (xat A k) W h1 h2 (hs32 _ (xat_mem hi)) (hs32 _ (xat_mem hk)))
  have KQ := fun W i k a b c d e (h : RII W v us A) (h2 : BoxD W g P v) (hi : i < A.length) (hk : k < A.length) (h3 : IsB (xat A i) a b c) (h4 : IsB (xat A k) a d e) (h5 : [a, b, c, d, e].Nodup) (h6 : b < c) (h7 : d < e) => Lib.hid (l11Quads_c P g i k a b c d e v us A W h h2 hA hi hk h3 h4 h5 h6 h7)
  have HC := Lib.hid (fun i k (hi : i < A.length) (hk : k < A.length) h => hA.cross hi hk h)
  have hix := hv.ixe
  have hln := hv.len
  have Hb := Lib.hid hb
  have Hv := Lib.hid hv
  have hS0 := St.refl w
  have hS2 : St w.heap.size w _ (own2 (.slice (some ⟨w.heap.size, 0, none⟩) 0 0) [] []) := hS0.new 24 #[] (by simp)
  clear hA hv hb hs32 hS0
  go_enter Tryz.func119, Tryz.ntmps119
  go_wp2_with fail
  go_loopw [3, 4, 5, 6, 7, 8, 9, 10] (fun o ii _ _ _ _ _ _ wr => ∃ (i : Nat) (uo : List Value) (R : List (List Int)), i ≤ A.length ∧ ii = .int .i64 i ∧ Hid (R.length ≤ 256 * i ∧ uo.length = R.length ∧ (∀ q ∈ R, IsPas A q)) ∧ St w.heap.size w wr (own2 o uo R)) (fun _ ii _ _ _ _ _ _ _ => A.length - (intOf ii).toNat)
  case atStart => exact ⟨0, [], [], by omega, rfl, ⟨by simp, rfl, fun q hq => by cases hq⟩, hS2⟩
  case round =>
    clear hS2
    obtain ⟨i, uo, R, hi, rfl, hI, hS⟩ := hrel
    have c0 := (hS.oldBoxD Hb.out).2
    by_cases hiA : i < A.length
    · have hii : (i : Int) < (A.length : Int) := by omega
      have w1 : IntKind.i64.wrap ((i : Int) + 1) = (i : Int) + 1 := IntWalk.i64_in _ (by omega)
      have xi := hix (i : Int) i rfl hiA
      go_wp2_with fail
      go_loopw [3, 5, 6, 7, 8, 9, 10] (fun o ki _ _ _ _ _ wr => ∃ (k : Nat) (uo : List Value) (R : List (List Int)), k ≤ A.length ∧ ki = .int .i64 k ∧ Hid (R.length ≤ 256 * i + 2 * k ∧ uo.length = R.length ∧ (∀ q ∈ R, IsPas A q)) ∧ St w.heap.size w wr (own2 o uo R)) (fun _ ki _ _ _ _ _ _ => A.length - (intOf ki).toNat)
      case atStart => exact ⟨i + 1, uo, R, by omega, by first | rfl | go_num, ⟨by have := hI.out.1; omega, hI.out.2⟩, hS⟩
      case round =>
        clear hS hI c0 R uo
        obtain ⟨k, uo, R, hk, rfl, hI, hS⟩ := hrel
        have c0 := (hS.oldBoxD Hb.out).2
        by_cases hkA : k < A.length
        · have hki : (k : Int) < (A.length : Int) := by omega
          have xk := hix (k : Int) k rfl hkA
          have ci := (hS.oldII Hv.out).cell i hiA
          have ck := (hS.oldII Hv.out).cell k hkA
          have hSd := (St.refl wr).drew
          have ri := Lib.hid (((hS.oldII Hv.out).row i hiA))
          have rk := Lib.hid (((hS.oldII Hv.out).row k hkA))
          have KMi := fun W h1 h2 => KM W i k h1 h2 hiA hkA
          have HCi := Lib.hid (HC.out i k hiA hkA)
          generalize hM : bothL (xat A i) (xat A k) true = M at *
          have HM := Lib.hid hM
          clear hM
          by_cases hM1 : M.length = 1
          · obtain ⟨a, b, c, d, e, hMa, hB1, hB2, hN, hbc, hde⟩ := HCi.out hM1
            subst hMa
            have HB := Lib.hid (And.intro hB1 (And.intro hB2 hN))
            clear hB1 hB2 hN hM1 HCi
            go_wp2_with fail
            go_region_held3 (fun w' => w'.cell? ⟨g, 1, none⟩ = some v ∧ w'.cell? (el v i) = some (vat us i) ∧ w'.cell? (el v k) = some (vat us k)) (((try dsimp only); (repeat' apply And.intro); all_goals (repeat (first | assumption | exact cell_dr (by assumption) | refine cell_dr ?_ | refine cell_al ?_ | refine cell_sc (by assumption) ?_)))) (first
              | (go_at_call 189; refine (KMi _ (hSd.oldI ri.out) (hSd.oldI rk.out)).out.mono ?_; rintro e3 w3 ⟨vm, rfl, h3⟩; have d1 := cell_keepT h3.below (cell_dr c0); have d2 := cell_keepT h3.below (cell_dr ci); have d3 := cell_keepT h3.below (cell_dr ck)))
            have hS3 := hS.call0 ((hSd.call h3).out)
            have rM := h3.rdI 0 rfl
            have lM := rM.len
            have xM := rM.ixe 0 0 rfl (by simp)
            have cM := rM.cell 0 (by simp)
            rw [show nth [(a : Int)] 0 = (a : Int) from rfl] at cM
            simp only [List.length_singleton, Int.natCast_one] at lM
            have K := Lib.hid (KQ w3 i k a b c d e (hS3.oldII Hv.out) (hS3.oldBoxD Hb.out) hiA hkA HB.out.1 HB.out.2.1 HB.out.2.2 hbc hde)
            clear hS h3 hSd d1 d2 d3 c0 ci ck ri rk rM
            go_wp2_with fail
            refine K.out.mono ?_
            rintro e4 w4 ⟨vq, uq, Q, rfl, eQ, lQ, pQ, h4⟩
            have hS4 := hS3.call h4
            have rQ := h4.rii eQ
            have lnQ := rQ.len
            have ixQ := rQ.ixe
            have HQ := Lib.hid (And.intro lQ (And.intro eQ pQ))
            have hlQ : Q.length ≤ 2 := lQ
            have HI2 : Hid (R.length ≤ 256 * i + 2 * k + 0 ∧ uo.length = R.length ∧ (∀ q ∈ R, IsPas A q)) := hI
            have hS5 : St w.heap.size w w4 (own2 u3 uo R ++ (row 24 vq uq :: rowsI (uq.drop 0) (Q.drop 0))) := hS4
            clear h4 hS3 hS4 K rQ lQ pQ eQ lM xM cM hI HB
            go_wp2_with fail
            go_loopw [3, 8, 9, 10] (fun o ji _ _ wr => ∃ (j : Nat) (uo : List Value) (R : List (List Int)), j ≤ Q.length ∧ ji = .int .i64 j ∧ Hid (R.length ≤ 256 * i + 2 * k + j ∧ uo.length = R.length ∧ (∀ q ∈ R, IsPas A q)) ∧ St w.heap.size w wr (own2 o uo R ++ (row 24 vq uq :: rowsI (uq.drop j) (Q.drop j)))) (fun _ ji _ _ _ => Q.length - (intOf ji).toNat)
            case atStart => exact ⟨0, uo, R, by omega, rfl, HI2, hS5⟩
            case round =>
              clear hS5 HI2 R uo
              obtain ⟨j, uo, R, hj, rfl, hI, hS⟩ := hrel
              by_cases hjQ : j < Q.length
              · have hji : (j : Int) < (Q.length : Int) := by omega
                have xj := ixQ (j : Int) j rfl hjQ
                have eQ := HQ.out.2.1
                have hju : j < uq.length := by omega
                rw [drop_vat hju, drop_xat hjQ] at hS
                have hS : St w.heap.size w wr (own2 u3 uo R ++ (row 24 vq uq :: row 2 (vat uq j) (iv (xat Q j)) :: rowsI (uq.drop (j + 1)) (Q.drop (j + 1)))) := hS
                have hSq := hS.sub (List.sublist_append_right _ _)
                have cj := (hSq.rd 0 (e := 24) (v := vq) (us := uq) rfl).cell (i := j) hju
                rw [show uq.getD j undef = vat uq j from rfl] at cj
                have rj := Lib.hid (hSq.rdI (xs := xat Q j) 1 rfl)
                have hR := Lib.hid ((hS.sub (List.sublist_append_left _ _)).rii hI.out.2.1)
                have HRl := Lib.hid (show R.length ≤ 1000000 by have := hI.out.1; omega)
                have KF := Lib.hid (l05Find_c u3 (vat uq j) uo R (xat Q j) wr hR.out rj.out HRl.out)
                clear eQ hju hSq
                go_wp2_with fail
                refine KF.out.mono ?_
                rintro e5 w5 ⟨m, b', rfl, hF, h5⟩
                have hR5 := Lib.hid (h5.oldII hR.out)
                have rj5 := Lib.hid (h5.oldI rj.out)
                have hS5 := hS.call0 h5
                have cj := cell_keepT h5.below cj
                have HF := Lib.hid hF
                clear hS h5 hR rj KF hF
                cases b'
                · have KP := Lib.hid (l05Put_c u3 (vat uq j) uo R (xat Q j) m w5 hR5.out rj5.out HF.out.1 HRl.out)
                  go_wp2_with fail
                  refine KP.out.mono ?_
                  rintro e6 w6 ⟨v6, rfl, h6⟩
                  have hS6 : St w.heap.size w w6 (row 24 u3 uo :: row 24 v6 (uo.take m ++ [vat uq j] ++ uo.drop m) :: ((rowsI uo R ++ [row 2 (vat uq j) (iv (xat Q j))]) ++ (row 24 vq uq :: rowsI (uq.drop (j + 1)) (Q.drop (j + 1))))) := (hS5.call h6).perm (put_perm _ _ _ _ _ _)
                  have hS7 : St w.heap.size w w6 (own2 v6 (uo.take m ++ [vat uq j] ++ uo.drop m) (insA R m (xat Q j)) ++ (row 24 vq uq :: rowsI (uq.drop (j + 1)) (Q.drop (j + 1)))) := (hS6.sub (List.sublist_cons_self _ _)).perm (by
                    unfold own2 insA
                    rw [List.cons_append]
                    exact List.Perm.cons _ (List.Perm.append_right _ (rows_ins hI.out.2.1 HF.out.1 _ _)))
                  clear h6 hS5 hS6 hR5 KP cj rj5
                  go_wp2_with fail
                  go_roundw
                  case rel => exact ⟨j + 1, _, _, by omega, by go_num, ⟨by rw [insA_len HF.out.1]; have := hI.out.1; omega, by rw [insA_len HF.out.1]; have := hI.out.2.1; have := HF.out.1; simp only [List.length_append, List.length_take, List.length_drop, List.length_singleton]; omega, fun q hq => by
                    rcases insA_mem.1 hq with h | h
                    · rw [h]; exact HQ.out.2.2 _ (xat_mem hjQ)
                    · exact hI.out.2.2 q h⟩, hS7⟩
                  case measure => simp [intOf]; omega
                · have hS7 := hS5.sub (L' := own2 u3 uo R ++ (row 24 vq uq :: rowsI (uq.drop (j + 1)) (Q.drop (j + 1)))) (List.Sublist.append_left ((List.sublist_cons_self _ _).cons_cons _) _)
                  clear hS5 hR5 rj5 cj
                  go_wp2_with fail
                  go_roundw
                  case rel => exact ⟨j + 1, uo, R, by omega, by go_num, ⟨by have := hI.out.1; omega, hI.out.2⟩, hS7⟩
                  case measure => simp [intOf]; omega
              · obtain rfl : j = Q.length := by omega
                have hS9 := hS.sub (List.sublist_append_left _ _)
                clear hS
                go_wp2_with fail
                go_roundw
                case rel => exact ⟨k + 1, uo, R, by omega, by go_num, ⟨by have := hI.out.1; omega, hI.out.2⟩, hS9⟩
                case measure => simp [intOf]; omega
          · have f1 : ((M.length : Int) == 1) = false := eq_f (by omega)
            have f2 : ¬ (M.length : Int) = 1 := by omega
            clear HCi
            go_wp2_with fail
            go_region_held3 (fun w' => w'.cell? ⟨g, 1, none⟩ = some v ∧ w'.cell? (el v i) = some (vat us i) ∧ w'.cell? (el v k) = some (vat us k)) (((try dsimp only); (repeat' apply And.intro); all_goals (repeat (first | assumption | exact cell_dr (by assumption) | refine cell_dr ?_ | refine cell_al ?_ | refine cell_sc (by assumption) ?_)))) (first
              | (go_at_call 189; refine (KMi _ (hSd.oldI ri.out) (hSd.oldI rk.out)).out.mono ?_; rintro e3 w3 ⟨vm, rfl, h3⟩; have d1 := cell_keepT h3.below (cell_dr c0); have d2 := cell_keepT h3.below (cell_dr ci); have d3 := cell_keepT h3.below (cell_dr ck)))
            have hS3 := hS.call0 ((hSd.call h3).out)
            have lM := (h3.rdI 0 rfl).len
            clear hS h3 hSd d1 d2 d3 c0 ci ck ri rk
            go_wp2_with fail
            go_roundw
            case rel => exact ⟨k + 1, uo, R, by omega, by go_num, ⟨by have := hI.out.1; omega, hI.out.2⟩, hS3⟩
            case measure => simp [intOf]; omega
        · obtain rfl : k = A.length := by omega
          go_wp2_with fail
          go_roundw
          case rel => exact ⟨i + 1, uo, R, by omega, by go_num, ⟨by have := hI.out.1; omega, hI.out.2⟩, hS⟩
          case measure => simp [intOf]; omega
    · obtain rfl : i = A.length := by omega
      go_wp2_with fail
      go_ret
      exact ⟨_, uo, R, rfl, hI.out.2.1, by have := hI.out.1; omega, hI.out.2.2, hS⟩
theorem l11Paschs_c (P g : Nat) (v : Value) (us : List Value) (A : List (List Int)) (w : World) (hv : RII w v us A) (hb : BoxD w g P v) (hA : TS P A) :
    Calls Tryz.prog 119 #[.pointer (some ⟨g, 0, none⟩)] w (MakesPs w A 32768) :=
  (l11PaschsO_c P g v us A w hv hb hA).mono fun _ _ h => h.ps
end Go.Proofs.YtlmbaeaakpmhnaaGreat
end

section
/- Plain: how the reference switches a quadrilateral. -/
namespace Go.Proofs.YtlmbaeaakpmhnaaGreat
set_option linter.unusedSimpArgs false
set_option linter.unusedVariables false
open Go

theorem uniL_mem {xs : List Int} {z : Int} : ∀ ys : List Int, z ∈ uniL xs ys ↔ z ∈ xs ∨ z ∈ ys := fun ys => by
  induction ys generalizing xs with
  | nil => simp [uniL]
  | cons y ys ih =>
    show z ∈ uniL (putL xs y) ys ↔ _
    rw [ih, putL_mem, List.mem_cons]
    constructor
    · rintro ((h | h) | h)
      · exact .inr (.inl h)
      · exact .inl h
      · exact .inr (.inr h)
    · rintro (h | h | h)
      · exact .inl (.inr h)
      · exact .inl (.inl h)
      · exact .inr h
theorem uniL_set {n : Int} {xs : List Int} : ∀ ys : List Int, incB (-1) n xs = true → (∀ y ∈ ys, -1 < y ∧ y < n) → incB (-1) n (uniL xs ys) = true := fun ys => by
  induction ys generalizing xs with
  | nil => intro h _; exact h
  | cons y ys ih =>
    intro h hy
    have h1 := hy y (List.mem_cons_self ..)
    exact ih (putL_incT h h1.1 h1.2) fun z hz => hy z (List.mem_cons_of_mem _ hz)
/-- the points of the first blocks -/
def ptsL (A : List (List Int)) (q : List Int) : Nat → List Int
  | 0 => []
  | t + 1 => uniL (ptsL A q t) (xat A (nth q t).toNat)
/-- not on one of the first blocks with a -/
def aprB (A : List (List Int)) (q : List Int) (a x : Int) : Nat → Bool
  | 0 => decide (x ≠ a)
  | t + 1 => aprB A q a x t && !(decide (a ∈ xat A (nth q t).toNat) && decide (x ∈ xat A (nth q t).toNat))
/-- the last one found -/
def lstF (f : Int) (xs : List Int) : Int := if f ∈ xs then f else -1
section
variable {P : Nat} {A : List (List Int)} {q : List Int} {i j k l a b c d e f : Nat}
theorem Pas.qi (h : Pas A q i j k l a b c d e f) {t : Nat} (ht : t < 4) : ∃ m : Nat, nth q t = m ∧ m < A.length ∧ (m = i ∨ m = j ∨ m = k ∨ m = l) := by
  have hm := (h.mem _).1 (nth_mem (show t < q.length by rw [h.ql]; exact ht))
  have l1 := h.li
  have l2 := h.lj
  have l3 := h.lk
  have l4 := h.ll
  refine ⟨(nth q t).toNat, by omega, by omega, by omega⟩
theorem Pas.onto (h : Pas A q i j k l a b c d e f) {m : Nat} (hm : m = i ∨ m = j ∨ m = k ∨ m = l) : ∃ t, t < 4 ∧ nth q t = m := by
  have : (m : Int) ∈ q := (h.mem _).2 (by omega)
  obtain ⟨t, ht, e⟩ := List.getElem_of_mem this
  exact ⟨t, by have := h.ql; omega, by rw [nth_eq ht, e]⟩
theorem ptsL_mem {z : Int} : ∀ t, z ∈ ptsL A q t ↔ ∃ s, s < t ∧ z ∈ xat A (nth q s).toNat
  | 0 => by simp [ptsL]
  | t + 1 => by
    rw [ptsL, uniL_mem, ptsL_mem t]
    constructor
    · rintro (⟨s, hs, h⟩ | h)
      · exact ⟨s, by omega, h⟩
      · exact ⟨t, by omega, h⟩
    · rintro ⟨s, hs, h⟩
      by_cases e : s = t
      · subst e; exact .inr h
      · exact .inl ⟨s, by omega, h⟩
theorem TS.in32 (hT : TS P A) {B : List Int} (hB : B ∈ A) : incB (-1) 32 B = true := by
  have hP := hT.p32
  exact incB_of (fun t ht => by have := incB_gt ((dOk_t hT.ok).inc _ hB) t ht; omega) (incB_pw ((dOk_t hT.ok).inc _ hB))
theorem Pas.pset (hT : TS P A) (h : Pas A q i j k l a b c d e f) : ∀ t, t ≤ 4 → incB (-1) 32 (ptsL A q t) = true
  | 0, _ => rfl
  | t + 1, ht => by
    rw [ptsL]
    obtain ⟨m, hm, hml, _⟩ := h.qi (t := t) (by omega)
    refine uniL_set _ (h.pset hT t (by omega)) fun y hy => ?_
    rw [hm] at hy
    exact incB_gt (hT.in32 (xat_mem hml)) y hy
theorem Pas.pmem (h : Pas A q i j k l a b c d e f) (z : Int) : z ∈ ptsL A q 4 ↔ z = a ∨ z = b ∨ z = c ∨ z = d ∨ z = e ∨ z = f := by
  rw [ptsL_mem]
  constructor
  · rintro ⟨s, hs, hz⟩
    obtain ⟨m, hm, _, hm4⟩ := h.qi hs
    rw [hm, Int.toNat_natCast] at hz
    rcases hm4 with rfl | rfl | rfl | rfl
    · have := (h.b1 z).1 hz; omega
    · have := (h.b2 z).1 hz; omega
    · have := (h.b3 z).1 hz; omega
    · have := (h.b4 z).1 hz; omega
  · intro hz
    have key : ∀ m : Nat, (m = i ∨ m = j ∨ m = k ∨ m = l) → z ∈ xat A m → ∃ s, s < 4 ∧ z ∈ xat A (nth q s).toNat := fun m hm hz => by
      obtain ⟨t, ht, e⟩ := h.onto hm
      exact ⟨t, ht, by rw [e, Int.toNat_natCast]; exact hz⟩
    rcases hz with rfl | rfl | rfl | rfl | rfl | rfl
    · exact key i (by simp) h.b1.m1
    · exact key i (by simp) h.b1.m2
    · exact key i (by simp) h.b1.m3
    · exact key j (by simp) h.b2.m2
    · exact key j (by simp) h.b2.m3
    · exact key k (by simp) h.b3.m1
theorem aprB_iff {x y : Int} : ∀ t, aprB A q x y t = true ↔ y ≠ x ∧ ∀ s, s < t → ¬ (x ∈ xat A (nth q s).toNat ∧ y ∈ xat A (nth q s).toNat)
  | 0 => by simp [aprB]
  | t + 1 => by
    rw [aprB, Bool.and_eq_true, aprB_iff t]
    constructor
    · rintro ⟨⟨h1, h2⟩, h3⟩
      refine ⟨h1, fun s hs hc => ?_⟩
      by_cases e : s = t
      · subst e; simp [hc.1, hc.2] at h3
      · exact h2 s (by omega) hc
    · rintro ⟨h1, h2⟩
      refine ⟨⟨h1, fun s hs => h2 s (by omega)⟩, ?_⟩
      have := h2 t (by omega)
      by_cases e1 : x ∈ xat A (nth q t).toNat
      · by_cases e2 : y ∈ xat A (nth q t).toNat
        · exact absurd ⟨e1, e2⟩ this
        · simp [e2]
      · simp [e1]
theorem Pas.apr (h : Pas A q i j k l a b c d e f) {x : Int} (hx : x ∈ ptsL A q 4) : aprB A q a x 4 = decide (x = f) := by
  rw [Bool.eq_iff_iff, aprB_iff, decide_eq_true_eq]
  have key : ∀ m : Nat, (m = i ∨ m = j ∨ m = k ∨ m = l) → (∀ s, s < 4 → ¬ ((a : Int) ∈ xat A (nth q s).toNat ∧ x ∈ xat A (nth q s).toNat)) → ¬ ((a : Int) ∈ xat A m ∧ x ∈ xat A m) := fun m hm hs => by
    obtain ⟨t, ht, e⟩ := h.onto hm
    have := hs t ht
    rwa [e, Int.toNat_natCast] at this
  constructor
  · rintro ⟨h1, h2⟩
    have k1 := key i (by simp) h2
    have k2 := key j (by simp) h2
    rcases (h.pmem x).1 hx with e | e | e | e | e | e
    · exact absurd e h1
    · exact absurd ⟨h.b1.m1, e ▸ h.b1.m2⟩ k1
    · exact absurd ⟨h.b1.m1, e ▸ h.b1.m3⟩ k1
    · exact absurd ⟨h.b2.m1, e ▸ h.b2.m2⟩ k2
    · exact absurd ⟨h.b2.m1, e ▸ h.b2.m3⟩ k2
    · exact e
  · rintro rfl
    refine ⟨fun e => h.nd.af (by omega), fun s hs hc => ?_⟩
    obtain ⟨m, hm, _, hm4⟩ := h.qi hs
    rw [hm, Int.toNat_natCast] at hc
    rcases hm4 with rfl | rfl | rfl | rfl
    · exact h.b1.no h.nd.af.symm h.nd.bf.symm h.nd.cf.symm hc.2
    · exact h.b2.no h.nd.af.symm h.nd.df.symm h.nd.ef.symm hc.2
    · exact h.b3.no h.nd.af h.nd.ab h.nd.ad hc.1
    · exact h.b4.no h.nd.af h.nd.ac h.nd.ae hc.1
theorem lstF_take {f : Int} {xs : List Int} {n : Nat} (h : n < xs.length) : lstF f (xs.take (n + 1)) = if nth xs n = f then f else lstF f (xs.take n) := by
  unfold lstF
  rw [take_nth h]
  simp only [List.mem_append, List.mem_singleton]
  by_cases e : nth xs n = f
  · rw [if_pos (.inr e.symm), if_pos e]
  · rw [if_neg e]
    by_cases e2 : f ∈ xs.take n
    · rw [if_pos (.inl e2), if_pos e2]
    · rw [if_neg e2, if_neg]
      rintro (q | q)
      · exact e2 q
      · exact e q.symm
theorem Pas.lst (h : Pas A q i j k l a b c d e f) : lstF f (ptsL A q 4) = f := by
  unfold lstF; rw [if_pos ((h.pmem _).2 (by simp))]
/-- a block on one of the two points, with the other one put in its place -/
theorem sw_put {B : List Int} {x y : Int} (hB : incB (-1) 32 B = true) (hx : 0 ≤ x ∧ x < 32) (hy : 0 ≤ y ∧ y < 32) (hxy : x ≠ y) (h : (x ∈ B ∧ y ∉ B)) : putL (bothL B [x, y] false) y = swB x y B ∧ putL (bothL B [y, x] false) y = swB x y B := by
  have hb : ∀ t ∈ B, 0 ≤ t ∧ t < 32 := fun t ht => by have := incB_gt hB t ht; omega
  have key : ∀ ys : List Int, (∀ z, z ∈ ys ↔ z = x ∨ z = y) → putL (bothL B ys false) y = swB x y B := fun ys hys => by
    refine inc_ext (incB_pw (putL_incT (bothL_set hB) (by omega) hy.2)) (incB_pw (isSet_upF _)) fun z => ?_
    rw [putL_mem, swB_mem hb hx hy]
    unfold bothL exP
    rw [List.mem_filter, beq_iff_eq, decide_eq_false_iff_not, hys z]
    by_cases e1 : z = x
    · subst e1
      rw [if_pos rfl]
      constructor
      · rintro (e | ⟨_, e⟩)
        · exact absurd e hxy
        · exact absurd (.inl rfl) e
      · intro e; exact absurd e h.2
    · rw [if_neg e1]
      by_cases e2 : z = y
      · rw [if_pos e2]; exact ⟨fun _ => h.1, fun _ => .inl e2⟩
      · rw [if_neg e2]
        constructor
        · rintro (e | ⟨e, _⟩)
          · exact absurd e e2
          · exact e
        · intro e
          refine .inr ⟨e, ?_⟩
          rintro (q | q)
          · exact e1 q
          · exact e2 q
  exact ⟨key _ fun z => by simp, key _ fun z => by simp [or_comm]⟩
theorem exP_symm (x y z : Int) : exP x y z = exP y x z := by
  unfold exP
  by_cases h1 : z = x
  · rw [if_pos h1]
    by_cases h2 : z = y
    · rw [if_pos h2]; omega
    · rw [if_neg h2, if_pos h1]
  · rw [if_neg h1]
    by_cases h2 : z = y
    · rw [if_pos h2, if_pos h2]
    · rw [if_neg h2, if_neg h2, if_neg h1]
theorem swB_symm (x y : Int) (B : List Int) : swB x y B = swB y x B := by
  unfold swB; congr 1; funext z; rw [exP_symm]
/-- what stands at place m of the switched list -/
theorem Pas.row (hT : TS P A) (h : Pas A q i j k l a b c d e f) {m : Nat} (hm : m < A.length) : xat (swQ A q a f) m = if (m : Int) ∈ q then swB a f (xat A m) else xat A m := by
  have e0 : xat (swQ A q a f) m = if xat A m ∈ qBl A q then swB a f (xat A m) else xat A m := by
    rw [xat_eq (by rw [swQ, List.length_map]; exact hm)]
    unfold swQ
    rw [List.getElem_map, xat_eq hm]
  rw [e0]
  have e1 : xat A m ∈ qBl A q ↔ (m : Int) ∈ q := by
    rw [h.qbm, h.mem]
    have hinj : ∀ n, n < A.length → xat A m = xat A n → m = n := fun n hn e => by
      have h1 := idx_of hT.nodup hm
      rw [e, idx_of hT.nodup hn] at h1
      exact h1.symm
    constructor
    · rintro (e | e | e | e)
      · exact .inl (by rw [hinj i h.li e])
      · exact .inr (.inl (by rw [hinj j h.lj e]))
      · exact .inr (.inr (.inl (by rw [hinj k h.lk e])))
      · exact .inr (.inr (.inr (by rw [hinj l h.ll e])))
    · rintro (e | e | e | e)
      · exact .inl (by rw [show m = i by omega])
      · exact .inr (.inl (by rw [show m = j by omega]))
      · exact .inr (.inr (.inl (by rw [show m = k by omega])))
      · exact .inr (.inr (.inr (by rw [show m = l by omega])))
  by_cases e2 : (m : Int) ∈ q
  · rw [if_pos e2, if_pos (e1.2 e2)]
  · rw [if_neg e2, if_neg fun e => e2 (e1.1 e)]
/-- a block of the quadrilateral holds just one of the two points -/
theorem Pas.one (h : Pas A q i j k l a b c d e f) {m : Nat} (hm : (m : Int) ∈ q) : ((a : Int) ∈ xat A m ∧ (f : Int) ∉ xat A m) ∨ ((a : Int) ∉ xat A m ∧ (f : Int) ∈ xat A m) := by
  rcases (h.mem _).1 hm with e | e | e | e
  · rw [show m = i by omega]; exact .inl ⟨h.b1.m1, h.b1.no h.nd.af.symm h.nd.bf.symm h.nd.cf.symm⟩
  · rw [show m = j by omega]; exact .inl ⟨h.b2.m1, h.b2.no h.nd.af.symm h.nd.df.symm h.nd.ef.symm⟩
  · rw [show m = k by omega]; exact .inr ⟨h.b3.no h.nd.af h.nd.ab h.nd.ad, h.b3.m1⟩
  · rw [show m = l by omega]; exact .inr ⟨h.b4.no h.nd.af h.nd.ac h.nd.ae, h.b4.m1⟩
theorem Pas.put (hT : TS P A) (h : Pas A q i j k l a b c d e f) {m : Nat} (hm : m < A.length) (hq : (m : Int) ∈ q) : putL (bothL (xat A m) [(a : Int), (f : Int)] false) (if (a : Int) ∈ xat A m then (f : Int) else a) = xat (swQ A q a f) m := by
  rw [h.row hT hm, if_pos hq]
  have hB := hT.in32 (xat_mem hm)
  have hP := hT.p32
  have ha := hT.lt (xat_mem h.li) h.b1.m1
  have hf := hT.lt (xat_mem h.lk) h.b3.m1
  rcases h.one hq with e | e
  · rw [if_pos e.1]
    exact (sw_put hB (by omega) (by omega) (by have := h.nd.af; omega) e).1
  · rw [if_neg e.1, swB_symm]
    exact (sw_put hB (by omega) (by omega) (by have := h.nd.af; omega) ⟨e.2, e.1⟩).2
end
end Go.Proofs.YtlmbaeaakpmhnaaGreat
end

section
/- Walks: the switching of a quadrilateral of the reference. -/
namespace Go.Proofs.YtlmbaeaakpmhnaaGreat
set_option linter.unusedSimpArgs false
set_option linter.unusedVariables false
open Go.RowKit
attribute [local go_sem ↓] Go.wp_at_zero Go.wp_at_succ

theorem vat_app_l {us ws : List Value} {j : Nat} (h : j < us.length) : vat (us ++ ws) j = vat us j := by
  unfold vat; rw [List.getD_eq_getElem?_getD, List.getD_eq_getElem?_getD, List.getElem?_append_left h]
theorem vat_app_r {us : List Value} {u : Value} {j : Nat} (h : us.length = j) : vat (us ++ [u]) j = u := by
  subst h; unfold vat; rw [List.getD_eq_getElem?_getD, List.getElem?_append_right (Nat.le_refl _), Nat.sub_self]; rfl
/-- another triple system, or none -/
def MakesSw (w : World) (P : Nat) (e : Ending) (w' : World) : Prop := (∃ A', TS P A' ∧ MakesD w P A' 0 e w') ∨ MakesD w 0 [] 6 e w'
set_option maxHeartbeats 16000000 in
set_option maxRecDepth 100000 in
theorem sSwitchPasch_c (P : Nat) (v vq : Value) (us : List Value) (A : List (List Int)) (q : List Int) (w : World) (hv : RII w v us A) (hq : RdI w vq q) (hA : TS P A) (hQ : IsPas A q) :
    Calls Tryz.prog 120 #[dv P v, vq] w (MakesSw w P) := by
  obtain ⟨a0, c, hsh⟩ := hv.1.sl.sh
  rw [hv.2.1] at hsh
  subst hsh
  obtain ⟨i, j, k, l, a, b, c', d, e, f, hp0⟩ := hQ
  obtain ⟨i, j, k, l, a, b, c', d, e, f, hp, hfst, hab, hac, had, hae, haf⟩ := hp0.first hA
  clear hp0
  have hAl := (dOk_t hA.ok).len
  have hP := hA.p32
  have haP := hA.lt (xat_mem hp.li) hp.b1.m1
  have hfP := hA.lt (xat_mem hp.lk) hp.b3.m1
  have hS0 := ((St.refl w).newboxF 29 #[.int .i64 P, .slice a0 A.length c]).newboxF 29 #[.int .i64 0, .slice none 0 0]
  simp only [World.size_alloc] at hS0
  have hbx : ∀ W L, St w.heap.size w W (L ++ [box 29 (w.heap.size + 1) [.int .i64 0, .slice none 0 0], box 29 w.heap.size [.int .i64 P, .slice a0 A.length c]]) → BoxD W w.heap.size P (.slice a0 A.length c) := fun W L h => by
    have h' := h.sub (List.sublist_append_right _ _)
    exact ⟨h'.bcell 1 rfl 0 rfl, h'.bcell 1 rfl 1 rfl⟩
  have Hbx := Lib.hid hbx
  have b0 := hbx _ [] hS0
  have K1 := Lib.hid (l11Ok_c P w.heap.size (.slice a0 A.length c) us A _ (hS0.oldII hv) b0 hA)
  have K2 := Lib.hid (fun W (h : RII W (.slice a0 A.length c) us A) h2 => l11Paschs_c P w.heap.size (.slice a0 A.length c) us A W h h2 hA)
  have hix := hv.ixe
  have hln := hv.len
  have qix := hq.ixe
  have hql := hp.ql
  rw [hql] at qix
  have Hv := Lib.hid hv
  have Hq := Lib.hid hq
  have hv0 := Lib.hid (fun m (hm : m < A.length) => hv.row m hm)
  have H3 := Lib.hid (fun m (hm : m < A.length) => (by rw [hA.three _ (xat_mem hm)]; exact Nat.le_refl 3 : 3 ≤ (xat A m).length))
  have HTs := Lib.hid (hp.ts hA)
  have Hqi := Lib.hid (fun t (ht : t < 4) => hp.qi ht)
  have Hql := Lib.hid hql
  have Hps := Lib.hid (fun t ht => hp.pset hA t ht)
  have Hpm := Lib.hid (fun x (hx : x ∈ ptsL A q 4) => hp.apr hx)
  have Hlst := Lib.hid hp.lst
  have Hrow := Lib.hid (fun m (hm : m < A.length) => hp.row hA hm)
  have Hput := Lib.hid (fun m (hm : m < A.length) hq' => hp.put hA hm hq')
  have H32 := Lib.hid (fun B (hB : B ∈ A) => hA.in32 hB)
  have Hfst := Lib.hid hfst
  have Hsw := Lib.hid (show (swQ A q a f).length = A.length by rw [swQ, List.length_map])
  clear hp hA hv hq hfst hbx b0 hql
  unfold dv
  go_enter Tryz.func120, Tryz.ntmps120
  go_wp2_with fail
  refine K1.out.mono ?_
  rintro e1 w2 ⟨rfl, h2⟩
  have hS2 := hS0.call0 h2
  have K := Lib.hid (K2.out w2 (hS2.oldII Hv.out) (Hbx.out _ [] hS2))
  clear K1 h2 hS0 K2
  go_wp2_with fail
  refine K.out.mono ?_
  rintro e1 w3 ⟨vR, uR, R, rfl, rR, lR, pR, h3⟩
  have hS3 := hS2.call0 h3
  have KF := Lib.hid (l05Find_c vR vq uR R q w3 rR (hS3.oldI Hq.out) (by omega))
  clear K h3 hS2
  go_wp2_with fail
  refine KF.out.mono ?_
  rintro e1 w4 ⟨m, bo, rfl, hF, h4⟩
  have hS4 := hS3.call0 h4
  clear KF h4 hS3 hF rR lR pR
  cases bo
  · have f0 := hS4.bfree 0 rfl
    have h6 := (hS4.bstore 0 rfl 0 (.int .i64 0)).bstore 0 rfl 1 (.slice none 0 0)
    have d0 := h6.bcell 0 rfl 0 rfl
    have d1 := h6.bcell 0 rfl 1 rfl
    have e0 := hS4.bcell 0 rfl 0 rfl
    have e1 := hS4.bcell 0 rfl 1 rfl
    go_wp2_with fail
    refine bodyPost_ret (v := .tuple #[.agg #[.int .i64 0, .slice none 0 0], .int .i64 6]) (by simp [results, Tryz.results120, go_sem, d0, d1, e0, e1]) rfl ?_
    first | exact .inr (MakesD.no h6) | exact .inr (MakesD.no hS4)
  · obtain ⟨LB, hLB⟩ : ∃ LB : List Ent, LB = [box 29 (w.heap.size + 1) [.int .i64 0, .slice none 0 0], box 29 w.heap.size [.int .i64 P, .slice a0 A.length c]] := ⟨_, rfl⟩
    have HLB := Lib.hid hLB
    rw [← hLB] at hS4 Hbx
    obtain ⟨q0, hq0, hq0A, _⟩ := Hqi.out 0 (by omega)
    have xq0 := qix 0 0 rfl (by omega)
    have xb0 := hix (q0 : Int) q0 rfl hq0A
    have k1 := fun s : SS w.heap.size w LB => (Hbx.out _ [] s.st).2
    have k2 := fun s : SS w.heap.size w LB => (s.st.oldI Hq.out).cell 0 (by rw [Hql.out]; omega)
    have k3 := fun s : SS w.heap.size w LB => (s.st.oldII Hv.out).cell q0 hq0A
    have hf2 := Hfst.out
    rw [hq0] at k2 hf2
    rw [Int.toNat_natCast] at hf2
    have hfr := Lib.hid (And.intro hq0A hf2)
    clear hLB hq0 hf2
    go_wp2_with fail
    have hne : Nonempty (SS _ _ _) := ⟨⟨_, hS4⟩⟩
    refine wp_region_st (by kernel_rfl) (by kernel_rfl) hS4 ?_
    repeat (go_big_quiet_step (fail))
    refine wpQuiet_nil ?_
    rintro _ ⟨s2, rfl⟩
    have hS5 := s2.st
    generalize s2.w = w5 at hS5 ⊢
    clear k1 k2 k3 hS4
    have hS6 : St w.heap.size w _ (row 2 (.slice (some ⟨w5.heap.size, 0, none⟩) 0 0) (iv (ptsL A q 0)) :: LB) := (hS5.new 2 #[] (by simp)).perm List.perm_append_comm
    clear hS5
    go_wp2_with fail
    go_loopw [9, 10] (fun o ti wr => ∃ (t : Nat), t ≤ 4 ∧ ti = .int .i64 t ∧ St w.heap.size w wr (row 2 o (iv (ptsL A q t)) :: LB)) (fun _ ti _ => 4 - (intOf ti).toNat)
    case atStart => exact ⟨0, by omega, rfl, hS6⟩
    case round =>
      clear hS6
      obtain ⟨t, ht, rfl, hS⟩ := hrel
      by_cases ht4 : t < 4
      · have hti : (t : Int) < 4 := by omega
        obtain ⟨m, hm, hmA, _⟩ := Hqi.out t ht4
        have xq := qix (t : Int) t rfl ht4
        have xm := hix (m : Int) m rfl hmA
        have cb := (Hbx.out _ [row 2 u9 (iv (ptsL A q t))] hS).2
        have cq := (hS.oldI Hq.out).cell t (by rw [Hql.out]; omega)
        rw [hm] at cq
        have cm := (hS.oldII Hv.out).cell m hmA
        have hSd := hS.drew
        have KU := Lib.hid (fun W (h : RdI W u9 (ptsL A q t)) (h2 : RdI W (vat us m) (xat A m)) => sUnionSets_c u9 (vat us m) (ptsL A q t) (xat A m) W h h2 (Hps.out t (by omega)) (H32.out _ (xat_mem hmA)))
        rw [show uniL (ptsL A q t) (xat A m) = ptsL A q (t + 1) by rw [ptsL, hm, Int.toNat_natCast]] at KU
        have r1 := Lib.hid (hSd.rdI (xs := ptsL A q t) 0 rfl)
        have r2 := Lib.hid ((hSd.oldII Hv.out).row m hmA)
        clear hm
        go_wp2_with fail
        go_region_held3 (fun w' => w'.cell? ⟨w.heap.size, 1, none⟩ = some (.slice a0 A.length c) ∧ w'.cell? (el vq t) = some (.int .i64 m) ∧ w'.cell? (el (.slice a0 A.length c) m) = some (vat us m)) (((try dsimp only); (repeat' apply And.intro); all_goals (repeat (first | assumption | exact cell_dr (by assumption) | refine cell_dr ?_ | refine cell_al ?_ | refine cell_sc (by assumption) ?_)))) (first
          | (go_at_call 34; refine (KU.out _ r1.out r2.out).mono ?_; rintro e3 w3 ⟨v3, rfl, h3⟩; have d1 := cell_keepT h3.below (cell_dr cb); have d2 := cell_keepT h3.below (cell_dr cq); have d3 := cell_keepT h3.below (cell_dr cm)))
        have hS7 := ((hSd.call h3).sub (List.sublist_cons_self _ _)).perm List.perm_append_comm
        clear hS hSd h3 d1 d2 d3 cb cq cm r1 r2 KU
        go_wp2_with fail
        go_roundw
        case rel => exact ⟨t + 1, by omega, by go_num, hS7⟩
        case measure => simp [intOf]; omega
      · obtain rfl : t = 4 := by omega
        rw [show ((4 : Nat) : Int) = (4 : Int) from rfl]
        have hlp : (ptsL A q 4).length ≤ 33 := by have := inc_len (Hps.out 4 (Nat.le_refl _)) (by omega); omega
        have rr := Lib.hid (hv0.out q0 hfr.out.1)
        have l3 : 0 < (xat A q0).length := Nat.lt_of_lt_of_le (by decide) (H3.out q0 hfr.out.1)
        have x0 := rr.out.ixe 0 0 rfl l3
        have c0 := (hS.oldI rr.out).cell 0 l3
        rw [← hfr.out.2] at c0
        have hlnp := (hS.rdI (xs := ptsL A q 4) 0 rfl).len
        have HL0 := Lib.hid (show (-1 : Int) = lstF f ((ptsL A q 4).take 0) by rw [List.take_zero]; unfold lstF; rw [if_neg (by simp)])
        have Hpt := Lib.hid (fun n (hn : n < (ptsL A q 4).length) => Hpm.out _ (nth_mem hn))
        have Hlt := Lib.hid (fun n (hn : n < (ptsL A q 4).length) => lstF_take (f := (f : Int)) hn)
        have HLe := Lib.hid (show lstF f ((ptsL A q 4).take (ptsL A q 4).length) = f by rw [List.take_length]; exact Hlst.out)
        clear l3
        generalize ptsL A q 4 = pts at *
        go_wp2_with fail
        clear c0
        go_loopw [12, 13, 14, 15] (fun la ni _ _ wr => ∃ (n : Nat), n ≤ pts.length ∧ la = .int .i64 (lstF f (pts.take n)) ∧ ni = .int .i64 n ∧ St w.heap.size w wr (row 2 u9 (iv pts) :: LB)) (fun _ ni _ _ _ => pts.length - (intOf ni).toNat)
        case atStart => exact ⟨0, by omega, by rw [← HL0.out], rfl, hS⟩
        case round =>
          clear hS HL0
          obtain ⟨n, hn, rfl, rfl, hS⟩ := hrel
          by_cases hnl : n < pts.length
          · have hni : (n : Int) < (pts.length : Int) := by omega
            have xn := (hS.rdI (xs := pts) 0 rfl).ixe (n : Int) n rfl hnl
            have cn := (hS.rdI (xs := pts) 0 rfl).cell n hnl
            have Kn := Lib.hid (fun W (h : St w.heap.size w W (row 2 u9 (iv pts) :: LB)) => (h.rdI (xs := pts) 0 rfl).cell n hnl)
            have Hp4 := Lib.hid (Hpt.out n hnl)
            have Hl4 := Lib.hid (Hlt.out n hnl)
            generalize nth pts n = x at *
            generalize lstF f (pts.take n) = la at *
            have HA0 := Lib.hid (show (x != (a : Int)) = aprB A q a x 0 by
              show _ = decide (x ≠ a)
              by_cases e : x = a
              · subst e; simp
              · simp [e])
            go_wp2_with fail
            go_loopw [14, 15] (fun ap ki wr => ∃ (t : Nat), t ≤ 4 ∧ ap = .bool (aprB A q a x t) ∧ ki = .int .i64 t ∧ St w.heap.size w wr (row 2 u9 (iv pts) :: LB)) (fun _ ki _ => 4 - (intOf ki).toNat)
            case atStart => exact ⟨0, by omega, by rw [HA0.out], rfl, hS⟩
            case round =>
              clear hS cn HA0
              obtain ⟨t, ht, rfl, rfl, hS⟩ := hrel
              by_cases ht4 : t < 4
              · have hti : (t : Int) < 4 := by omega
                obtain ⟨m, hm, hmA, _⟩ := Hqi.out t ht4
                have Ha1 := Lib.hid (show aprB A q a x (t + 1) = (aprB A q a x t && !(decide ((a : Int) ∈ xat A m) && decide (x ∈ xat A m))) by rw [aprB, hm, Int.toNat_natCast])
                have xq := qix (t : Int) t rfl ht4
                have xm := hix (m : Int) m rfl hmA
                have K1b := Lib.hid (fun W (h : St w.heap.size w W (row 2 u9 (iv pts) :: LB)) => (Hbx.out W [row 2 u9 (iv pts)] h).2)
                obtain ⟨L, hL⟩ : ∃ L, L = row 2 u9 (iv pts) :: LB := ⟨_, rfl⟩
                rw [← hL] at hS Kn K1b
                have k1 := fun s : SS w.heap.size w L => K1b.out _ s.st
                have k2 := fun s : SS w.heap.size w L => (s.st.oldI Hq.out).cell t (by rw [Hql.out]; omega)
                have k3 := fun s : SS w.heap.size w L => (s.st.oldII Hv.out).cell m hmA
                have k4 := fun s : SS w.heap.size w L => Kn.out _ s.st
                rw [hm] at k2
                have F1 := Lib.hid (fun s : SS w.heap.size w L => l00Has_c (vat us m) (xat A m) (a : Int) s.w ((s.st.oldII Hv.out).row m hmA))
                have F2 := Lib.hid (fun s : SS w.heap.size w L => l00Has_c (vat us m) (xat A m) x s.w ((s.st.oldII Hv.out).row m hmA))
                have HL := Lib.hid hL
                clear hm hL
                generalize aprB A q a x t = ap0 at *
                generalize decide ((a : Int) ∈ xat A m) = da at *
                generalize decide (x ∈ xat A m) = dx at *
                cases ap0
                · have H1 := Lib.hid (show aprB A q a x (t + 1) = false by rw [Ha1.out]; rfl)
                  go_wp2_with fail
                  have hne : Nonempty (SS _ _ _) := ⟨⟨_, hS⟩⟩
                  refine wp_region_st (by kernel_rfl) (by kernel_rfl) hS ?_
                  repeat (go_big_quiet_step (fail))
                  refine wpQuiet_nil ?_
                  rintro _ ⟨s2, rfl⟩
                  have hS6 := s2.st
                  generalize s2.w = w6 at hS6 ⊢
                  rw [HL.out] at hS6
                  clear k1 k2 k3 k4
                  go_wp2_with fail
                  go_roundw
                  case rel => exact ⟨t + 1, by omega, by rw [H1.out], by go_num, hS6⟩
                  case measure => simp [intOf]; omega
                · cases da
                  · have H1 := Lib.hid (show aprB A q a x (t + 1) = true by rw [Ha1.out]; rfl)
                    go_wp2_with fail
                    have hne : Nonempty (SS _ _ _) := ⟨⟨_, hS⟩⟩
                    refine wp_region_st (by kernel_rfl) (by kernel_rfl) hS ?_
                    repeat (go_big_quiet_step ((go_at_call 61; exact st_quiet0 (F1.out _))))
                    refine wpQuiet_nil ?_
                    rintro _ ⟨s2, rfl⟩
                    have hS6 := s2.st
                    generalize s2.w = w6 at hS6 ⊢
                    rw [HL.out] at hS6
                    clear k1 k2 k3 k4
                    go_wp2_with fail
                    go_roundw
                    case rel => exact ⟨t + 1, by omega, by rw [H1.out], by go_num, hS6⟩
                    case measure => simp [intOf]; omega
                  · cases dx
                    · have H1 := Lib.hid (show aprB A q a x (t + 1) = true by rw [Ha1.out]; rfl)
                      go_wp2_with fail
                      have hne : Nonempty (SS _ _ _) := ⟨⟨_, hS⟩⟩
                      refine wp_region_st (by kernel_rfl) (by kernel_rfl) hS ?_
                      repeat (go_big_quiet_step ((first | (go_at_call_of 61 (Value.int .i64 (a : Int)); exact st_quiet0 (F1.out _)) | (go_at_call_of 61 (Value.int .i64 x); exact st_quiet0 (F2.out _)))))
                      refine wpQuiet_nil ?_
                      rintro _ ⟨s2, rfl⟩
                      have hS6 := s2.st
                      generalize s2.w = w6 at hS6 ⊢
                      rw [HL.out] at hS6
                      clear k1 k2 k3 k4
                      go_wp2_with fail
                      go_roundw
                      case rel => exact ⟨t + 1, by omega, by rw [H1.out], by go_num, hS6⟩
                      case measure => simp [intOf]; omega
                    · have H1 := Lib.hid (show aprB A q a x (t + 1) = false by rw [Ha1.out]; rfl)
                      go_wp2_with fail
                      have hne : Nonempty (SS _ _ _) := ⟨⟨_, hS⟩⟩
                      refine wp_region_st (by kernel_rfl) (by kernel_rfl) hS ?_
                      repeat (go_big_quiet_step ((first | (go_at_call_of 61 (Value.int .i64 (a : Int)); exact st_quiet0 (F1.out _)) | (go_at_call_of 61 (Value.int .i64 x); exact st_quiet0 (F2.out _)))))
                      refine wpQuiet_nil ?_
                      rintro _ ⟨s2, rfl⟩
                      have hS6 := s2.st
                      generalize s2.w = w6 at hS6 ⊢
                      rw [HL.out] at hS6
                      clear k1 k2 k3 k4
                      go_wp2_with fail
                      go_roundw
                      case rel => exact ⟨t + 1, by omega, by rw [H1.out], by go_num, hS6⟩
                      case measure => simp [intOf]; omega
              · obtain rfl : t = 4 := by omega
                rw [Hp4.out]
                have cn := Kn.out _ hS
                by_cases hxf : x = f
                · rw [decide_eq_true hxf]
                  have H1 := Lib.hid (show lstF f (pts.take (n + 1)) = x by rw [Hl4.out, if_pos hxf]; exact hxf.symm)
                  clear hxf
                  go_wp2_with fail
                  go_roundw
                  case rel => exact ⟨n + 1, by omega, by rw [H1.out], by go_num, hS⟩
                  case measure => simp [intOf]; omega
                · rw [decide_eq_false hxf]
                  have H1 := Lib.hid (show lstF f (pts.take (n + 1)) = la by rw [Hl4.out, if_neg hxf])
                  clear hxf
                  go_wp2_with fail
                  go_roundw
                  case rel => exact ⟨n + 1, by omega, by rw [H1.out], by go_num, hS⟩
                  case measure => simp [intOf]; omega
          · obtain rfl : n = pts.length := by omega
            rw [HLe.out]
            have hS7 := hS.sub (List.sublist_cons_self _ _)
            clear hS Hpt Hlt HLe Hpm Hlst Hps Hqi H3
            obtain ⟨S, hSq⟩ : ∃ S, S = swQ A q a f := ⟨_, rfl⟩
            rw [← hSq] at Hrow Hput HTs Hsw
            have hS8 : St w.heap.size w _ (row 24 (.slice (some ⟨wr.heap.size, 0, none⟩) 0 0) [] :: ([] ++ LB)) := (hS7.new 24 #[] (by simp)).perm List.perm_append_comm
            clear hS7 hSq
            go_wp2_with fail
            clear hlnp
            go_loopw [16, 17, 18, 19] (fun o ni _ _ wr => ∃ (n : Nat) (uo : List Value) (N : List Ent), n ≤ A.length ∧ ni = .int .i64 n ∧ Hid (uo.length = n ∧ ∀ W, St w.heap.size w W N → ∀ j, j < n → RdI W (vat uo j) (xat S j)) ∧ St w.heap.size w wr (row 24 o uo :: (N ++ LB))) (fun _ ni _ _ _ => A.length - (intOf ni).toNat)
            case atStart => exact ⟨0, [], [], by omega, rfl, ⟨rfl, fun W _ j hj => by omega⟩, hS8⟩
            case round =>
              clear hS8
              obtain ⟨n, uo, N, hn, rfl, hI, hS⟩ := hrel
              have c1 := (Hbx.out _ (row 24 u16 uo :: N) hS).2
              by_cases hnA : n < A.length
              · have hni : (n : Int) < (A.length : Int) := by omega
                have xn := hix (n : Int) n rfl hnA
                have cn := (hS.oldII Hv.out).cell n hnA
                have Rn := Lib.hid (fun W L (h : St w.heap.size w W L) => (h.oldII Hv.out).row n hnA)
                have KH := Lib.hid (fun W (h : RdI W vq q) => l00Has_c vq q (n : Int) W h)
                have hone := Lib.hid (hv0.out n hnA).sl.one
                have Hr := Lib.hid (Hrow.out n hnA)
                have Hp := Lib.hid (Hput.out n hnA)
                have hN := Lib.hid (show uo.length < 4294967296 by rw [hI.out.1]; omega)
                have hB32 := Lib.hid (H32.out _ (xat_mem hnA))
                by_cases hnq : (n : Int) ∈ q
                · rw [decide_eq_true hnq] at KH
                  have Hp2 := Lib.hid (Hp.out hnq)
                  have hS1 : St w.heap.size w _ (row 24 u16 uo :: (N ++ LB) ++ [row 2 (.slice (some ⟨wr.heap.size, 0, none⟩) 2 2) (iv [(a : Int), (f : Int)])]) := hS.new 2 #[.int .i64 a, .int .i64 f] (by simp [maxLen])
                  have hraf := (hS1.sub (List.sublist_append_right _ _)).rdI (xs := [(a : Int), (f : Int)]) 0 rfl
                  have KM := Lib.hid (sMinusSets_c (vat us n) _ (xat A n) [(a : Int), (f : Int)] _ (Rn.out _ _ hS1) hraf hB32.out (by rw [incB, if_neg (by omega), incB, if_neg (by omega)]; rfl))
                  have KA := Lib.hid (fun W (h : RdI W (vat us n) (xat A n)) => l00Has_c (vat us n) (xat A n) (a : Int) W h)
                  have KP := Lib.hid (fun W vx (h : RdI W vx (bothL (xat A n) [(a : Int), (f : Int)] false)) => l00PutX_c vx (bothL (xat A n) [(a : Int), (f : Int)] false) (if (a : Int) ∈ xat A n then (f : Int) else a) W h (by
                    have h1 := bothL_len (xat A n) [(a : Int), (f : Int)] false
                    have h2 := inc_len hB32.out (by omega)
                    omega))
                  rw [Hp2.out] at KP
                  clear Hr Hp Hp2 hnq hraf
                  go_wp2_with fail
                  refine (KH.out _ (hS.oldI Hq.out)).mono ?_
                  rintro e6 w6 ⟨rfl, rfl⟩
                  clear hS KH c1 cn
                  go_wp2_with fail
                  refine KM.out.mono ?_
                  rintro e7 w7 ⟨vm, rfl, h7⟩
                  have hS7 := (hS1.sub (List.sublist_append_left _ _)).call h7
                  have r7 := h7.rdI 0 rfl
                  have R7 := Lib.hid (Rn.out _ _ hS7)
                  clear hS1 KM h7
                  by_cases ha : (a : Int) ∈ xat A n
                  · rw [decide_eq_true ha] at KA
                    rw [if_pos ha] at KP
                    clear ha
                    go_wp2_with fail
                    refine (KA.out _ R7.out).mono ?_
                    rintro e8 w8 ⟨rfl, rfl⟩
                    go_wp2_with fail
                    refine (KP.out _ _ r7).mono ?_
                    rintro e9 w9 ⟨vz, rfl, h9⟩
                    obtain ⟨za, zc, hz⟩ := (h9.rdI 0 rfl).sl.sh
                    generalize hdl : (iv (xat S n)).length = dl at hz
                    clear hdl
                    subst hz
                    have hS9 := (hS7.sub (List.sublist_append_left _ _)).call h9
                    clear h9 hS7 r7 KA KP
                    go_wp2_with (at_builtin; refine appII hS9 0 rfl hN.out rfl _ _ rfl rfl _ rfl (by first | rfl | simp [Act.eval, World.size_alloc]) ?_; intro v8 w8 hS8)
                    have hS10 : St w.heap.size w w8 (row 24 v8 (uo ++ [.slice za dl zc]) :: ((N ++ [row 2 (.slice za dl zc) (iv (xat S n))]) ++ LB)) := hS8.perm (by
                      simp only [List.cons_append, List.set_cons_zero, List.append_assoc]
                      exact List.Perm.cons _ (List.Perm.append_left _ List.perm_append_comm))
                    go_roundw
                    case rel => exact ⟨n + 1, _, _, by omega, by go_num, ⟨by rw [List.length_append, hI.out.1]; rfl, fun W h j hj => by
                      by_cases e : j < n
                      · rw [vat_app_l (by rw [hI.out.1]; exact e)]; exact hI.out.2 W (h.sub (List.sublist_append_left _ _)) j e
                      · obtain rfl : j = n := by omega
                        have hl := hI.out.1
                        rw [vat_app_r (by rw [hl])]
                        exact (h.sub (List.sublist_append_right _ _)).rdI (xs := xat S j) 0 rfl⟩, hS10⟩
                    case measure => simp [intOf]; omega
                  · rw [decide_eq_false ha] at KA
                    rw [if_neg ha] at KP
                    clear ha
                    go_wp2_with fail
                    refine (KA.out _ R7.out).mono ?_
                    rintro e8 w8 ⟨rfl, rfl⟩
                    go_wp2_with fail
                    refine (KP.out _ _ r7).mono ?_
                    rintro e9 w9 ⟨vz, rfl, h9⟩
                    obtain ⟨za, zc, hz⟩ := (h9.rdI 0 rfl).sl.sh
                    generalize hdl : (iv (xat S n)).length = dl at hz
                    clear hdl
                    subst hz
                    have hS9 := (hS7.sub (List.sublist_append_left _ _)).call h9
                    clear h9 hS7 r7 KA KP
                    go_wp2_with (at_builtin; refine appII hS9 0 rfl hN.out rfl _ _ rfl rfl _ rfl (by first | rfl | simp [Act.eval, World.size_alloc]) ?_; intro v8 w8 hS8)
                    have hS10 : St w.heap.size w w8 (row 24 v8 (uo ++ [.slice za dl zc]) :: ((N ++ [row 2 (.slice za dl zc) (iv (xat S n))]) ++ LB)) := hS8.perm (by
                      simp only [List.cons_append, List.set_cons_zero, List.append_assoc]
                      exact List.Perm.cons _ (List.Perm.append_left _ List.perm_append_comm))
                    go_roundw
                    case rel => exact ⟨n + 1, _, _, by omega, by go_num, ⟨by rw [List.length_append, hI.out.1]; rfl, fun W h j hj => by
                      by_cases e : j < n
                      · rw [vat_app_l (by rw [hI.out.1]; exact e)]; exact hI.out.2 W (h.sub (List.sublist_append_left _ _)) j e
                      · obtain rfl : j = n := by omega
                        have hl := hI.out.1
                        rw [vat_app_r (by rw [hl])]
                        exact (h.sub (List.sublist_append_right _ _)).rdI (xs := xat S j) 0 rfl⟩, hS10⟩
                    case measure => simp [intOf]; omega
                · rw [decide_eq_false hnq] at KH
                  have He := Lib.hid (show xat S n = xat A n by rw [Hr.out, if_neg hnq])
                  obtain ⟨ya, yc, hy⟩ := (hv0.out n hnA).sl.sh
                  generalize hyl : (iv (xat A n)).length = yl at hy
                  have Hy := Lib.hid hy
                  rw [hy] at cn
                  clear Hr Hp hnq hy hyl hone
                  go_wp2_with fail
                  refine (KH.out _ (hS.oldI Hq.out)).mono ?_
                  rintro e6 w6 ⟨rfl, rfl⟩
                  go_wp2_with (at_builtin; refine appII hS 0 rfl hN.out rfl _ _ rfl rfl _ rfl (by first | rfl | simp [Act.eval, World.size_alloc]) ?_; intro v8 w8 hS8)
                  simp only [List.set_cons_zero] at hS8
                  go_roundw
                  case rel => exact ⟨n + 1, _, N, by omega, by go_num, ⟨by rw [List.length_append, hI.out.1]; rfl, fun W h j hj => by
                    by_cases e : j < n
                    · rw [vat_app_l (by rw [hI.out.1]; exact e)]; exact hI.out.2 W h j e
                    · obtain rfl : j = n := by omega
                      have hl := hI.out.1
                      rw [vat_app_r (by rw [hl]), He.out, ← Hy.out]; exact Rn.out _ _ h⟩, hS8⟩
                  case measure => simp [intOf]; omega
              · obtain rfl : n = A.length := by omega
                have hSd := hS.drew
                have hsub : N.Sublist (row 24 u16 uo :: (N ++ LB)) := (List.sublist_append_left _ _).trans (List.sublist_cons_self _ _)
                have rR : RII wr.drew u16 uo S := ⟨hSd.rd 0 rfl, by rw [hI.out.1, Hsw.out], fun j hj => hI.out.2 _ (hSd.sub hsub) j (by rw [← Hsw.out]; exact hj)⟩
                have HTs := HTs.out
                have HRw : ∀ xs ∈ S, xs.length ≤ 1048576 := fun xs hx => by rw [HTs.three xs ((srtL_perm _).mem_iff.2 hx)]; decide
                have KS := Lib.hid (l10Sort_c u16 uo S _ rR (by rw [Hsw.out]; omega) HRw)
                have HTs := Lib.hid HTs
                have b0 := (Hbx.out _ (row 24 u16 uo :: N) hS).1
                have hS0 := hSd.sub (L' := LB) ((List.sublist_append_right N LB).trans (List.sublist_cons_self _ _))
                rw [HLB.out] at hS0
                clear rR HRw hsub hS
                go_wp2_with fail
                refine regionG (fun w' => w'.cell? ⟨w.heap.size, 0, none⟩ = some (.int .i64 P)) 5 (by kernel_rfl) (cell_dr b0) (fun hHeld => ?_)
                refine takeP (i := 0) (v := ?_) rfl (by kernel_rfl) (fun _ _ _ h => h) (by rfl) ?_ (by assumption) ?_
                case refine_2 => (intro w'; go_simp; first | done | with_reducible rfl)
                try simp only [Act.put, List.setIfInBounds_toArray, List.set_cons_zero, List.set_cons_succ]
                refine takeH (i := 1) [4] (v := ?_) rfl (by kernel_rfl) (fun _ _ _ h => h) (by rfl) ?_ (by assumption) ?_
                case refine_2 => (intro w' hSw; (try dsimp only at hSw); go_simp; first | done | with_reducible rfl)
                try simp only [Act.put, List.setIfInBounds_toArray, List.set_cons_zero, List.set_cons_succ]
                refine takeP (i := 2) (v := ?_) rfl (by kernel_rfl) (fun _ _ _ h => h) (by rfl) ?_ (by assumption) ?_
                case refine_2 => (intro w'; go_simp; first | done | with_reducible rfl)
                try simp only [Act.put, List.setIfInBounds_toArray, List.set_cons_zero, List.set_cons_succ]
                refine readyG (rs := [3]) (by kernel_rfl) (by simp) ?_
                refine AllG.cons rfl (fun K hK => ?_) AllG.nil
                go_simp
                refine KS.out.mono ?_
                clear KS
                rintro e w5 ⟨v5, us5, rfl, hl5, h5⟩
                obtain ⟨ua, uc, hv5⟩ := (h5.rd 0 (e := 24) (v := v5) (us := us5) rfl).sl.sh
                rw [hl5] at hv5
                generalize hdl : (srtL S).length = dl at hv5
                clear hdl
                subst hv5
                have hB5 := hS0.call h5
                have e0 := hB5.bcell 1 rfl 0 rfl
                have c0 := hB5.bcell 0 rfl 0 rfl
                have c1 := hB5.bcell 0 rfl 1 rfl
                have f0 := hB5.bfree 0 rfl
                refine hK.out _ _ e0 (fun hHeld => ?_)
                clear hK K
                try simp only [Act.put, List.setIfInBounds_toArray, List.set_cons_zero, List.set_cons_succ]
                refine takeP (i := 4) (v := ?_) rfl (by kernel_rfl) (fun _ _ _ h => h) (by rfl) ?_ (by assumption) ?_
                case refine_2 => (intro w'; go_simp; first | done | with_reducible rfl)
                try simp only [Act.put, List.setIfInBounds_toArray, List.set_cons_zero, List.set_cons_succ]
                refine readyG (rs := [5]) (by kernel_rfl) (by simp) ?_
                refine AllG.last rfl (by kernel_rfl) (fun K hK => ?_) AllG.nil
                go_simp
                refine hK.out _ _ ?_
                clear hK K
                try simp only [Act.put, List.setIfInBounds_toArray, List.set_cons_zero, List.set_cons_succ]
                refine readyG (rs := [6]) (by kernel_rfl) (by simp) ?_
                refine AllG.last rfl (by kernel_rfl) (fun K hK => ?_) AllG.nil
                go_simp
                refine hK.out _ _ ?_
                clear hK K
                try simp only [Act.put, List.setIfInBounds_toArray, List.set_cons_zero, List.set_cons_succ]
                refine doneG (by kernel_rfl) ?_ _
                refine NoPanic.normal ?_
                have h6 := (hB5.bstore 0 rfl 0 (.int .i64 P)).bstore 0 rfl 1 (.slice ua dl uc)
                have d0 := h6.bcell 0 rfl 0 rfl
                have d1 := h6.bcell 0 rfl 1 rfl
                clear hB5 h5 c0 c1 e0 f0 hSd
                go_wp2_with fail
                refine bodyPost_ret (v := .tuple #[.agg #[.int .i64 P, .slice ua dl uc], .int .i64 0]) (by simp [results, Tryz.results120, go_sem, d0, d1]) rfl ?_
                exact .inl ⟨srtL S, HTs.out, _, us5, rfl, hl5, h6.sub (.cons _ (.cons _ (.refl _)))⟩
end Go.Proofs.YtlmbaeaakpmhnaaGreat
end
