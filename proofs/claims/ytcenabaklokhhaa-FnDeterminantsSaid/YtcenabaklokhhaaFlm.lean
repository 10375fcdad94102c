/- Determinants, products and inverses of matrices, as the law asks for them, in plain terms. Walks: spec.FieldMul, FieldAdd, FieldSize at valid fields. -/
import Derived.Test.YtcenabaklokhhaaInv
import Derived.Test.YtcenabaklokhhaaTimes
import Derived.Test.YtcenabaklokhhaaRR
import Derived.Test.YtcenabaklokhhaaPDm
import Derived.Test.YtcenabaklokhhaaMul
import Derived.Test.YtcenabaklokhhaaSum
import Derived.Test.YtcenabaklokhhaaFx
import Derived.Test.YtcenabaklokhhaaDot
namespace Go.Proofs.Ytcenabaklokhhaa
set_option linter.unusedSimpArgs false
set_option linter.unusedVariables false
open Go.RowKit
attribute [local go_sem ↓] Go.wp_at_zero Go.wp_at_succ

theorem FV.fOk {p d : Int} {xs : List Int} (h : FV p d xs) : fOk p d xs = true := by
  have h3 : pu p 64 d.toNat 1 ≤ 64 := by
    rw [pu_le (by have := h.p2; omega) d.toNat 1 (by omega) (by rw [Int.one_mul]; exact h.q), Int.one_mul]; exact h.q
  rw [fOk_yes h.pr h.d1 h3 h.len h.top (allIn_iff.2 h.inp)]
  exact h.irr
section
variable {p : Int} {D : Nat} {fs : List Int} {n : Nat} {A B : List (List Int)}
theorem Rect.matOk (h : FV p D fs) (hA : Rect p D n A) (n1 : 1 ≤ n) (n32 : n ≤ 32) (a1 : 1 ≤ A.length) (a32 : A.length ≤ 32) : matOk p D fs A = true := by
  have h0 : (xat A 0).length = n := (hA.ra (j := 0) (by omega)).1
  rw [matOk_yes h.fOk (inB_true (by omega)) (inB_true (by omega)), h0]
  simp only [anyR, Bool.not_eq_true', List.any_eq_false]
  intro r hr
  have hr' := hA r hr
  have hv : vecOk (p ^ (D : Int).toNat) r = true := by
    rw [Int.toNat_natCast]
    simp only [vecOk, anyP, Bool.not_eq_true', List.any_eq_false]
    intro x hx
    have := hr'.2 x hx
    rw [inB_true (by omega)]; simp
  rw [rowBad, hv, hr'.1]; simp
theorem nth_cf (xs : List Int) (j : Nat) : nth xs j = cf xs j := rfl
theorem em_dotN (h : FV p D fs) {a b : List Int} (ha : In (p ^ D) a) (hb : In (p ^ D) b) : ∀ k, em h (dotN p D fs a b k) = Sm k fun i => em h (cf a i) * em h (cf b i)
  | 0 => by rw [dotN, em_0]; rfl
  | k + 1 => by
    have e1 := inEl h.fa.pos ha k
    have e2 := inEl h.fa.pos hb k
    rw [dotN, em_add (dotN_el h.fa a b k) (fmul_el h.fa _ _), em_dotN h ha hb k, nth_cf, nth_cf, em_mul e1 e2]
    rfl
theorem xat_trL {m : List (List Int)} {k : Nat} (hk : k < n) : xat (trL m n) k = colOf m k := by simp [xat, trL, hk]
theorem xat_mulL {X Y : List (List Int)} {i : Nat} (hi : i < X.length) : xat (mulL p D fs X Y) i = mulR p D fs (xat X i) Y := by simp [xat, mulL, hi]
theorem cf_mulR {r : List Int} {Y : List (List Int)} {j : Nat} (hj : j < Y.length) : cf (mulR p D fs r Y) j = dotN p D fs r (xat Y j) r.length := by simp [cf, mulR, xat, hj]
theorem cf_colOf {m : List (List Int)} {c i : Nat} (hi : i < m.length) : cf (colOf m c) i = cf (xat m i) c := by simp [cf, colOf, xat, hi, nth]
theorem colOf_in (h : FV p D fs) {m : List (List Int)} (hm : Rect p D n m) (c : Nat) : In (p ^ D) (colOf m c) := fun x hx => by
  obtain ⟨r, hr, rfl⟩ := List.mem_map.1 hx
  exact inEl h.fa.pos (hm r hr).2 c
theorem mulL_rect (h : FV p D fs) (hA : Rect p D n A) : Rect p D n (mulL p D fs A (trL B n)) := fun r hr => by
  obtain ⟨q, hq, rfl⟩ := List.mem_map.1 hr
  refine ⟨by rw [mulR_len, trL_len], fun x hx => ?_⟩
  obtain ⟨y, hy, rfl⟩ := List.mem_map.1 hx
  exact dotN_el h.fa _ _ _
theorem toM_mul (h : FV p D fs) (hA : Rect p D n A) (hB : Rect p D n B) (lA : A.length = n) (lB : B.length = n) : ∀ i j, i < n → j < n → toM h (mulL p D fs A (trL B n)) i j = mm n (toM h A) (toM h B) i j := fun i j hi hj => by
  have hr := hA.ra (j := i) (by omega)
  show em h (cf (xat (mulL p D fs A (trL B n)) i) j) = _
  rw [xat_mulL (by omega), cf_mulR (by rw [trL_len]; exact hj), xat_trL hj]
  have e := em_dotN h (show In (p ^ D) (xat A i) from hr.2) (colOf_in h hB j) (xat A i).length
  rw [e, show (xat A i).length = n from hr.1]
  exact Sm_congr fun k hk => by rw [cf_colOf (by omega)]; rfl
/-- the unit matrix -/
def idL (n : Nat) : List (List Int) := (List.range n).map fun i => tab n fun j => if i = j then 1 else 0
theorem idL_len (n : Nat) : (idL n).length = n := by simp [idL]
theorem xat_idL {i : Nat} (hi : i < n) : xat (idL n) i = tab n fun j => if i = j then 1 else 0 := by simp [xat, idL, hi]
theorem mul_id (h : FV p D fs) (hA : Rect p D n A) (hB : Rect p D n B) (lA : A.length = n) (lB : B.length = n) (he : ∀ i j, i < n → j < n → mm n (toM h A) (toM h B) i j = idm i j) : mulL p D fs A (trL B n) = idL n := by
  have hC := mulL_rect (B := B) h hA
  refine ra_ext (by rw [mulL_len, idL_len, lA]) fun i hi => ?_
  rw [mulL_len, lA] at hi
  have hr := hC.ra (j := i) (by rw [mulL_len, lA]; exact hi)
  refine cf_ext (by rw [hr.1]; show n = (xat (idL n) i).length; rw [xat_idL hi, tab_len]) fun j hj => ?_
  rw [hr.1] at hj
  refine em_inj (h := h) (inEl h.fa.pos hr.2 j) ?_ ?_
  · show El p D (cf (xat (idL n) i) j)
    rw [xat_idL hi, cf_tab hj]; split
    · exact el_one h.fa
    · exact el_zero h.fa
  · have := toM_mul h hA hB lA lB i j hi hj
    rw [he i j hi hj] at this
    refine Eq.trans this ?_
    show idm i j = em h (cf (xat (idL n) i) j)
    rw [xat_idL hi, cf_tab hj]; unfold idm; split
    · exact em_1.symm
    · exact em_0.symm
/-- what the law asks of two square matrices -/
structure DetLaw (p : Int) (D : Nat) (fs : List Int) (A B : List (List Int)) : Prop where
  cA : detC p D fs A = 0
  cB : detC p D fs B = 0
  cP : mulC p D fs A B = 0
  cPd : detC p D fs (mulM p D fs A B) = 0
  cR : matC p D fs A = 0
  mul : detM p D fs (mulM p D fs A B) = fmul p D fs (detM p D fs A) (detM p D fs B)
  elA : El p D (detM p D fs A)
  elB : El p D (detM p D fs B)
  rk : detM p D fs A ≠ 0 ↔ rkM p D fs A = A.length
  no : detM p D fs A = 0 → invC p D fs A = 3
  yes : detM p D fs A ≠ 0 → invC p D fs A = 0 ∧ mulC p D fs A (invM p D fs A) = 0 ∧ mulC p D fs (invM p D fs A) A = 0 ∧ mulM p D fs A (invM p D fs A) = idL A.length ∧ mulM p D fs (invM p D fs A) A = idL A.length
theorem detC_ok (h : FV p D fs) (hA : Rect p D n A) (lA : A.length = n) (n1 : 1 ≤ n) (n32 : n ≤ 32) : detC p D fs A = 0 ∧ detM p D fs A = (red p D fs n 0 A [] 1).2.2 := by
  have h0 : (xat A 0).length = n := (hA.ra (j := 0) (by omega)).1
  have hc : detC p D fs A = 0 := by unfold detC; rw [if_pos (hA.matOk h n1 n32 (by omega) (by omega)), if_pos (by omega)]
  refine ⟨hc, ?_⟩
  unfold detM; rw [if_pos hc]; unfold redM; rw [h0, Int.toNat_natCast]
theorem mulM_ok (h : FV p D fs) (hA : Rect p D n A) (hB : Rect p D n B) (lA : A.length = n) (lB : B.length = n) (n1 : 1 ≤ n) (n32 : n ≤ 32) : mulC p D fs A B = 0 ∧ mulM p D fs A B = mulL p D fs A (trL B n) := by
  have a0 : (xat A 0).length = n := (hA.ra (j := 0) (by omega)).1
  have b0 : (xat B 0).length = n := (hB.ra (j := 0) (by omega)).1
  have hc : mulC p D fs A B = 0 := by
    unfold mulC; rw [hA.matOk h n1 n32 (by omega) (by omega), hB.matOk h n1 n32 (by omega) (by omega), if_pos (show (true && true) = true from rfl), if_pos (by omega)]
  refine ⟨hc, ?_⟩
  unfold mulM; rw [if_pos hc, b0, Int.toNat_natCast]
theorem detLaw (h : FV p D fs) (hA : Rect p D n A) (hB : Rect p D n B) (lA : A.length = n) (lB : B.length = n) (n1 : 1 ≤ n) (n32 : n ≤ 32) : DetLaw p D fs A B := by
  have a0 : (xat A 0).length = n := (hA.ra (j := 0) (by omega)).1
  obtain ⟨ca, da⟩ := detC_ok h hA lA n1 n32
  obtain ⟨cb, db⟩ := detC_ok h hB lB n1 n32
  obtain ⟨cp, mp⟩ := mulM_ok h hA hB lA lB n1 n32
  have hP := mulL_rect (B := B) h hA
  have lP : (mulL p D fs A (trL B n)).length = n := by rw [mulL_len, lA]
  obtain ⟨cd, dd⟩ := detC_ok h hP lP n1 n32
  have hm := hA.matOk h n1 n32 (by omega) (by omega)
  have hinv : invC p D fs A = if detM p D fs A = 0 then 3 else 0 := by unfold invC; rw [if_pos ca]
  refine ⟨ca, cb, cp, by rw [mp]; exact cd, by unfold matC; rw [if_pos hm], ?_, ?_, ?_, ?_, fun e => by rw [hinv, if_pos e], fun e => ?_⟩
  · rw [mp, dd, da, db]; exact det_mul hA hB hP lA lB lP (toM_mul h hA hB lA lB)
  · rw [da]; exact red_det_el h n 0 (el_one h.fa)
  · rw [db]; exact red_det_el h n 0 (el_one h.fa)
  · have hr := red_det_piv h (N := n) n 0 (R := A) (piv := []) (det := 1) rfl (by omega) hA (el_one h.fa) (by decide)
    have hle := red_piv_le (p := p) (D := D) (fs := fs) n 0 (R := A) (piv := []) (det := 1)
    rw [Nat.zero_add] at hr
    have hk : rkM p D fs A = ((red p D fs n 0 A [] 1).2.1.length : Int) := by
      unfold rkM pvM; rw [if_pos hm]; unfold redM; rw [a0, Int.toNat_natCast]
    rw [da, hk, Ne, hr, lA]
    simp only [List.length_nil] at hle
    omega
  · have e' : (red p D fs n 0 A [] 1).2.2 ≠ 0 := by rw [← da]; exact e
    have hi : invC p D fs A = 0 := by rw [hinv, if_neg e]
    have hI : invM p D fs A = invR p D fs A := by unfold invM invR; rw [if_pos hi, Int.toNat_natCast]
    obtain ⟨r1, l1, e1⟩ := invR_ok (h := h) hA lA e'
    have e2 := invR_both (h := h) hA lA e'
    rw [hI]
    obtain ⟨q1, q2⟩ := mulM_ok h hA r1 lA l1 n1 n32
    obtain ⟨q3, q4⟩ := mulM_ok h r1 hA l1 lA n1 n32
    exact ⟨hi, q1, q3, by rw [q2, lA]; exact mul_id h hA r1 lA l1 e2, by rw [q4, lA]; exact mul_id h r1 hA l1 lA e1⟩
end


set_option maxHeartbeats 1000000 in
set_option maxRecDepth 100000 in
theorem l03Has_c (p : Int) (D : Nat) (g : Nat) (v : Value) (fs : List Int) (a b : Int) (w : World) (hv : RdI w v fs) (hbx : BoxF w g p D v) (hf : FV p D fs) (ha : El p D a) (hb : El p D b) :
    Calls Try.prog 107 #[.pointer (some ⟨g, 0, none⟩), .int .i64 a, .int .i64 b] w (GivesB w true) := by
  have hok := Lib.hid (l03Ok_c p D g v fs w hv hbx)
  rw [hf.fOk] at hok
  have hsz := fun w' (hb : BoxF w' g p D v) => Lib.hid (l03Size_c p D g v fs w' hb hf)
  rw [Int.toNat_natCast] at hsz
  have HB := Lib.hid hbx
  have i1 : inB a 0 (p ^ D - 1) = true := inB_true (by have := ha.1; have := ha.2; omega)
  have i2 : inB b 0 (p ^ D - 1) = true := inB_true (by have := hb.1; have := hb.2; omega)
  have hq := hf.q64
  have hq0 : 0 < p ^ D := Int.pow_pos hf.fa.pos
  clear hf ha hb hv hbx
  generalize p ^ D = q at *
  go_enter Try.func107, Try.ntmps107
  go_wp2_with fail
  refine hok.out.mono ?_
  rintro e w1 ⟨rfl, h1⟩
  go_wp2_with fail
  refine (hsz w1 (h1.oldF HB.out)).out.mono ?_
  rintro e w2 ⟨rfl, h2⟩
  have hS2 := h1.call0 h2
  go_wp2_with (go_at_call 165; refine (l00In_c _ _ _ _).mono ?_; rintro e w3 ⟨rfl, rfl⟩)
  refine (hsz w2 (hS2.oldF HB.out)).out.mono ?_
  rintro e w4 ⟨rfl, h4⟩
  have hS4 := hS2.call0 h4
  go_wp2_with (go_at_call 165; refine (l00In_c _ _ _ _).mono ?_; rintro e w5 ⟨rfl, rfl⟩)
  go_ret
  exact ⟨rfl, hS4⟩

set_option maxHeartbeats 1000000 in
set_option maxRecDepth 100000 in
theorem sFieldMul_c (p : Int) (D : Nat) (v : Value) (fs : List Int) (a b : Int) (w : World) (hv : RdI w v fs) (hf : FV p D fs) (ha : El p D a) (hb : El p D b) :
    Calls Try.prog 19 #[fv p D v, .int .i64 a, .int .i64 b] w (GivesI w (fmul p D fs a b)) := by
  have hS0 := (St.refl w).newboxF 25 #[.int .i64 p, .int .i64 D, v]
  have hbx : BoxF _ w.heap.size p D v := ⟨hS0.bcell 0 rfl 0 rfl, hS0.bcell 0 rfl 1 rfl, hS0.bcell 0 rfl 2 rfl⟩
  have Hh := Lib.hid (l03Has_c p D _ v fs a b _ (hS0.oldI hv) hbx hf ha hb)
  have Hm := fun w' (hv' : RdI w' v fs) (hb' : BoxF w' w.heap.size p D v) => Lib.hid (l03Mul_c p D _ v fs a b w' hv' hb' hf (ha.lim hf).1 (ha.lim hf).2 (hb.lim hf).1 (hb.lim hf).2)
  have HB := Lib.hid hbx
  clear hf ha hb hbx
  unfold fv
  go_enter Try.func19, Try.ntmps19
  go_wp2_with fail
  refine Hh.out.mono ?_
  rintro e w1 ⟨rfl, h1⟩
  have hS1 := hS0.call0 h1
  go_wp2_with fail
  refine (Hm w1 (hS1.oldI hv) (HB.out.keep h1.below)).out.mono ?_
  rintro e w2 ⟨rfl, h2⟩
  have hS2 := hS1.call0 h2
  go_wp2_with fail
  go_ret
  exact ⟨rfl, hS2.out⟩

end Go.Proofs.Ytcenabaklokhhaa
