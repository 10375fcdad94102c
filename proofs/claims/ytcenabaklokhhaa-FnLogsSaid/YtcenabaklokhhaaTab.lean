/- Walks: the tables of a field. -/
import Derived.Test.YtcenabaklokhhaaMul
import Derived.Test.YtcenabaklokhhaaSum
import Derived.Test.YtcenabaklokhhaaMk
import Derived.Test.YtcenabaklokhhaaPGen
import Derived.Deep.CutRange
namespace Go.Proofs.Ytcenabaklokhhaa
set_option linter.unusedSimpArgs false
set_option linter.unusedVariables false
open Go.RowKit
attribute [local go_sem ↓] Go.wp_at_zero Go.wp_at_succ

/-- a square table -/
def tb (q : Nat) (f : Nat → Nat → Int) : List (List Int) := (List.range q).map fun a => tab q (f a)
theorem tb_len (q : Nat) (f : Nat → Nat → Int) : (tb q f).length = q := by simp [tb]
theorem xat_tb {q : Nat} {f : Nat → Nat → Int} {a : Nat} (h : a < q) : xat (tb q f) a = tab q (f a) := by simp [xat, tb, h]
theorem tb_take {q : Nat} {f : Nat → Nat → Int} {a : Nat} (h : a < q) : (tb q f).take (a + 1) = (tb q f).take a ++ [tab q (f a)] := by
  rw [take_xat (by rw [tb_len]; exact h), xat_tb h]
/-- the first k places of a list -/
def pt (q k : Nat) (f : Nat → Int) : List Int := tab q fun i => if i < k then f i else 0
theorem pt_len (q k : Nat) (f : Nat → Int) : (pt q k f).length = q := tab_len _ _
theorem pt_0 (q : Nat) (f : Nat → Int) : pt q 0 f = List.replicate q 0 := by
  apply List.ext_getElem
  · simp [pt, tab]
  · intro i h1 h2; simp [pt, tab]
theorem pt_end (q : Nat) (f : Nat → Int) : pt q q f = tab q f := tab_congr fun i hi => if_pos hi
theorem pt_set {q k : Nat} {f : Nat → Int} (hk : k < q) : (pt q k f).set k (f k) = pt q (k + 1) f := by
  refine cf_ext (by simp [pt_len]) fun t ht => ?_
  rw [List.length_set, pt_len] at ht
  unfold pt
  rw [cf_set (by rw [tab_len]; exact hk), cf_tab ht, cf_tab ht]
  by_cases e : k = t
  · subst e; rw [if_pos rfl, if_pos (by omega)]
  · rw [if_neg e]
    by_cases h : t < k
    · rw [if_pos h, if_pos (by omega)]
    · rw [if_neg h, if_neg (by omega)]
def invP (p : Int) (D : Nat) (fs : List Int) (q a k : Nat) : List Int := tab q fun i => if i < a then invN p D fs i q else if i = a then invN p D fs a k else 0
def invT (p : Int) (D : Nat) (fs : List Int) : List Int := tab (qn p D) fun i => invN p D fs i (qn p D)
theorem invP_0 (p : Int) (D : Nat) (fs : List Int) (q : Nat) : invP p D fs q 0 0 = List.replicate q 0 := by
  apply List.ext_getElem
  · simp [invP, tab]
  · intro i h1 h2; simp [invP, tab, invN]
theorem invP_row (p : Int) (D : Nat) (fs : List Int) (q a : Nat) : invP p D fs q a q = invP p D fs q (a + 1) 0 :=
  tab_congr fun i hi => by
    by_cases h : i < a
    · rw [if_pos h, if_pos (by omega)]
    · rw [if_neg h]
      by_cases e : i = a
      · rw [if_pos e, if_pos (by omega), e]
      · rw [if_neg e, if_neg (by omega)]; simp [invN]
theorem invP_end (p : Int) (D : Nat) (fs : List Int) (k : Nat) : invP p D fs (qn p D) (qn p D) k = invT p D fs := tab_congr fun i hi => if_pos hi
theorem invP_len (p : Int) (D : Nat) (fs : List Int) (q a k : Nat) : (invP p D fs q a k).length = q := tab_len _ _
theorem invP_same {p : Int} {D : Nat} {fs : List Int} {q a k : Nat} (h : fmul p D fs a k ≠ 1) : invP p D fs q a (k + 1) = invP p D fs q a k := by
  unfold invP; rw [invN, if_neg h]
theorem invP_set {p : Int} {D : Nat} {fs : List Int} {q a k : Nat} (ha : a < q) (h : fmul p D fs a k = 1) : (invP p D fs q a k).set a k = invP p D fs q a (k + 1) := by
  refine cf_ext (by simp [invP_len]) fun t ht => ?_
  rw [List.length_set, invP_len] at ht
  unfold invP
  rw [cf_set (by rw [tab_len]; exact ha), cf_tab ht, cf_tab ht]
  by_cases e : a = t
  · subst e; rw [if_pos rfl, if_neg (by omega), if_pos rfl, invN, if_pos h]
  · rw [if_neg e]
    by_cases h1 : t < a
    · rw [if_pos h1, if_pos h1]
    · rw [if_neg h1, if_neg h1, if_neg (fun e2 => e e2.symm), if_neg (fun e2 => e e2.symm)]

def fAdd (p : Int) (D : Nat) (a b : Nat) : Int := fsum p D a b 1
def fSub (p : Int) (D : Nat) (a b : Nat) : Int := fsum p D a b (-1)
def fMul (p : Int) (D : Nat) (fs : List Int) (a b : Nat) : Int := fmul p D fs a b
/-- it hands over the tables -/
def MakesT (w : World) (p : Int) (D : Nat) (fs : List Int) (e : Ending) (w' : World) : Prop :=
  ∃ va ua vs us vm um vi, e = .returned (.agg #[.int .i64 (qn p D), va, vs, vm, vi]) ∧ ua.length = qn p D ∧ us.length = qn p D ∧ um.length = qn p D ∧
    St w.heap.size w w' (own2 va ua (tb (qn p D) (fAdd p D)) ++ own2 vs us (tb (qn p D) (fSub p D)) ++ own2 vm um (tb (qn p D) (fMul p D fs)) ++ [row 2 vi (iv (invT p D fs))])

set_option maxHeartbeats 8000000 in
set_option maxRecDepth 100000 in
theorem tablesOf_c (p : Int) (D : Nat) (v : Value) (xs : List Int) (w : World) (hv : RdI w v xs) (hf : FV p D xs) :
    Calls Try.prog 102 #[fv p D v] w (MakesT w p D xs) := by
  have hS0 := ((St.refl w).newboxF 25 #[.int .i64 p, .int .i64 D, v]).newboxF 109 #[.int .i64 0, .slice none 0 0, .slice none 0 0, .slice none 0 0, .slice none 0 0]
  simp only [World.size_alloc] at hS0
  have p2 := hf.p2
  have p64 := hf.p64
  have HF := Lib.hid hf
  have hq := hf.q
  rw [Int.toNat_natCast] at hq
  have hq0 := pow_ge p2 D
  have hqe : p ^ D = ((qn p D : Nat) : Int) := by unfold qn; omega
  rw [hqe] at hq hq0
  have hfs := fun W => Lib.hid (fieldSize_c p D v xs W hf)
  rw [Int.toNat_natCast, hqe] at hfs
  clear hqe hf
  generalize hqq : qn p D = q at *
  have Hq := Lib.hid hqq
  clear hqq
  have c0 := hS0.bcell 1 rfl 0 rfl
  have c1 := hS0.bcell 1 rfl 1 rfl
  have c2 := hS0.bcell 1 rfl 2 rfl
  unfold fv at hfs ⊢
  go_enter Try.func102, Try.ntmps102
  go_wp2_with fail
  refine (hfs _).out.mono ?_
  rintro e w1 ⟨rfl, h1⟩
  have hS1 := (hS0.call0 h1).newboxF 109 #[.int .i64 q, .slice none 0 0, .slice none 0 0, .slice none 0 0, .slice none 0 0]
  clear h1 c0 c1 c2 hfs hS0
  go_wp2_with (at_make; refine mkI hS1 rfl _ _ rfl _ _ q rfl rfl (by omega) ?_; intro vi w2 hS2; obtain ⟨ai, ci, rfl⟩ := (hS2.rdI 3 rfl).shp'; have e0 := hS2.bcell 0 rfl 4 rfl; have e1 := hS2.bfree 0 rfl 4)
  simp only [List.length_replicate] at hS2 e0 ⊢
  have hS3 := hS2.bstore 0 rfl 4 (.slice ai q ci)
  rw [← invP_0 p D xs q] at hS3
  clear hS1 hS2 e0 e1
  go_wp2_with fail
  go_loopw [4, 5, 6, 7, 8] (fun a _ _ _ _ wr => ∃ (k : Nat) (aa ab ac : Option Addr) (ca cb cc : Nat) (ua ub uc : List Value), k ≤ q ∧ a = .int .i64 k ∧ Hid (ua.length = k ∧ ub.length = k ∧ uc.length = k) ∧
    St w.heap.size w wr (box 109 w1.heap.size [.int .i64 q, .slice aa k ca, .slice ab k cb, .slice ac k cc, .slice ai q ci] :: box 109 (w.heap.size + 1) [.int .i64 0, .slice none 0 0, .slice none 0 0, .slice none 0 0, .slice none 0 0] :: box 25 w.heap.size [.int .i64 p, .int .i64 D, v] :: row 2 (.slice ai q ci) (iv (invP p D xs q k 0)) :: row 23 (.slice aa k ca) ua :: row 23 (.slice ab k cb) ub :: row 23 (.slice ac k cc) uc :: (rowsI ua ((tb q (fAdd p D)).take k) ++ rowsI ub ((tb q (fSub p D)).take k) ++ rowsI uc ((tb q (fMul p D xs)).take k)))) (fun a _ _ _ _ _ => q - (intOf a).toNat)
  case atStart =>
    refine ⟨0, none, none, none, 0, 0, 0, [], [], [], by omega, rfl, ⟨rfl, rfl, rfl⟩, ?_⟩
    exact ((hS3.nilrw 23).nilrw 23).nilrw 23
  case round =>
    obtain ⟨k, aa, ab, ac, ca, cb, cc, ua, ub, uc, hk, rfl, hl, hS⟩ := hrel
    by_cases hlt : k < q
    · have b0 := hS.bcell 0 rfl 0 rfl
      have hmk := run_mk q (by omega)
      have n0 := (hS.blt 0 rfl).2
      go_wp2_with fail
      go_cut [5, 6, 7] from 16 to 85 (fun x y z wx => St w.heap.size w wx (row 2 x (iv (List.replicate q 0)) :: row 2 y (iv (List.replicate q 0)) :: row 2 z (iv (List.replicate q 0)) :: box 109 w1.heap.size [.int .i64 q, .slice aa k ca, .slice ab k cb, .slice ac k cc, .slice ai q ci] :: box 109 (w.heap.size + 1) [.int .i64 0, .slice none 0 0, .slice none 0 0, .slice none 0 0, .slice none 0 0] :: box 25 w.heap.size [.int .i64 p, .int .i64 D, v] :: row 2 (.slice ai q ci) (iv (invP p D xs q k 0)) :: row 23 (.slice aa k ca) ua :: row 23 (.slice ab k cb) ub :: row 23 (.slice ac k cc) uc :: (rowsI ua ((tb q (fAdd p D)).take k) ++ rowsI ub ((tb q (fSub p D)).take k) ++ rowsI uc ((tb q (fMul p D xs)).take k))))
      case first =>
        go_region_held3 (fun w' => w'.cell? ⟨w1.heap.size, 0, none⟩ = some (.int .i64 q)) (((try dsimp only); (repeat' apply And.intro); all_goals (repeat (first | assumption | exact cell_dr (by assumption) | refine cell_dr ?_ | refine cell_al ?_ | refine cell_sc (by assumption) ?_)))) (fail)
        all_goals
          go_wp2_with fail
          go_meet
          case rel =>
            have h := ((((hS.made q (by omega)).made q (by omega)).made q (by omega)).drew)
            simp only [World.size_alloc] at h
            exact h.perm (by (try simp only [List.cons_append, List.nil_append, List.append_nil]); classical exact List.perm_iff_count.2 (fun a => by simp only [List.cons_append, List.nil_append, List.append_nil, List.count_append, List.count_cons, List.count_nil] <;> omega))
      case rest =>
        clear hmk n0 hS b0
        have HA := fun (j : Nat) (hj : j < q) W (h : RdI W v xs) => Lib.hid (combine_c p D v xs k j 1 W h HF.out (by omega) (by omega) (by omega) (by omega) (.inl rfl))
        have HB := fun (j : Nat) (hj : j < q) W (h : RdI W v xs) => Lib.hid (combine_c p D v xs k j (-1) W h HF.out (by omega) (by omega) (by omega) (by omega) (.inr rfl))
        have HC := fun (j : Nat) (hj : j < q) W (h : RdI W v xs) => Lib.hid (product_c p D v xs k j W h HF.out (by omega) (by omega) (by omega) (by omega))
        unfold fv at HA HB HC
        go_wp2_with fail
        go_loopw [8] (fun b wr => ∃ j : Nat, j ≤ q ∧ b = .int .i64 j ∧ St w.heap.size w wr (row 2 u5 (iv (pt q j (fAdd p D k))) :: row 2 u6 (iv (pt q j (fSub p D k))) :: row 2 u7 (iv (pt q j (fMul p D xs k))) :: box 109 w1.heap.size [.int .i64 q, .slice aa k ca, .slice ab k cb, .slice ac k cc, .slice ai q ci] :: box 109 (w.heap.size + 1) [.int .i64 0, .slice none 0 0, .slice none 0 0, .slice none 0 0, .slice none 0 0] :: box 25 w.heap.size [.int .i64 p, .int .i64 D, v] :: row 2 (.slice ai q ci) (iv (invP p D xs q k j)) :: row 23 (.slice aa k ca) ua :: row 23 (.slice ab k cb) ub :: row 23 (.slice ac k cc) uc :: (rowsI ua ((tb q (fAdd p D)).take k) ++ rowsI ub ((tb q (fSub p D)).take k) ++ rowsI uc ((tb q (fMul p D xs)).take k)))) (fun b _ => q - (intOf b).toNat)
        case atStart => exact ⟨0, by omega, rfl, by rw [pt_0, pt_0, pt_0]; exact hcut⟩
        case round =>
          obtain ⟨j, hj, rfl, hS⟩ := hrel
          have b0 := hS.bcell 3 rfl 0 rfl
          by_cases hlj : j < q
          · have b4 := hS.bcell 3 rfl 4 rfl
            have f0 := hS.bcell 5 rfl 0 rfl
            have f1 := hS.bcell 5 rfl 1 rfl
            have f2 := hS.bcell 5 rfl 2 rfl
            have j0 : j < (pt q j (fAdd p D k)).length := by rw [pt_len]; exact hlj
            have j1 : j < (pt q j (fSub p D k)).length := by rw [pt_len]; exact hlj
            have j2 : j < (pt q j (fMul p D xs k)).length := by rw [pt_len]; exact hlj
            have x0 := (hS.rdI 0 rfl).ixe (j : Int) j rfl j0
            have x1 := (hS.rdI 1 rfl).ixe (j : Int) j rfl j1
            have x2 := (hS.rdI 2 rfl).ixe (j : Int) j rfl j2
            go_wp2_with fail
            go_region_held3 (fun w' => w'.cell? ⟨w.heap.size, 0, none⟩ = some (.int .i64 p) ∧ w'.cell? ⟨w.heap.size, 1, none⟩ = some (.int .i64 D) ∧ w'.cell? ⟨w.heap.size, 2, none⟩ = some v) (((try dsimp only); (repeat' apply And.intro); all_goals (repeat (first | assumption | exact cell_dr (by assumption) | refine cell_dr ?_ | refine cell_al ?_ | refine cell_sc (by assumption) ?_))))
              (first
              | (go_at_call 116; refine (HB j hlj _ (hS2.oldI hv)).out.mono ?_; rintro e w3 ⟨rfl, h3⟩; have hS3 := hS2.call0 h3; have f0 := hS3.bcell 5 rfl 0 rfl; have f1 := hS3.bcell 5 rfl 1 rfl; have f2 := hS3.bcell 5 rfl 2 rfl)
              | (go_at_call 116; refine (HA j hlj _ (hS.drew.oldI hv)).out.mono ?_; rintro e w2 ⟨rfl, h2⟩; have hS2 := hS.drew.call0 h2; have f0 := hS2.bcell 5 rfl 0 rfl; have f1 := hS2.bcell 5 rfl 1 rfl; have f2 := hS2.bcell 5 rfl 2 rfl)
              | (go_at_call 117; refine (HC j hlj _ (hS3.oldI hv)).out.mono ?_; rintro e w4 ⟨rfl, h4⟩; have hS4 := hS3.call0 h4; have f0 := hS4.bcell 5 rfl 0 rfl; have f1 := hS4.bcell 5 rfl 1 rfl; have f2 := hS4.bcell 5 rfl 2 rfl; have v0 := hS4.unfrozen 0 rfl (j := j) (by rw [iv_len]; exact j0); have q0 := (hS4.rdI 0 rfl).cell j j0; have hS5 := hS4.store 0 rfl (j := j) (by rw [iv_len]; exact j0) (.int .i64 (fsum p D k j 1)); have f05 := hS5.bcell 5 rfl 0 rfl; have f15 := hS5.bcell 5 rfl 1 rfl; have f25 := hS5.bcell 5 rfl 2 rfl; have v1 := hS5.unfrozen 1 rfl (j := j) (by rw [iv_len]; exact j1); have q1 := (hS5.rdI 1 rfl).cell j j1; have hS6 := hS5.store 1 rfl (j := j) (by rw [iv_len]; exact j1) (.int .i64 (fsum p D k j (-1))); have f06 := hS6.bcell 5 rfl 0 rfl; have f16 := hS6.bcell 5 rfl 1 rfl; have f26 := hS6.bcell 5 rfl 2 rfl; have v2 := hS6.unfrozen 2 rfl (j := j) (by rw [iv_len]; exact j2); have q2 := (hS6.rdI 2 rfl).cell j j2; have hS7 := hS6.store 2 rfl (j := j) (by rw [iv_len]; exact j2) (.int .i64 (fmul p D xs k j)); have f07 := hS7.bcell 5 rfl 0 rfl; have f17 := hS7.bcell 5 rfl 1 rfl; have f27 := hS7.bcell 5 rfl 2 rfl))
            clear f0 f1 f2 v0 v1 v2 q0 q1 q2 f05 f15 f25 f06 f16 f26 f07 f17 f27 hS4 hS5 hS6 h2 h3 h4 hS2 hS3 HA HB HC
            generalize (((w4.setCell (el u5 j) (.int .i64 (fsum p D k j 1))).setCell (el u6 j) (.int .i64 (fsum p D k j (-1)))).setCell (el u7 j) (.int .i64 (fmul p D xs k j))) = w7 at hS7 ⊢
            rw [iv_set, iv_set, iv_set, show (pt q j (fAdd p D k)).set j (fsum p D k j 1) = pt q (j + 1) (fAdd p D k) from pt_set hlj, show (pt q j (fSub p D k)).set j (fsum p D k j (-1)) = pt q (j + 1) (fSub p D k) from pt_set hlj, show (pt q j (fMul p D xs k)).set j (fmul p D xs k j) = pt q (j + 1) (fMul p D xs k) from pt_set hlj] at hS7
            simp only [List.set_cons_zero, List.set_cons_succ] at hS7
            have k2 : j < (pt q (j + 1) (fMul p D xs k)).length := by rw [pt_len]; exact hlj
            have hcz := (hS7.rdI 2 rfl).cell j k2
            have hiz := (hS7.rdI 2 rfl).ixe (j : Int) j rfl k2
            rw [show nth (pt q (j + 1) (fMul p D xs k)) j = fmul p D xs k j by rw [nth_eq k2, ← cf_eq k2]; unfold pt; rw [cf_tab hlj, if_pos (by omega)]; rfl] at hcz
            have b4 := hS7.bcell 3 rfl 4 rfl
            by_cases hm : fmul p D xs k j = 1
            · rw [hm] at hcz
              have hik : k < (invP p D xs q k j).length := by rw [invP_len]; exact hlt
              have hxi := (hS7.rdI 6 rfl).ixe (k : Int) k rfl hik
              go_wp2_with (refine stoI hS7 6 rfl k hik rfl (.tmp 67) (.tmp 66) rfl rfl _ rfl ?_; intro w8 hS8)
              go_roundw
              case rel => exact ⟨j + 1, by omega, by go_num, by rw [← invP_set hlt hm]; exact hS8⟩
              case measure => simp [intOf]; omega
            · have f1 := eq_f hm
              have f2 := ne_t hm
              have hsm := Lib.hid (invP_same (p := p) (D := D) (fs := xs) (q := q) (a := k) (k := j) hm)
              clear hm
              go_wp2_with fail
              go_roundw
              case rel => exact ⟨j + 1, by omega, by go_num, by rw [hsm.out]; exact hS7⟩
              case measure => simp [intOf]; omega
          · obtain rfl : j = q := by omega
            obtain ⟨xa, xc, rfl⟩ := (hS.rdI 0 rfl).shp'
            obtain ⟨ya, yc, rfl⟩ := (hS.rdI 1 rfl).shp'
            obtain ⟨za, zc, rfl⟩ := (hS.rdI 2 rfl).shp'
            rw [pt_len, pt_len, pt_len] at hS
            rw [pt_end, pt_end, pt_end, invP_row] at hS
            have b1 := hS.bcell 3 rfl 1 rfl
            have b2 := hS.bcell 3 rfl 2 rfl
            have b3 := hS.bcell 3 rfl 3 rfl
            rw [pt_len, pt_len, pt_len]
            have hla := Lib.hid (show ua.length = ((tb j (fAdd p D)).take k).length by rw [hl.out.1, List.length_take, tb_len]; omega)
            have hlb := Lib.hid (show ub.length = ((tb j (fSub p D)).take k).length by rw [hl.out.2.1, List.length_take, tb_len]; omega)
            have hlc := Lib.hid (show uc.length = ((tb j (fMul p D xs)).take k).length by rw [hl.out.2.2, List.length_take, tb_len]; omega)
            go_wp2_with fail
            clear b0
            refine regionG (fun w' => w'.cell? ⟨w1.heap.size, 1, none⟩ = some (.slice aa k ca) ∧ w'.cell? ⟨w1.heap.size, 2, none⟩ = some (.slice ab k cb) ∧ w'.cell? ⟨w1.heap.size, 3, none⟩ = some (.slice ac k cc)) 16 (by kernel_rfl) ⟨cell_dr b1, cell_dr b2, cell_dr b3⟩ (fun hHeld => ?_)
            refine takeP (i := 0) (v := ?_) rfl (by kernel_rfl) (fun _ _ _ h => h) (by rfl) ?_ (by assumption) ?_
            case refine_2 => (intro w'; go_simp; first | done | with_reducible rfl)
            try simp only [Act.put, List.setIfInBounds_toArray, List.set_cons_zero, List.set_cons_succ]
            refine takeG (i := 1) 1 (v := ?_) rfl (by kernel_rfl) (fun _ _ _ h => h) (by rfl) ?_ (by assumption) ?_
            case refine_2 => (intro w' hSw; (try dsimp only at hSw); go_simp; first | done | with_reducible rfl)
            try simp only [Act.put, List.setIfInBounds_toArray, List.set_cons_zero, List.set_cons_succ]
            refine takeP (i := 2) (v := ?_) rfl (by kernel_rfl) (fun _ _ _ h => h) (by rfl) ?_ (by assumption) ?_
            case refine_2 => (intro w'; go_simp; first | done | with_reducible rfl)
            try simp only [Act.put, List.setIfInBounds_toArray, List.set_cons_zero, List.set_cons_succ]
            refine takeP (i := 5) (v := ?_) rfl (by kernel_rfl) (fun _ _ _ h => h) (by rfl) ?_ (by assumption) ?_
            case refine_2 => (intro w'; go_simp; first | done | with_reducible rfl)
            try simp only [Act.put, List.setIfInBounds_toArray, List.set_cons_zero, List.set_cons_succ]
            refine takeG (i := 6) 6 (v := ?_) rfl (by kernel_rfl) (fun _ _ _ h => h) (by rfl) ?_ (by assumption) ?_
            case refine_2 => (intro w' hSw; (try dsimp only at hSw); go_simp; first | done | with_reducible rfl)
            try simp only [Act.put, List.setIfInBounds_toArray, List.set_cons_zero, List.set_cons_succ]
            refine takeP (i := 7) (v := ?_) rfl (by kernel_rfl) (fun _ _ _ h => h) (by rfl) ?_ (by assumption) ?_
            case refine_2 => (intro w'; go_simp; first | done | with_reducible rfl)
            try simp only [Act.put, List.setIfInBounds_toArray, List.set_cons_zero, List.set_cons_succ]
            refine takeP (i := 10) (v := ?_) rfl (by kernel_rfl) (fun _ _ _ h => h) (by rfl) ?_ (by assumption) ?_
            case refine_2 => (intro w'; go_simp; first | done | with_reducible rfl)
            try simp only [Act.put, List.setIfInBounds_toArray, List.set_cons_zero, List.set_cons_succ]
            refine takeG (i := 11) 14 (v := ?_) rfl (by kernel_rfl) (fun _ _ _ h => h) (by rfl) ?_ (by assumption) ?_
            case refine_2 => (intro w' hSw; (try dsimp only at hSw); go_simp; first | done | with_reducible rfl)
            try simp only [Act.put, List.setIfInBounds_toArray, List.set_cons_zero, List.set_cons_succ]
            refine takeP (i := 12) (v := ?_) rfl (by kernel_rfl) (fun _ _ _ h => h) (by rfl) ?_ (by assumption) ?_
            case refine_2 => (intro w'; go_simp; first | done | with_reducible rfl)
            try simp only [Act.put, List.setIfInBounds_toArray, List.set_cons_zero, List.set_cons_succ]
            refine readyG (rs := [3, 8, 13]) (by kernel_rfl) (by simp) ?_
            refine AllG.cons rfl (fun K hK => ?_) (AllG.cons rfl (fun K hK => ?_) (AllG.cons rfl (fun K hK => ?_) (AllG.nil)))
            · go_simp
              have m1 := hS.newboxF 23 #[.slice xa j xc]
              simp only [World.size_alloc] at m1
              refine hK.out _ _ ?_ (fun hHeld => ?_)
              · exact ⟨cell_dr (m1.bcell 4 rfl 1 rfl), cell_dr (m1.bcell 4 rfl 2 rfl), cell_dr (m1.bcell 4 rfl 3 rfl)⟩
              clear hK K
              try simp only [Act.put, List.setIfInBounds_toArray, List.set_cons_zero, List.set_cons_succ]
              refine readyG (rs := [4, 8, 13]) (by kernel_rfl) (by simp) ?_
              refine AllG.cons rfl (fun K hK => ?_) (AllG.cons rfl (fun K hK => ?_) (AllG.cons rfl (fun K hK => ?_) (AllG.nil)))
              · refine stepAppBox m1.drew 8 rfl (by rw [hl.out.1]; omega) 0 rfl rfl rfl (.tmp 69) (.tmp 71) rfl (by first | rfl | simp [Act.eval, Act.put]) (by first | rfl | simp [Act.eval, Act.put]) ?_
                intro v2 x2 m2
                obtain ⟨xs2, xt2, e2⟩ := (m2.rd 8 rfl).sl.sh
                rw [List.length_append, hl.out.1, List.length_singleton] at e2
                subst e2
                refine hK.out _ _ ?_ (fun hHeld => ?_)
                · exact ⟨m2.bcell 4 rfl 1 rfl, m2.bcell 4 rfl 2 rfl, m2.bcell 4 rfl 3 rfl⟩
                clear hK K
                try simp only [Act.put, List.setIfInBounds_toArray, List.set_cons_zero, List.set_cons_succ]
                refine takeP (i := 15) (v := ?_) rfl (by kernel_rfl) (fun _ _ _ h => h) (by rfl) ?_ (by assumption) ?_
                case refine_2 => (intro w'; go_simp; first | done | with_reducible rfl)
                try simp only [Act.put, List.setIfInBounds_toArray, List.set_cons_zero, List.set_cons_succ]
                refine readyG (rs := [8, 13]) (by kernel_rfl) (by simp) ?_
                refine AllG.cons rfl (fun K hK => ?_) (AllG.cons rfl (fun K hK => ?_) (AllG.nil))
                · go_simp
                  have m3 := m2.newboxF 23 #[.slice ya j yc]
                  simp only [World.size_alloc] at m3
                  refine hK.out _ _ ?_ (fun hHeld => ?_)
                  · exact ⟨id (m3.bcell 5 rfl 1 rfl), id (m3.bcell 5 rfl 2 rfl), id (m3.bcell 5 rfl 3 rfl)⟩
                  clear hK K
                  try simp only [Act.put, List.setIfInBounds_toArray, List.set_cons_zero, List.set_cons_succ]
                  refine readyG (rs := [9, 13]) (by kernel_rfl) (by simp) ?_
                  refine AllG.cons rfl (fun K hK => ?_) (AllG.cons rfl (fun K hK => ?_) (AllG.nil))
                  · refine stepAppBox m3 10 rfl (by rw [hl.out.2.1]; omega) 0 rfl rfl rfl (.tmp 74) (.tmp 76) rfl (by first | rfl | simp [Act.eval, Act.put]) (by first | rfl | simp [Act.eval, Act.put]) ?_
                    intro v4 x4 m4
                    obtain ⟨ys4, yt4, e4⟩ := (m4.rd 10 rfl).sl.sh
                    rw [List.length_append, hl.out.2.1, List.length_singleton] at e4
                    subst e4
                    refine hK.out _ _ ?_ (fun hHeld => ?_)
                    · exact ⟨m4.bcell 5 rfl 1 rfl, m4.bcell 5 rfl 2 rfl, m4.bcell 5 rfl 3 rfl⟩
                    clear hK K
                    try simp only [Act.put, List.setIfInBounds_toArray, List.set_cons_zero, List.set_cons_succ]
                    refine readyG (rs := [13]) (by kernel_rfl) (by simp) ?_
                    refine AllG.cons rfl (fun K hK => ?_) (AllG.nil)
                    · go_simp
                      have m5 := m4.newboxF 23 #[.slice za j zc]
                      simp only [World.size_alloc] at m5
                      refine hK.out _ _ ?_ (fun hHeld => ?_)
                      · exact ⟨id (m5.bcell 6 rfl 1 rfl), id (m5.bcell 6 rfl 2 rfl), id (m5.bcell 6 rfl 3 rfl)⟩
                      clear hK K
                      try simp only [Act.put, List.setIfInBounds_toArray, List.set_cons_zero, List.set_cons_succ]
                      refine readyG (rs := [14]) (by kernel_rfl) (by simp) ?_
                      refine AllG.cons rfl (fun K hK => ?_) (AllG.nil)
                      · refine stepAppBox m5 12 rfl (by rw [hl.out.2.2]; omega) 0 rfl rfl rfl (.tmp 79) (.tmp 81) rfl (by first | rfl | simp [Act.eval, Act.put]) (by first | rfl | simp [Act.eval, Act.put]) ?_
                        intro v6 x6 m6
                        obtain ⟨zs6, zt6, e6⟩ := (m6.rd 12 rfl).sl.sh
                        rw [List.length_append, hl.out.2.2, List.length_singleton] at e6
                        subst e6
                        refine hK.out _ _ ?_ (fun hHeld => ?_)
                        · exact ⟨m6.bcell 6 rfl 1 rfl, m6.bcell 6 rfl 2 rfl, m6.bcell 6 rfl 3 rfl⟩
                        clear hK K
                        try simp only [Act.put, List.setIfInBounds_toArray, List.set_cons_zero, List.set_cons_succ]
                        have c1 := m6.bcell 6 rfl 1 rfl
                        have c2 := m6.bcell 6 rfl 2 rfl
                        have c3 := m6.bcell 6 rfl 3 rfl
                        have f0 := m6.bfree 6 rfl
                        refine readyG (rs := [16]) (by kernel_rfl) (by simp) ?_
                        refine AllG.last rfl (by kernel_rfl) (fun K hK => ?_) AllG.nil
                        go_simp
                        refine hK.out _ _ ?_
                        clear hK K
                        try simp only [Act.put, List.setIfInBounds_toArray, List.set_cons_zero, List.set_cons_succ]
                        refine anyG_lastP (i := 17) (v := ?_) rfl (by kernel_rfl) (fun _ _ _ h => h) (by rfl) ?_ ?_
                        case refine_2 => (intro w'; go_simp; first | done | with_reducible rfl)
                        try simp only [Act.put, List.setIfInBounds_toArray, List.set_cons_zero, List.set_cons_succ]
                        refine readyG (rs := [18]) (by kernel_rfl) (by simp) ?_
                        refine AllG.last rfl (by kernel_rfl) (fun K hK => ?_) AllG.nil
                        go_simp
                        refine hK.out _ _ ?_
                        clear hK K
                        try simp only [Act.put, List.setIfInBounds_toArray, List.set_cons_zero, List.set_cons_succ]
                        refine anyG_lastP (i := 19) (v := ?_) rfl (by kernel_rfl) (fun _ _ _ h => h) (by rfl) ?_ ?_
                        case refine_2 => (intro w'; go_simp; first | done | with_reducible rfl)
                        try simp only [Act.put, List.setIfInBounds_toArray, List.set_cons_zero, List.set_cons_succ]
                        refine readyG (rs := [20]) (by kernel_rfl) (by simp) ?_
                        refine AllG.last rfl (by kernel_rfl) (fun K hK => ?_) AllG.nil
                        go_simp
                        refine hK.out _ _ ?_
                        clear hK K
                        try simp only [Act.put, List.setIfInBounds_toArray, List.set_cons_zero, List.set_cons_succ]
                        refine doneG (by kernel_rfl) ?_ _
                        refine NoPanic.normal ?_
                        go_wp2_with fail
                        go_roundw
                        case rel =>
                          refine ⟨k + 1, xs2, ys4, zs6, xt2, yt4, zt6, ua ++ [.slice xa j xc], ub ++ [.slice ya j yc], uc ++ [.slice za j zc], by omega, by go_num, ⟨by rw [List.length_append, hl.out.1]; rfl, by rw [List.length_append, hl.out.2.1]; rfl, by rw [List.length_append, hl.out.2.2]; rfl⟩, ?_⟩
                          rw [tb_take hlt, tb_take hlt, tb_take hlt]
                          rw [rowsI_app hla.out, rowsI_app hlb.out, rowsI_app hlc.out]
                          have hz := (((m6.bstore 6 rfl 1 (.slice xs2 (k + 1) xt2)).bstore 6 rfl 2 (.slice ys4 (k + 1) yt4)).bstore 6 rfl 3 (.slice zs6 (k + 1) zt6))
                          simp only [List.set_cons_zero, List.set_cons_succ] at hz
                          have hy := hz.sub ((((List.Sublist.refl _).cons _).cons _).cons _)
                          exact hy.perm (by (try simp only [List.cons_append, List.nil_append, List.append_nil]); classical exact List.perm_iff_count.2 (fun a => by simp only [List.cons_append, List.nil_append, List.append_nil, List.count_append, List.count_cons, List.count_nil] <;> omega))
                        case measure => simp [intOf]; omega
                  · go_simp
                    have m7 := m3.newboxF 23 #[.slice za j zc]
                    simp only [World.size_alloc] at m7
                    refine hK.out _ _ ?_ (fun hHeld => ?_)
                    · exact ⟨id (m7.bcell 6 rfl 1 rfl), id (m7.bcell 6 rfl 2 rfl), id (m7.bcell 6 rfl 3 rfl)⟩
                    clear hK K
                    try simp only [Act.put, List.setIfInBounds_toArray, List.set_cons_zero, List.set_cons_succ]
                    refine readyG (rs := [9]) (by kernel_rfl) (by simp) ?_
                    refine AllG.cons rfl (fun K hK => ?_) (AllG.nil)
                    · refine stepAppBox m7 11 rfl (by rw [hl.out.2.1]; omega) 1 rfl rfl rfl (.tmp 74) (.tmp 76) rfl (by first | rfl | simp [Act.eval, Act.put]) (by first | rfl | simp [Act.eval, Act.put]) ?_
                      intro v8 x8 m8
                      obtain ⟨ys8, yt8, e8⟩ := (m8.rd 11 rfl).sl.sh
                      rw [List.length_append, hl.out.2.1, List.length_singleton] at e8
                      subst e8
                      refine hK.out _ _ ?_ (fun hHeld => ?_)
                      · exact ⟨m8.bcell 6 rfl 1 rfl, m8.bcell 6 rfl 2 rfl, m8.bcell 6 rfl 3 rfl⟩
                      clear hK K
                      try simp only [Act.put, List.setIfInBounds_toArray, List.set_cons_zero, List.set_cons_succ]
                      refine readyG (rs := [14]) (by kernel_rfl) (by simp) ?_
                      refine AllG.cons rfl (fun K hK => ?_) (AllG.nil)
                      · refine stepAppBox m8 12 rfl (by rw [hl.out.2.2]; omega) 0 rfl rfl rfl (.tmp 79) (.tmp 81) rfl (by first | rfl | simp [Act.eval, Act.put]) (by first | rfl | simp [Act.eval, Act.put]) ?_
                        intro v9 x9 m9
                        obtain ⟨zs9, zt9, e9⟩ := (m9.rd 12 rfl).sl.sh
                        rw [List.length_append, hl.out.2.2, List.length_singleton] at e9
                        subst e9
                        refine hK.out _ _ ?_ (fun hHeld => ?_)
                        · exact ⟨m9.bcell 6 rfl 1 rfl, m9.bcell 6 rfl 2 rfl, m9.bcell 6 rfl 3 rfl⟩
                        clear hK K
                        try simp only [Act.put, List.setIfInBounds_toArray, List.set_cons_zero, List.set_cons_succ]
                        have c1 := m9.bcell 6 rfl 1 rfl
                        have c2 := m9.bcell 6 rfl 2 rfl
                        have c3 := m9.bcell 6 rfl 3 rfl
                        have f0 := m9.bfree 6 rfl
                        refine readyG (rs := [16]) (by kernel_rfl) (by simp) ?_
                        refine AllG.last rfl (by kernel_rfl) (fun K hK => ?_) AllG.nil
                        go_simp
                        refine hK.out _ _ ?_
                        clear hK K
                        try simp only [Act.put, List.setIfInBounds_toArray, List.set_cons_zero, List.set_cons_succ]
                        refine anyG_lastP (i := 17) (v := ?_) rfl (by kernel_rfl) (fun _ _ _ h => h) (by rfl) ?_ ?_
                        case refine_2 => (intro w'; go_simp; first | done | with_reducible rfl)
                        try simp only [Act.put, List.setIfInBounds_toArray, List.set_cons_zero, List.set_cons_succ]
                        refine readyG (rs := [18]) (by kernel_rfl) (by simp) ?_
                        refine AllG.last rfl (by kernel_rfl) (fun K hK => ?_) AllG.nil
                        go_simp
                        refine hK.out _ _ ?_
                        clear hK K
                        try simp only [Act.put, List.setIfInBounds_toArray, List.set_cons_zero, List.set_cons_succ]
                        refine anyG_lastP (i := 19) (v := ?_) rfl (by kernel_rfl) (fun _ _ _ h => h) (by rfl) ?_ ?_
                        case refine_2 => (intro w'; go_simp; first | done | with_reducible rfl)
                        try simp only [Act.put, List.setIfInBounds_toArray, List.set_cons_zero, List.set_cons_succ]
                        refine readyG (rs := [20]) (by kernel_rfl) (by simp) ?_
                        refine AllG.last rfl (by kernel_rfl) (fun K hK => ?_) AllG.nil
                        go_simp
                        refine hK.out _ _ ?_
                        clear hK K
                        try simp only [Act.put, List.setIfInBounds_toArray, List.set_cons_zero, List.set_cons_succ]
                        refine doneG (by kernel_rfl) ?_ _
                        refine NoPanic.normal ?_
                        go_wp2_with fail
                        go_roundw
                        case rel =>
                          refine ⟨k + 1, xs2, ys8, zs9, xt2, yt8, zt9, ua ++ [.slice xa j xc], ub ++ [.slice ya j yc], uc ++ [.slice za j zc], by omega, by go_num, ⟨by rw [List.length_append, hl.out.1]; rfl, by rw [List.length_append, hl.out.2.1]; rfl, by rw [List.length_append, hl.out.2.2]; rfl⟩, ?_⟩
                          rw [tb_take hlt, tb_take hlt, tb_take hlt]
                          rw [rowsI_app hla.out, rowsI_app hlb.out, rowsI_app hlc.out]
                          have hz := (((m9.bstore 6 rfl 1 (.slice xs2 (k + 1) xt2)).bstore 6 rfl 2 (.slice ys8 (k + 1) yt8)).bstore 6 rfl 3 (.slice zs9 (k + 1) zt9))
                          simp only [List.set_cons_zero, List.set_cons_succ] at hz
                          have hy := hz.sub ((((List.Sublist.refl _).cons _).cons _).cons _)
                          exact hy.perm (by (try simp only [List.cons_append, List.nil_append, List.append_nil]); classical exact List.perm_iff_count.2 (fun a => by simp only [List.cons_append, List.nil_append, List.append_nil, List.count_append, List.count_cons, List.count_nil] <;> omega))
                        case measure => simp [intOf]; omega
                · go_simp
                  have m10 := m2.newboxF 23 #[.slice za j zc]
                  simp only [World.size_alloc] at m10
                  refine hK.out _ _ ?_ (fun hHeld => ?_)
                  · exact ⟨id (m10.bcell 5 rfl 1 rfl), id (m10.bcell 5 rfl 2 rfl), id (m10.bcell 5 rfl 3 rfl)⟩
                  clear hK K
                  try simp only [Act.put, List.setIfInBounds_toArray, List.set_cons_zero, List.set_cons_succ]
                  refine readyG (rs := [8]) (by kernel_rfl) (by simp) ?_
                  refine AllG.cons rfl (fun K hK => ?_) (AllG.nil)
                  · go_simp
                    have m11 := m10.newboxF 23 #[.slice ya j yc]
                    simp only [World.size_alloc] at m11
                    refine hK.out _ _ ?_ (fun hHeld => ?_)
                    · exact ⟨id (m11.bcell 6 rfl 1 rfl), id (m11.bcell 6 rfl 2 rfl), id (m11.bcell 6 rfl 3 rfl)⟩
                    clear hK K
                    try simp only [Act.put, List.setIfInBounds_toArray, List.set_cons_zero, List.set_cons_succ]
                    refine readyG (rs := [9]) (by kernel_rfl) (by simp) ?_
                    refine AllG.cons rfl (fun K hK => ?_) (AllG.nil)
                    · refine stepAppBox m11 11 rfl (by rw [hl.out.2.1]; omega) 0 rfl rfl rfl (.tmp 74) (.tmp 76) rfl (by first | rfl | simp [Act.eval, Act.put]) (by first | rfl | simp [Act.eval, Act.put]) ?_
                      intro v12 x12 m12
                      obtain ⟨ys12, yt12, e12⟩ := (m12.rd 11 rfl).sl.sh
                      rw [List.length_append, hl.out.2.1, List.length_singleton] at e12
                      subst e12
                      refine hK.out _ _ ?_ (fun hHeld => ?_)
                      · exact ⟨m12.bcell 6 rfl 1 rfl, m12.bcell 6 rfl 2 rfl, m12.bcell 6 rfl 3 rfl⟩
                      clear hK K
                      try simp only [Act.put, List.setIfInBounds_toArray, List.set_cons_zero, List.set_cons_succ]
                      refine readyG (rs := [14]) (by kernel_rfl) (by simp) ?_
                      refine AllG.cons rfl (fun K hK => ?_) (AllG.nil)
                      · refine stepAppBox m12 12 rfl (by rw [hl.out.2.2]; omega) 1 rfl rfl rfl (.tmp 79) (.tmp 81) rfl (by first | rfl | simp [Act.eval, Act.put]) (by first | rfl | simp [Act.eval, Act.put]) ?_
                        intro v13 x13 m13
                        obtain ⟨zs13, zt13, e13⟩ := (m13.rd 12 rfl).sl.sh
                        rw [List.length_append, hl.out.2.2, List.length_singleton] at e13
                        subst e13
                        refine hK.out _ _ ?_ (fun hHeld => ?_)
                        · exact ⟨m13.bcell 6 rfl 1 rfl, m13.bcell 6 rfl 2 rfl, m13.bcell 6 rfl 3 rfl⟩
                        clear hK K
                        try simp only [Act.put, List.setIfInBounds_toArray, List.set_cons_zero, List.set_cons_succ]
                        have c1 := m13.bcell 6 rfl 1 rfl
                        have c2 := m13.bcell 6 rfl 2 rfl
                        have c3 := m13.bcell 6 rfl 3 rfl
                        have f0 := m13.bfree 6 rfl
                        refine readyG (rs := [16]) (by kernel_rfl) (by simp) ?_
                        refine AllG.last rfl (by kernel_rfl) (fun K hK => ?_) AllG.nil
                        go_simp
                        refine hK.out _ _ ?_
                        clear hK K
                        try simp only [Act.put, List.setIfInBounds_toArray, List.set_cons_zero, List.set_cons_succ]
                        refine anyG_lastP (i := 17) (v := ?_) rfl (by kernel_rfl) (fun _ _ _ h => h) (by rfl) ?_ ?_
                        case refine_2 => (intro w'; go_simp; first | done | with_reducible rfl)
                        try simp only [Act.put, List.setIfInBounds_toArray, List.set_cons_zero, List.set_cons_succ]
                        refine readyG (rs := [18]) (by kernel_rfl) (by simp) ?_
                        refine AllG.last rfl (by kernel_rfl) (fun K hK => ?_) AllG.nil
                        go_simp
                        refine hK.out _ _ ?_
                        clear hK K
                        try simp only [Act.put, List.setIfInBounds_toArray, List.set_cons_zero, List.set_cons_succ]
                        refine anyG_lastP (i := 19) (v := ?_) rfl (by kernel_rfl) (fun _ _ _ h => h) (by rfl) ?_ ?_
                        case refine_2 => (intro w'; go_simp; first | done | with_reducible rfl)
                        try simp only [Act.put, List.setIfInBounds_toArray, List.set_cons_zero, List.set_cons_succ]
                        refine readyG (rs := [20]) (by kernel_rfl) (by simp) ?_
                        refine AllG.last rfl (by kernel_rfl) (fun K hK => ?_) AllG.nil
                        go_simp
                        refine hK.out _ _ ?_
                        clear hK K
                        try simp only [Act.put, List.setIfInBounds_toArray, List.set_cons_zero, List.set_cons_succ]
                        refine doneG (by kernel_rfl) ?_ _
                        refine NoPanic.normal ?_
                        go_wp2_with fail
                        go_roundw
                        case rel =>
                          refine ⟨k + 1, xs2, ys12, zs13, xt2, yt12, zt13, ua ++ [.slice xa j xc], ub ++ [.slice ya j yc], uc ++ [.slice za j zc], by omega, by go_num, ⟨by rw [List.length_append, hl.out.1]; rfl, by rw [List.length_append, hl.out.2.1]; rfl, by rw [List.length_append, hl.out.2.2]; rfl⟩, ?_⟩
                          rw [tb_take hlt, tb_take hlt, tb_take hlt]
                          rw [rowsI_app hla.out, rowsI_app hlb.out, rowsI_app hlc.out]
                          have hz := (((m13.bstore 6 rfl 1 (.slice xs2 (k + 1) xt2)).bstore 6 rfl 2 (.slice ys12 (k + 1) yt12)).bstore 6 rfl 3 (.slice zs13 (k + 1) zt13))
                          simp only [List.set_cons_zero, List.set_cons_succ] at hz
                          have hy := hz.sub ((((List.Sublist.refl _).cons _).cons _).cons _)
                          exact hy.perm (by (try simp only [List.cons_append, List.nil_append, List.append_nil]); classical exact List.perm_iff_count.2 (fun a => by simp only [List.cons_append, List.nil_append, List.append_nil, List.count_append, List.count_cons, List.count_nil] <;> omega))
                        case measure => simp [intOf]; omega
              · go_simp
                have m14 := m1.newboxF 23 #[.slice ya j yc]
                simp only [World.size_alloc] at m14
                refine hK.out _ _ ?_ (fun hHeld => ?_)
                · exact ⟨cell_dr (m14.bcell 5 rfl 1 rfl), cell_dr (m14.bcell 5 rfl 2 rfl), cell_dr (m14.bcell 5 rfl 3 rfl)⟩
                clear hK K
                try simp only [Act.put, List.setIfInBounds_toArray, List.set_cons_zero, List.set_cons_succ]
                refine readyG (rs := [4, 13]) (by kernel_rfl) (by simp) ?_
                refine AllG.cons rfl (fun K hK => ?_) (AllG.cons rfl (fun K hK => ?_) (AllG.nil))
                · refine stepAppBox m14.drew 9 rfl (by rw [hl.out.1]; omega) 1 rfl rfl rfl (.tmp 69) (.tmp 71) rfl (by first | rfl | simp [Act.eval, Act.put]) (by first | rfl | simp [Act.eval, Act.put]) ?_
                  intro v15 x15 m15
                  obtain ⟨xs15, xt15, e15⟩ := (m15.rd 9 rfl).sl.sh
                  rw [List.length_append, hl.out.1, List.length_singleton] at e15
                  subst e15
                  refine hK.out _ _ ?_ (fun hHeld => ?_)
                  · exact ⟨m15.bcell 5 rfl 1 rfl, m15.bcell 5 rfl 2 rfl, m15.bcell 5 rfl 3 rfl⟩
                  clear hK K
                  try simp only [Act.put, List.setIfInBounds_toArray, List.set_cons_zero, List.set_cons_succ]
                  refine takeP (i := 15) (v := ?_) rfl (by kernel_rfl) (fun _ _ _ h => h) (by rfl) ?_ (by assumption) ?_
                  case refine_2 => (intro w'; go_simp; first | done | with_reducible rfl)
                  try simp only [Act.put, List.setIfInBounds_toArray, List.set_cons_zero, List.set_cons_succ]
                  refine readyG (rs := [9, 13]) (by kernel_rfl) (by simp) ?_
                  refine AllG.cons rfl (fun K hK => ?_) (AllG.cons rfl (fun K hK => ?_) (AllG.nil))
                  · refine stepAppBox m15 10 rfl (by rw [hl.out.2.1]; omega) 0 rfl rfl rfl (.tmp 74) (.tmp 76) rfl (by first | rfl | simp [Act.eval, Act.put]) (by first | rfl | simp [Act.eval, Act.put]) ?_
                    intro v16 x16 m16
                    obtain ⟨ys16, yt16, e16⟩ := (m16.rd 10 rfl).sl.sh
                    rw [List.length_append, hl.out.2.1, List.length_singleton] at e16
                    subst e16
                    refine hK.out _ _ ?_ (fun hHeld => ?_)
                    · exact ⟨m16.bcell 5 rfl 1 rfl, m16.bcell 5 rfl 2 rfl, m16.bcell 5 rfl 3 rfl⟩
                    clear hK K
                    try simp only [Act.put, List.setIfInBounds_toArray, List.set_cons_zero, List.set_cons_succ]
                    refine readyG (rs := [13]) (by kernel_rfl) (by simp) ?_
                    refine AllG.cons rfl (fun K hK => ?_) (AllG.nil)
                    · go_simp
                      have m17 := m16.newboxF 23 #[.slice za j zc]
                      simp only [World.size_alloc] at m17
                      refine hK.out _ _ ?_ (fun hHeld => ?_)
                      · exact ⟨id (m17.bcell 6 rfl 1 rfl), id (m17.bcell 6 rfl 2 rfl), id (m17.bcell 6 rfl 3 rfl)⟩
                      clear hK K
                      try simp only [Act.put, List.setIfInBounds_toArray, List.set_cons_zero, List.set_cons_succ]
                      refine readyG (rs := [14]) (by kernel_rfl) (by simp) ?_
                      refine AllG.cons rfl (fun K hK => ?_) (AllG.nil)
                      · refine stepAppBox m17 12 rfl (by rw [hl.out.2.2]; omega) 0 rfl rfl rfl (.tmp 79) (.tmp 81) rfl (by first | rfl | simp [Act.eval, Act.put]) (by first | rfl | simp [Act.eval, Act.put]) ?_
                        intro v18 x18 m18
                        obtain ⟨zs18, zt18, e18⟩ := (m18.rd 12 rfl).sl.sh
                        rw [List.length_append, hl.out.2.2, List.length_singleton] at e18
                        subst e18
                        refine hK.out _ _ ?_ (fun hHeld => ?_)
                        · exact ⟨m18.bcell 6 rfl 1 rfl, m18.bcell 6 rfl 2 rfl, m18.bcell 6 rfl 3 rfl⟩
                        clear hK K
                        try simp only [Act.put, List.setIfInBounds_toArray, List.set_cons_zero, List.set_cons_succ]
                        have c1 := m18.bcell 6 rfl 1 rfl
                        have c2 := m18.bcell 6 rfl 2 rfl
                        have c3 := m18.bcell 6 rfl 3 rfl
                        have f0 := m18.bfree 6 rfl
                        refine readyG (rs := [16]) (by kernel_rfl) (by simp) ?_
                        refine AllG.last rfl (by kernel_rfl) (fun K hK => ?_) AllG.nil
                        go_simp
                        refine hK.out _ _ ?_
                        clear hK K
                        try simp only [Act.put, List.setIfInBounds_toArray, List.set_cons_zero, List.set_cons_succ]
                        refine anyG_lastP (i := 17) (v := ?_) rfl (by kernel_rfl) (fun _ _ _ h => h) (by rfl) ?_ ?_
                        case refine_2 => (intro w'; go_simp; first | done | with_reducible rfl)
                        try simp only [Act.put, List.setIfInBounds_toArray, List.set_cons_zero, List.set_cons_succ]
                        refine readyG (rs := [18]) (by kernel_rfl) (by simp) ?_
                        refine AllG.last rfl (by kernel_rfl) (fun K hK => ?_) AllG.nil
                        go_simp
                        refine hK.out _ _ ?_
                        clear hK K
                        try simp only [Act.put, List.setIfInBounds_toArray, List.set_cons_zero, List.set_cons_succ]
                        refine anyG_lastP (i := 19) (v := ?_) rfl (by kernel_rfl) (fun _ _ _ h => h) (by rfl) ?_ ?_
                        case refine_2 => (intro w'; go_simp; first | done | with_reducible rfl)
                        try simp only [Act.put, List.setIfInBounds_toArray, List.set_cons_zero, List.set_cons_succ]
                        refine readyG (rs := [20]) (by kernel_rfl) (by simp) ?_
                        refine AllG.last rfl (by kernel_rfl) (fun K hK => ?_) AllG.nil
                        go_simp
                        refine hK.out _ _ ?_
                        clear hK K
                        try simp only [Act.put, List.setIfInBounds_toArray, List.set_cons_zero, List.set_cons_succ]
                        refine doneG (by kernel_rfl) ?_ _
                        refine NoPanic.normal ?_
                        go_wp2_with fail
                        go_roundw
                        case rel =>
                          refine ⟨k + 1, xs15, ys16, zs18, xt15, yt16, zt18, ua ++ [.slice xa j xc], ub ++ [.slice ya j yc], uc ++ [.slice za j zc], by omega, by go_num, ⟨by rw [List.length_append, hl.out.1]; rfl, by rw [List.length_append, hl.out.2.1]; rfl, by rw [List.length_append, hl.out.2.2]; rfl⟩, ?_⟩
                          rw [tb_take hlt, tb_take hlt, tb_take hlt]
                          rw [rowsI_app hla.out, rowsI_app hlb.out, rowsI_app hlc.out]
                          have hz := (((m18.bstore 6 rfl 1 (.slice xs15 (k + 1) xt15)).bstore 6 rfl 2 (.slice ys16 (k + 1) yt16)).bstore 6 rfl 3 (.slice zs18 (k + 1) zt18))
                          simp only [List.set_cons_zero, List.set_cons_succ] at hz
                          have hy := hz.sub ((((List.Sublist.refl _).cons _).cons _).cons _)
                          exact hy.perm (by (try simp only [List.cons_append, List.nil_append, List.append_nil]); classical exact List.perm_iff_count.2 (fun a => by simp only [List.cons_append, List.nil_append, List.append_nil, List.count_append, List.count_cons, List.count_nil] <;> omega))
                        case measure => simp [intOf]; omega
                  · go_simp
                    have m19 := m15.newboxF 23 #[.slice za j zc]
                    simp only [World.size_alloc] at m19
                    refine hK.out _ _ ?_ (fun hHeld => ?_)
                    · exact ⟨id (m19.bcell 6 rfl 1 rfl), id (m19.bcell 6 rfl 2 rfl), id (m19.bcell 6 rfl 3 rfl)⟩
                    clear hK K
                    try simp only [Act.put, List.setIfInBounds_toArray, List.set_cons_zero, List.set_cons_succ]
                    refine readyG (rs := [9]) (by kernel_rfl) (by simp) ?_
                    refine AllG.cons rfl (fun K hK => ?_) (AllG.nil)
                    · refine stepAppBox m19 11 rfl (by rw [hl.out.2.1]; omega) 1 rfl rfl rfl (.tmp 74) (.tmp 76) rfl (by first | rfl | simp [Act.eval, Act.put]) (by first | rfl | simp [Act.eval, Act.put]) ?_
                      intro v20 x20 m20
                      obtain ⟨ys20, yt20, e20⟩ := (m20.rd 11 rfl).sl.sh
                      rw [List.length_append, hl.out.2.1, List.length_singleton] at e20
                      subst e20
                      refine hK.out _ _ ?_ (fun hHeld => ?_)
                      · exact ⟨m20.bcell 6 rfl 1 rfl, m20.bcell 6 rfl 2 rfl, m20.bcell 6 rfl 3 rfl⟩
                      clear hK K
                      try simp only [Act.put, List.setIfInBounds_toArray, List.set_cons_zero, List.set_cons_succ]
                      refine readyG (rs := [14]) (by kernel_rfl) (by simp) ?_
                      refine AllG.cons rfl (fun K hK => ?_) (AllG.nil)
                      · refine stepAppBox m20 12 rfl (by rw [hl.out.2.2]; omega) 0 rfl rfl rfl (.tmp 79) (.tmp 81) rfl (by first | rfl | simp [Act.eval, Act.put]) (by first | rfl | simp [Act.eval, Act.put]) ?_
                        intro v21 x21 m21
                        obtain ⟨zs21, zt21, e21⟩ := (m21.rd 12 rfl).sl.sh
                        rw [List.length_append, hl.out.2.2, List.length_singleton] at e21
                        subst e21
                        refine hK.out _ _ ?_ (fun hHeld => ?_)
                        · exact ⟨m21.bcell 6 rfl 1 rfl, m21.bcell 6 rfl 2 rfl, m21.bcell 6 rfl 3 rfl⟩
                        clear hK K
                        try simp only [Act.put, List.setIfInBounds_toArray, List.set_cons_zero, List.set_cons_succ]
                        have c1 := m21.bcell 6 rfl 1 rfl
                        have c2 := m21.bcell 6 rfl 2 rfl
                        have c3 := m21.bcell 6 rfl 3 rfl
                        have f0 := m21.bfree 6 rfl
                        refine readyG (rs := [16]) (by kernel_rfl) (by simp) ?_
                        refine AllG.last rfl (by kernel_rfl) (fun K hK => ?_) AllG.nil
                        go_simp
                        refine hK.out _ _ ?_
                        clear hK K
                        try simp only [Act.put, List.setIfInBounds_toArray, List.set_cons_zero, List.set_cons_succ]
                        refine anyG_lastP (i := 17) (v := ?_) rfl (by kernel_rfl) (fun _ _ _ h => h) (by rfl) ?_ ?_
                        case refine_2 => (intro w'; go_simp; first | done | with_reducible rfl)
                        try simp only [Act.put, List.setIfInBounds_toArray, List.set_cons_zero, List.set_cons_succ]
                        refine readyG (rs := [18]) (by kernel_rfl) (by simp) ?_
                        refine AllG.last rfl (by kernel_rfl) (fun K hK => ?_) AllG.nil
                        go_simp
                        refine hK.out _ _ ?_
                        clear hK K
                        try simp only [Act.put, List.setIfInBounds_toArray, List.set_cons_zero, List.set_cons_succ]
                        refine anyG_lastP (i := 19) (v := ?_) rfl (by kernel_rfl) (fun _ _ _ h => h) (by rfl) ?_ ?_
                        case refine_2 => (intro w'; go_simp; first | done | with_reducible rfl)
                        try simp only [Act.put, List.setIfInBounds_toArray, List.set_cons_zero, List.set_cons_succ]
                        refine readyG (rs := [20]) (by kernel_rfl) (by simp) ?_
                        refine AllG.last rfl (by kernel_rfl) (fun K hK => ?_) AllG.nil
                        go_simp
                        refine hK.out _ _ ?_
                        clear hK K
                        try simp only [Act.put, List.setIfInBounds_toArray, List.set_cons_zero, List.set_cons_succ]
                        refine doneG (by kernel_rfl) ?_ _
                        refine NoPanic.normal ?_
                        go_wp2_with fail
                        go_roundw
                        case rel =>
                          refine ⟨k + 1, xs15, ys20, zs21, xt15, yt20, zt21, ua ++ [.slice xa j xc], ub ++ [.slice ya j yc], uc ++ [.slice za j zc], by omega, by go_num, ⟨by rw [List.length_append, hl.out.1]; rfl, by rw [List.length_append, hl.out.2.1]; rfl, by rw [List.length_append, hl.out.2.2]; rfl⟩, ?_⟩
                          rw [tb_take hlt, tb_take hlt, tb_take hlt]
                          rw [rowsI_app hla.out, rowsI_app hlb.out, rowsI_app hlc.out]
                          have hz := (((m21.bstore 6 rfl 1 (.slice xs15 (k + 1) xt15)).bstore 6 rfl 2 (.slice ys20 (k + 1) yt20)).bstore 6 rfl 3 (.slice zs21 (k + 1) zt21))
                          simp only [List.set_cons_zero, List.set_cons_succ] at hz
                          have hy := hz.sub ((((List.Sublist.refl _).cons _).cons _).cons _)
                          exact hy.perm (by (try simp only [List.cons_append, List.nil_append, List.append_nil]); classical exact List.perm_iff_count.2 (fun a => by simp only [List.cons_append, List.nil_append, List.append_nil, List.count_append, List.count_cons, List.count_nil] <;> omega))
                        case measure => simp [intOf]; omega
                · go_simp
                  have m22 := m14.newboxF 23 #[.slice za j zc]
                  simp only [World.size_alloc] at m22
                  refine hK.out _ _ ?_ (fun hHeld => ?_)
                  · exact ⟨cell_dr (m22.bcell 6 rfl 1 rfl), cell_dr (m22.bcell 6 rfl 2 rfl), cell_dr (m22.bcell 6 rfl 3 rfl)⟩
                  clear hK K
                  try simp only [Act.put, List.setIfInBounds_toArray, List.set_cons_zero, List.set_cons_succ]
                  refine readyG (rs := [4]) (by kernel_rfl) (by simp) ?_
                  refine AllG.cons rfl (fun K hK => ?_) (AllG.nil)
                  · refine stepAppBox m22.drew 10 rfl (by rw [hl.out.1]; omega) 2 rfl rfl rfl (.tmp 69) (.tmp 71) rfl (by first | rfl | simp [Act.eval, Act.put]) (by first | rfl | simp [Act.eval, Act.put]) ?_
                    intro v23 x23 m23
                    obtain ⟨xs23, xt23, e23⟩ := (m23.rd 10 rfl).sl.sh
                    rw [List.length_append, hl.out.1, List.length_singleton] at e23
                    subst e23
                    refine hK.out _ _ ?_ (fun hHeld => ?_)
                    · exact ⟨m23.bcell 6 rfl 1 rfl, m23.bcell 6 rfl 2 rfl, m23.bcell 6 rfl 3 rfl⟩
                    clear hK K
                    try simp only [Act.put, List.setIfInBounds_toArray, List.set_cons_zero, List.set_cons_succ]
                    refine takeP (i := 15) (v := ?_) rfl (by kernel_rfl) (fun _ _ _ h => h) (by rfl) ?_ (by assumption) ?_
                    case refine_2 => (intro w'; go_simp; first | done | with_reducible rfl)
                    try simp only [Act.put, List.setIfInBounds_toArray, List.set_cons_zero, List.set_cons_succ]
                    refine readyG (rs := [9]) (by kernel_rfl) (by simp) ?_
                    refine AllG.cons rfl (fun K hK => ?_) (AllG.nil)
                    · refine stepAppBox m23 11 rfl (by rw [hl.out.2.1]; omega) 1 rfl rfl rfl (.tmp 74) (.tmp 76) rfl (by first | rfl | simp [Act.eval, Act.put]) (by first | rfl | simp [Act.eval, Act.put]) ?_
                      intro v24 x24 m24
                      obtain ⟨ys24, yt24, e24⟩ := (m24.rd 11 rfl).sl.sh
                      rw [List.length_append, hl.out.2.1, List.length_singleton] at e24
                      subst e24
                      refine hK.out _ _ ?_ (fun hHeld => ?_)
                      · exact ⟨m24.bcell 6 rfl 1 rfl, m24.bcell 6 rfl 2 rfl, m24.bcell 6 rfl 3 rfl⟩
                      clear hK K
                      try simp only [Act.put, List.setIfInBounds_toArray, List.set_cons_zero, List.set_cons_succ]
                      refine readyG (rs := [14]) (by kernel_rfl) (by simp) ?_
                      refine AllG.cons rfl (fun K hK => ?_) (AllG.nil)
                      · refine stepAppBox m24 12 rfl (by rw [hl.out.2.2]; omega) 0 rfl rfl rfl (.tmp 79) (.tmp 81) rfl (by first | rfl | simp [Act.eval, Act.put]) (by first | rfl | simp [Act.eval, Act.put]) ?_
                        intro v25 x25 m25
                        obtain ⟨zs25, zt25, e25⟩ := (m25.rd 12 rfl).sl.sh
                        rw [List.length_append, hl.out.2.2, List.length_singleton] at e25
                        subst e25
                        refine hK.out _ _ ?_ (fun hHeld => ?_)
                        · exact ⟨m25.bcell 6 rfl 1 rfl, m25.bcell 6 rfl 2 rfl, m25.bcell 6 rfl 3 rfl⟩
                        clear hK K
                        try simp only [Act.put, List.setIfInBounds_toArray, List.set_cons_zero, List.set_cons_succ]
                        have c1 := m25.bcell 6 rfl 1 rfl
                        have c2 := m25.bcell 6 rfl 2 rfl
                        have c3 := m25.bcell 6 rfl 3 rfl
                        have f0 := m25.bfree 6 rfl
                        refine readyG (rs := [16]) (by kernel_rfl) (by simp) ?_
                        refine AllG.last rfl (by kernel_rfl) (fun K hK => ?_) AllG.nil
                        go_simp
                        refine hK.out _ _ ?_
                        clear hK K
                        try simp only [Act.put, List.setIfInBounds_toArray, List.set_cons_zero, List.set_cons_succ]
                        refine anyG_lastP (i := 17) (v := ?_) rfl (by kernel_rfl) (fun _ _ _ h => h) (by rfl) ?_ ?_
                        case refine_2 => (intro w'; go_simp; first | done | with_reducible rfl)
                        try simp only [Act.put, List.setIfInBounds_toArray, List.set_cons_zero, List.set_cons_succ]
                        refine readyG (rs := [18]) (by kernel_rfl) (by simp) ?_
                        refine AllG.last rfl (by kernel_rfl) (fun K hK => ?_) AllG.nil
                        go_simp
                        refine hK.out _ _ ?_
                        clear hK K
                        try simp only [Act.put, List.setIfInBounds_toArray, List.set_cons_zero, List.set_cons_succ]
                        refine anyG_lastP (i := 19) (v := ?_) rfl (by kernel_rfl) (fun _ _ _ h => h) (by rfl) ?_ ?_
                        case refine_2 => (intro w'; go_simp; first | done | with_reducible rfl)
                        try simp only [Act.put, List.setIfInBounds_toArray, List.set_cons_zero, List.set_cons_succ]
                        refine readyG (rs := [20]) (by kernel_rfl) (by simp) ?_
                        refine AllG.last rfl (by kernel_rfl) (fun K hK => ?_) AllG.nil
                        go_simp
                        refine hK.out _ _ ?_
                        clear hK K
                        try simp only [Act.put, List.setIfInBounds_toArray, List.set_cons_zero, List.set_cons_succ]
                        refine doneG (by kernel_rfl) ?_ _
                        refine NoPanic.normal ?_
                        go_wp2_with fail
                        go_roundw
                        case rel =>
                          refine ⟨k + 1, xs23, ys24, zs25, xt23, yt24, zt25, ua ++ [.slice xa j xc], ub ++ [.slice ya j yc], uc ++ [.slice za j zc], by omega, by go_num, ⟨by rw [List.length_append, hl.out.1]; rfl, by rw [List.length_append, hl.out.2.1]; rfl, by rw [List.length_append, hl.out.2.2]; rfl⟩, ?_⟩
                          rw [tb_take hlt, tb_take hlt, tb_take hlt]
                          rw [rowsI_app hla.out, rowsI_app hlb.out, rowsI_app hlc.out]
                          have hz := (((m25.bstore 6 rfl 1 (.slice xs23 (k + 1) xt23)).bstore 6 rfl 2 (.slice ys24 (k + 1) yt24)).bstore 6 rfl 3 (.slice zs25 (k + 1) zt25))
                          simp only [List.set_cons_zero, List.set_cons_succ] at hz
                          have hy := hz.sub ((((List.Sublist.refl _).cons _).cons _).cons _)
                          exact hy.perm (by (try simp only [List.cons_append, List.nil_append, List.append_nil]); classical exact List.perm_iff_count.2 (fun a => by simp only [List.cons_append, List.nil_append, List.append_nil, List.count_append, List.count_cons, List.count_nil] <;> omega))
                        case measure => simp [intOf]; omega
              · go_simp
                have m26 := m1.newboxF 23 #[.slice za j zc]
                simp only [World.size_alloc] at m26
                refine hK.out _ _ ?_ (fun hHeld => ?_)
                · exact ⟨cell_dr (m26.bcell 5 rfl 1 rfl), cell_dr (m26.bcell 5 rfl 2 rfl), cell_dr (m26.bcell 5 rfl 3 rfl)⟩
                clear hK K
                try simp only [Act.put, List.setIfInBounds_toArray, List.set_cons_zero, List.set_cons_succ]
                refine readyG (rs := [4, 8]) (by kernel_rfl) (by simp) ?_
                refine AllG.cons rfl (fun K hK => ?_) (AllG.cons rfl (fun K hK => ?_) (AllG.nil))
                · refine stepAppBox m26.drew 9 rfl (by rw [hl.out.1]; omega) 1 rfl rfl rfl (.tmp 69) (.tmp 71) rfl (by first | rfl | simp [Act.eval, Act.put]) (by first | rfl | simp [Act.eval, Act.put]) ?_
                  intro v27 x27 m27
                  obtain ⟨xs27, xt27, e27⟩ := (m27.rd 9 rfl).sl.sh
                  rw [List.length_append, hl.out.1, List.length_singleton] at e27
                  subst e27
                  refine hK.out _ _ ?_ (fun hHeld => ?_)
                  · exact ⟨m27.bcell 5 rfl 1 rfl, m27.bcell 5 rfl 2 rfl, m27.bcell 5 rfl 3 rfl⟩
                  clear hK K
                  try simp only [Act.put, List.setIfInBounds_toArray, List.set_cons_zero, List.set_cons_succ]
                  refine takeP (i := 15) (v := ?_) rfl (by kernel_rfl) (fun _ _ _ h => h) (by rfl) ?_ (by assumption) ?_
                  case refine_2 => (intro w'; go_simp; first | done | with_reducible rfl)
                  try simp only [Act.put, List.setIfInBounds_toArray, List.set_cons_zero, List.set_cons_succ]
                  refine readyG (rs := [8]) (by kernel_rfl) (by simp) ?_
                  refine AllG.cons rfl (fun K hK => ?_) (AllG.nil)
                  · go_simp
                    have m28 := m27.newboxF 23 #[.slice ya j yc]
                    simp only [World.size_alloc] at m28
                    refine hK.out _ _ ?_ (fun hHeld => ?_)
                    · exact ⟨id (m28.bcell 6 rfl 1 rfl), id (m28.bcell 6 rfl 2 rfl), id (m28.bcell 6 rfl 3 rfl)⟩
                    clear hK K
                    try simp only [Act.put, List.setIfInBounds_toArray, List.set_cons_zero, List.set_cons_succ]
                    refine readyG (rs := [9]) (by kernel_rfl) (by simp) ?_
                    refine AllG.cons rfl (fun K hK => ?_) (AllG.nil)
                    · refine stepAppBox m28 11 rfl (by rw [hl.out.2.1]; omega) 0 rfl rfl rfl (.tmp 74) (.tmp 76) rfl (by first | rfl | simp [Act.eval, Act.put]) (by first | rfl | simp [Act.eval, Act.put]) ?_
                      intro v29 x29 m29
                      obtain ⟨ys29, yt29, e29⟩ := (m29.rd 11 rfl).sl.sh
                      rw [List.length_append, hl.out.2.1, List.length_singleton] at e29
                      subst e29
                      refine hK.out _ _ ?_ (fun hHeld => ?_)
                      · exact ⟨m29.bcell 6 rfl 1 rfl, m29.bcell 6 rfl 2 rfl, m29.bcell 6 rfl 3 rfl⟩
                      clear hK K
                      try simp only [Act.put, List.setIfInBounds_toArray, List.set_cons_zero, List.set_cons_succ]
                      refine readyG (rs := [14]) (by kernel_rfl) (by simp) ?_
                      refine AllG.cons rfl (fun K hK => ?_) (AllG.nil)
                      · refine stepAppBox m29 12 rfl (by rw [hl.out.2.2]; omega) 1 rfl rfl rfl (.tmp 79) (.tmp 81) rfl (by first | rfl | simp [Act.eval, Act.put]) (by first | rfl | simp [Act.eval, Act.put]) ?_
                        intro v30 x30 m30
                        obtain ⟨zs30, zt30, e30⟩ := (m30.rd 12 rfl).sl.sh
                        rw [List.length_append, hl.out.2.2, List.length_singleton] at e30
                        subst e30
                        refine hK.out _ _ ?_ (fun hHeld => ?_)
                        · exact ⟨m30.bcell 6 rfl 1 rfl, m30.bcell 6 rfl 2 rfl, m30.bcell 6 rfl 3 rfl⟩
                        clear hK K
                        try simp only [Act.put, List.setIfInBounds_toArray, List.set_cons_zero, List.set_cons_succ]
                        have c1 := m30.bcell 6 rfl 1 rfl
                        have c2 := m30.bcell 6 rfl 2 rfl
                        have c3 := m30.bcell 6 rfl 3 rfl
                        have f0 := m30.bfree 6 rfl
                        refine readyG (rs := [16]) (by kernel_rfl) (by simp) ?_
                        refine AllG.last rfl (by kernel_rfl) (fun K hK => ?_) AllG.nil
                        go_simp
                        refine hK.out _ _ ?_
                        clear hK K
                        try simp only [Act.put, List.setIfInBounds_toArray, List.set_cons_zero, List.set_cons_succ]
                        refine anyG_lastP (i := 17) (v := ?_) rfl (by kernel_rfl) (fun _ _ _ h => h) (by rfl) ?_ ?_
                        case refine_2 => (intro w'; go_simp; first | done | with_reducible rfl)
                        try simp only [Act.put, List.setIfInBounds_toArray, List.set_cons_zero, List.set_cons_succ]
                        refine readyG (rs := [18]) (by kernel_rfl) (by simp) ?_
                        refine AllG.last rfl (by kernel_rfl) (fun K hK => ?_) AllG.nil
                        go_simp
                        refine hK.out _ _ ?_
                        clear hK K
                        try simp only [Act.put, List.setIfInBounds_toArray, List.set_cons_zero, List.set_cons_succ]
                        refine anyG_lastP (i := 19) (v := ?_) rfl (by kernel_rfl) (fun _ _ _ h => h) (by rfl) ?_ ?_
                        case refine_2 => (intro w'; go_simp; first | done | with_reducible rfl)
                        try simp only [Act.put, List.setIfInBounds_toArray, List.set_cons_zero, List.set_cons_succ]
                        refine readyG (rs := [20]) (by kernel_rfl) (by simp) ?_
                        refine AllG.last rfl (by kernel_rfl) (fun K hK => ?_) AllG.nil
                        go_simp
                        refine hK.out _ _ ?_
                        clear hK K
                        try simp only [Act.put, List.setIfInBounds_toArray, List.set_cons_zero, List.set_cons_succ]
                        refine doneG (by kernel_rfl) ?_ _
                        refine NoPanic.normal ?_
                        go_wp2_with fail
                        go_roundw
                        case rel =>
                          refine ⟨k + 1, xs27, ys29, zs30, xt27, yt29, zt30, ua ++ [.slice xa j xc], ub ++ [.slice ya j yc], uc ++ [.slice za j zc], by omega, by go_num, ⟨by rw [List.length_append, hl.out.1]; rfl, by rw [List.length_append, hl.out.2.1]; rfl, by rw [List.length_append, hl.out.2.2]; rfl⟩, ?_⟩
                          rw [tb_take hlt, tb_take hlt, tb_take hlt]
                          rw [rowsI_app hla.out, rowsI_app hlb.out, rowsI_app hlc.out]
                          have hz := (((m30.bstore 6 rfl 1 (.slice xs27 (k + 1) xt27)).bstore 6 rfl 2 (.slice ys29 (k + 1) yt29)).bstore 6 rfl 3 (.slice zs30 (k + 1) zt30))
                          simp only [List.set_cons_zero, List.set_cons_succ] at hz
                          have hy := hz.sub ((((List.Sublist.refl _).cons _).cons _).cons _)
                          exact hy.perm (by (try simp only [List.cons_append, List.nil_append, List.append_nil]); classical exact List.perm_iff_count.2 (fun a => by simp only [List.cons_append, List.nil_append, List.append_nil, List.count_append, List.count_cons, List.count_nil] <;> omega))
                        case measure => simp [intOf]; omega
                · go_simp
                  have m31 := m26.newboxF 23 #[.slice ya j yc]
                  simp only [World.size_alloc] at m31
                  refine hK.out _ _ ?_ (fun hHeld => ?_)
                  · exact ⟨cell_dr (m31.bcell 6 rfl 1 rfl), cell_dr (m31.bcell 6 rfl 2 rfl), cell_dr (m31.bcell 6 rfl 3 rfl)⟩
                  clear hK K
                  try simp only [Act.put, List.setIfInBounds_toArray, List.set_cons_zero, List.set_cons_succ]
                  refine readyG (rs := [4]) (by kernel_rfl) (by simp) ?_
                  refine AllG.cons rfl (fun K hK => ?_) (AllG.nil)
                  · refine stepAppBox m31.drew 10 rfl (by rw [hl.out.1]; omega) 2 rfl rfl rfl (.tmp 69) (.tmp 71) rfl (by first | rfl | simp [Act.eval, Act.put]) (by first | rfl | simp [Act.eval, Act.put]) ?_
                    intro v32 x32 m32
                    obtain ⟨xs32, xt32, e32⟩ := (m32.rd 10 rfl).sl.sh
                    rw [List.length_append, hl.out.1, List.length_singleton] at e32
                    subst e32
                    refine hK.out _ _ ?_ (fun hHeld => ?_)
                    · exact ⟨m32.bcell 6 rfl 1 rfl, m32.bcell 6 rfl 2 rfl, m32.bcell 6 rfl 3 rfl⟩
                    clear hK K
                    try simp only [Act.put, List.setIfInBounds_toArray, List.set_cons_zero, List.set_cons_succ]
                    refine takeP (i := 15) (v := ?_) rfl (by kernel_rfl) (fun _ _ _ h => h) (by rfl) ?_ (by assumption) ?_
                    case refine_2 => (intro w'; go_simp; first | done | with_reducible rfl)
                    try simp only [Act.put, List.setIfInBounds_toArray, List.set_cons_zero, List.set_cons_succ]
                    refine readyG (rs := [9]) (by kernel_rfl) (by simp) ?_
                    refine AllG.cons rfl (fun K hK => ?_) (AllG.nil)
                    · refine stepAppBox m32 11 rfl (by rw [hl.out.2.1]; omega) 0 rfl rfl rfl (.tmp 74) (.tmp 76) rfl (by first | rfl | simp [Act.eval, Act.put]) (by first | rfl | simp [Act.eval, Act.put]) ?_
                      intro v33 x33 m33
                      obtain ⟨ys33, yt33, e33⟩ := (m33.rd 11 rfl).sl.sh
                      rw [List.length_append, hl.out.2.1, List.length_singleton] at e33
                      subst e33
                      refine hK.out _ _ ?_ (fun hHeld => ?_)
                      · exact ⟨m33.bcell 6 rfl 1 rfl, m33.bcell 6 rfl 2 rfl, m33.bcell 6 rfl 3 rfl⟩
                      clear hK K
                      try simp only [Act.put, List.setIfInBounds_toArray, List.set_cons_zero, List.set_cons_succ]
                      refine readyG (rs := [14]) (by kernel_rfl) (by simp) ?_
                      refine AllG.cons rfl (fun K hK => ?_) (AllG.nil)
                      · refine stepAppBox m33 12 rfl (by rw [hl.out.2.2]; omega) 1 rfl rfl rfl (.tmp 79) (.tmp 81) rfl (by first | rfl | simp [Act.eval, Act.put]) (by first | rfl | simp [Act.eval, Act.put]) ?_
                        intro v34 x34 m34
                        obtain ⟨zs34, zt34, e34⟩ := (m34.rd 12 rfl).sl.sh
                        rw [List.length_append, hl.out.2.2, List.length_singleton] at e34
                        subst e34
                        refine hK.out _ _ ?_ (fun hHeld => ?_)
                        · exact ⟨m34.bcell 6 rfl 1 rfl, m34.bcell 6 rfl 2 rfl, m34.bcell 6 rfl 3 rfl⟩
                        clear hK K
                        try simp only [Act.put, List.setIfInBounds_toArray, List.set_cons_zero, List.set_cons_succ]
                        have c1 := m34.bcell 6 rfl 1 rfl
                        have c2 := m34.bcell 6 rfl 2 rfl
                        have c3 := m34.bcell 6 rfl 3 rfl
                        have f0 := m34.bfree 6 rfl
                        refine readyG (rs := [16]) (by kernel_rfl) (by simp) ?_
                        refine AllG.last rfl (by kernel_rfl) (fun K hK => ?_) AllG.nil
                        go_simp
                        refine hK.out _ _ ?_
                        clear hK K
                        try simp only [Act.put, List.setIfInBounds_toArray, List.set_cons_zero, List.set_cons_succ]
                        refine anyG_lastP (i := 17) (v := ?_) rfl (by kernel_rfl) (fun _ _ _ h => h) (by rfl) ?_ ?_
                        case refine_2 => (intro w'; go_simp; first | done | with_reducible rfl)
                        try simp only [Act.put, List.setIfInBounds_toArray, List.set_cons_zero, List.set_cons_succ]
                        refine readyG (rs := [18]) (by kernel_rfl) (by simp) ?_
                        refine AllG.last rfl (by kernel_rfl) (fun K hK => ?_) AllG.nil
                        go_simp
                        refine hK.out _ _ ?_
                        clear hK K
                        try simp only [Act.put, List.setIfInBounds_toArray, List.set_cons_zero, List.set_cons_succ]
                        refine anyG_lastP (i := 19) (v := ?_) rfl (by kernel_rfl) (fun _ _ _ h => h) (by rfl) ?_ ?_
                        case refine_2 => (intro w'; go_simp; first | done | with_reducible rfl)
                        try simp only [Act.put, List.setIfInBounds_toArray, List.set_cons_zero, List.set_cons_succ]
                        refine readyG (rs := [20]) (by kernel_rfl) (by simp) ?_
                        refine AllG.last rfl (by kernel_rfl) (fun K hK => ?_) AllG.nil
                        go_simp
                        refine hK.out _ _ ?_
                        clear hK K
                        try simp only [Act.put, List.setIfInBounds_toArray, List.set_cons_zero, List.set_cons_succ]
                        refine doneG (by kernel_rfl) ?_ _
                        refine NoPanic.normal ?_
                        go_wp2_with fail
                        go_roundw
                        case rel =>
                          refine ⟨k + 1, xs32, ys33, zs34, xt32, yt33, zt34, ua ++ [.slice xa j xc], ub ++ [.slice ya j yc], uc ++ [.slice za j zc], by omega, by go_num, ⟨by rw [List.length_append, hl.out.1]; rfl, by rw [List.length_append, hl.out.2.1]; rfl, by rw [List.length_append, hl.out.2.2]; rfl⟩, ?_⟩
                          rw [tb_take hlt, tb_take hlt, tb_take hlt]
                          rw [rowsI_app hla.out, rowsI_app hlb.out, rowsI_app hlc.out]
                          have hz := (((m34.bstore 6 rfl 1 (.slice xs32 (k + 1) xt32)).bstore 6 rfl 2 (.slice ys33 (k + 1) yt33)).bstore 6 rfl 3 (.slice zs34 (k + 1) zt34))
                          simp only [List.set_cons_zero, List.set_cons_succ] at hz
                          have hy := hz.sub ((((List.Sublist.refl _).cons _).cons _).cons _)
                          exact hy.perm (by (try simp only [List.cons_append, List.nil_append, List.append_nil]); classical exact List.perm_iff_count.2 (fun a => by simp only [List.cons_append, List.nil_append, List.append_nil, List.count_append, List.count_cons, List.count_nil] <;> omega))
                        case measure => simp [intOf]; omega
            · go_simp
              have m35 := hS.newboxF 23 #[.slice ya j yc]
              simp only [World.size_alloc] at m35
              refine hK.out _ _ ?_ (fun hHeld => ?_)
              · exact ⟨cell_dr (m35.bcell 4 rfl 1 rfl), cell_dr (m35.bcell 4 rfl 2 rfl), cell_dr (m35.bcell 4 rfl 3 rfl)⟩
              clear hK K
              try simp only [Act.put, List.setIfInBounds_toArray, List.set_cons_zero, List.set_cons_succ]
              refine readyG (rs := [3, 13]) (by kernel_rfl) (by simp) ?_
              refine AllG.cons rfl (fun K hK => ?_) (AllG.cons rfl (fun K hK => ?_) (AllG.nil))
              · go_simp
                have m36 := m35.newboxF 23 #[.slice xa j xc]
                simp only [World.size_alloc] at m36
                refine hK.out _ _ ?_ (fun hHeld => ?_)
                · exact ⟨cell_dr (m36.bcell 5 rfl 1 rfl), cell_dr (m36.bcell 5 rfl 2 rfl), cell_dr (m36.bcell 5 rfl 3 rfl)⟩
                clear hK K
                try simp only [Act.put, List.setIfInBounds_toArray, List.set_cons_zero, List.set_cons_succ]
                refine readyG (rs := [4, 13]) (by kernel_rfl) (by simp) ?_
                refine AllG.cons rfl (fun K hK => ?_) (AllG.cons rfl (fun K hK => ?_) (AllG.nil))
                · refine stepAppBox m36.drew 9 rfl (by rw [hl.out.1]; omega) 0 rfl rfl rfl (.tmp 69) (.tmp 71) rfl (by first | rfl | simp [Act.eval, Act.put]) (by first | rfl | simp [Act.eval, Act.put]) ?_
                  intro v37 x37 m37
                  obtain ⟨xs37, xt37, e37⟩ := (m37.rd 9 rfl).sl.sh
                  rw [List.length_append, hl.out.1, List.length_singleton] at e37
                  subst e37
                  refine hK.out _ _ ?_ (fun hHeld => ?_)
                  · exact ⟨m37.bcell 5 rfl 1 rfl, m37.bcell 5 rfl 2 rfl, m37.bcell 5 rfl 3 rfl⟩
                  clear hK K
                  try simp only [Act.put, List.setIfInBounds_toArray, List.set_cons_zero, List.set_cons_succ]
                  refine takeP (i := 15) (v := ?_) rfl (by kernel_rfl) (fun _ _ _ h => h) (by rfl) ?_ (by assumption) ?_
                  case refine_2 => (intro w'; go_simp; first | done | with_reducible rfl)
                  try simp only [Act.put, List.setIfInBounds_toArray, List.set_cons_zero, List.set_cons_succ]
                  refine readyG (rs := [9, 13]) (by kernel_rfl) (by simp) ?_
                  refine AllG.cons rfl (fun K hK => ?_) (AllG.cons rfl (fun K hK => ?_) (AllG.nil))
                  · refine stepAppBox m37 10 rfl (by rw [hl.out.2.1]; omega) 1 rfl rfl rfl (.tmp 74) (.tmp 76) rfl (by first | rfl | simp [Act.eval, Act.put]) (by first | rfl | simp [Act.eval, Act.put]) ?_
                    intro v38 x38 m38
                    obtain ⟨ys38, yt38, e38⟩ := (m38.rd 10 rfl).sl.sh
                    rw [List.length_append, hl.out.2.1, List.length_singleton] at e38
                    subst e38
                    refine hK.out _ _ ?_ (fun hHeld => ?_)
                    · exact ⟨m38.bcell 5 rfl 1 rfl, m38.bcell 5 rfl 2 rfl, m38.bcell 5 rfl 3 rfl⟩
                    clear hK K
                    try simp only [Act.put, List.setIfInBounds_toArray, List.set_cons_zero, List.set_cons_succ]
                    refine readyG (rs := [13]) (by kernel_rfl) (by simp) ?_
                    refine AllG.cons rfl (fun K hK => ?_) (AllG.nil)
                    · go_simp
                      have m39 := m38.newboxF 23 #[.slice za j zc]
                      simp only [World.size_alloc] at m39
                      refine hK.out _ _ ?_ (fun hHeld => ?_)
                      · exact ⟨id (m39.bcell 6 rfl 1 rfl), id (m39.bcell 6 rfl 2 rfl), id (m39.bcell 6 rfl 3 rfl)⟩
                      clear hK K
                      try simp only [Act.put, List.setIfInBounds_toArray, List.set_cons_zero, List.set_cons_succ]
                      refine readyG (rs := [14]) (by kernel_rfl) (by simp) ?_
                      refine AllG.cons rfl (fun K hK => ?_) (AllG.nil)
                      · refine stepAppBox m39 12 rfl (by rw [hl.out.2.2]; omega) 0 rfl rfl rfl (.tmp 79) (.tmp 81) rfl (by first | rfl | simp [Act.eval, Act.put]) (by first | rfl | simp [Act.eval, Act.put]) ?_
                        intro v40 x40 m40
                        obtain ⟨zs40, zt40, e40⟩ := (m40.rd 12 rfl).sl.sh
                        rw [List.length_append, hl.out.2.2, List.length_singleton] at e40
                        subst e40
                        refine hK.out _ _ ?_ (fun hHeld => ?_)
                        · exact ⟨m40.bcell 6 rfl 1 rfl, m40.bcell 6 rfl 2 rfl, m40.bcell 6 rfl 3 rfl⟩
                        clear hK K
                        try simp only [Act.put, List.setIfInBounds_toArray, List.set_cons_zero, List.set_cons_succ]
                        have c1 := m40.bcell 6 rfl 1 rfl
                        have c2 := m40.bcell 6 rfl 2 rfl
                        have c3 := m40.bcell 6 rfl 3 rfl
                        have f0 := m40.bfree 6 rfl
                        refine readyG (rs := [16]) (by kernel_rfl) (by simp) ?_
                        refine AllG.last rfl (by kernel_rfl) (fun K hK => ?_) AllG.nil
                        go_simp
                        refine hK.out _ _ ?_
                        clear hK K
                        try simp only [Act.put, List.setIfInBounds_toArray, List.set_cons_zero, List.set_cons_succ]
                        refine anyG_lastP (i := 17) (v := ?_) rfl (by kernel_rfl) (fun _ _ _ h => h) (by rfl) ?_ ?_
                        case refine_2 => (intro w'; go_simp; first | done | with_reducible rfl)
                        try simp only [Act.put, List.setIfInBounds_toArray, List.set_cons_zero, List.set_cons_succ]
                        refine readyG (rs := [18]) (by kernel_rfl) (by simp) ?_
                        refine AllG.last rfl (by kernel_rfl) (fun K hK => ?_) AllG.nil
                        go_simp
                        refine hK.out _ _ ?_
                        clear hK K
                        try simp only [Act.put, List.setIfInBounds_toArray, List.set_cons_zero, List.set_cons_succ]
                        refine anyG_lastP (i := 19) (v := ?_) rfl (by kernel_rfl) (fun _ _ _ h => h) (by rfl) ?_ ?_
                        case refine_2 => (intro w'; go_simp; first | done | with_reducible rfl)
                        try simp only [Act.put, List.setIfInBounds_toArray, List.set_cons_zero, List.set_cons_succ]
                        refine readyG (rs := [20]) (by kernel_rfl) (by simp) ?_
                        refine AllG.last rfl (by kernel_rfl) (fun K hK => ?_) AllG.nil
                        go_simp
                        refine hK.out _ _ ?_
                        clear hK K
                        try simp only [Act.put, List.setIfInBounds_toArray, List.set_cons_zero, List.set_cons_succ]
                        refine doneG (by kernel_rfl) ?_ _
                        refine NoPanic.normal ?_
                        go_wp2_with fail
                        go_roundw
                        case rel =>
                          refine ⟨k + 1, xs37, ys38, zs40, xt37, yt38, zt40, ua ++ [.slice xa j xc], ub ++ [.slice ya j yc], uc ++ [.slice za j zc], by omega, by go_num, ⟨by rw [List.length_append, hl.out.1]; rfl, by rw [List.length_append, hl.out.2.1]; rfl, by rw [List.length_append, hl.out.2.2]; rfl⟩, ?_⟩
                          rw [tb_take hlt, tb_take hlt, tb_take hlt]
                          rw [rowsI_app hla.out, rowsI_app hlb.out, rowsI_app hlc.out]
                          have hz := (((m40.bstore 6 rfl 1 (.slice xs37 (k + 1) xt37)).bstore 6 rfl 2 (.slice ys38 (k + 1) yt38)).bstore 6 rfl 3 (.slice zs40 (k + 1) zt40))
                          simp only [List.set_cons_zero, List.set_cons_succ] at hz
                          have hy := hz.sub ((((List.Sublist.refl _).cons _).cons _).cons _)
                          exact hy.perm (by (try simp only [List.cons_append, List.nil_append, List.append_nil]); classical exact List.perm_iff_count.2 (fun a => by simp only [List.cons_append, List.nil_append, List.append_nil, List.count_append, List.count_cons, List.count_nil] <;> omega))
                        case measure => simp [intOf]; omega
                  · go_simp
                    have m41 := m37.newboxF 23 #[.slice za j zc]
                    simp only [World.size_alloc] at m41
                    refine hK.out _ _ ?_ (fun hHeld => ?_)
                    · exact ⟨id (m41.bcell 6 rfl 1 rfl), id (m41.bcell 6 rfl 2 rfl), id (m41.bcell 6 rfl 3 rfl)⟩
                    clear hK K
                    try simp only [Act.put, List.setIfInBounds_toArray, List.set_cons_zero, List.set_cons_succ]
                    refine readyG (rs := [9]) (by kernel_rfl) (by simp) ?_
                    refine AllG.cons rfl (fun K hK => ?_) (AllG.nil)
                    · refine stepAppBox m41 11 rfl (by rw [hl.out.2.1]; omega) 2 rfl rfl rfl (.tmp 74) (.tmp 76) rfl (by first | rfl | simp [Act.eval, Act.put]) (by first | rfl | simp [Act.eval, Act.put]) ?_
                      intro v42 x42 m42
                      obtain ⟨ys42, yt42, e42⟩ := (m42.rd 11 rfl).sl.sh
                      rw [List.length_append, hl.out.2.1, List.length_singleton] at e42
                      subst e42
                      refine hK.out _ _ ?_ (fun hHeld => ?_)
                      · exact ⟨m42.bcell 6 rfl 1 rfl, m42.bcell 6 rfl 2 rfl, m42.bcell 6 rfl 3 rfl⟩
                      clear hK K
                      try simp only [Act.put, List.setIfInBounds_toArray, List.set_cons_zero, List.set_cons_succ]
                      refine readyG (rs := [14]) (by kernel_rfl) (by simp) ?_
                      refine AllG.cons rfl (fun K hK => ?_) (AllG.nil)
                      · refine stepAppBox m42 12 rfl (by rw [hl.out.2.2]; omega) 0 rfl rfl rfl (.tmp 79) (.tmp 81) rfl (by first | rfl | simp [Act.eval, Act.put]) (by first | rfl | simp [Act.eval, Act.put]) ?_
                        intro v43 x43 m43
                        obtain ⟨zs43, zt43, e43⟩ := (m43.rd 12 rfl).sl.sh
                        rw [List.length_append, hl.out.2.2, List.length_singleton] at e43
                        subst e43
                        refine hK.out _ _ ?_ (fun hHeld => ?_)
                        · exact ⟨m43.bcell 6 rfl 1 rfl, m43.bcell 6 rfl 2 rfl, m43.bcell 6 rfl 3 rfl⟩
                        clear hK K
                        try simp only [Act.put, List.setIfInBounds_toArray, List.set_cons_zero, List.set_cons_succ]
                        have c1 := m43.bcell 6 rfl 1 rfl
                        have c2 := m43.bcell 6 rfl 2 rfl
                        have c3 := m43.bcell 6 rfl 3 rfl
                        have f0 := m43.bfree 6 rfl
                        refine readyG (rs := [16]) (by kernel_rfl) (by simp) ?_
                        refine AllG.last rfl (by kernel_rfl) (fun K hK => ?_) AllG.nil
                        go_simp
                        refine hK.out _ _ ?_
                        clear hK K
                        try simp only [Act.put, List.setIfInBounds_toArray, List.set_cons_zero, List.set_cons_succ]
                        refine anyG_lastP (i := 17) (v := ?_) rfl (by kernel_rfl) (fun _ _ _ h => h) (by rfl) ?_ ?_
                        case refine_2 => (intro w'; go_simp; first | done | with_reducible rfl)
                        try simp only [Act.put, List.setIfInBounds_toArray, List.set_cons_zero, List.set_cons_succ]
                        refine readyG (rs := [18]) (by kernel_rfl) (by simp) ?_
                        refine AllG.last rfl (by kernel_rfl) (fun K hK => ?_) AllG.nil
                        go_simp
                        refine hK.out _ _ ?_
                        clear hK K
                        try simp only [Act.put, List.setIfInBounds_toArray, List.set_cons_zero, List.set_cons_succ]
                        refine anyG_lastP (i := 19) (v := ?_) rfl (by kernel_rfl) (fun _ _ _ h => h) (by rfl) ?_ ?_
                        case refine_2 => (intro w'; go_simp; first | done | with_reducible rfl)
                        try simp only [Act.put, List.setIfInBounds_toArray, List.set_cons_zero, List.set_cons_succ]
                        refine readyG (rs := [20]) (by kernel_rfl) (by simp) ?_
                        refine AllG.last rfl (by kernel_rfl) (fun K hK => ?_) AllG.nil
                        go_simp
                        refine hK.out _ _ ?_
                        clear hK K
                        try simp only [Act.put, List.setIfInBounds_toArray, List.set_cons_zero, List.set_cons_succ]
                        refine doneG (by kernel_rfl) ?_ _
                        refine NoPanic.normal ?_
                        go_wp2_with fail
                        go_roundw
                        case rel =>
                          refine ⟨k + 1, xs37, ys42, zs43, xt37, yt42, zt43, ua ++ [.slice xa j xc], ub ++ [.slice ya j yc], uc ++ [.slice za j zc], by omega, by go_num, ⟨by rw [List.length_append, hl.out.1]; rfl, by rw [List.length_append, hl.out.2.1]; rfl, by rw [List.length_append, hl.out.2.2]; rfl⟩, ?_⟩
                          rw [tb_take hlt, tb_take hlt, tb_take hlt]
                          rw [rowsI_app hla.out, rowsI_app hlb.out, rowsI_app hlc.out]
                          have hz := (((m43.bstore 6 rfl 1 (.slice xs37 (k + 1) xt37)).bstore 6 rfl 2 (.slice ys42 (k + 1) yt42)).bstore 6 rfl 3 (.slice zs43 (k + 1) zt43))
                          simp only [List.set_cons_zero, List.set_cons_succ] at hz
                          have hy := hz.sub ((((List.Sublist.refl _).cons _).cons _).cons _)
                          exact hy.perm (by (try simp only [List.cons_append, List.nil_append, List.append_nil]); classical exact List.perm_iff_count.2 (fun a => by simp only [List.cons_append, List.nil_append, List.append_nil, List.count_append, List.count_cons, List.count_nil] <;> omega))
                        case measure => simp [intOf]; omega
                · go_simp
                  have m44 := m36.newboxF 23 #[.slice za j zc]
                  simp only [World.size_alloc] at m44
                  refine hK.out _ _ ?_ (fun hHeld => ?_)
                  · exact ⟨cell_dr (m44.bcell 6 rfl 1 rfl), cell_dr (m44.bcell 6 rfl 2 rfl), cell_dr (m44.bcell 6 rfl 3 rfl)⟩
                  clear hK K
                  try simp only [Act.put, List.setIfInBounds_toArray, List.set_cons_zero, List.set_cons_succ]
                  refine readyG (rs := [4]) (by kernel_rfl) (by simp) ?_
                  refine AllG.cons rfl (fun K hK => ?_) (AllG.nil)
                  · refine stepAppBox m44.drew 10 rfl (by rw [hl.out.1]; omega) 1 rfl rfl rfl (.tmp 69) (.tmp 71) rfl (by first | rfl | simp [Act.eval, Act.put]) (by first | rfl | simp [Act.eval, Act.put]) ?_
                    intro v45 x45 m45
                    obtain ⟨xs45, xt45, e45⟩ := (m45.rd 10 rfl).sl.sh
                    rw [List.length_append, hl.out.1, List.length_singleton] at e45
                    subst e45
                    refine hK.out _ _ ?_ (fun hHeld => ?_)
                    · exact ⟨m45.bcell 6 rfl 1 rfl, m45.bcell 6 rfl 2 rfl, m45.bcell 6 rfl 3 rfl⟩
                    clear hK K
                    try simp only [Act.put, List.setIfInBounds_toArray, List.set_cons_zero, List.set_cons_succ]
                    refine takeP (i := 15) (v := ?_) rfl (by kernel_rfl) (fun _ _ _ h => h) (by rfl) ?_ (by assumption) ?_
                    case refine_2 => (intro w'; go_simp; first | done | with_reducible rfl)
                    try simp only [Act.put, List.setIfInBounds_toArray, List.set_cons_zero, List.set_cons_succ]
                    refine readyG (rs := [9]) (by kernel_rfl) (by simp) ?_
                    refine AllG.cons rfl (fun K hK => ?_) (AllG.nil)
                    · refine stepAppBox m45 11 rfl (by rw [hl.out.2.1]; omega) 2 rfl rfl rfl (.tmp 74) (.tmp 76) rfl (by first | rfl | simp [Act.eval, Act.put]) (by first | rfl | simp [Act.eval, Act.put]) ?_
                      intro v46 x46 m46
                      obtain ⟨ys46, yt46, e46⟩ := (m46.rd 11 rfl).sl.sh
                      rw [List.length_append, hl.out.2.1, List.length_singleton] at e46
                      subst e46
                      refine hK.out _ _ ?_ (fun hHeld => ?_)
                      · exact ⟨m46.bcell 6 rfl 1 rfl, m46.bcell 6 rfl 2 rfl, m46.bcell 6 rfl 3 rfl⟩
                      clear hK K
                      try simp only [Act.put, List.setIfInBounds_toArray, List.set_cons_zero, List.set_cons_succ]
                      refine readyG (rs := [14]) (by kernel_rfl) (by simp) ?_
                      refine AllG.cons rfl (fun K hK => ?_) (AllG.nil)
                      · refine stepAppBox m46 12 rfl (by rw [hl.out.2.2]; omega) 0 rfl rfl rfl (.tmp 79) (.tmp 81) rfl (by first | rfl | simp [Act.eval, Act.put]) (by first | rfl | simp [Act.eval, Act.put]) ?_
                        intro v47 x47 m47
                        obtain ⟨zs47, zt47, e47⟩ := (m47.rd 12 rfl).sl.sh
                        rw [List.length_append, hl.out.2.2, List.length_singleton] at e47
                        subst e47
                        refine hK.out _ _ ?_ (fun hHeld => ?_)
                        · exact ⟨m47.bcell 6 rfl 1 rfl, m47.bcell 6 rfl 2 rfl, m47.bcell 6 rfl 3 rfl⟩
                        clear hK K
                        try simp only [Act.put, List.setIfInBounds_toArray, List.set_cons_zero, List.set_cons_succ]
                        have c1 := m47.bcell 6 rfl 1 rfl
                        have c2 := m47.bcell 6 rfl 2 rfl
                        have c3 := m47.bcell 6 rfl 3 rfl
                        have f0 := m47.bfree 6 rfl
                        refine readyG (rs := [16]) (by kernel_rfl) (by simp) ?_
                        refine AllG.last rfl (by kernel_rfl) (fun K hK => ?_) AllG.nil
                        go_simp
                        refine hK.out _ _ ?_
                        clear hK K
                        try simp only [Act.put, List.setIfInBounds_toArray, List.set_cons_zero, List.set_cons_succ]
                        refine anyG_lastP (i := 17) (v := ?_) rfl (by kernel_rfl) (fun _ _ _ h => h) (by rfl) ?_ ?_
                        case refine_2 => (intro w'; go_simp; first | done | with_reducible rfl)
                        try simp only [Act.put, List.setIfInBounds_toArray, List.set_cons_zero, List.set_cons_succ]
                        refine readyG (rs := [18]) (by kernel_rfl) (by simp) ?_
                        refine AllG.last rfl (by kernel_rfl) (fun K hK => ?_) AllG.nil
                        go_simp
                        refine hK.out _ _ ?_
                        clear hK K
                        try simp only [Act.put, List.setIfInBounds_toArray, List.set_cons_zero, List.set_cons_succ]
                        refine anyG_lastP (i := 19) (v := ?_) rfl (by kernel_rfl) (fun _ _ _ h => h) (by rfl) ?_ ?_
                        case refine_2 => (intro w'; go_simp; first | done | with_reducible rfl)
                        try simp only [Act.put, List.setIfInBounds_toArray, List.set_cons_zero, List.set_cons_succ]
                        refine readyG (rs := [20]) (by kernel_rfl) (by simp) ?_
                        refine AllG.last rfl (by kernel_rfl) (fun K hK => ?_) AllG.nil
                        go_simp
                        refine hK.out _ _ ?_
                        clear hK K
                        try simp only [Act.put, List.setIfInBounds_toArray, List.set_cons_zero, List.set_cons_succ]
                        refine doneG (by kernel_rfl) ?_ _
                        refine NoPanic.normal ?_
                        go_wp2_with fail
                        go_roundw
                        case rel =>
                          refine ⟨k + 1, xs45, ys46, zs47, xt45, yt46, zt47, ua ++ [.slice xa j xc], ub ++ [.slice ya j yc], uc ++ [.slice za j zc], by omega, by go_num, ⟨by rw [List.length_append, hl.out.1]; rfl, by rw [List.length_append, hl.out.2.1]; rfl, by rw [List.length_append, hl.out.2.2]; rfl⟩, ?_⟩
                          rw [tb_take hlt, tb_take hlt, tb_take hlt]
                          rw [rowsI_app hla.out, rowsI_app hlb.out, rowsI_app hlc.out]
                          have hz := (((m47.bstore 6 rfl 1 (.slice xs45 (k + 1) xt45)).bstore 6 rfl 2 (.slice ys46 (k + 1) yt46)).bstore 6 rfl 3 (.slice zs47 (k + 1) zt47))
                          simp only [List.set_cons_zero, List.set_cons_succ] at hz
                          have hy := hz.sub ((((List.Sublist.refl _).cons _).cons _).cons _)
                          exact hy.perm (by (try simp only [List.cons_append, List.nil_append, List.append_nil]); classical exact List.perm_iff_count.2 (fun a => by simp only [List.cons_append, List.nil_append, List.append_nil, List.count_append, List.count_cons, List.count_nil] <;> omega))
                        case measure => simp [intOf]; omega
              · go_simp
                have m48 := m35.newboxF 23 #[.slice za j zc]
                simp only [World.size_alloc] at m48
                refine hK.out _ _ ?_ (fun hHeld => ?_)
                · exact ⟨cell_dr (m48.bcell 5 rfl 1 rfl), cell_dr (m48.bcell 5 rfl 2 rfl), cell_dr (m48.bcell 5 rfl 3 rfl)⟩
                clear hK K
                try simp only [Act.put, List.setIfInBounds_toArray, List.set_cons_zero, List.set_cons_succ]
                refine readyG (rs := [3]) (by kernel_rfl) (by simp) ?_
                refine AllG.cons rfl (fun K hK => ?_) (AllG.nil)
                · go_simp
                  have m49 := m48.newboxF 23 #[.slice xa j xc]
                  simp only [World.size_alloc] at m49
                  refine hK.out _ _ ?_ (fun hHeld => ?_)
                  · exact ⟨cell_dr (m49.bcell 6 rfl 1 rfl), cell_dr (m49.bcell 6 rfl 2 rfl), cell_dr (m49.bcell 6 rfl 3 rfl)⟩
                  clear hK K
                  try simp only [Act.put, List.setIfInBounds_toArray, List.set_cons_zero, List.set_cons_succ]
                  refine readyG (rs := [4]) (by kernel_rfl) (by simp) ?_
                  refine AllG.cons rfl (fun K hK => ?_) (AllG.nil)
                  · refine stepAppBox m49.drew 10 rfl (by rw [hl.out.1]; omega) 0 rfl rfl rfl (.tmp 69) (.tmp 71) rfl (by first | rfl | simp [Act.eval, Act.put]) (by first | rfl | simp [Act.eval, Act.put]) ?_
                    intro v50 x50 m50
                    obtain ⟨xs50, xt50, e50⟩ := (m50.rd 10 rfl).sl.sh
                    rw [List.length_append, hl.out.1, List.length_singleton] at e50
                    subst e50
                    refine hK.out _ _ ?_ (fun hHeld => ?_)
                    · exact ⟨m50.bcell 6 rfl 1 rfl, m50.bcell 6 rfl 2 rfl, m50.bcell 6 rfl 3 rfl⟩
                    clear hK K
                    try simp only [Act.put, List.setIfInBounds_toArray, List.set_cons_zero, List.set_cons_succ]
                    refine takeP (i := 15) (v := ?_) rfl (by kernel_rfl) (fun _ _ _ h => h) (by rfl) ?_ (by assumption) ?_
                    case refine_2 => (intro w'; go_simp; first | done | with_reducible rfl)
                    try simp only [Act.put, List.setIfInBounds_toArray, List.set_cons_zero, List.set_cons_succ]
                    refine readyG (rs := [9]) (by kernel_rfl) (by simp) ?_
                    refine AllG.cons rfl (fun K hK => ?_) (AllG.nil)
                    · refine stepAppBox m50 11 rfl (by rw [hl.out.2.1]; omega) 2 rfl rfl rfl (.tmp 74) (.tmp 76) rfl (by first | rfl | simp [Act.eval, Act.put]) (by first | rfl | simp [Act.eval, Act.put]) ?_
                      intro v51 x51 m51
                      obtain ⟨ys51, yt51, e51⟩ := (m51.rd 11 rfl).sl.sh
                      rw [List.length_append, hl.out.2.1, List.length_singleton] at e51
                      subst e51
                      refine hK.out _ _ ?_ (fun hHeld => ?_)
                      · exact ⟨m51.bcell 6 rfl 1 rfl, m51.bcell 6 rfl 2 rfl, m51.bcell 6 rfl 3 rfl⟩
                      clear hK K
                      try simp only [Act.put, List.setIfInBounds_toArray, List.set_cons_zero, List.set_cons_succ]
                      refine readyG (rs := [14]) (by kernel_rfl) (by simp) ?_
                      refine AllG.cons rfl (fun K hK => ?_) (AllG.nil)
                      · refine stepAppBox m51 12 rfl (by rw [hl.out.2.2]; omega) 1 rfl rfl rfl (.tmp 79) (.tmp 81) rfl (by first | rfl | simp [Act.eval, Act.put]) (by first | rfl | simp [Act.eval, Act.put]) ?_
                        intro v52 x52 m52
                        obtain ⟨zs52, zt52, e52⟩ := (m52.rd 12 rfl).sl.sh
                        rw [List.length_append, hl.out.2.2, List.length_singleton] at e52
                        subst e52
                        refine hK.out _ _ ?_ (fun hHeld => ?_)
                        · exact ⟨m52.bcell 6 rfl 1 rfl, m52.bcell 6 rfl 2 rfl, m52.bcell 6 rfl 3 rfl⟩
                        clear hK K
                        try simp only [Act.put, List.setIfInBounds_toArray, List.set_cons_zero, List.set_cons_succ]
                        have c1 := m52.bcell 6 rfl 1 rfl
                        have c2 := m52.bcell 6 rfl 2 rfl
                        have c3 := m52.bcell 6 rfl 3 rfl
                        have f0 := m52.bfree 6 rfl
                        refine readyG (rs := [16]) (by kernel_rfl) (by simp) ?_
                        refine AllG.last rfl (by kernel_rfl) (fun K hK => ?_) AllG.nil
                        go_simp
                        refine hK.out _ _ ?_
                        clear hK K
                        try simp only [Act.put, List.setIfInBounds_toArray, List.set_cons_zero, List.set_cons_succ]
                        refine anyG_lastP (i := 17) (v := ?_) rfl (by kernel_rfl) (fun _ _ _ h => h) (by rfl) ?_ ?_
                        case refine_2 => (intro w'; go_simp; first | done | with_reducible rfl)
                        try simp only [Act.put, List.setIfInBounds_toArray, List.set_cons_zero, List.set_cons_succ]
                        refine readyG (rs := [18]) (by kernel_rfl) (by simp) ?_
                        refine AllG.last rfl (by kernel_rfl) (fun K hK => ?_) AllG.nil
                        go_simp
                        refine hK.out _ _ ?_
                        clear hK K
                        try simp only [Act.put, List.setIfInBounds_toArray, List.set_cons_zero, List.set_cons_succ]
                        refine anyG_lastP (i := 19) (v := ?_) rfl (by kernel_rfl) (fun _ _ _ h => h) (by rfl) ?_ ?_
                        case refine_2 => (intro w'; go_simp; first | done | with_reducible rfl)
                        try simp only [Act.put, List.setIfInBounds_toArray, List.set_cons_zero, List.set_cons_succ]
                        refine readyG (rs := [20]) (by kernel_rfl) (by simp) ?_
                        refine AllG.last rfl (by kernel_rfl) (fun K hK => ?_) AllG.nil
                        go_simp
                        refine hK.out _ _ ?_
                        clear hK K
                        try simp only [Act.put, List.setIfInBounds_toArray, List.set_cons_zero, List.set_cons_succ]
                        refine doneG (by kernel_rfl) ?_ _
                        refine NoPanic.normal ?_
                        go_wp2_with fail
                        go_roundw
                        case rel =>
                          refine ⟨k + 1, xs50, ys51, zs52, xt50, yt51, zt52, ua ++ [.slice xa j xc], ub ++ [.slice ya j yc], uc ++ [.slice za j zc], by omega, by go_num, ⟨by rw [List.length_append, hl.out.1]; rfl, by rw [List.length_append, hl.out.2.1]; rfl, by rw [List.length_append, hl.out.2.2]; rfl⟩, ?_⟩
                          rw [tb_take hlt, tb_take hlt, tb_take hlt]
                          rw [rowsI_app hla.out, rowsI_app hlb.out, rowsI_app hlc.out]
                          have hz := (((m52.bstore 6 rfl 1 (.slice xs50 (k + 1) xt50)).bstore 6 rfl 2 (.slice ys51 (k + 1) yt51)).bstore 6 rfl 3 (.slice zs52 (k + 1) zt52))
                          simp only [List.set_cons_zero, List.set_cons_succ] at hz
                          have hy := hz.sub ((((List.Sublist.refl _).cons _).cons _).cons _)
                          exact hy.perm (by (try simp only [List.cons_append, List.nil_append, List.append_nil]); classical exact List.perm_iff_count.2 (fun a => by simp only [List.cons_append, List.nil_append, List.append_nil, List.count_append, List.count_cons, List.count_nil] <;> omega))
                        case measure => simp [intOf]; omega
            · go_simp
              have m53 := hS.newboxF 23 #[.slice za j zc]
              simp only [World.size_alloc] at m53
              refine hK.out _ _ ?_ (fun hHeld => ?_)
              · exact ⟨cell_dr (m53.bcell 4 rfl 1 rfl), cell_dr (m53.bcell 4 rfl 2 rfl), cell_dr (m53.bcell 4 rfl 3 rfl)⟩
              clear hK K
              try simp only [Act.put, List.setIfInBounds_toArray, List.set_cons_zero, List.set_cons_succ]
              refine readyG (rs := [3, 8]) (by kernel_rfl) (by simp) ?_
              refine AllG.cons rfl (fun K hK => ?_) (AllG.cons rfl (fun K hK => ?_) (AllG.nil))
              · go_simp
                have m54 := m53.newboxF 23 #[.slice xa j xc]
                simp only [World.size_alloc] at m54
                refine hK.out _ _ ?_ (fun hHeld => ?_)
                · exact ⟨cell_dr (m54.bcell 5 rfl 1 rfl), cell_dr (m54.bcell 5 rfl 2 rfl), cell_dr (m54.bcell 5 rfl 3 rfl)⟩
                clear hK K
                try simp only [Act.put, List.setIfInBounds_toArray, List.set_cons_zero, List.set_cons_succ]
                refine readyG (rs := [4, 8]) (by kernel_rfl) (by simp) ?_
                refine AllG.cons rfl (fun K hK => ?_) (AllG.cons rfl (fun K hK => ?_) (AllG.nil))
                · refine stepAppBox m54.drew 9 rfl (by rw [hl.out.1]; omega) 0 rfl rfl rfl (.tmp 69) (.tmp 71) rfl (by first | rfl | simp [Act.eval, Act.put]) (by first | rfl | simp [Act.eval, Act.put]) ?_
                  intro v55 x55 m55
                  obtain ⟨xs55, xt55, e55⟩ := (m55.rd 9 rfl).sl.sh
                  rw [List.length_append, hl.out.1, List.length_singleton] at e55
                  subst e55
                  refine hK.out _ _ ?_ (fun hHeld => ?_)
                  · exact ⟨m55.bcell 5 rfl 1 rfl, m55.bcell 5 rfl 2 rfl, m55.bcell 5 rfl 3 rfl⟩
                  clear hK K
                  try simp only [Act.put, List.setIfInBounds_toArray, List.set_cons_zero, List.set_cons_succ]
                  refine takeP (i := 15) (v := ?_) rfl (by kernel_rfl) (fun _ _ _ h => h) (by rfl) ?_ (by assumption) ?_
                  case refine_2 => (intro w'; go_simp; first | done | with_reducible rfl)
                  try simp only [Act.put, List.setIfInBounds_toArray, List.set_cons_zero, List.set_cons_succ]
                  refine readyG (rs := [8]) (by kernel_rfl) (by simp) ?_
                  refine AllG.cons rfl (fun K hK => ?_) (AllG.nil)
                  · go_simp
                    have m56 := m55.newboxF 23 #[.slice ya j yc]
                    simp only [World.size_alloc] at m56
                    refine hK.out _ _ ?_ (fun hHeld => ?_)
                    · exact ⟨id (m56.bcell 6 rfl 1 rfl), id (m56.bcell 6 rfl 2 rfl), id (m56.bcell 6 rfl 3 rfl)⟩
                    clear hK K
                    try simp only [Act.put, List.setIfInBounds_toArray, List.set_cons_zero, List.set_cons_succ]
                    refine readyG (rs := [9]) (by kernel_rfl) (by simp) ?_
                    refine AllG.cons rfl (fun K hK => ?_) (AllG.nil)
                    · refine stepAppBox m56 11 rfl (by rw [hl.out.2.1]; omega) 0 rfl rfl rfl (.tmp 74) (.tmp 76) rfl (by first | rfl | simp [Act.eval, Act.put]) (by first | rfl | simp [Act.eval, Act.put]) ?_
                      intro v57 x57 m57
                      obtain ⟨ys57, yt57, e57⟩ := (m57.rd 11 rfl).sl.sh
                      rw [List.length_append, hl.out.2.1, List.length_singleton] at e57
                      subst e57
                      refine hK.out _ _ ?_ (fun hHeld => ?_)
                      · exact ⟨m57.bcell 6 rfl 1 rfl, m57.bcell 6 rfl 2 rfl, m57.bcell 6 rfl 3 rfl⟩
                      clear hK K
                      try simp only [Act.put, List.setIfInBounds_toArray, List.set_cons_zero, List.set_cons_succ]
                      refine readyG (rs := [14]) (by kernel_rfl) (by simp) ?_
                      refine AllG.cons rfl (fun K hK => ?_) (AllG.nil)
                      · refine stepAppBox m57 12 rfl (by rw [hl.out.2.2]; omega) 2 rfl rfl rfl (.tmp 79) (.tmp 81) rfl (by first | rfl | simp [Act.eval, Act.put]) (by first | rfl | simp [Act.eval, Act.put]) ?_
                        intro v58 x58 m58
                        obtain ⟨zs58, zt58, e58⟩ := (m58.rd 12 rfl).sl.sh
                        rw [List.length_append, hl.out.2.2, List.length_singleton] at e58
                        subst e58
                        refine hK.out _ _ ?_ (fun hHeld => ?_)
                        · exact ⟨m58.bcell 6 rfl 1 rfl, m58.bcell 6 rfl 2 rfl, m58.bcell 6 rfl 3 rfl⟩
                        clear hK K
                        try simp only [Act.put, List.setIfInBounds_toArray, List.set_cons_zero, List.set_cons_succ]
                        have c1 := m58.bcell 6 rfl 1 rfl
                        have c2 := m58.bcell 6 rfl 2 rfl
                        have c3 := m58.bcell 6 rfl 3 rfl
                        have f0 := m58.bfree 6 rfl
                        refine readyG (rs := [16]) (by kernel_rfl) (by simp) ?_
                        refine AllG.last rfl (by kernel_rfl) (fun K hK => ?_) AllG.nil
                        go_simp
                        refine hK.out _ _ ?_
                        clear hK K
                        try simp only [Act.put, List.setIfInBounds_toArray, List.set_cons_zero, List.set_cons_succ]
                        refine anyG_lastP (i := 17) (v := ?_) rfl (by kernel_rfl) (fun _ _ _ h => h) (by rfl) ?_ ?_
                        case refine_2 => (intro w'; go_simp; first | done | with_reducible rfl)
                        try simp only [Act.put, List.setIfInBounds_toArray, List.set_cons_zero, List.set_cons_succ]
                        refine readyG (rs := [18]) (by kernel_rfl) (by simp) ?_
                        refine AllG.last rfl (by kernel_rfl) (fun K hK => ?_) AllG.nil
                        go_simp
                        refine hK.out _ _ ?_
                        clear hK K
                        try simp only [Act.put, List.setIfInBounds_toArray, List.set_cons_zero, List.set_cons_succ]
                        refine anyG_lastP (i := 19) (v := ?_) rfl (by kernel_rfl) (fun _ _ _ h => h) (by rfl) ?_ ?_
                        case refine_2 => (intro w'; go_simp; first | done | with_reducible rfl)
                        try simp only [Act.put, List.setIfInBounds_toArray, List.set_cons_zero, List.set_cons_succ]
                        refine readyG (rs := [20]) (by kernel_rfl) (by simp) ?_
                        refine AllG.last rfl (by kernel_rfl) (fun K hK => ?_) AllG.nil
                        go_simp
                        refine hK.out _ _ ?_
                        clear hK K
                        try simp only [Act.put, List.setIfInBounds_toArray, List.set_cons_zero, List.set_cons_succ]
                        refine doneG (by kernel_rfl) ?_ _
                        refine NoPanic.normal ?_
                        go_wp2_with fail
                        go_roundw
                        case rel =>
                          refine ⟨k + 1, xs55, ys57, zs58, xt55, yt57, zt58, ua ++ [.slice xa j xc], ub ++ [.slice ya j yc], uc ++ [.slice za j zc], by omega, by go_num, ⟨by rw [List.length_append, hl.out.1]; rfl, by rw [List.length_append, hl.out.2.1]; rfl, by rw [List.length_append, hl.out.2.2]; rfl⟩, ?_⟩
                          rw [tb_take hlt, tb_take hlt, tb_take hlt]
                          rw [rowsI_app hla.out, rowsI_app hlb.out, rowsI_app hlc.out]
                          have hz := (((m58.bstore 6 rfl 1 (.slice xs55 (k + 1) xt55)).bstore 6 rfl 2 (.slice ys57 (k + 1) yt57)).bstore 6 rfl 3 (.slice zs58 (k + 1) zt58))
                          simp only [List.set_cons_zero, List.set_cons_succ] at hz
                          have hy := hz.sub ((((List.Sublist.refl _).cons _).cons _).cons _)
                          exact hy.perm (by (try simp only [List.cons_append, List.nil_append, List.append_nil]); classical exact List.perm_iff_count.2 (fun a => by simp only [List.cons_append, List.nil_append, List.append_nil, List.count_append, List.count_cons, List.count_nil] <;> omega))
                        case measure => simp [intOf]; omega
                · go_simp
                  have m59 := m54.newboxF 23 #[.slice ya j yc]
                  simp only [World.size_alloc] at m59
                  refine hK.out _ _ ?_ (fun hHeld => ?_)
                  · exact ⟨cell_dr (m59.bcell 6 rfl 1 rfl), cell_dr (m59.bcell 6 rfl 2 rfl), cell_dr (m59.bcell 6 rfl 3 rfl)⟩
                  clear hK K
                  try simp only [Act.put, List.setIfInBounds_toArray, List.set_cons_zero, List.set_cons_succ]
                  refine readyG (rs := [4]) (by kernel_rfl) (by simp) ?_
                  refine AllG.cons rfl (fun K hK => ?_) (AllG.nil)
                  · refine stepAppBox m59.drew 10 rfl (by rw [hl.out.1]; omega) 1 rfl rfl rfl (.tmp 69) (.tmp 71) rfl (by first | rfl | simp [Act.eval, Act.put]) (by first | rfl | simp [Act.eval, Act.put]) ?_
                    intro v60 x60 m60
                    obtain ⟨xs60, xt60, e60⟩ := (m60.rd 10 rfl).sl.sh
                    rw [List.length_append, hl.out.1, List.length_singleton] at e60
                    subst e60
                    refine hK.out _ _ ?_ (fun hHeld => ?_)
                    · exact ⟨m60.bcell 6 rfl 1 rfl, m60.bcell 6 rfl 2 rfl, m60.bcell 6 rfl 3 rfl⟩
                    clear hK K
                    try simp only [Act.put, List.setIfInBounds_toArray, List.set_cons_zero, List.set_cons_succ]
                    refine takeP (i := 15) (v := ?_) rfl (by kernel_rfl) (fun _ _ _ h => h) (by rfl) ?_ (by assumption) ?_
                    case refine_2 => (intro w'; go_simp; first | done | with_reducible rfl)
                    try simp only [Act.put, List.setIfInBounds_toArray, List.set_cons_zero, List.set_cons_succ]
                    refine readyG (rs := [9]) (by kernel_rfl) (by simp) ?_
                    refine AllG.cons rfl (fun K hK => ?_) (AllG.nil)
                    · refine stepAppBox m60 11 rfl (by rw [hl.out.2.1]; omega) 0 rfl rfl rfl (.tmp 74) (.tmp 76) rfl (by first | rfl | simp [Act.eval, Act.put]) (by first | rfl | simp [Act.eval, Act.put]) ?_
                      intro v61 x61 m61
                      obtain ⟨ys61, yt61, e61⟩ := (m61.rd 11 rfl).sl.sh
                      rw [List.length_append, hl.out.2.1, List.length_singleton] at e61
                      subst e61
                      refine hK.out _ _ ?_ (fun hHeld => ?_)
                      · exact ⟨m61.bcell 6 rfl 1 rfl, m61.bcell 6 rfl 2 rfl, m61.bcell 6 rfl 3 rfl⟩
                      clear hK K
                      try simp only [Act.put, List.setIfInBounds_toArray, List.set_cons_zero, List.set_cons_succ]
                      refine readyG (rs := [14]) (by kernel_rfl) (by simp) ?_
                      refine AllG.cons rfl (fun K hK => ?_) (AllG.nil)
                      · refine stepAppBox m61 12 rfl (by rw [hl.out.2.2]; omega) 2 rfl rfl rfl (.tmp 79) (.tmp 81) rfl (by first | rfl | simp [Act.eval, Act.put]) (by first | rfl | simp [Act.eval, Act.put]) ?_
                        intro v62 x62 m62
                        obtain ⟨zs62, zt62, e62⟩ := (m62.rd 12 rfl).sl.sh
                        rw [List.length_append, hl.out.2.2, List.length_singleton] at e62
                        subst e62
                        refine hK.out _ _ ?_ (fun hHeld => ?_)
                        · exact ⟨m62.bcell 6 rfl 1 rfl, m62.bcell 6 rfl 2 rfl, m62.bcell 6 rfl 3 rfl⟩
                        clear hK K
                        try simp only [Act.put, List.setIfInBounds_toArray, List.set_cons_zero, List.set_cons_succ]
                        have c1 := m62.bcell 6 rfl 1 rfl
                        have c2 := m62.bcell 6 rfl 2 rfl
                        have c3 := m62.bcell 6 rfl 3 rfl
                        have f0 := m62.bfree 6 rfl
                        refine readyG (rs := [16]) (by kernel_rfl) (by simp) ?_
                        refine AllG.last rfl (by kernel_rfl) (fun K hK => ?_) AllG.nil
                        go_simp
                        refine hK.out _ _ ?_
                        clear hK K
                        try simp only [Act.put, List.setIfInBounds_toArray, List.set_cons_zero, List.set_cons_succ]
                        refine anyG_lastP (i := 17) (v := ?_) rfl (by kernel_rfl) (fun _ _ _ h => h) (by rfl) ?_ ?_
                        case refine_2 => (intro w'; go_simp; first | done | with_reducible rfl)
                        try simp only [Act.put, List.setIfInBounds_toArray, List.set_cons_zero, List.set_cons_succ]
                        refine readyG (rs := [18]) (by kernel_rfl) (by simp) ?_
                        refine AllG.last rfl (by kernel_rfl) (fun K hK => ?_) AllG.nil
                        go_simp
                        refine hK.out _ _ ?_
                        clear hK K
                        try simp only [Act.put, List.setIfInBounds_toArray, List.set_cons_zero, List.set_cons_succ]
                        refine anyG_lastP (i := 19) (v := ?_) rfl (by kernel_rfl) (fun _ _ _ h => h) (by rfl) ?_ ?_
                        case refine_2 => (intro w'; go_simp; first | done | with_reducible rfl)
                        try simp only [Act.put, List.setIfInBounds_toArray, List.set_cons_zero, List.set_cons_succ]
                        refine readyG (rs := [20]) (by kernel_rfl) (by simp) ?_
                        refine AllG.last rfl (by kernel_rfl) (fun K hK => ?_) AllG.nil
                        go_simp
                        refine hK.out _ _ ?_
                        clear hK K
                        try simp only [Act.put, List.setIfInBounds_toArray, List.set_cons_zero, List.set_cons_succ]
                        refine doneG (by kernel_rfl) ?_ _
                        refine NoPanic.normal ?_
                        go_wp2_with fail
                        go_roundw
                        case rel =>
                          refine ⟨k + 1, xs60, ys61, zs62, xt60, yt61, zt62, ua ++ [.slice xa j xc], ub ++ [.slice ya j yc], uc ++ [.slice za j zc], by omega, by go_num, ⟨by rw [List.length_append, hl.out.1]; rfl, by rw [List.length_append, hl.out.2.1]; rfl, by rw [List.length_append, hl.out.2.2]; rfl⟩, ?_⟩
                          rw [tb_take hlt, tb_take hlt, tb_take hlt]
                          rw [rowsI_app hla.out, rowsI_app hlb.out, rowsI_app hlc.out]
                          have hz := (((m62.bstore 6 rfl 1 (.slice xs60 (k + 1) xt60)).bstore 6 rfl 2 (.slice ys61 (k + 1) yt61)).bstore 6 rfl 3 (.slice zs62 (k + 1) zt62))
                          simp only [List.set_cons_zero, List.set_cons_succ] at hz
                          have hy := hz.sub ((((List.Sublist.refl _).cons _).cons _).cons _)
                          exact hy.perm (by (try simp only [List.cons_append, List.nil_append, List.append_nil]); classical exact List.perm_iff_count.2 (fun a => by simp only [List.cons_append, List.nil_append, List.append_nil, List.count_append, List.count_cons, List.count_nil] <;> omega))
                        case measure => simp [intOf]; omega
              · go_simp
                have m63 := m53.newboxF 23 #[.slice ya j yc]
                simp only [World.size_alloc] at m63
                refine hK.out _ _ ?_ (fun hHeld => ?_)
                · exact ⟨cell_dr (m63.bcell 5 rfl 1 rfl), cell_dr (m63.bcell 5 rfl 2 rfl), cell_dr (m63.bcell 5 rfl 3 rfl)⟩
                clear hK K
                try simp only [Act.put, List.setIfInBounds_toArray, List.set_cons_zero, List.set_cons_succ]
                refine readyG (rs := [3]) (by kernel_rfl) (by simp) ?_
                refine AllG.cons rfl (fun K hK => ?_) (AllG.nil)
                · go_simp
                  have m64 := m63.newboxF 23 #[.slice xa j xc]
                  simp only [World.size_alloc] at m64
                  refine hK.out _ _ ?_ (fun hHeld => ?_)
                  · exact ⟨cell_dr (m64.bcell 6 rfl 1 rfl), cell_dr (m64.bcell 6 rfl 2 rfl), cell_dr (m64.bcell 6 rfl 3 rfl)⟩
                  clear hK K
                  try simp only [Act.put, List.setIfInBounds_toArray, List.set_cons_zero, List.set_cons_succ]
                  refine readyG (rs := [4]) (by kernel_rfl) (by simp) ?_
                  refine AllG.cons rfl (fun K hK => ?_) (AllG.nil)
                  · refine stepAppBox m64.drew 10 rfl (by rw [hl.out.1]; omega) 0 rfl rfl rfl (.tmp 69) (.tmp 71) rfl (by first | rfl | simp [Act.eval, Act.put]) (by first | rfl | simp [Act.eval, Act.put]) ?_
                    intro v65 x65 m65
                    obtain ⟨xs65, xt65, e65⟩ := (m65.rd 10 rfl).sl.sh
                    rw [List.length_append, hl.out.1, List.length_singleton] at e65
                    subst e65
                    refine hK.out _ _ ?_ (fun hHeld => ?_)
                    · exact ⟨m65.bcell 6 rfl 1 rfl, m65.bcell 6 rfl 2 rfl, m65.bcell 6 rfl 3 rfl⟩
                    clear hK K
                    try simp only [Act.put, List.setIfInBounds_toArray, List.set_cons_zero, List.set_cons_succ]
                    refine takeP (i := 15) (v := ?_) rfl (by kernel_rfl) (fun _ _ _ h => h) (by rfl) ?_ (by assumption) ?_
                    case refine_2 => (intro w'; go_simp; first | done | with_reducible rfl)
                    try simp only [Act.put, List.setIfInBounds_toArray, List.set_cons_zero, List.set_cons_succ]
                    refine readyG (rs := [9]) (by kernel_rfl) (by simp) ?_
                    refine AllG.cons rfl (fun K hK => ?_) (AllG.nil)
                    · refine stepAppBox m65 11 rfl (by rw [hl.out.2.1]; omega) 1 rfl rfl rfl (.tmp 74) (.tmp 76) rfl (by first | rfl | simp [Act.eval, Act.put]) (by first | rfl | simp [Act.eval, Act.put]) ?_
                      intro v66 x66 m66
                      obtain ⟨ys66, yt66, e66⟩ := (m66.rd 11 rfl).sl.sh
                      rw [List.length_append, hl.out.2.1, List.length_singleton] at e66
                      subst e66
                      refine hK.out _ _ ?_ (fun hHeld => ?_)
                      · exact ⟨m66.bcell 6 rfl 1 rfl, m66.bcell 6 rfl 2 rfl, m66.bcell 6 rfl 3 rfl⟩
                      clear hK K
                      try simp only [Act.put, List.setIfInBounds_toArray, List.set_cons_zero, List.set_cons_succ]
                      refine readyG (rs := [14]) (by kernel_rfl) (by simp) ?_
                      refine AllG.cons rfl (fun K hK => ?_) (AllG.nil)
                      · refine stepAppBox m66 12 rfl (by rw [hl.out.2.2]; omega) 2 rfl rfl rfl (.tmp 79) (.tmp 81) rfl (by first | rfl | simp [Act.eval, Act.put]) (by first | rfl | simp [Act.eval, Act.put]) ?_
                        intro v67 x67 m67
                        obtain ⟨zs67, zt67, e67⟩ := (m67.rd 12 rfl).sl.sh
                        rw [List.length_append, hl.out.2.2, List.length_singleton] at e67
                        subst e67
                        refine hK.out _ _ ?_ (fun hHeld => ?_)
                        · exact ⟨m67.bcell 6 rfl 1 rfl, m67.bcell 6 rfl 2 rfl, m67.bcell 6 rfl 3 rfl⟩
                        clear hK K
                        try simp only [Act.put, List.setIfInBounds_toArray, List.set_cons_zero, List.set_cons_succ]
                        have c1 := m67.bcell 6 rfl 1 rfl
                        have c2 := m67.bcell 6 rfl 2 rfl
                        have c3 := m67.bcell 6 rfl 3 rfl
                        have f0 := m67.bfree 6 rfl
                        refine readyG (rs := [16]) (by kernel_rfl) (by simp) ?_
                        refine AllG.last rfl (by kernel_rfl) (fun K hK => ?_) AllG.nil
                        go_simp
                        refine hK.out _ _ ?_
                        clear hK K
                        try simp only [Act.put, List.setIfInBounds_toArray, List.set_cons_zero, List.set_cons_succ]
                        refine anyG_lastP (i := 17) (v := ?_) rfl (by kernel_rfl) (fun _ _ _ h => h) (by rfl) ?_ ?_
                        case refine_2 => (intro w'; go_simp; first | done | with_reducible rfl)
                        try simp only [Act.put, List.setIfInBounds_toArray, List.set_cons_zero, List.set_cons_succ]
                        refine readyG (rs := [18]) (by kernel_rfl) (by simp) ?_
                        refine AllG.last rfl (by kernel_rfl) (fun K hK => ?_) AllG.nil
                        go_simp
                        refine hK.out _ _ ?_
                        clear hK K
                        try simp only [Act.put, List.setIfInBounds_toArray, List.set_cons_zero, List.set_cons_succ]
                        refine anyG_lastP (i := 19) (v := ?_) rfl (by kernel_rfl) (fun _ _ _ h => h) (by rfl) ?_ ?_
                        case refine_2 => (intro w'; go_simp; first | done | with_reducible rfl)
                        try simp only [Act.put, List.setIfInBounds_toArray, List.set_cons_zero, List.set_cons_succ]
                        refine readyG (rs := [20]) (by kernel_rfl) (by simp) ?_
                        refine AllG.last rfl (by kernel_rfl) (fun K hK => ?_) AllG.nil
                        go_simp
                        refine hK.out _ _ ?_
                        clear hK K
                        try simp only [Act.put, List.setIfInBounds_toArray, List.set_cons_zero, List.set_cons_succ]
                        refine doneG (by kernel_rfl) ?_ _
                        refine NoPanic.normal ?_
                        go_wp2_with fail
                        go_roundw
                        case rel =>
                          refine ⟨k + 1, xs65, ys66, zs67, xt65, yt66, zt67, ua ++ [.slice xa j xc], ub ++ [.slice ya j yc], uc ++ [.slice za j zc], by omega, by go_num, ⟨by rw [List.length_append, hl.out.1]; rfl, by rw [List.length_append, hl.out.2.1]; rfl, by rw [List.length_append, hl.out.2.2]; rfl⟩, ?_⟩
                          rw [tb_take hlt, tb_take hlt, tb_take hlt]
                          rw [rowsI_app hla.out, rowsI_app hlb.out, rowsI_app hlc.out]
                          have hz := (((m67.bstore 6 rfl 1 (.slice xs65 (k + 1) xt65)).bstore 6 rfl 2 (.slice ys66 (k + 1) yt66)).bstore 6 rfl 3 (.slice zs67 (k + 1) zt67))
                          simp only [List.set_cons_zero, List.set_cons_succ] at hz
                          have hy := hz.sub ((((List.Sublist.refl _).cons _).cons _).cons _)
                          exact hy.perm (by (try simp only [List.cons_append, List.nil_append, List.append_nil]); classical exact List.perm_iff_count.2 (fun a => by simp only [List.cons_append, List.nil_append, List.append_nil, List.count_append, List.count_cons, List.count_nil] <;> omega))
                        case measure => simp [intOf]; omega
    · obtain rfl : k = q := by omega
      rw [List.take_of_length_le (by rw [tb_len]; omega), List.take_of_length_le (by rw [tb_len]; omega), List.take_of_length_le (by rw [tb_len]; omega)] at hS
      have d0 := hS.bcell 0 rfl 0 rfl
      have d1 := hS.bcell 0 rfl 1 rfl
      have d2 := hS.bcell 0 rfl 2 rfl
      have d3 := hS.bcell 0 rfl 3 rfl
      have d4 := hS.bcell 0 rfl 4 rfl
      have e0 := hS.bcell 1 rfl 0 rfl
      have e1 := hS.bcell 1 rfl 1 rfl
      have e2 := hS.bcell 1 rfl 2 rfl
      have e3 := hS.bcell 1 rfl 3 rfl
      have e4 := hS.bcell 1 rfl 4 rfl
      have f1 := hS.bfree 1 rfl
      go_wp2_with fail
      have hS9 := ((((hS.bstore 1 rfl 0 (.int .i64 k)).bstore 1 rfl 1 (.slice aa k ca)).bstore 1 rfl 2 (.slice ab k cb)).bstore 1 rfl 3 (.slice ac k cc)).bstore 1 rfl 4 (.slice ai k ci)
      refine bodyPost_ret (v := .agg #[.int .i64 k, .slice aa k ca, .slice ab k cb, .slice ac k cc, .slice ai k ci]) (by simp [results, Try.results102, go_sem, e0, e1, e2, e3, e4]) rfl ?_
      refine ⟨_, ua, _, ub, _, uc, _, by rw [Hq.out], by rw [hl.out.1, Hq.out], by rw [hl.out.2.1, Hq.out], by rw [hl.out.2.2, Hq.out], ?_⟩
      rw [Hq.out]
      simp only [List.set_cons_zero, List.set_cons_succ] at hS9
      have hy := hS9.sub ((((List.Sublist.refl _).cons _).cons _).cons _)
      rw [show invP p D xs k k 0 = invT p D xs by have h := invP_end p D xs 0; rw [Hq.out] at h; exact h] at hy
      exact hy.perm (by (try simp only [List.cons_append, List.nil_append, List.append_nil, own2]); classical exact List.perm_iff_count.2 (fun a => by simp only [List.cons_append, List.nil_append, List.append_nil, List.count_append, List.count_cons, List.count_nil] <;> omega))
end Go.Proofs.Ytcenabaklokhhaa
