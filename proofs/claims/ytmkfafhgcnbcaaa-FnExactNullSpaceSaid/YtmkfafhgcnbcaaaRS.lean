/- Walks: the reference's operations on rows. Walks: the reference's row reduction. -/
import Derived.Test.YtmkfafhgcnbcaaaDot
import Derived.Test.YtmkfafhgcnbcaaaTimes
import Derived.Test.YtmkfafhgcnbcaaaPRed
import Derived.Test.YtmkfafhgcnbcaaaRed
namespace Go.Proofs.Ytmkfafhgcnbcaaa
set_option linter.unusedSimpArgs false
set_option linter.unusedVariables false
open Go.RowKit
attribute [local go_sem ↓] Go.wp_at_zero Go.wp_at_succ


set_option maxHeartbeats 4000000 in
set_option maxRecDepth 100000 in
theorem l17Own_c (vM : Value) (uM : List Value) (m : List (List Int)) (w : World) (hM : RII w vM uM m) (hm : m.length ≤ 4096) (hr : ∀ r ∈ m, r.length ≤ 4096) :
    Calls Try.prog 116 #[vM] w (MakesII w m) := by
  have hlm := hM.len
  have Hr := Lib.hid hr
  clear hr
  have hS0 := (St.refl w).new 22 #[] (by simp)
  go_enter Try.func116, Try.ntmps116
  go_wp2_with fail
  go_loopw [3, 4] (fun o i wr => ∃ (k : Nat) (a : Option Addr) (c : Nat) (ws : List Value), k ≤ m.length ∧ i = .int .i64 k ∧ o = .slice a k c ∧ Hid (ws.length = k) ∧ St w.heap.size w wr (own2 (.slice a k c) ws (m.take k))) (fun _ i _ => m.length - (intOf i).toNat)
  case atStart => exact ⟨0, _, 0, [], by omega, rfl, rfl, rfl, hS0⟩
  case round =>
    obtain ⟨k, a, c, ws, hk, rfl, rfl, hw, hS⟩ := hrel
    by_cases hlt : k < m.length
    · have hck := (hS.oldII hM).cell k hlt
      have hxk := (hS.oldII hM).ixe (k : Int) k rfl hlt
      have hown := Lib.hid (l00Own_c (vat uM k) (xat m k) wr ((hS.oldII hM).row k hlt) (by have := Hr.out _ (xat_mem hlt); omega))
      have hlw := Lib.hid (show ws.length = (m.take k).length by rw [hw.out, List.length_take]; omega)
      have Hsn := Lib.hid (take_xat hlt)
      go_wp2_with fail
      refine hown.out.mono ?_
      rintro e w2 ⟨v2, rfl, h2⟩
      obtain ⟨la, lc, hle⟩ := (h2.rdI 0 rfl).shp'
      subst hle
      have hS2 := hS.call h2
      go_wp2_with (at_builtin; refine appII hS2 0 rfl (by rw [hw.out]; omega) rfl _ _ rfl rfl _ rfl rfl ?_; intro v5 w5 hS5; obtain ⟨oa, oc, hoe⟩ := (hS5.rd 0 rfl).sl.sh; rw [List.length_append, hw.out, List.length_singleton] at hoe; subst hoe)
      go_roundw
      case rel =>
        refine ⟨k + 1, oa, oc, ws ++ [.slice la (xat m k).length lc], by omega, by go_num, rfl, by simp [Hid, hw.out], ?_⟩
        rw [Hsn.out, own2, rowsI_app hlw.out]
        exact hS5
      case measure => simp [intOf]; omega
    · obtain rfl : k = m.length := by omega
      rw [List.take_length] at hS
      go_wp2_with fail
      go_ret
      exact ⟨_, ws, rfl, hw.out, hS⟩

/-- a list whose first k places are made -/
theorem tab_snoc (k : Nat) (f : Nat → Int) : tab (k + 1) f = tab k f ++ [f k] := by simp [tab, List.range_succ]

set_option maxHeartbeats 4000000 in
set_option maxRecDepth 100000 in
theorem l17Scale_c (p : Int) (D : Nat) (g : Nat) (v : Value) (fs : List Int) (vx : Value) (xs : List Int) (c : Int) (w : World)
    (hv : RdI w v fs) (hbx : BoxF w g p D v) (hf : FV p D fs) (hx : RdI w vx xs) (hl : xs.length ≤ 4096) (hxi : In (p ^ D) xs) (hce : El p D c) :
    Calls Try.prog 123 #[.pointer (some ⟨g, 0, none⟩), vx, .int .i64 c] w (MakesI w (tab xs.length fun k => fmul p D fs (cf xs k) c)) := by
  have HF := Lib.hid hf
  have HB := Lib.hid hbx
  have Hx := Lib.hid hxi
  have Hc := Lib.hid (hce.lim hf)
  clear hf hxi hbx hce
  have hlx := hx.len
  have hS0 := (St.refl w).new 2 #[] (by simp)
  go_enter Try.func123, Try.ntmps123
  go_wp2_with fail
  go_loopw [7, 8] (fun o i wr => ∃ k : Nat, k ≤ xs.length ∧ i = .int .i64 k ∧ St w.heap.size w wr [row 2 o (iv (tab k fun k => fmul p D fs (cf xs k) c))]) (fun _ i _ => xs.length - (intOf i).toNat)
  case atStart => exact ⟨0, by omega, rfl, hS0⟩
  case round =>
    obtain ⟨k, hk, rfl, hS⟩ := hrel
    by_cases hlt : k < xs.length
    · have hcx := (hS.oldI hx).cell k hlt
      have hxx := (hS.oldI hx).ixe (k : Int) k rfl hlt
      rw [show nth xs k = cf xs k from rfl] at hcx
      have Ha := Lib.hid (show 0 ≤ cf xs k ∧ cf xs k ≤ 1000000 from (Hx.out.el hlt).lim HF.out)
      have hmul := Lib.hid (l03Mul_c p D g v fs (cf xs k) c wr (hS.oldI hv) (hS.oldF HB.out) HF.out Ha.out.1 Ha.out.2 Hc.out.1 Hc.out.2)
      go_wp2_with fail
      refine hmul.out.mono ?_
      rintro e w2 ⟨rfl, h2⟩
      have hS2 := hS.call0 h2
      go_wp2_with (at_builtin; refine appI hS2 0 rfl (by rw [tab_len]; omega) rfl _ _ rfl rfl _ rfl ?_; intro v4 w4 hS4)
      go_roundw
      case rel => exact ⟨k + 1, by omega, by go_num, by rw [tab_snoc]; exact hS4⟩
      case measure => simp [intOf]; omega
    · obtain rfl : k = xs.length := by omega
      go_wp2_with fail
      go_ret
      exact ⟨_, rfl, hS⟩

set_option maxHeartbeats 4000000 in
set_option maxRecDepth 100000 in
theorem l17Less_c (p : Int) (D : Nat) (g : Nat) (v : Value) (fs : List Int) (vx vy : Value) (xs ys : List Int) (c : Int) (w : World)
    (hv : RdI w v fs) (hbx : BoxF w g p D v) (hf : FV p D fs) (hx : RdI w vx xs) (hy : RdI w vy ys) (hl : xs.length ≤ 4096) (hxy : xs.length ≤ ys.length) (hxi : In (p ^ D) xs) (hyi : In (p ^ D) ys) (hce : El p D c) :
    Calls Try.prog 118 #[.pointer (some ⟨g, 0, none⟩), vx, vy, .int .i64 c] w (MakesI w (tab xs.length fun k => fsum p D (cf xs k) (fmul p D fs (cf ys k) c) (p - 1))) := by
  have HF := Lib.hid hf
  have HB := Lib.hid hbx
  have Hx := Lib.hid hxi
  have Hy := Lib.hid hyi
  have Hc := Lib.hid (hce.lim hf)
  have p2 := hf.p2
  have p64 := hf.p64
  clear hf hxi hbx hce hyi
  have hlx := hx.len
  have hS0 := (St.refl w).new 2 #[] (by simp)
  go_enter Try.func118, Try.ntmps118
  go_wp2_with fail
  go_loopw [9, 10] (fun o i wr => ∃ k : Nat, k ≤ xs.length ∧ i = .int .i64 k ∧ St w.heap.size w wr [row 2 o (iv (tab k fun k => fsum p D (cf xs k) (fmul p D fs (cf ys k) c) (p - 1)))]) (fun _ i _ => xs.length - (intOf i).toNat)
  case atStart => exact ⟨0, by omega, rfl, hS0⟩
  case round =>
    obtain ⟨k, hk, rfl, hS⟩ := hrel
    by_cases hlt : k < xs.length
    · have hly : k < ys.length := by omega
      have hcx := (hS.oldI hx).cell k hlt
      have hxx := (hS.oldI hx).ixe (k : Int) k rfl hlt
      rw [show nth xs k = cf xs k from rfl] at hcx
      have hcy := (hS.oldI hy).cell k hly
      have hxy := (hS.oldI hy).ixe (k : Int) k rfl hly
      rw [show nth ys k = cf ys k from rfl] at hcy
      have b0 := (hS.oldF HB.out).1
      have Ha := Lib.hid (show 0 ≤ cf xs k ∧ cf xs k ≤ 1000000 from (Hx.out.el hlt).lim HF.out)
      have Hb := Lib.hid (show 0 ≤ cf ys k ∧ cf ys k ≤ 1000000 from (Hy.out.el hly).lim HF.out)
      have Hm := Lib.hid ((fmul_el HF.out.fa (cf ys k) c).lim HF.out)
      have Hml := Lib.hid (show (tab k fun k => fsum p D (cf xs k) (fmul p D fs (cf ys k) c) (p - 1)).length < 4294967296 by rw [tab_len]; omega)
      have Hps := Lib.hid (show 0 ≤ p - 1 ∧ p - 1 ≤ 64 by omega)
      have hw := IntWalk.i64_in (p - 1) (by omega)
      go_wp2_with fail
      go_region_held3 (fun w' => w'.cell? (el vx k) = some (.int .i64 (cf xs k)) ∧ w'.cell? (el vy k) = some (.int .i64 (cf ys k)) ∧ w'.cell? ⟨g, 0, none⟩ = some (.int .i64 p)) (((try dsimp only); (repeat' apply And.intro); all_goals (repeat (first | assumption | exact cell_dr (by assumption) | refine cell_dr ?_ | refine cell_al ?_ | refine cell_sc (by assumption) ?_))))
        (first
        | (go_at_call 112; refine (l03Mul_c p D g v fs _ _ _ (hS.drew.oldI hv) (hS.drew.oldF HB.out) HF.out Hb.out.1 Hb.out.2 Hc.out.1 Hc.out.2).mono ?_; rintro e w2 ⟨rfl, h2⟩; have hS2 := hS.drew.call0 h2; have f0 := (hS2.oldI hx).cell k hlt; have f1 := (hS2.oldI hy).cell k hly; have f2 := (hS2.oldF HB.out).1)
        | (go_at_call 111; refine (l03Sum_c p D g v fs _ _ _ _ (hS2.oldF HB.out) HF.out Ha.out.1 Ha.out.2 Hm.out.1 Hm.out.2 Hps.out.1 Hps.out.2).mono ?_; rintro e w3 ⟨rfl, h3⟩; have hS3 := hS2.call0 h3; have f3 := (hS3.oldI hx).cell k hlt; have f4 := (hS3.oldI hy).cell k hly; have f5 := (hS3.oldF HB.out).1)
        | (refine stepI1 hS3 0 rfl Hml.out rfl (.tmp 18) (.tmp 37) rfl (by first | rfl | simp [Act.eval, Act.put]) _ (by first | rfl | simp [Act.eval, Act.put]) ?_; intro v5 w5 hS5; have f6 := (hS5.oldI hx).cell k hlt; have f7 := (hS5.oldI hy).cell k hly; have f8 := (hS5.oldF HB.out).1))
      all_goals
        go_wp2_with fail
        go_roundw
        case rel => exact ⟨k + 1, by omega, by go_num, by rw [tab_snoc]; exact hS5⟩
        case measure => simp [intOf]; omega
    · obtain rfl : k = xs.length := by omega
      go_wp2_with fail
      go_ret
      exact ⟨_, rfl, hS⟩

set_option maxHeartbeats 4000000 in
set_option maxRecDepth 100000 in
theorem l03Inverse_c (p : Int) (D : Nat) (g : Nat) (v : Value) (fs : List Int) (a : Int) (w : World)
    (hv : RdI w v fs) (hbx : BoxF w g p D v) (hf : FV p D fs) (ha : El p D a) (h0 : a ≠ 0) :
    Calls Try.prog 117 #[.pointer (some ⟨g, 0, none⟩), .int .i64 a] w (GivesI w (finv p D fs a)) := by
  have HF := Lib.hid hf
  have HB := Lib.hid hbx
  have Ha := Lib.hid (ha.lim hf)
  have hi := finv_ok hf ha h0
  have hne : finv p D fs a ≠ 0 := by
    intro e
    have h1 := hi.2
    rw [e, fmul_zero hf.fa] at h1
    omega
  have h64 := hf.q64
  obtain ⟨nn, hnn⟩ := Int.eq_ofNat_of_zero_le hi.1.1
  have hlt : nn < 64 := by have := hi.1.2; omega
  have h1n : 1 ≤ nn := by omega
  have Hone := Lib.hid (show fmul p D fs a nn = 1 by rw [← hnn]; exact hi.2)
  have Hno := Lib.hid (show ∀ b : Nat, b < nn → fmul p D fs a b ≠ 1 from fun b hb e => by
    have := finv_eq hf ha h0 ⟨by omega, by have := hi.1.2; omega⟩ e
    omega)
  have Hnn := Lib.hid hnn
  clear hf hbx ha h0 hi hne h64 hnn
  go_enter Try.func117, Try.ntmps117
  go_wp2_with fail
  go_loopw [5] (fun b wr => ∃ k : Nat, 1 ≤ k ∧ k ≤ nn ∧ b = .int .i64 k ∧ St w.heap.size w wr []) (fun b _ => nn - (intOf b).toNat)
  case atStart => exact ⟨1, by omega, h1n, rfl, St.refl w⟩
  case round =>
    obtain ⟨k, hk1, hk, rfl, hS⟩ := hrel
    have hmul := Lib.hid (l03Mul_c p D g v fs a k wr (hS.oldI hv) (hS.oldF HB.out) HF.out Ha.out.1 Ha.out.2 (by omega) (by omega))
    go_wp2_with fail
    refine hmul.out.mono ?_
    by_cases hkn : k = nn
    · subst hkn
      rw [Hone.out]
      rintro e w2 ⟨rfl, h2⟩
      have hS2 := hS.call0 h2
      go_wp2_with fail
      go_ret
      exact ⟨by rw [Hnn.out]; rfl, hS2⟩
    · have f1 := ne_t (Hno.out k (by omega))
      rintro e w2 ⟨rfl, h2⟩
      have hS2 := hS.call0 h2
      go_wp2_with fail
      go_roundw
      case rel => exact ⟨k + 1, by omega, by omega, by go_num, hS2⟩
      case measure => simp [intOf]; omega


/-- it hands over all rows, and pivots -/
def MakesRR (w : World) (x : List (List Int) × List Int × Int) (e : Ending) (w' : World) : Prop :=
  ∃ v us vp, e = .returned (.tuple #[v, vp]) ∧ us.length = x.1.length ∧ x.2.1.length ≤ x.1.length ∧ St w.heap.size w w' (row 2 vp (iv x.2.1) :: own2 v us x.1)
theorem fnz_is {R : List (List Int)} {t c i : Nat} (h1 : t ≤ i) (h2 : i < R.length) (h3 : cf (ra R i) c ≠ 0) (h4 : ∀ j, t ≤ j → j < i → cf (ra R j) c = 0) : fnz R t c = some i := by
  cases h : fnz R t c with
  | none => exact absurd (fnz_none h h1 h2) h3
  | some k =>
    obtain ⟨k1, k2, k3, k4⟩ := fnz_some h
    rcases Nat.lt_trichotomy i k with hlt | rfl | hgt
    · exact absurd (k4 i h1 hlt) h3
    · rfl
    · exact absurd (h4 k k1 hgt) k3
theorem fnz_no {R : List (List Int)} {t c : Nat} (h4 : ∀ j, t ≤ j → j < R.length → cf (ra R j) c = 0) : fnz R t c = none := by
  cases h : fnz R t c with
  | none => rfl
  | some k =>
    obtain ⟨k1, k2, k3, k4⟩ := fnz_some h
    exact absurd (h4 k k1 k2) k3
theorem set_perm {α : Type} (l : List α) (i : Nat) (x : α) (h : i < l.length) : (l ++ [x]).Perm (l.set i x ++ [l[i]]) := by
  have e1 : l ++ [x] = (l.take i ++ l[i] :: l.drop (i + 1)) ++ [x] := by rw [← List.drop_eq_getElem_cons h, List.take_append_drop]
  have e2 : l.set i x = l.take i ++ x :: l.drop (i + 1) := by rw [List.set_eq_take_append_cons_drop, if_pos h]
  rw [e1, e2]
  classical exact List.perm_iff_count.2 (fun a => by simp only [List.count_append, List.count_cons, List.count_nil]; omega)
/-- a row is replaced by a new one -/
theorem rowsI_new {us : List Value} {R : List (List Int)} (hl : us.length = R.length) {j : Nat} (hj : j < R.length) (u : Value) (r : List Int) :
    ∃ x, (rowsI us R ++ [row 2 u (iv r)]).Perm (rowsI (us.set j u) (R.set j r) ++ [x]) := by
  refine ⟨(rowsI us R)[j]'(by rw [rowsI_len hl]; exact hj), ?_⟩
  have h := set_perm (rowsI us R) j (row 2 u (iv r)) (by rw [rowsI_len hl]; exact hj)
  have e : (rowsI us R).set j (row 2 u (iv r)) = rowsI (us.set j u) (R.set j r) := by
    have hl' : (us.set j u).length = (R.set j r).length := by simpa using hl
    apply List.ext_getElem?
    intro k
    rw [List.getElem?_set]
    by_cases hk : k < R.length
    · rw [rowsI_get hl' (by simpa using hk), vat_set (by omega), show xat (R.set j r) k = if j = k then r else xat R k from ra_set hj]
      by_cases e : j = k
      · subst e; rw [if_pos rfl, if_pos rfl, if_pos rfl, if_pos (by rw [rowsI_len hl]; exact hj)]
      · rw [if_neg e, if_neg e, if_neg e, rowsI_get hl hk]
    · rw [rowsI_no hl' (by simp; omega), if_neg (by omega), rowsI_no hl (by omega)]
  rw [e] at h; exact h

set_option maxHeartbeats 16000000 in
set_option maxRecDepth 100000 in
theorem l17Reduce_c (p : Int) (D : Nat) (g : Nat) (v : Value) (fs : List Int) (vM : Value) (uM : List Value) (m : List (List Int)) (cols N : Nat) (w : World)
    (hv : RdI w v fs) (hbx : BoxF w g p D v) (hf : FV p D fs) (hM : RII w vM uM m) (hcN : cols ≤ N) (hN : N ≤ 4096) (hml : m.length ≤ 4096) (hrect : Rect p D N m) :
    Calls Try.prog 84 #[.pointer (some ⟨g, 0, none⟩), vM, .int .i64 cols] w (MakesRR w (red p D fs cols 0 m [] 1)) := by
  have HF := Lib.hid hf
  have HB := Lib.hid hbx
  have HV := Lib.hid hv
  have Hp := Lib.hid (show 0 < p by have := hf.p2; omega)
  have hcp := fun W (h : RII W vM uM m) => Lib.hid (l17Own_c vM uM m W h hml (fun r hr => by have := (hrect r hr).1; omega))
  have Hre := Lib.hid hrect
  generalize hred : red p D fs cols 0 m [] 1 = X
  have Hred := Lib.hid hred
  clear hred hf hrect hbx hv
  go_enter Try.func84, Try.ntmps84
  go_wp2_with fail
  refine (hcp _ hM).out.mono ?_
  rintro e w1 ⟨vo, ul, rfl, hul, h1⟩
  have Hul := Lib.hid (show ul.length = m.length from hul)
  have h2 : St w.heap.size w _ (own2 vo ul m ++ [row 2 (.slice (some ⟨w1.heap.size, 0, none⟩) 0 0) (iv [])]) := h1.new 2 #[] (by simp)
  have hS1 := h2.perm (L' := row 22 vo ul :: row 2 (.slice (some ⟨w1.heap.size, 0, none⟩) 0 0) (iv []) :: rowsI ul m) (by (try simp only [own2, List.cons_append, List.nil_append, List.append_nil]); classical exact List.perm_iff_count.2 (fun a => by simp only [List.cons_append, List.nil_append, List.append_nil, List.count_append, List.count_cons, List.count_nil] <;> omega))
  clear hcp h1 hul h2
  go_wp2_with fail
  go_loopw [9, 10, 11, 12, 13, 14] (fun vp kk _ _ _ _ wr => ∃ (c : Nat) (ul : List Value) (R : List (List Int)) (piv : List Int) (det : Int), c ≤ cols ∧ kk = .int .i64 c ∧ Hid (ul.length = m.length ∧ R.length = m.length ∧ Rect p D N R) ∧ piv.length ≤ m.length ∧ Hid (piv.length ≤ c) ∧ Hid (red p D fs (cols - c) c R piv det = X) ∧
    St w.heap.size w wr (row 22 vo ul :: row 2 vp (iv piv) :: rowsI ul R)) (fun _ kk _ _ _ _ _ => cols - (intOf kk).toNat)
  case atStart => exact ⟨0, ul, m, [], 1, by omega, rfl, ⟨Hul.out, rfl, Hre.out⟩, by simp, by simp [Hid], Hred.out, hS1⟩
  case round =>
    obtain ⟨c, ul, R, piv, det, hc, rfl, hH, hpm, hpc, hX, hS⟩ := hrel
    have hlR : R.length = m.length := hH.out.2.1
    have HlR := Lib.hid hlR
    have Hlu := Lib.hid (show ul.length = R.length by rw [hH.out.1, hlR])
    have Hrr := Lib.hid (show RII wr vo ul R from (hS.perm (L' := own2 vo ul R ++ [row 2 u9 (iv piv)]) (by (try simp only [own2, List.cons_append, List.nil_append, List.append_nil]); classical exact List.perm_iff_count.2 (fun a => by simp only [List.cons_append, List.nil_append, List.append_nil, List.count_append, List.count_cons, List.count_nil] <;> omega)) |>.sub (List.sublist_append_left _ _)).rii Hlu.out)
    have hlr := Hrr.out.len
    rw [hlR] at hlr
    have hlp := (hS.rdI 1 rfl).len
    clear hlR
    by_cases hcn : c < cols
    · by_cases hpt : piv.length < m.length
      · have hix := Hrr.out.ix
        rw [HlR.out] at hix
        go_wp2_with fail
        go_loopw [12] (fun ii wx => ∃ i : Nat, piv.length ≤ i ∧ i ≤ m.length ∧ ii = .int .i64 i ∧ Hid (∀ j, piv.length ≤ j → j < i → cf (ra R j) c = 0) ∧ wx = wr) (fun ii _ => m.length - (intOf ii).toNat)
        case atStart => exact ⟨piv.length, by omega, by omega, rfl, fun j h1 h2 => by omega, rfl⟩
        case round =>
          obtain ⟨i, hti, him, rfl, hz, rfl⟩ := hrel
          by_cases hil : i < m.length
          · have hiR : i < R.length := by have := HlR.out; omega
            have gi := Hrr.out.row i hiR
            have ci := Hrr.out.cell i hiR
            have xi := Hrr.out.ixe (i : Int) i rfl hiR
            have Hri := Lib.hid (show (ra R i).length = N ∧ In (p ^ D) (ra R i) from hH.out.2.2.ra hiR)
            have hcl : c < (xat R i).length := by rw [show (xat R i).length = N from Hri.out.1]; omega
            have ce := gi.cell c hcl
            have xe := gi.ixe (c : Int) c rfl hcl
            rw [show nth (xat R i) c = cf (ra R i) c from rfl] at ce
            by_cases h0 : cf (ra R i) c = 0
            · have hz' := Lib.hid (show ∀ j, piv.length ≤ j → j < i + 1 → cf (ra R j) c = 0 from fun j h1 h2 => by
                by_cases e : j = i
                · rw [e]; exact h0
                · exact hz.out j h1 (by omega))
              rw [h0] at ce
              clear h0 gi
              go_wp2_with fail
              go_roundw
              case rel => exact ⟨i + 1, by omega, by omega, by go_num, hz'.out, by first | rfl | trivial⟩
              case measure => simp [intOf]; omega
            · have hfz := fnz_is hti hiR h0 hz.out
              have hx' := hX.out
              rw [red_some hcn (by have := HlR.out; omega) hfz] at hx'
              have HX := Lib.hid hx'
              have f1 := eq_f h0
              have H0 := Lib.hid h0
              have f2 := eq_f (show (i : Int) ≠ (m.length : Int) by omega)
              clear hx' hfz gi h0
              go_wp2_with fail
              have hat : (row 22 vo ul :: row 2 u9 (iv piv) :: rowsI ul R)[i + 2]? = some (row 2 (vat ul i) (iv (xat R i))) := rowsI_get Hlu.out hiR
              have hiu : i < ul.length := by have := Hlu.out; omega
              have Hin := Lib.hid (finv_el HF.out (cf (ra R i) c))
              have Hel := Lib.hid (inEl Hp.out Hri.out.2 c)
              go_region_held3 (fun w' => w'.cell? (el vo i) = some (vat ul i) ∧ w'.cell? (el (vat ul i) c) = some (.int .i64 (cf (ra R i) c))) (((try dsimp only); (repeat' apply And.intro); all_goals (repeat (first | assumption | exact cell_dr (by assumption) | refine cell_dr ?_ | refine cell_al ?_ | refine cell_sc (by assumption) ?_))))
                (first
                | (go_at_call 117; refine (l03Inverse_c p D g v fs _ _ (hS.drew.oldI HV.out) (hS.drew.oldF HB.out) HF.out Hel.out H0.out).mono ?_; rintro e w2 ⟨rfl, h2⟩; have hS2 := hS.drew.call0 h2; have g0 := (hS2.rd 0 rfl).cell hiu; have g1 := (hS2.rdI (i + 2) hat).cell c hcl)
                | (go_at_call 123; refine (l17Scale_c p D g v fs (vat ul i) (xat R i) _ _ (hS2.oldI HV.out) (hS2.oldF HB.out) HF.out (hS2.rdI (i + 2) hat) (by rw [show (xat R i).length = N from Hri.out.1]; omega) Hri.out.2 Hin.out).mono ?_; rintro e w3 ⟨vr, rfl, h3⟩; have hS3 := hS2.call h3; have g2 := ((hS3.sub (List.sublist_append_left _ _)).rd 0 rfl).cell hiu; have g3 := ((hS3.sub (List.sublist_append_left _ _)).rdI (i + 2) hat).cell c hcl))
              rw [show (tab (xat R i).length fun k => fmul p D fs (cf (xat R i) k) (finv p D fs (cf (ra R i) c))) = scaleI p D fs (ra R i) c from scaleS_eq HF.out.fa _ _ rfl] at hS3
              have Hst := Lib.hid (show stepR p D fs R piv.length c i = elimP p D fs (swapR p D fs R piv.length c i) (scaleI p D fs (ra R i) c) piv.length c R.length from rfl)
              have HP := Lib.hid (show (scaleI p D fs (ra R i) c).length = N ∧ In (p ^ D) (scaleI p D fs (ra R i) c) from ⟨by rw [scaleI_len]; exact Hri.out.1, scaleI_in HF.out.fa _⟩)
              have htR : piv.length < R.length := by have := HlR.out; omega
              have Hrt := Lib.hid (ra_swapR_t (p := p) (D := D) (fs := fs) (c := c) htR hiR)
              have Hre2 := Lib.hid (hH.out.2.2.swapR (c := c) HF.out.fa htR hiR)
              have Hl2 := Lib.hid (show (swapR p D fs R piv.length c i).length = m.length by rw [swapR_len]; exact HlR.out)
              have Hsw := Lib.hid (show swapR p D fs R piv.length c i = ((R.set piv.length (xat R i)).set i (xat R piv.length)).set piv.length (scaleI p D fs (ra R i) c) from rfl)
              generalize scaleI p D fs (ra R i) c = P at hS3 Hst HP Hrt Hsw
              have hsr := (h3.rdI 0 rfl).sl
              clear h3 h2 hS2 g0 g1 g2 g3 ci ce xe f1
              have hbase : St w.heap.size w w3 (row 22 vo ul :: row 2 u9 (iv piv) :: rowsI ul R) := hS3.sub (List.sublist_append_left _ _)
              have htu : piv.length < ul.length := by have := Hlu.out; omega
              have ct : w3.cell? (el vo piv.length) = some (vat ul piv.length) := (hbase.rd 0 rfl).cell htu
              have gt := (Hrr.out.row piv.length htR).sl
              have xt := Hrr.out.ixe (piv.length : Int) piv.length rfl htR
              have Hcomb := Lib.hid (fun (w5 : World) (h : St w.heap.size w w5 (row 22 vo ((ul.set i (vat ul piv.length)).set piv.length vr) :: row 2 u9 (iv piv) :: (rowsI ul R ++ [row 2 vr (iv P)]))) => (show ∃ us : List Value, us.length = m.length ∧ vat us piv.length = vr ∧ St w.heap.size w w5 (row 22 vo us :: row 2 u9 (iv piv) :: rowsI us (swapR p D fs R piv.length c i)) from by
                refine ⟨((ul.set piv.length (vat ul i)).set i (vat ul piv.length)).set piv.length vr, by simp only [List.length_set]; exact hH.out.1, by rw [vat_set (by simpa using htu), if_pos rfl], ?_⟩
                have e : (ul.set i (vat ul piv.length)).set piv.length vr = ((ul.set piv.length (vat ul i)).set i (vat ul piv.length)).set piv.length vr := by
                  by_cases e : i = piv.length
                  · subst e; rw [List.set_set, List.set_set, List.set_set]
                  · have h1 : (ul.set i (vat ul piv.length)).set piv.length vr = (ul.set piv.length vr).set i (vat ul piv.length) := List.set_comm _ _ e
                    have h2 : ((ul.set piv.length (vat ul i)).set i (vat ul piv.length)).set piv.length vr = ((ul.set piv.length (vat ul i)).set piv.length vr).set i (vat ul piv.length) := List.set_comm _ _ e
                    rw [h1, h2, List.set_set]
                rw [← e, Hsw.out]
                obtain ⟨x, hx⟩ := rowsI_new (us := (ul.set piv.length (vat ul i)).set i (vat ul piv.length)) (R := (R.set piv.length (xat R i)).set i (xat R piv.length)) (by simp only [List.length_set]; exact Hlu.out) (j := piv.length) (by simp only [List.length_set]; exact htR) vr P
                rw [← e] at hx
                have h1 := h.perm ((((rowsI_swap Hlu.out htR hiR).append_right _).cons _).cons _)
                have h2 := h1.perm ((hx.cons _).cons _)
                exact h2.sub (((List.sublist_append_left _ _).cons_cons _).cons_cons _)))
              go_wp2_with (first
                | (refine stoII hS4 0 rfl piv.length (by rw [List.length_set]; exact htu) rfl (.tmp 78) (.tmp 77) rfl rfl vr hsr.cells hsr.one rfl ?_; intro w5 hS5)
                | (refine stoII hS3 0 rfl i hiu rfl (.tmp 74) (.tmp 73) rfl rfl (vat ul piv.length) gt.cells gt.one rfl ?_; intro w4 hS4))
              obtain ⟨us1, hus1, hvr, hS6⟩ := Hcomb.out _ hS5
              clear hS3 hS4 hS5 hbase ct xt hat
              have Hvr := Lib.hid hvr
              have Hus1 := Lib.hid hus1
              rw [← elimP_0 (p := p) (D := D) (fs := fs) (R := swapR p D fs R piv.length c i) (P := P) (t := piv.length) (c := c)] at hS6
              rw [Hst.out, HlR.out] at HX
              generalize swapR p D fs R piv.length c i = R2 at hS6 Hrt Hre2 Hl2 HX
              rw [show xat R i = ra R i from rfl] at *
              have HPt := Lib.hid Hrt.out
              clear Hst Hsw Hcomb hvr hus1 hcl
              go_wp2_with fail
              go_loopw [14] (fun jj wx => ∃ (j : Nat) (us : List Value), j ≤ m.length ∧ jj = .int .i64 j ∧ Hid (us.length = m.length ∧ vat us piv.length = vr) ∧ St w.heap.size w wx (row 22 vo us :: row 2 u9 (iv piv) :: rowsI us (elimP p D fs R2 P piv.length c j))) (fun jj _ => m.length - (intOf jj).toNat)
              case atStart => exact ⟨0, us1, by omega, rfl, ⟨Hus1.out, Hvr.out⟩, hS6⟩
              case round =>
                obtain ⟨j, us, hj, rfl, hus, hS⟩ := hrel
                have Hle := Lib.hid (show us.length = (elimP p D fs R2 P piv.length c j).length by rw [elimP_len, Hl2.out]; exact hus.out.1)
                have Hrr := Lib.hid (show RII _ vo us _ from (hS.perm (L' := own2 vo us (elimP p D fs R2 P piv.length c j) ++ [row 2 u9 (iv piv)]) (by (try simp only [own2, List.cons_append, List.nil_append, List.append_nil]); classical exact List.perm_iff_count.2 (fun a => by simp only [List.cons_append, List.nil_append, List.append_nil, List.count_append, List.count_cons, List.count_nil] <;> omega)) |>.sub (List.sublist_append_left _ _)).rii Hle.out)
                by_cases hjm : j < m.length
                · have hj2 : j < R2.length := by rw [Hl2.out]; exact hjm
                  have Hje := Lib.hid (show j < (elimP p D fs R2 P piv.length c j).length by rw [elimP_len]; exact hj2)
                  have Hxj := Lib.hid (show xat (elimP p D fs R2 P piv.length c j) j = ra R2 j from ra_elimP hj2)
                  by_cases hjt : j = piv.length
                  · have f1 := ne_f (show (j : Int) = (piv.length : Int) by omega)
                    have Hnx := Lib.hid (show elimP p D fs R2 P piv.length c (j + 1) = elimP p D fs R2 P piv.length c j by rw [hjt]; exact elimP_skip)
                    clear hjt
                    go_wp2_with fail
                    go_roundw
                    case rel => exact ⟨j + 1, us, by omega, by go_num, hus, by rw [Hnx.out]; exact hS⟩
                    case measure => simp [intOf]; omega
                  · have f1 := ne_t (show (j : Int) ≠ (piv.length : Int) by omega)
                    have hju : j < us.length := by have := hus.out.1; omega
                    have Hte := Lib.hid (show piv.length < (elimP p D fs R2 P piv.length c j).length by rw [elimP_len, Hl2.out]; exact hpt)
                    have Hxt := Lib.hid (show xat (elimP p D fs R2 P piv.length c j) piv.length = P from (ra_elimP_t (by rw [Hl2.out]; exact hpt)).trans HPt.out)
                    have Hrj := Lib.hid (Hre2.out.ra hj2)
                    have cj := Hrr.out.cell j Hje.out
                    have xj := Hrr.out.ixe (j : Int) j rfl Hje.out
                    have gj := Hrr.out.row j Hje.out
                    rw [Hxj.out] at gj
                    have gp := Hrr.out.row piv.length Hte.out
                    rw [Hxt.out, hus.out.2] at gp
                    have hcj : c < (ra R2 j).length := by rw [Hrj.out.1]; omega
                    have ce := gj.cell c hcj
                    have xe := gj.ixe (c : Int) c rfl hcj
                    rw [show nth (ra R2 j) c = cf (ra R2 j) c from rfl] at ce
                    have Hel := Lib.hid (inEl Hp.out Hrj.out.2 c)
                    have Hgj := Lib.hid gj
                    have Hgp := Lib.hid gp
                    have Hnx := Lib.hid (elimP_set (p := p) (D := D) (fs := fs) (P := P) (c := c) hj2 hjt)
                    have Hlow := Lib.hid (lessS_eq (P := P) (c := c) HF.out.fa Hrj.out.2)
                    have hat : (row 22 vo us :: row 2 u9 (iv piv) :: rowsI us (elimP p D fs R2 P piv.length c j))[j + 2]? = some (row 2 (vat us j) (iv (ra R2 j))) := by
                      have h := rowsI_get Hle.out Hje.out
                      rw [Hxj.out] at h
                      exact h
                    have hHjt := Lib.hid hjt
                    clear hjt gj gp
                    go_wp2_with fail
                    refine regionG (fun w' => w'.cell? (el vo j) = some (vat us j) ∧ w'.cell? (el (vat us j) c) = some (.int .i64 (cf (ra R2 j) c))) 17 (by kernel_rfl) ⟨cell_dr cj, cell_dr ce⟩ (fun hHeld => ?_)
                    refine takeP (i := 0) (v := ?_) rfl (by kernel_rfl) (fun _ _ _ h => h) (by rfl) ?_ (by assumption) ?_
                    case refine_2 => (intro w'; go_simp; first | done | with_reducible rfl)
                    try simp only [Act.put, List.setIfInBounds_toArray, List.set_cons_zero, List.set_cons_succ]
                    refine takeP (i := 1) (v := ?_) rfl (by kernel_rfl) (fun _ _ _ h => h) (by rfl) ?_ (by assumption) ?_
                    case refine_2 => (intro w'; go_simp; first | done | with_reducible rfl)
                    try simp only [Act.put, List.setIfInBounds_toArray, List.set_cons_zero, List.set_cons_succ]
                    refine takeP (i := 2) (v := ?_) rfl (by kernel_rfl) (fun _ _ _ h => h) (by rfl) ?_ (by assumption) ?_
                    case refine_2 => (intro w'; go_simp; first | done | with_reducible rfl)
                    try simp only [Act.put, List.setIfInBounds_toArray, List.set_cons_zero, List.set_cons_succ]
                    refine takeP (i := 3) (v := ?_) rfl (by kernel_rfl) (fun _ _ _ h => h) (by rfl) ?_ (by assumption) ?_
                    case refine_2 => (intro w'; go_simp; first | done | with_reducible rfl)
                    try simp only [Act.put, List.setIfInBounds_toArray, List.set_cons_zero, List.set_cons_succ]
                    refine takeP (i := 4) (v := ?_) rfl (by kernel_rfl) (fun _ _ _ h => h) (by rfl) ?_ (by assumption) ?_
                    case refine_2 => (intro w'; go_simp; first | done | with_reducible rfl)
                    try simp only [Act.put, List.setIfInBounds_toArray, List.set_cons_zero, List.set_cons_succ]
                    refine takeP (i := 5) (v := ?_) rfl (by kernel_rfl) (fun _ _ _ h => h) (by rfl) ?_ (by assumption) ?_
                    case refine_2 => (intro w'; go_simp; first | done | with_reducible rfl)
                    try simp only [Act.put, List.setIfInBounds_toArray, List.set_cons_zero, List.set_cons_succ]
                    refine takeH (i := 6) [15] (v := ?_) rfl (by kernel_rfl) (fun _ _ _ h => h) (by rfl) ?_ (by assumption) ?_
                    case refine_2 => (intro w' hSw; (try dsimp only at hSw); go_simp; first | done | with_reducible rfl)
                    try simp only [Act.put, List.setIfInBounds_toArray, List.set_cons_zero, List.set_cons_succ]
                    refine takeP (i := 7) (v := ?_) rfl (by kernel_rfl) (fun _ _ _ h => h) (by rfl) ?_ (by assumption) ?_
                    case refine_2 => (intro w'; go_simp; first | done | with_reducible rfl)
                    try simp only [Act.put, List.setIfInBounds_toArray, List.set_cons_zero, List.set_cons_succ]
                    refine takeP (i := 8) (v := ?_) rfl (by kernel_rfl) (fun _ _ _ h => h) (by rfl) ?_ (by assumption) ?_
                    case refine_2 => (intro w'; go_simp; first | done | with_reducible rfl)
                    try simp only [Act.put, List.setIfInBounds_toArray, List.set_cons_zero, List.set_cons_succ]
                    refine takeP (i := 9) (v := ?_) rfl (by kernel_rfl) (fun _ _ _ h => h) (by rfl) ?_ (by assumption) ?_
                    case refine_2 => (intro w'; go_simp; first | done | with_reducible rfl)
                    try simp only [Act.put, List.setIfInBounds_toArray, List.set_cons_zero, List.set_cons_succ]
                    refine takeP (i := 10) (v := ?_) rfl (by kernel_rfl) (fun _ _ _ h => h) (by rfl) ?_ (by assumption) ?_
                    case refine_2 => (intro w'; go_simp; first | done | with_reducible rfl)
                    try simp only [Act.put, List.setIfInBounds_toArray, List.set_cons_zero, List.set_cons_succ]
                    refine takeH (i := 11) [13, 14, 15] (v := ?_) rfl (by kernel_rfl) (fun _ _ _ h => h) (by rfl) ?_ (by assumption) ?_
                    case refine_2 => (intro w' hSw; (try dsimp only at hSw); go_simp; first | done | with_reducible rfl)
                    try simp only [Act.put, List.setIfInBounds_toArray, List.set_cons_zero, List.set_cons_succ]
                    refine takeP (i := 12) (v := ?_) rfl (by kernel_rfl) (fun _ _ _ h => h) (by rfl) ?_ (by assumption) ?_
                    case refine_2 => (intro w'; go_simp; first | done | with_reducible rfl)
                    try simp only [Act.put, List.setIfInBounds_toArray, List.set_cons_zero, List.set_cons_succ]
                    refine takeP (i := 13) (v := ?_) rfl (by kernel_rfl) (fun _ _ _ h => h) (by rfl) ?_ (by assumption) ?_
                    case refine_2 => (intro w'; go_simp; first | done | with_reducible rfl)
                    try simp only [Act.put, List.setIfInBounds_toArray, List.set_cons_zero, List.set_cons_succ]
                    refine takeH (i := 14) [15] (v := ?_) rfl (by kernel_rfl) (fun _ _ _ h => h) (by rfl) ?_ (by assumption) ?_
                    case refine_2 => (intro w' hSw; (try dsimp only at hSw); go_simp; first | done | with_reducible rfl)
                    try simp only [Act.put, List.setIfInBounds_toArray, List.set_cons_zero, List.set_cons_succ]
                    refine readyG (rs := [15]) (by kernel_rfl) (by simp) ?_
                    refine AllG.cons rfl (fun K hK => ?_) AllG.nil
                    go_simp
                    (go_at_call 118; refine (l17Less_c p D g v fs (vat us j) vr (ra R2 j) P (cf (ra R2 j) c) _ (hS.drew.oldI HV.out) (hS.drew.oldF HB.out) HF.out (Hgj.out.keep (St.refl _).drew.below) (Hgp.out.keep (St.refl _).drew.below) (by rw [Hrj.out.1]; omega) (by rw [Hrj.out.1, HP.out.1]; omega) Hrj.out.2 HP.out.2 Hel.out).mono ?_; rw [Hlow.out]; rintro e w7 ⟨vn, rfl, h7⟩)
                    have hS7 := hS.drew.call h7
                    obtain ⟨na, nc, hne⟩ := (h7.rdI 0 rfl).shp'
                    subst hne
                    have hS7' : St w.heap.size w w7 (row 22 vo us :: row 2 u9 (iv piv) :: rowsI us (elimP p D fs R2 P piv.length c j)) := hS7.sub (List.sublist_append_left _ _)
                    have k0 : w7.cell? (el vo j) = some (vat us j) := (hS7'.rd 0 rfl).cell hju
                    have k1 := (hS7'.rdI (j + 2) hat).cell c hcj
                    refine hK.out _ _ ⟨k0, k1⟩ (fun hHeld => ?_)
                    clear hK K
                    try simp only [Act.put, List.setIfInBounds_toArray, List.set_cons_zero, List.set_cons_succ]
                    have u0 := hS7'.unfrozen 0 rfl hju
                    refine takeP (i := 16) (v := ?_) rfl (by kernel_rfl) (fun _ _ _ h => h) (by rfl) ?_ (by assumption) ?_
                    case refine_2 => (intro w'; go_simp; first | done | with_reducible rfl)
                    try simp only [Act.put, List.setIfInBounds_toArray, List.set_cons_zero, List.set_cons_succ]
                    refine readyG (rs := [17]) (by kernel_rfl) (by simp) ?_
                    refine AllG.last rfl (by kernel_rfl) (fun K hK => ?_) AllG.nil
                    go_simp
                    refine hK.out _ _ ?_
                    clear hK K
                    try simp only [Act.put, List.setIfInBounds_toArray, List.set_cons_zero, List.set_cons_succ]
                    refine doneG (by kernel_rfl) ?_ _
                    refine NoPanic.normal ?_
                    have hS8 : St w.heap.size w _ (row 22 vo (us.set j (.slice na (subI p D fs (ra R2 j) P c).length nc)) :: row 2 u9 (iv piv) :: (rowsI us (elimP p D fs R2 P piv.length c j) ++ [row 2 (.slice na (subI p D fs (ra R2 j) P c).length nc) (iv (subI p D fs (ra R2 j) P c))])) := hS7.store 0 rfl (j := j) hju (.slice na (subI p D fs (ra R2 j) P c).length nc)
                    go_wp2_with fail
                    go_roundw
                    case rel =>
                      obtain ⟨x, hx⟩ := rowsI_new Hle.out Hje.out (.slice na (subI p D fs (ra R2 j) P c).length nc) (subI p D fs (ra R2 j) P c)
                      rw [Hnx.out] at hx
                      have h2 := hS8.perm ((hx.cons _).cons _)
                      exact ⟨j + 1, us.set j (.slice na (subI p D fs (ra R2 j) P c).length nc), by omega, by go_num, ⟨by rw [List.length_set]; exact hus.out.1, by rw [vat_set hju, if_neg (by have := hHjt.out; omega)]; exact hus.out.2⟩, h2.sub (((List.sublist_append_left _ _).cons_cons _).cons_cons _)⟩
                    case measure => simp [intOf]; omega
                · have hjm' : j = m.length := by omega
                  rw [hjm'] at hS Hle
                  clear hjm'
                  have Hpl := Lib.hid (show (piv ++ [(c : Int)]).length = piv.length + 1 by simp)
                  have Hl3 := Lib.hid (show (elimP p D fs R2 P piv.length c m.length).length = m.length by rw [elimP_len]; exact Hl2.out)
                  have Hlt := Lib.hid (show piv.length < 4294967296 by omega)
                  go_wp2_with (at_builtin; refine appI hS 1 rfl Hlt.out rfl _ _ rfl rfl _ rfl ?_; intro v8 w8 hS9)
                  go_roundw
                  case rel => exact ⟨c + 1, us, elimP p D fs R2 P piv.length c m.length, piv ++ [(c : Int)], _, by omega, by go_num, ⟨hus.out.1, Hl3.out, Hre2.out.elimP Hp.out⟩, by rw [Hpl.out]; omega, by unfold Hid; rw [Hpl.out]; have := hpc.out; omega, HX.out, hS9⟩
                  case measure => simp [intOf]; omega
          · obtain rfl : i = m.length := by omega
            have hfz := fnz_no (R := R) (t := piv.length) (c := c) (fun j h1 h2 => hz.out j h1 (by have := HlR.out; omega))
            have hx' := hX.out
            rw [red_none hcn (by have := HlR.out; omega) hfz] at hx'
            have HX := Lib.hid hx'
            clear hx' hfz
            go_wp2_with fail
            go_roundw
            case rel => exact ⟨c + 1, ul, R, piv, 0, by omega, by go_num, hH, hpm, by have := hpc.out; unfold Hid; omega, HX.out, hS⟩
            case measure => simp [intOf]; omega
      · have HX := Lib.hid (show red p D fs (cols - c) c R piv det = (R, piv, det) from red_stop (by have := HlR.out; omega) _ _)
        have Hfin := Lib.hid (HX.out.symm.trans hX.out)
        go_wp2_with fail
        go_ret2
        rw [← Hfin.out]
        exact ⟨_, ul, _, rfl, Hlu.out, by show piv.length ≤ R.length; have := HlR.out; omega, show St w.heap.size w wr (row 2 u9 (iv piv) :: own2 vo ul R) from hS.perm (by (try simp only [own2, List.cons_append, List.nil_append, List.append_nil]); classical exact List.perm_iff_count.2 (fun a => by simp only [List.cons_append, List.nil_append, List.append_nil, List.count_append, List.count_cons, List.count_nil] <;> omega))⟩
    · obtain rfl : c = cols := by omega
      have HX := Lib.hid (show red p D fs (c - c) c R piv det = (R, piv, det) by rw [Nat.sub_self]; rfl)
      have Hfin := Lib.hid (HX.out.symm.trans hX.out)
      go_wp2_with fail
      go_ret2
      rw [← Hfin.out]
      exact ⟨_, ul, _, rfl, Hlu.out, by show piv.length ≤ R.length; have := HlR.out; omega, show St w.heap.size w wr (row 2 u9 (iv piv) :: own2 vo ul R) from hS.perm (by (try simp only [own2, List.cons_append, List.nil_append, List.append_nil]); classical exact List.perm_iff_count.2 (fun a => by simp only [List.cons_append, List.nil_append, List.append_nil, List.count_append, List.count_cons, List.count_nil] <;> omega))⟩

end Go.Proofs.Ytmkfafhgcnbcaaa
