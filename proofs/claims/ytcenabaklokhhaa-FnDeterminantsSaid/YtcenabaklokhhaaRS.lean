/- Walks: the reference's operations on rows. Walks: the reference's row reduction. -/
import Derived.Test.YtcenabaklokhhaaDot
import Derived.Test.YtcenabaklokhhaaTimes
import Derived.Test.YtcenabaklokhhaaPSpan
import Derived.Test.YtcenabaklokhhaaRed
namespace Go.Proofs.Ytcenabaklokhhaa
set_option linter.unusedSimpArgs false
set_option linter.unusedVariables false
open Go.RowKit
attribute [local go_sem ↓] Go.wp_at_zero Go.wp_at_succ


set_option maxHeartbeats 4000000 in
set_option maxRecDepth 100000 in
theorem l17Own_c (vM : Value) (uM : List Value) (m : List (List Int)) (w : World) (hM : RII w vM uM m) (hm : m.length ≤ 4096) (hr : ∀ r ∈ m, r.length ≤ 4096) :
    Calls Try.prog 237 #[vM] w (MakesII w m) := by
  have hlm := hM.len
  have Hr := Lib.hid hr
  clear hr
  have hS0 := (St.refl w).new 23 #[] (by simp)
  go_enter Try.func237, Try.ntmps237
  go_wp2_with fail
  go_loopw [3, 4] (fun o i wr => ∃ (k : Nat) (a : Option Addr) (c : Nat) (ws : List Value), k ≤ m.length ∧ i = .int .i64 k ∧ o = .slice a k c ∧ Hid (ws.length = k) ∧ St w.heap.size w wr (own2 (.slice a k c) ws (m.take k))) (fun _ i _ => m.length - (intOf i).toNat)
  case atStart => exact ⟨0, _, 0, [], by omega, rfl, rfl, rfl, hS0⟩
  case round =>
    obtain ⟨k, a, c, ws, hk, rfl, rfl, hw, hS⟩ := hrel
    by_cases hlt : k < m.length
    · have hck := (hS.oldII hM).cell k hlt
      have hxk := (hS.oldII hM).ixe (k : Int) k rfl hlt
      have hown := Lib.hid (l00Own_c (vat uM k) (xat m k) wr ((hS.oldII hM).row k hlt) (by have := Hr.out _ (xat_mem hlt); omega))
      have hlw := Lib.hid (show ws.length = (m.take k).length by rw [hw.out, List.length_take]; omega)
      have Hsn := Lib.hid (take_xat hlt)
      go_wp2_with fail
      refine hown.out.mono ?_
      rintro e w2 ⟨v2, rfl, h2⟩
      obtain ⟨la, lc, hle⟩ := (h2.rdI 0 rfl).shp'
      subst hle
      have hS2 := hS.call h2
      go_wp2_with (at_builtin; refine appII hS2 0 rfl (by rw [hw.out]; omega) rfl _ _ rfl rfl _ rfl rfl ?_; intro v5 w5 hS5; obtain ⟨oa, oc, hoe⟩ := (hS5.rd 0 rfl).sl.sh; rw [List.length_append, hw.out, List.length_singleton] at hoe; subst hoe)
      go_roundw
      case rel =>
        refine ⟨k + 1, oa, oc, ws ++ [.slice la (xat m k).length lc], by omega, by go_num, rfl, by simp [Hid, hw.out], ?_⟩
        rw [Hsn.out, own2, rowsI_app hlw.out]
        exact hS5
      case measure => simp [intOf]; omega
    · obtain rfl : k = m.length := by omega
      rw [List.take_length] at hS
      go_wp2_with fail
      go_ret
      exact ⟨_, ws, rfl, hw.out, hS⟩

/-- a list whose first k places are made -/
theorem tab_snoc (k : Nat) (f : Nat → Int) : tab (k + 1) f = tab k f ++ [f k] := by simp [tab, List.range_succ]

set_option maxHeartbeats 4000000 in
set_option maxRecDepth 100000 in
theorem l17Less_c (p : Int) (D : Nat) (g : Nat) (v : Value) (fs : List Int) (vx vy : Value) (xs ys : List Int) (c : Int) (w : World)
    (hv : RdI w v fs) (hbx : BoxF w g p D v) (hf : FV p D fs) (hx : RdI w vx xs) (hy : RdI w vy ys) (hl : xs.length ≤ 4096) (hxy : xs.length ≤ ys.length) (hxi : In (p ^ D) xs) (hyi : In (p ^ D) ys) (hce : El p D c) :
    Calls Try.prog 185 #[.pointer (some ⟨g, 0, none⟩), vx, vy, .int .i64 c] w (MakesI w (tab xs.length fun k => fsum p D (cf xs k) (fmul p D fs (cf ys k) c) (p - 1))) := by
  have HF := Lib.hid hf
  have HB := Lib.hid hbx
  have Hx := Lib.hid hxi
  have Hy := Lib.hid hyi
  have Hc := Lib.hid (hce.lim hf)
  have p2 := hf.p2
  have p64 := hf.p64
  clear hf hxi hbx hce hyi
  have hlx := hx.len
  have hS0 := (St.refl w).new 2 #[] (by simp)
  go_enter Try.func185, Try.ntmps185
  go_wp2_with fail
  go_loopw [9, 10] (fun o i wr => ∃ k : Nat, k ≤ xs.length ∧ i = .int .i64 k ∧ St w.heap.size w wr [row 2 o (iv (tab k fun k => fsum p D (cf xs k) (fmul p D fs (cf ys k) c) (p - 1)))]) (fun _ i _ => xs.length - (intOf i).toNat)
  case atStart => exact ⟨0, by omega, rfl, hS0⟩
  case round =>
    obtain ⟨k, hk, rfl, hS⟩ := hrel
    by_cases hlt : k < xs.length
    · have hly : k < ys.length := by omega
      have hcx := (hS.oldI hx).cell k hlt
      have hxx := (hS.oldI hx).ixe (k : Int) k rfl hlt
      rw [show nth xs k = cf xs k from rfl] at hcx
      have hcy := (hS.oldI hy).cell k hly
      have hxy := (hS.oldI hy).ixe (k : Int) k rfl hly
      rw [show nth ys k = cf ys k from rfl] at hcy
      have b0 := (hS.oldF HB.out).1
      have Ha := Lib.hid (show 0 ≤ cf xs k ∧ cf xs k ≤ 1000000 from (Hx.out.el hlt).lim HF.out)
      have Hb := Lib.hid (show 0 ≤ cf ys k ∧ cf ys k ≤ 1000000 from (Hy.out.el hly).lim HF.out)
      have Hm := Lib.hid ((fmul_el HF.out.fa (cf ys k) c).lim HF.out)
      have Hml := Lib.hid (show (tab k fun k => fsum p D (cf xs k) (fmul p D fs (cf ys k) c) (p - 1)).length < 4294967296 by rw [tab_len]; omega)
      have Hps := Lib.hid (show 0 ≤ p - 1 ∧ p - 1 ≤ 64 by omega)
      have hw := IntWalk.i64_in (p - 1) (by omega)
      go_wp2_with fail
      go_region_held3 (fun w' => w'.cell? (el vx k) = some (.int .i64 (cf xs k)) ∧ w'.cell? (el vy k) = some (.int .i64 (cf ys k)) ∧ w'.cell? ⟨g, 0, none⟩ = some (.int .i64 p)) (((try dsimp only); (repeat' apply And.intro); all_goals (repeat (first | assumption | exact cell_dr (by assumption) | refine cell_dr ?_ | refine cell_al ?_ | refine cell_sc (by assumption) ?_))))
        (first
        | (go_at_call 108; refine (l03Mul_c p D g v fs _ _ _ (hS.drew.oldI hv) (hS.drew.oldF HB.out) HF.out Hb.out.1 Hb.out.2 Hc.out.1 Hc.out.2).mono ?_; rintro e w2 ⟨rfl, h2⟩; have hS2 := hS.drew.call0 h2; have f0 := (hS2.oldI hx).cell k hlt; have f1 := (hS2.oldI hy).cell k hly; have f2 := (hS2.oldF HB.out).1)
        | (go_at_call 151; refine (l03Sum_c p D g v fs _ _ _ _ (hS2.oldF HB.out) HF.out Ha.out.1 Ha.out.2 Hm.out.1 Hm.out.2 Hps.out.1 Hps.out.2).mono ?_; rintro e w3 ⟨rfl, h3⟩; have hS3 := hS2.call0 h3; have f3 := (hS3.oldI hx).cell k hlt; have f4 := (hS3.oldI hy).cell k hly; have f5 := (hS3.oldF HB.out).1)
        | (refine stepI1 hS3 0 rfl Hml.out rfl (.tmp 18) (.tmp 37) rfl (by first | rfl | simp [Act.eval, Act.put]) _ (by first | rfl | simp [Act.eval, Act.put]) ?_; intro v5 w5 hS5; have f6 := (hS5.oldI hx).cell k hlt; have f7 := (hS5.oldI hy).cell k hly; have f8 := (hS5.oldF HB.out).1))
      all_goals
        go_wp2_with fail
        go_roundw
        case rel => exact ⟨k + 1, by omega, by go_num, by rw [tab_snoc]; exact hS5⟩
        case measure => simp [intOf]; omega
    · obtain rfl : k = xs.length := by omega
      go_wp2_with fail
      go_ret
      exact ⟨_, rfl, hS⟩

/-- it hands over all rows, and pivots -/
def MakesRR (w : World) (x : List (List Int) × List Int × Int) (e : Ending) (w' : World) : Prop :=
  ∃ v us vp, e = .returned (.tuple #[v, vp]) ∧ us.length = x.1.length ∧ x.2.1.length ≤ x.1.length ∧ St w.heap.size w w' (row 2 vp (iv x.2.1) :: own2 v us x.1)
theorem fnz_is {R : List (List Int)} {t c i : Nat} (h1 : t ≤ i) (h2 : i < R.length) (h3 : cf (ra R i) c ≠ 0) (h4 : ∀ j, t ≤ j → j < i → cf (ra R j) c = 0) : fnz R t c = some i := by
  cases h : fnz R t c with
  | none => exact absurd (fnz_none h h1 h2) h3
  | some k =>
    obtain ⟨k1, k2, k3, k4⟩ := fnz_some h
    rcases Nat.lt_trichotomy i k with hlt | rfl | hgt
    · exact absurd (k4 i h1 hlt) h3
    · rfl
    · exact absurd (h4 k k1 hgt) k3
theorem fnz_no {R : List (List Int)} {t c : Nat} (h4 : ∀ j, t ≤ j → j < R.length → cf (ra R j) c = 0) : fnz R t c = none := by
  cases h : fnz R t c with
  | none => rfl
  | some k =>
    obtain ⟨k1, k2, k3, k4⟩ := fnz_some h
    exact absurd (h4 k k1 k2) k3
theorem set_perm {α : Type} (l : List α) (i : Nat) (x : α) (h : i < l.length) : (l ++ [x]).Perm (l.set i x ++ [l[i]]) := by
  have e1 : l ++ [x] = (l.take i ++ l[i] :: l.drop (i + 1)) ++ [x] := by rw [← List.drop_eq_getElem_cons h, List.take_append_drop]
  have e2 : l.set i x = l.take i ++ x :: l.drop (i + 1) := by rw [List.set_eq_take_append_cons_drop, if_pos h]
  rw [e1, e2]
  classical exact List.perm_iff_count.2 (fun a => by simp only [List.count_append, List.count_cons, List.count_nil]; omega)
/-- a row is replaced by a new one -/
theorem rowsI_new {us : List Value} {R : List (List Int)} (hl : us.length = R.length) {j : Nat} (hj : j < R.length) (u : Value) (r : List Int) :
    ∃ x, (rowsI us R ++ [row 2 u (iv r)]).Perm (rowsI (us.set j u) (R.set j r) ++ [x]) := by
  refine ⟨(rowsI us R)[j]'(by rw [rowsI_len hl]; exact hj), ?_⟩
  have h := set_perm (rowsI us R) j (row 2 u (iv r)) (by rw [rowsI_len hl]; exact hj)
  have e : (rowsI us R).set j (row 2 u (iv r)) = rowsI (us.set j u) (R.set j r) := by
    have hl' : (us.set j u).length = (R.set j r).length := by simpa using hl
    apply List.ext_getElem?
    intro k
    rw [List.getElem?_set]
    by_cases hk : k < R.length
    · rw [rowsI_get hl' (by simpa using hk), vat_set (by omega), show xat (R.set j r) k = if j = k then r else xat R k from ra_set hj]
      by_cases e : j = k
      · subst e; rw [if_pos rfl, if_pos rfl, if_pos rfl, if_pos (by rw [rowsI_len hl]; exact hj)]
      · rw [if_neg e, if_neg e, if_neg e, rowsI_get hl hk]
    · rw [rowsI_no hl' (by simp; omega), if_neg (by omega), rowsI_no hl (by omega)]
  rw [e] at h; exact h

end Go.Proofs.Ytcenabaklokhhaa
