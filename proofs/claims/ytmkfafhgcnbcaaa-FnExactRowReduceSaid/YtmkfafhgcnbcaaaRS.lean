/- Walks: the reference's operations on rows. -/
import Derived.Test.YtmkfafhgcnbcaaaDot2
import Derived.Test.YtmkfafhgcnbcaaaMMul
import Derived.Test.YtmkfafhgcnbcaaaPRed
namespace Go.Proofs.Ytmkfafhgcnbcaaa
set_option linter.unusedSimpArgs false
set_option linter.unusedVariables false
open Go.RowKit
attribute [local go_sem ↓] Go.wp_at_zero Go.wp_at_succ

set_option maxHeartbeats 4000000 in
set_option maxRecDepth 100000 in
theorem l17Own_c (vM : Value) (uM : List Value) (m : List (List Int)) (w : World) (hM : RII w vM uM m) (hm : m.length ≤ 4096) (hr : ∀ r ∈ m, r.length ≤ 4096) :
    Calls Try.prog 116 #[vM] w (MakesII w m) := by
  have hlm := hM.len
  have Hr := Lib.hid hr
  clear hr
  have hS0 := (St.refl w).new 22 #[] (by simp)
  go_enter Try.func116, Try.ntmps116
  go_wp2_with fail
  go_loopw [3, 4] (fun o i wr => ∃ (k : Nat) (a : Option Addr) (c : Nat) (ws : List Value), k ≤ m.length ∧ i = .int .i64 k ∧ o = .slice a k c ∧ Hid (ws.length = k) ∧ St w.heap.size w wr (own2 (.slice a k c) ws (m.take k))) (fun _ i _ => m.length - (intOf i).toNat)
  case atStart => exact ⟨0, _, 0, [], by omega, rfl, rfl, rfl, hS0⟩
  case round =>
    obtain ⟨k, a, c, ws, hk, rfl, rfl, hw, hS⟩ := hrel
    by_cases hlt : k < m.length
    · have hck := (hS.oldII hM).cell k hlt
      have hxk := (hS.oldII hM).ixe (k : Int) k rfl hlt
      have hown := Lib.hid (l00Own_c (vat uM k) (xat m k) wr ((hS.oldII hM).row k hlt) (by have := Hr.out _ (xat_mem hlt); omega))
      have hlw := Lib.hid (show ws.length = (m.take k).length by rw [hw.out, List.length_take]; omega)
      have Hsn := Lib.hid (take_xat hlt)
      go_wp2_with fail
      refine hown.out.mono ?_
      rintro e w2 ⟨v2, rfl, h2⟩
      obtain ⟨la, lc, hle⟩ := (h2.rdI 0 rfl).shp'
      subst hle
      have hS2 := hS.call h2
      go_wp2_with (at_builtin; refine appII hS2 0 rfl (by rw [hw.out]; omega) rfl _ _ rfl rfl _ rfl rfl ?_; intro v5 w5 hS5; obtain ⟨oa, oc, hoe⟩ := (hS5.rd 0 rfl).sl.sh; rw [List.length_append, hw.out, List.length_singleton] at hoe; subst hoe)
      go_roundw
      case rel =>
        refine ⟨k + 1, oa, oc, ws ++ [.slice la (xat m k).length lc], by omega, by go_num, rfl, by simp [Hid, hw.out], ?_⟩
        rw [Hsn.out, own2, rowsI_app hlw.out]
        exact hS5
      case measure => simp [intOf]; omega
    · obtain rfl : k = m.length := by omega
      rw [List.take_length] at hS
      go_wp2_with fail
      go_ret
      exact ⟨_, ws, rfl, hw.out, hS⟩

/-- a list whose first k places are made -/
theorem tab_snoc (k : Nat) (f : Nat → Int) : tab (k + 1) f = tab k f ++ [f k] := by simp [tab, List.range_succ]

set_option maxHeartbeats 4000000 in
set_option maxRecDepth 100000 in
theorem l17Scale_c (p : Int) (D : Nat) (g : Nat) (v : Value) (fs : List Int) (vx : Value) (xs : List Int) (c : Int) (w : World)
    (hv : RdI w v fs) (hbx : BoxF w g p D v) (hf : FV p D fs) (hx : RdI w vx xs) (hl : xs.length ≤ 4096) (hxi : In (p ^ D) xs) (hce : El p D c) :
    Calls Try.prog 123 #[.pointer (some ⟨g, 0, none⟩), vx, .int .i64 c] w (MakesI w (tab xs.length fun k => fmul p D fs (cf xs k) c)) := by
  have HF := Lib.hid hf
  have HB := Lib.hid hbx
  have Hx := Lib.hid hxi
  have Hc := Lib.hid (hce.lim hf)
  clear hf hxi hbx hce
  have hlx := hx.len
  have hS0 := (St.refl w).new 2 #[] (by simp)
  go_enter Try.func123, Try.ntmps123
  go_wp2_with fail
  go_loopw [7, 8] (fun o i wr => ∃ k : Nat, k ≤ xs.length ∧ i = .int .i64 k ∧ St w.heap.size w wr [row 2 o (iv (tab k fun k => fmul p D fs (cf xs k) c))]) (fun _ i _ => xs.length - (intOf i).toNat)
  case atStart => exact ⟨0, by omega, rfl, hS0⟩
  case round =>
    obtain ⟨k, hk, rfl, hS⟩ := hrel
    by_cases hlt : k < xs.length
    · have hcx := (hS.oldI hx).cell k hlt
      have hxx := (hS.oldI hx).ixe (k : Int) k rfl hlt
      rw [show nth xs k = cf xs k from rfl] at hcx
      have Ha := Lib.hid (show 0 ≤ cf xs k ∧ cf xs k ≤ 1000000 from (Hx.out.el hlt).lim HF.out)
      have hmul := Lib.hid (l03Mul_c p D g v fs (cf xs k) c wr (hS.oldI hv) (hS.oldF HB.out) HF.out Ha.out.1 Ha.out.2 Hc.out.1 Hc.out.2)
      go_wp2_with fail
      refine hmul.out.mono ?_
      rintro e w2 ⟨rfl, h2⟩
      have hS2 := hS.call0 h2
      go_wp2_with (at_builtin; refine appI hS2 0 rfl (by rw [tab_len]; omega) rfl _ _ rfl rfl _ rfl ?_; intro v4 w4 hS4)
      go_roundw
      case rel => exact ⟨k + 1, by omega, by go_num, by rw [tab_snoc]; exact hS4⟩
      case measure => simp [intOf]; omega
    · obtain rfl : k = xs.length := by omega
      go_wp2_with fail
      go_ret
      exact ⟨_, rfl, hS⟩

set_option maxHeartbeats 4000000 in
set_option maxRecDepth 100000 in
theorem l17Less_c (p : Int) (D : Nat) (g : Nat) (v : Value) (fs : List Int) (vx vy : Value) (xs ys : List Int) (c : Int) (w : World)
    (hv : RdI w v fs) (hbx : BoxF w g p D v) (hf : FV p D fs) (hx : RdI w vx xs) (hy : RdI w vy ys) (hl : xs.length ≤ 4096) (hxy : xs.length ≤ ys.length) (hxi : In (p ^ D) xs) (hyi : In (p ^ D) ys) (hce : El p D c) :
    Calls Try.prog 118 #[.pointer (some ⟨g, 0, none⟩), vx, vy, .int .i64 c] w (MakesI w (tab xs.length fun k => fsum p D (cf xs k) (fmul p D fs (cf ys k) c) (p - 1))) := by
  have HF := Lib.hid hf
  have HB := Lib.hid hbx
  have Hx := Lib.hid hxi
  have Hy := Lib.hid hyi
  have Hc := Lib.hid (hce.lim hf)
  have p2 := hf.p2
  have p64 := hf.p64
  clear hf hxi hbx hce hyi
  have hlx := hx.len
  have hS0 := (St.refl w).new 2 #[] (by simp)
  go_enter Try.func118, Try.ntmps118
  go_wp2_with fail
  go_loopw [9, 10] (fun o i wr => ∃ k : Nat, k ≤ xs.length ∧ i = .int .i64 k ∧ St w.heap.size w wr [row 2 o (iv (tab k fun k => fsum p D (cf xs k) (fmul p D fs (cf ys k) c) (p - 1)))]) (fun _ i _ => xs.length - (intOf i).toNat)
  case atStart => exact ⟨0, by omega, rfl, hS0⟩
  case round =>
    obtain ⟨k, hk, rfl, hS⟩ := hrel
    by_cases hlt : k < xs.length
    · have hly : k < ys.length := by omega
      have hcx := (hS.oldI hx).cell k hlt
      have hxx := (hS.oldI hx).ixe (k : Int) k rfl hlt
      rw [show nth xs k = cf xs k from rfl] at hcx
      have hcy := (hS.oldI hy).cell k hly
      have hxy := (hS.oldI hy).ixe (k : Int) k rfl hly
      rw [show nth ys k = cf ys k from rfl] at hcy
      have b0 := (hS.oldF HB.out).1
      have Ha := Lib.hid (show 0 ≤ cf xs k ∧ cf xs k ≤ 1000000 from (Hx.out.el hlt).lim HF.out)
      have Hb := Lib.hid (show 0 ≤ cf ys k ∧ cf ys k ≤ 1000000 from (Hy.out.el hly).lim HF.out)
      have Hm := Lib.hid ((fmul_el HF.out.fa (cf ys k) c).lim HF.out)
      have Hml := Lib.hid (show (tab k fun k => fsum p D (cf xs k) (fmul p D fs (cf ys k) c) (p - 1)).length < 4294967296 by rw [tab_len]; omega)
      have Hps := Lib.hid (show 0 ≤ p - 1 ∧ p - 1 ≤ 64 by omega)
      have hw := IntWalk.i64_in (p - 1) (by omega)
      go_wp2_with fail
      go_region_held3 (fun w' => w'.cell? (el vx k) = some (.int .i64 (cf xs k)) ∧ w'.cell? (el vy k) = some (.int .i64 (cf ys k)) ∧ w'.cell? ⟨g, 0, none⟩ = some (.int .i64 p)) (((try dsimp only); (repeat' apply And.intro); all_goals (repeat (first | assumption | exact cell_dr (by assumption) | refine cell_dr ?_ | refine cell_al ?_ | refine cell_sc (by assumption) ?_))))
        (first
        | (go_at_call 112; refine (l03Mul_c p D g v fs _ _ _ (hS.drew.oldI hv) (hS.drew.oldF HB.out) HF.out Hb.out.1 Hb.out.2 Hc.out.1 Hc.out.2).mono ?_; rintro e w2 ⟨rfl, h2⟩; have hS2 := hS.drew.call0 h2; have f0 := (hS2.oldI hx).cell k hlt; have f1 := (hS2.oldI hy).cell k hly; have f2 := (hS2.oldF HB.out).1)
        | (go_at_call 111; refine (l03Sum_c p D g v fs _ _ _ _ (hS2.oldF HB.out) HF.out Ha.out.1 Ha.out.2 Hm.out.1 Hm.out.2 Hps.out.1 Hps.out.2).mono ?_; rintro e w3 ⟨rfl, h3⟩; have hS3 := hS2.call0 h3; have f3 := (hS3.oldI hx).cell k hlt; have f4 := (hS3.oldI hy).cell k hly; have f5 := (hS3.oldF HB.out).1)
        | (refine stepI1 hS3 0 rfl Hml.out rfl (.tmp 18) (.tmp 37) rfl (by first | rfl | simp [Act.eval, Act.put]) _ (by first | rfl | simp [Act.eval, Act.put]) ?_; intro v5 w5 hS5; have f6 := (hS5.oldI hx).cell k hlt; have f7 := (hS5.oldI hy).cell k hly; have f8 := (hS5.oldF HB.out).1))
      all_goals
        go_wp2_with fail
        go_roundw
        case rel => exact ⟨k + 1, by omega, by go_num, by rw [tab_snoc]; exact hS5⟩
        case measure => simp [intOf]; omega
    · obtain rfl : k = xs.length := by omega
      go_wp2_with fail
      go_ret
      exact ⟨_, rfl, hS⟩

set_option maxHeartbeats 4000000 in
set_option maxRecDepth 100000 in
theorem l03Inverse_c (p : Int) (D : Nat) (g : Nat) (v : Value) (fs : List Int) (a : Int) (w : World)
    (hv : RdI w v fs) (hbx : BoxF w g p D v) (hf : FV p D fs) (ha : El p D a) (h0 : a ≠ 0) :
    Calls Try.prog 117 #[.pointer (some ⟨g, 0, none⟩), .int .i64 a] w (GivesI w (finv p D fs a)) := by
  have HF := Lib.hid hf
  have HB := Lib.hid hbx
  have Ha := Lib.hid (ha.lim hf)
  have hi := finv_ok hf ha h0
  have hne : finv p D fs a ≠ 0 := by
    intro e
    have h1 := hi.2
    rw [e, fmul_zero hf.fa] at h1
    omega
  have h64 := hf.q64
  obtain ⟨nn, hnn⟩ := Int.eq_ofNat_of_zero_le hi.1.1
  have hlt : nn < 64 := by have := hi.1.2; omega
  have h1n : 1 ≤ nn := by omega
  have Hone := Lib.hid (show fmul p D fs a nn = 1 by rw [← hnn]; exact hi.2)
  have Hno := Lib.hid (show ∀ b : Nat, b < nn → fmul p D fs a b ≠ 1 from fun b hb e => by
    have := finv_eq hf ha h0 ⟨by omega, by have := hi.1.2; omega⟩ e
    omega)
  have Hnn := Lib.hid hnn
  clear hf hbx ha h0 hi hne h64 hnn
  go_enter Try.func117, Try.ntmps117
  go_wp2_with fail
  go_loopw [5] (fun b wr => ∃ k : Nat, 1 ≤ k ∧ k ≤ nn ∧ b = .int .i64 k ∧ St w.heap.size w wr []) (fun b _ => nn - (intOf b).toNat)
  case atStart => exact ⟨1, by omega, h1n, rfl, St.refl w⟩
  case round =>
    obtain ⟨k, hk1, hk, rfl, hS⟩ := hrel
    have hmul := Lib.hid (l03Mul_c p D g v fs a k wr (hS.oldI hv) (hS.oldF HB.out) HF.out Ha.out.1 Ha.out.2 (by omega) (by omega))
    go_wp2_with fail
    refine hmul.out.mono ?_
    by_cases hkn : k = nn
    · subst hkn
      rw [Hone.out]
      rintro e w2 ⟨rfl, h2⟩
      have hS2 := hS.call0 h2
      go_wp2_with fail
      go_ret
      exact ⟨by rw [Hnn.out]; rfl, hS2⟩
    · have f1 := ne_t (Hno.out k (by omega))
      rintro e w2 ⟨rfl, h2⟩
      have hS2 := hS.call0 h2
      go_wp2_with fail
      go_roundw
      case rel => exact ⟨k + 1, by omega, by omega, by go_num, hS2⟩
      case measure => simp [intOf]; omega
end Go.Proofs.Ytmkfafhgcnbcaaa
