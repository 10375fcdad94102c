/- Walks: sums of products, by tables and by the reference. Walks: the reference's sums of products. -/
import Derived.Test.YtcenabaklokhhaaTab
import Derived.Test.YtcenabaklokhhaaMul
import Derived.Test.YtcenabaklokhhaaSum
import Derived.Test.YtcenabaklokhhaaPGen
namespace Go.Proofs.Ytcenabaklokhhaa
set_option linter.unusedSimpArgs false
set_option linter.unusedVariables false
open Go.RowKit
attribute [local go_sem ↓] Go.wp_at_zero Go.wp_at_succ


/-- the tables of a field, as they lie in memory -/
structure TB (w : World) (p : Int) (D : Nat) (fs : List Int) (va : Value) (ua : List Value) (vs : Value) (us : List Value) (vm : Value) (um : List Value) (vi : Value) : Prop where
  a : RII w va ua (tb (qn p D) (fAdd p D))
  s : RII w vs us (tb (qn p D) (fSub p D))
  m : RII w vm um (tb (qn p D) (fMul p D fs))
  i : RdI w vi (invT p D fs)
theorem TB.keep {w w' : World} {p : Int} {D : Nat} {fs : List Int} {va vs vm vi : Value} {ua us um : List Value} (h : TB w p D fs va ua vs us vm um vi) (hb : Below w.heap.size w w') : TB w' p D fs va ua vs us vm um vi :=
  ⟨h.a.keep hb, h.s.keep hb, h.m.keep hb, h.i.keep hb⟩
theorem St.oldT {w0 w : World} {L : List Ent} {p : Int} {D : Nat} {fs : List Int} {va vs vm vi : Value} {ua us um : List Value} (h : St w0.heap.size w0 w L) (ht : TB w0 p D fs va ua vs us vm um vi) : TB w p D fs va ua vs us vm um vi := ht.keep h.below
/-- the tables as a value -/
def tv (p : Int) (D : Nat) (va vs vm vi : Value) : Value := .agg #[.int .i64 (qn p D), va, vs, vm, vi]
/-- elements as numbers below qn -/
theorem El.nat {p : Int} {D : Nat} {a : Int} (h : El p D a) : ∃ n : Nat, a = n ∧ n < qn p D := by
  obtain ⟨n, rfl⟩ := Int.eq_ofNat_of_zero_le h.1
  exact ⟨n, rfl, by have := h.2; unfold qn; omega⟩
/-- a sum of products, k of them -/
def dotN (p : Int) (D : Nat) (fs : List Int) (a b : List Int) : Nat → Int
  | 0 => 0
  | k + 1 => fsum p D (dotN p D fs a b k) (fmul p D fs (nth a k) (nth b k)) 1
theorem dotN_el {p : Int} {D : Nat} {fs : List Int} (h : FA p D fs) (a b : List Int) : ∀ k, El p D (dotN p D fs a b k)
  | 0 => el_zero h
  | _ + 1 => fsum_el (by have := h.p2; omega) _ _ _
theorem nth_tab {n j : Nat} {f : Nat → Int} (h : j < n) : nth (tab n f) j = f j := cf_tab h
theorem In.el {p : Int} {D : Nat} {xs : List Int} (h : In (p ^ D) xs) {j : Nat} (hj : j < xs.length) : El p D (nth xs j) := h _ (nth_mem hj)
/-- a look into a table -/
theorem RII.at2 {w : World} {v : Value} {us : List Value} {q : Nat} {f : Nat → Nat → Int} (h : RII w v us (tb q f)) {i j : Nat} (hi : i < q) (hj : j < q) :
    (∀ W, (Instr.indexAt 26 v (.int .i64 i)).run Try.prog W = .ok (.pointer (some (el v i))) W) ∧ w.cell? (el v i) = some (vat us i) ∧
    (∀ W, (Instr.indexAt 23 (vat us i) (.int .i64 j)).run Try.prog W = .ok (.pointer (some (el (vat us i) j))) W) ∧ w.cell? (el (vat us i) j) = some (.int .i64 (f i j)) := by
  have hi' : i < (tb q f).length := by rw [tb_len]; exact hi
  have hr := h.row i hi'
  rw [xat_tb hi] at hr
  have hj' : j < (tab q (f i)).length := by rw [tab_len]; exact hj
  refine ⟨h.ixe i i rfl hi', h.cell i hi', hr.ixe j j rfl hj', ?_⟩
  rw [hr.cell j hj', nth_tab hj]

set_option maxHeartbeats 4000000 in
set_option maxRecDepth 100000 in
theorem dot_c (p : Int) (D : Nat) (fs : List Int) (va : Value) (ua : List Value) (vs : Value) (us : List Value) (vm : Value) (um : List Value) (vi : Value) (vx vy : Value) (xs ys : List Int) (w : World)
    (ht : TB w p D fs va ua vs us vm um vi) (hx : RdI w vx xs) (hy : RdI w vy ys) (hf : FV p D fs) (hl : xs.length ≤ ys.length) (hxi : In (p ^ D) xs) (hyi : In (p ^ D) ys) :
    Calls Try.prog 193 #[tv p D va vs vm vi, vx, vy] w (GivesI w (dotN p D fs xs ys xs.length)) := by
  have hS0 := (St.refl w).newboxF 109 #[.int .i64 (qn p D), va, vs, vm, vi]
  have HF := Lib.hid hf.fa
  have Hx := Lib.hid hxi
  have Hy := Lib.hid hyi
  clear hf hxi hyi
  have hlx := hx.len
  have hxx := hx.ix
  have hle := hx.le
  unfold tv
  go_enter Try.func193, Try.ntmps193
  go_wp2_with fail
  go_loopw [7, 8, 9, 12, 35] (fun s _ _ i _ wr => ∃ k : Nat, k ≤ xs.length ∧ i = .int .i64 k ∧ s = .int .i64 (dotN p D fs xs ys k) ∧ St w.heap.size w wr [box 109 w.heap.size [.int .i64 (qn p D), va, vs, vm, vi]]) (fun _ _ _ i _ _ => xs.length - (intOf i).toNat)
  case atStart => exact ⟨0, by omega, rfl, rfl, hS0⟩
  case round =>
    obtain ⟨k, hk, rfl, rfl, hS⟩ := hrel
    by_cases hlt : k < xs.length
    · have hly : k < ys.length := by omega
      have hcx := (hS.oldI hx).cell k hlt
      obtain ⟨s, hs, hsq⟩ := (dotN_el HF.out xs ys k).nat
      obtain ⟨x, hxe, hxq⟩ := (Hx.out.el hlt).nat
      obtain ⟨y, hye, hyq⟩ := (Hy.out.el hly).nat
      have hpe := fmul_el HF.out (nth xs k) (nth ys k)
      rw [hxe, hye] at hpe
      obtain ⟨m, hm, hmq⟩ := hpe.nat
      have Hn := Lib.hid (show dotN p D fs xs ys (k + 1) = fAdd p D s m by rw [dotN, hs, hxe, hye, hm]; rfl)
      have hT := hS.oldT ht
      obtain ⟨t1, t2, t3, t4⟩ := hT.m.at2 hxq hyq
      obtain ⟨t5, t6, t7, t8⟩ := hT.a.at2 hsq hmq
      rw [show fMul p D fs x y = m from hm] at t4
      have hyx := (hS.oldI hy).ixe (k : Int) k rfl hly
      have hcy := (hS.oldI hy).cell k hly
      rw [hxe] at hcx
      rw [hye] at hcy
      have b1 := hS.bcell 0 rfl 1 rfl
      have b3 := hS.bcell 0 rfl 3 rfl
      rw [hs]
      clear hpe hs hxe hye hT hm
      go_wp2_with fail
      go_region_held3 (fun w' => w'.cell? ⟨w.heap.size, 1, none⟩ = some va ∧ w'.cell? ⟨w.heap.size, 3, none⟩ = some vm ∧ w'.cell? (el va s) = some (vat ua s) ∧ w'.cell? (el vm x) = some (vat um x) ∧ w'.cell? (el vy k) = some (.int .i64 y) ∧ w'.cell? (el (vat um x) y) = some (.int .i64 m) ∧ w'.cell? (el (vat ua s) m) = some (.int .i64 (fAdd p D s m))) (((try dsimp only); (repeat' apply And.intro); all_goals (repeat (first | assumption | exact cell_dr (by assumption) | refine cell_dr ?_ | refine cell_al ?_ | refine cell_sc (by assumption) ?_)))) (fail)
      all_goals
        go_wp2_with fail
        go_roundw
        case rel => exact ⟨k + 1, by omega, by go_num, by rw [Hn.out], hS.drew⟩
        case measure => simp [intOf]; omega
    · obtain rfl : k = xs.length := by omega
      go_wp2_with fail
      go_ret
      exact ⟨rfl, hS.out⟩


theorem FV.q64 {p : Int} {D : Nat} {fs : List Int} (h : FV p D fs) : p ^ D ≤ 64 := by have := h.q; rwa [Int.toNat_natCast] at this
theorem El.lim {p : Int} {D : Nat} {fs : List Int} {a : Int} (h : El p D a) (hf : FV p D fs) : 0 ≤ a ∧ a ≤ 1000000 := by have := h.1; have := h.2; have := hf.q64; omega

end Go.Proofs.Ytcenabaklokhhaa
