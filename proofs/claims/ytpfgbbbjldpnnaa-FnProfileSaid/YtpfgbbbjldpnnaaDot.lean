/- Walks: sums of products, by tables and by the reference. Walks: the reference's sums of products. -/
import Derived.Test.YtpfgbbbjldpnnaaTab
import Derived.Test.YtpfgbbbjldpnnaaMul
import Derived.Test.YtpfgbbbjldpnnaaSum
import Derived.Test.YtpfgbbbjldpnnaaPGen
namespace Go.Proofs.Ytpfgbbbjldpnnaa
set_option linter.unusedSimpArgs false
set_option linter.unusedVariables false
open Go.RowKit
attribute [local go_sem ↓] Go.wp_at_zero Go.wp_at_succ


/-- the tables of a field, as they lie in memory -/
structure TB (w : World) (p : Int) (D : Nat) (fs : List Int) (va : Value) (ua : List Value) (vs : Value) (us : List Value) (vm : Value) (um : List Value) (vi : Value) : Prop where
  a : RII w va ua (tb (qn p D) (fAdd p D))
  s : RII w vs us (tb (qn p D) (fSub p D))
  m : RII w vm um (tb (qn p D) (fMul p D fs))
  i : RdI w vi (invT p D fs)
theorem TB.keep {w w' : World} {p : Int} {D : Nat} {fs : List Int} {va vs vm vi : Value} {ua us um : List Value} (h : TB w p D fs va ua vs us vm um vi) (hb : Below w.heap.size w w') : TB w' p D fs va ua vs us vm um vi :=
  ⟨h.a.keep hb, h.s.keep hb, h.m.keep hb, h.i.keep hb⟩
theorem St.oldT {w0 w : World} {L : List Ent} {p : Int} {D : Nat} {fs : List Int} {va vs vm vi : Value} {ua us um : List Value} (h : St w0.heap.size w0 w L) (ht : TB w0 p D fs va ua vs us vm um vi) : TB w p D fs va ua vs us vm um vi := ht.keep h.below
/-- the tables as a value -/
def tv (p : Int) (D : Nat) (va vs vm vi : Value) : Value := .agg #[.int .i64 (qn p D), va, vs, vm, vi]
/-- elements as numbers below qn -/
theorem El.nat {p : Int} {D : Nat} {a : Int} (h : El p D a) : ∃ n : Nat, a = n ∧ n < qn p D := by
  obtain ⟨n, rfl⟩ := Int.eq_ofNat_of_zero_le h.1
  exact ⟨n, rfl, by have := h.2; unfold qn; omega⟩
/-- a sum of products, k of them -/
def dotN (p : Int) (D : Nat) (fs : List Int) (a b : List Int) : Nat → Int
  | 0 => 0
  | k + 1 => fsum p D (dotN p D fs a b k) (fmul p D fs (nth a k) (nth b k)) 1
theorem dotN_el {p : Int} {D : Nat} {fs : List Int} (h : FA p D fs) (a b : List Int) : ∀ k, El p D (dotN p D fs a b k)
  | 0 => el_zero h
  | _ + 1 => fsum_el (by have := h.p2; omega) _ _ _
theorem nth_tab {n j : Nat} {f : Nat → Int} (h : j < n) : nth (tab n f) j = f j := cf_tab h
theorem In.el {p : Int} {D : Nat} {xs : List Int} (h : In (p ^ D) xs) {j : Nat} (hj : j < xs.length) : El p D (nth xs j) := h _ (nth_mem hj)
/-- a look into a table -/
theorem RII.at2 {w : World} {v : Value} {us : List Value} {q : Nat} {f : Nat → Nat → Int} (h : RII w v us (tb q f)) {i j : Nat} (hi : i < q) (hj : j < q) :
    (∀ W, (Instr.indexAt 37 v (.int .i64 i)).run Try.prog W = .ok (.pointer (some (el v i))) W) ∧ w.cell? (el v i) = some (vat us i) ∧
    (∀ W, (Instr.indexAt 24 (vat us i) (.int .i64 j)).run Try.prog W = .ok (.pointer (some (el (vat us i) j))) W) ∧ w.cell? (el (vat us i) j) = some (.int .i64 (f i j)) := by
  have hi' : i < (tb q f).length := by rw [tb_len]; exact hi
  have hr := h.row i hi'
  rw [xat_tb hi] at hr
  have hj' : j < (tab q (f i)).length := by rw [tab_len]; exact hj
  refine ⟨h.ixe i i rfl hi', h.cell i hi', hr.ixe j j rfl hj', ?_⟩
  rw [hr.cell j hj', nth_tab hj]

theorem FV.q64 {p : Int} {D : Nat} {fs : List Int} (h : FV p D fs) : p ^ D ≤ 64 := by have := h.q; rwa [Int.toNat_natCast] at this
theorem El.lim {p : Int} {D : Nat} {fs : List Int} {a : Int} (h : El p D a) (hf : FV p D fs) : 0 ≤ a ∧ a ≤ 1000000 := by have := h.1; have := h.2; have := hf.q64; omega

end Go.Proofs.Ytpfgbbbjldpnnaa
