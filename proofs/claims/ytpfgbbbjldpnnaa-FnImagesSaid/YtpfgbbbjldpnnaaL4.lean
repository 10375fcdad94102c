/- The law FnSets, walked. -/
import Derived.Test.YtpfgbbbjldpnnaaSet2
namespace Go.Proofs.Ytpfgbbbjldpnnaa
set_option linter.unusedSimpArgs false
set_option linter.unusedVariables false
open Go.RowKit

theorem take_app_last {L : List Ent} {a b : Ent} : (L ++ [a])[L.length]? = some a := by simp

set_option maxHeartbeats 2000000 in
set_option maxRecDepth 100000 in
theorem l01DrawBad_c (w0 w : World) (cv : Value) (bs : List UInt8) (g K : Nat) (L : List Ent) (n : Int) (hb : RdB w0 cv bs) (h : Src w0 w cv g K L) (hK : K < 10000000000) (hn : 0 ≤ n ∧ n ≤ 100) :
    Calls Try.prog 55 #[.pointer (some ⟨g, 0, none⟩), .int .i64 n] w (SomeLS w0 cv g (K + 400) 200 L) := by
  go_enter Try.func55, Try.ntmps55
  go_wp2_with fail
  refine (l01DrawSet_c w0 w cv bs g K L n hb h (by omega) hn).mono ?_
  rintro e w1 ⟨v, xs, rfl, hx, h1⟩
  go_wp2_with fail
  refine (pick_c w0 w1 cv bs g _ _ 8 hb h1 (by omega)).mono ?_
  rintro e w2 ⟨q, hq0, hq1, rfl, h2⟩
  by_cases e0 : q = 0
  · subst e0
    go_wp2_with fail
    refine (among_lit [-1, 0, 31, 32, n] w0 w2 cv bs g _ _ hb h2 (by simp) (by omega)).mono ?_
    rintro e w3 ⟨y, _, rfl, h3⟩
    obtain ⟨p, sd, s0, s1, hS⟩ := h3
    go_wp2_with (at_builtin; refine appI hS (L.length + 1) (v := v) (xs := xs) (by simp) (by omega) rfl _ _ rfl rfl _ rfl ?_; intro v' w4 hS4)
    go_ret
    refine ⟨_, xs ++ [y], rfl, ?_, ?_⟩
    · exact (show (xs ++ [y]).length ≤ 200 by simp; omega)
    · refine Src.mono ⟨p, sd, s0, s1, ?_⟩ (show K + 300 + 2 + 2 ≤ K + 400 by omega)
      simpa using hS4
  · have f0 := eq_f e0
    by_cases e1 : q = 1
    · subst e1
      go_wp2_with fail
      refine (among_lit [-1, 0, 5, 32] w0 w2 cv bs g _ _ hb h2 (by simp) (by omega)).mono ?_
      rintro e w3 ⟨y, _, rfl, h3⟩
      obtain ⟨p, sd, s0, s1, hS⟩ := h3
      have hS3 := hS.new 2 #[.int .i64 y] (by simp [maxLen])
      have hr3 : RdI _ v xs := hS3.rdI (L.length + 1) (e := 2) (by simp)
      go_wp2_with (at_builtin; refine appsI hS3 (L.length + 2) (v := .slice (some ⟨w3.heap.size, 0, none⟩) 1 1) (xs := [y]) (by simp; rfl) v xs hr3 (by simp; omega) rfl _ _ rfl rfl rfl ?_; intro v' w4 hS4)
      go_ret
      refine ⟨_, [y] ++ xs, rfl, ?_, ?_⟩
      · exact (show ([y] ++ xs).length ≤ 200 by simp; omega)
      · have hS5 : St w0.heap.size w0 w4 (box 102 g [cv, .int .i64 p, .int .u64 sd] :: (L ++ [row 2 v (iv xs)] ++ [row 2 v' (iv ([y] ++ xs))])) := by simpa using hS4
        exact Src.mono (Src.sub (L := L ++ [row 2 v (iv xs)] ++ [row 2 v' (iv ([y] ++ xs))]) ⟨p, sd, s0, s1, hS5⟩ (by rw [List.append_assoc]; exact (List.sublist_append_right _ _).append_left _)) (show K + 300 + 2 + 2 ≤ K + 400 by omega)
    · have f1 := eq_f e1
      go_wp2_with fail
      go_ret
      exact ⟨_, _, rfl, by omega, h2.mono (by omega)⟩

def Two (w : World) (m : Nat) (e : Ending) (w' : World) : Prop :=
  ∃ va vb xs ys, e = .returned (.tuple #[va, vb]) ∧ xs.length ≤ m ∧ ys.length ≤ m ∧ St w.heap.size w w' [row 2 va (iv xs), row 2 vb (iv ys)]

theorem Two.w0 {w w' : World} {m : Nat} {e : Ending} (h : Two w m e w') : Two w m e w' := h

end Go.Proofs.Ytpfgbbbjldpnnaa
