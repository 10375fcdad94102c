/- The law FnSets, walked. -/
import Derived.Test.YtonmggppfopidaaSet2
namespace Go.Proofs.Ytonmggppfopidaa
open Go.RowKit

theorem take_app_last {L : List Ent} {a b : Ent} : (L ++ [a])[L.length]? = some a := by simp

set_option maxHeartbeats 2000000 in
set_option maxRecDepth 100000 in
theorem l01DrawBad_c (w0 w : World) (cv : Value) (bs : List UInt8) (g K : Nat) (L : List Ent) (n : Int) (hb : RdB w0 cv bs) (h : Src w0 w cv g K L) (hK : K < 10000000000) (hn : 0 ≤ n ∧ n ≤ 100) :
    Calls Try.prog 121 #[.pointer (some ⟨g, 0, none⟩), .int .i64 n] w (SomeLS w0 cv g (K + 400) 200 L) := by
  go_enter Try.func121, Try.ntmps121
  go_wp2_with fail
  refine (l01DrawSet_c w0 w cv bs g K L n hb h (by omega) hn).mono ?_
  rintro e w1 ⟨v, xs, rfl, hx, h1⟩
  go_wp2_with fail
  refine (pick_c w0 w1 cv bs g _ _ 8 hb h1 (by omega)).mono ?_
  rintro e w2 ⟨q, hq0, hq1, rfl, h2⟩
  by_cases e0 : q = 0
  · subst e0
    go_wp2_with fail
    refine (among_lit [-1, 0, 31, 32, n] w0 w2 cv bs g _ _ hb h2 (by simp) (by omega)).mono ?_
    rintro e w3 ⟨y, _, rfl, h3⟩
    obtain ⟨p, sd, s0, s1, hS⟩ := h3
    go_wp2_with (at_builtin; refine appI hS (L.length + 1) (v := v) (xs := xs) (by simp) (by omega) rfl _ _ rfl rfl _ rfl ?_; intro v' w4 hS4)
    go_ret
    refine ⟨_, xs ++ [y], rfl, ?_, ?_⟩
    · exact (show (xs ++ [y]).length ≤ 200 by simp; omega)
    · refine Src.mono ⟨p, sd, s0, s1, ?_⟩ (show K + 300 + 2 + 2 ≤ K + 400 by omega)
      simpa using hS4
  · have f0 := eq_f e0
    by_cases e1 : q = 1
    · subst e1
      go_wp2_with fail
      refine (among_lit [-1, 0, 5, 32] w0 w2 cv bs g _ _ hb h2 (by simp) (by omega)).mono ?_
      rintro e w3 ⟨y, _, rfl, h3⟩
      obtain ⟨p, sd, s0, s1, hS⟩ := h3
      have hS3 := hS.new 2 #[.int .i64 y] (by simp [maxLen])
      have hr3 : RdI _ v xs := hS3.rdI (L.length + 1) (e := 2) (by simp)
      go_wp2_with (at_builtin; refine appsI hS3 (L.length + 2) (v := .slice (some ⟨w3.heap.size, 0, none⟩) 1 1) (xs := [y]) (by simp; rfl) v xs hr3 (by simp; omega) rfl _ _ rfl rfl rfl ?_; intro v' w4 hS4)
      go_ret
      refine ⟨_, [y] ++ xs, rfl, ?_, ?_⟩
      · exact (show ([y] ++ xs).length ≤ 200 by simp; omega)
      · have hS5 : St w0.heap.size w0 w4 (box 100 g [cv, .int .i64 p, .int .u64 sd] :: (L ++ [row 2 v (iv xs)] ++ [row 2 v' (iv ([y] ++ xs))])) := by simpa using hS4
        exact Src.mono (Src.sub (L := L ++ [row 2 v (iv xs)] ++ [row 2 v' (iv ([y] ++ xs))]) ⟨p, sd, s0, s1, hS5⟩ (by rw [List.append_assoc]; exact (List.sublist_append_right _ _).append_left _)) (show K + 300 + 2 + 2 ≤ K + 400 by omega)
    · have f1 := eq_f e1
      go_wp2_with fail
      go_ret
      exact ⟨_, _, rfl, by omega, h2.mono (by omega)⟩

def Two (w : World) (m : Nat) (e : Ending) (w' : World) : Prop :=
  ∃ va vb xs ys, e = .returned (.tuple #[va, vb]) ∧ xs.length ≤ m ∧ ys.length ≤ m ∧ St w.heap.size w w' [row 2 va (iv xs), row 2 vb (iv ys)]

set_option maxHeartbeats 2000000 in
set_option maxRecDepth 100000 in
theorem l01DrawTwo_c (w0 w : World) (cv : Value) (bs : List UInt8) (g : Nat) (hb : RdB w0 cv bs) (h : Src w0 w cv g 0 []) :
    Calls Try.prog 88 #[.pointer (some ⟨g, 0, none⟩)] w (Two w0 200) := by
  go_enter Try.func88, Try.ntmps88
  go_wp2_with fail
  refine (among_lit [3, 6, 12, 32] w0 w cv bs g _ _ hb h (by simp) (by omega)).mono ?_
  rintro e w1 ⟨n, hn, rfl, h1⟩
  have hn' : 0 ≤ n ∧ n ≤ 100 := by simp at hn; omega
  clear hn
  go_wp2_with fail
  refine (l01DrawBad_c w0 w1 cv bs g _ [] n hb h1 (by omega) hn').mono ?_
  rintro e w2 ⟨va, xs, rfl, hx, h2⟩
  go_wp2_with fail
  refine (l01DrawBad_c w0 w2 cv bs g _ _ n hb h2 (by omega) hn').mono ?_
  rintro e w3 ⟨vb, ys, rfl, hy, h3⟩
  go_wp2_with fail
  go_ret2
  exact ⟨va, vb, xs, ys, rfl, hx, hy, h3.st⟩

theorem Two.w0 {w w' : World} {m : Nat} {e : Ending} (h : Two w m e w') : Two w m e w' := h

set_option maxHeartbeats 2000000 in
set_option maxRecDepth 100000 in
theorem DrawUnionSets_c (w : World) (cv : Value) (bs : List UInt8) (hb : RdB w cv bs) :
    Calls Try.prog 40 #[cv] w (Two w 200) := by
  go_enter Try.func40, Try.ntmps40
  go_wp2_with fail
  refine (l00From_c w cv bs hb).mono ?_
  rintro e w1 ⟨rfl, h1⟩
  go_wp2_with fail
  refine (l01DrawTwo_c w w1 cv bs _ hb h1).mono ?_
  rintro e w2 ⟨va, vb, xs, ys, rfl, hx, hy, h2⟩
  go_wp2_with fail
  go_ret2
  exact ⟨va, vb, xs, ys, rfl, hx, hy, h2⟩

set_option maxHeartbeats 4000000 in
set_option maxRecDepth 100000 in
theorem FnSets_law (w : World) (cv : Value) (bs : List UInt8) (hb : RdB w cv bs) :
    Calls Try.prog 9 #[cv] w (GivesB w true) := by
  by_cases hlong : 1048576 < bs.length
  · have hl' : decide (1048576 < bs.length) = true := by simpa using hlong
    go_enter Try.func9, Try.ntmps9
    go_wp2_with fail
    refine (b10Long_c w cv bs hb).mono ?_
    rintro e w1 ⟨rfl, rfl⟩
    go_wp2_with fail
    go_ret
    exact ⟨rfl, St.refl _⟩
  have hl' : decide (1048576 < bs.length) = false := by simpa using hlong
  go_enter Try.func9, Try.ntmps9
  go_wp2_with fail
  refine (b10Long_c w cv bs hb).mono ?_
  rintro e w1 ⟨rfl, rfl⟩
  go_wp2_with fail
  refine (DrawUnionSets_c w cv bs hb).mono ?_
  rintro e w1 ⟨va, vb, a, b, rfl, ha, hb', h1⟩
  go_wp2_with fail
  refine (UnionSets_c va vb a b w1 (h1.rdI 0 rfl) (h1.rdI 1 rfl)).mono ?_
  rintro e w2 ⟨vu, rfl, h2⟩
  have hS2 := h1.call h2
  clear h1 h2
  go_wp2_with fail
  refine (MeetSets_c va vb a b w2 (hS2.rdI 0 rfl) (hS2.rdI 1 rfl)).mono ?_
  rintro e w3 ⟨vm, rfl, h3⟩
  have hS3 := hS2.call h3
  clear hS2 h3
  go_wp2_with fail
  refine (MinusSets_c va vb a b w3 (hS3.rdI 0 rfl) (hS3.rdI 1 rfl)).mono ?_
  rintro e w4 ⟨vn, rfl, h4⟩
  have hS4 := hS3.call h4
  clear hS3 h4
  have hla := (hS4.rdI 0 rfl).len
  have hlb := (hS4.rdI 1 rfl).len
  have hlu := (hS4.rdI 2 rfl).len
  have hlm := (hS4.rdI 3 rfl).len
  have hln := (hS4.rdI 4 rfl).len
  by_cases hA : IsSet a
  · have iA : incB (-1) 32 a = true := hA
    by_cases hB : IsSet b
    · have iB : incB (-1) 32 b = true := hB
      have eU : ifSets a b (uni a b) = uni a b := if_pos ⟨hA, hB⟩
      have eM : ifSets a b (mee a b) = mee a b := if_pos ⟨hA, hB⟩
      have eN : ifSets a b (min' a b) = min' a b := if_pos ⟨hA, hB⟩
      rw [eU] at hS4 hlu
      rw [eM] at hS4 hlm
      rw [eN] at hS4 hln
      have sU : IsSet (uni a b) := isSet_upF _
      have sM : IsSet (mee a b) := isSet_upF _
      have sN : IsSet (min' a b) := isSet_upF _
      have q1 : ifSets (mee a b) (min' a b) (uni (mee a b) (min' a b)) = a := by rw [ifSets, if_pos ⟨sM, sN⟩]; exact set_1 hA
      have q2 : ifSets (min' a b) b (mee (min' a b) b) = [] := by rw [ifSets, if_pos ⟨sN, hB⟩]; exact set_2 a b
      have q3 : ifSets (min' a b) b (uni (min' a b) b) = uni a b := by rw [ifSets, if_pos ⟨sN, hB⟩]; exact set_3 a b
      have q4 : ifSets (uni a b) b (min' (uni a b) b) = min' a b := by rw [ifSets, if_pos ⟨sU, hB⟩]; exact set_4 a b
      have hlen := Lib.hid (set_len hA hB)
      have vU : validSetB (uni a b) 32 = true := by rw [validSetB_32]; exact sU
      have vM : validSetB (mee a b) 32 = true := by rw [validSetB_32]; exact sM
      have vN : validSetB (min' a b) 32 = true := by rw [validSetB_32]; exact sN
      have lu : (uni a b).length ≤ 32 := len_upF_le _ _ _
      have lm : (mee a b).length ≤ 32 := len_upF_le _ _ _
      clear eU eM eN sU sM sN
      generalize uni a b = U at *
      generalize mee a b = M at *
      generalize min' a b = D at *
      have fl : ((U.length : Int) + (M.length : Int) != (a.length : Int) + (b.length : Int)) = false := ne_f (by have := hlen.out; omega)
      go_wp2_with fail
      refine (sValidSet_c va a w4 (hS4.rdI 0 rfl)).mono ?_
      rw [iA]
      rintro e w5 ⟨rfl, h5⟩
      have hS5 := hS4.call0 h5
      clear hS4 h5
      go_wp2_with fail
      refine (sValidSet_c vb b w5 (hS5.rdI 1 rfl)).mono ?_
      rw [iB]
      rintro e w6 ⟨rfl, h6⟩
      have hS6 := hS5.call0 h6
      clear hS5 h6
      go_wp2_with fail
      refine (ValidSet_c vu U 32 w6 (hS6.rdI 2 rfl)).mono ?_
      rw [vU]
      rintro e w7 ⟨rfl, rfl⟩
      go_wp2_with fail
      refine (ValidSet_c vm M 32 w6 (hS6.rdI 3 rfl)).mono ?_
      rw [vM]
      rintro e w7 ⟨rfl, rfl⟩
      go_wp2_with fail
      refine (ValidSet_c vn D 32 w6 (hS6.rdI 4 rfl)).mono ?_
      rw [vN]
      rintro e w7 ⟨rfl, rfl⟩
      go_wp2_with fail
      refine (UnionSets_c vm vn M D w6 (hS6.rdI 3 rfl) (hS6.rdI 4 rfl)).mono ?_
      rw [q1]
      rintro e w7 ⟨v1, rfl, h7⟩
      have hS7 := hS6.call h7
      clear hS6 h7
      go_wp2_with fail
      refine (b10Nums_c v1 va a a w7 (hS7.rdI 5 rfl) (hS7.rdI 0 rfl)).mono ?_
      rw [decide_eq_true rfl]
      rintro e w8 ⟨rfl, h8⟩
      have hS8 := hS7.call0 h8
      clear hS7 h8
      go_wp2_with fail
      refine (MeetSets_c vn vb D b w8 (hS8.rdI 4 rfl) (hS8.rdI 1 rfl)).mono ?_
      rw [q2]
      rintro e w9 ⟨v2, rfl, h9⟩
      have hS9 := hS8.call h9
      clear hS8 h9
      have hl9 := (hS9.rdI (xs := []) 6 rfl).len
      go_wp2_with fail
      refine (UnionSets_c vn vb D b w9 (hS9.rdI 4 rfl) (hS9.rdI 1 rfl)).mono ?_
      rw [q3]
      rintro e w10 ⟨v3, rfl, h10⟩
      have hS10 := hS9.call h10
      clear hS9 h10
      go_wp2_with fail
      refine (b10Nums_c v3 vu U U w10 (hS10.rdI 7 rfl) (hS10.rdI 2 rfl)).mono ?_
      rw [decide_eq_true rfl]
      rintro e w11 ⟨rfl, h11⟩
      have hS11 := hS10.call0 h11
      clear hS10 h11
      go_wp2_with fail
      refine (MinusSets_c vu vb U b w11 (hS11.rdI 2 rfl) (hS11.rdI 1 rfl)).mono ?_
      rw [q4]
      rintro e w12 ⟨v4, rfl, h12⟩
      have hS12 := hS11.call h12
      clear hS11 h12
      go_wp2_with fail
      refine (b10Nums_c v4 vn D D w12 (hS12.rdI 8 rfl) (hS12.rdI 4 rfl)).mono ?_
      rw [decide_eq_true rfl]
      rintro e w13 ⟨rfl, h13⟩
      have hS13 := hS12.call0 h13
      clear hS12 h13
      go_wp2_with fail
      go_ret
      exact ⟨rfl, hS13.out⟩
    · have iB : incB (-1) 32 b = false := by simpa [IsSet] using hB
      have eU : ∀ r, ifSets a b r = [] := fun r => if_neg (fun h => hB h.2)
      rw [eU] at hS4 hlu hlm hln
      rw [eU] at hS4
      rw [eU] at hS4
      clear eU
      go_wp2_with fail
      refine (sValidSet_c va a w4 (hS4.rdI 0 rfl)).mono ?_
      rw [iA]
      rintro e w5 ⟨rfl, h5⟩
      have hS5 := hS4.call0 h5
      clear hS4 h5
      go_wp2_with fail
      refine (sValidSet_c vb b w5 (hS5.rdI 1 rfl)).mono ?_
      rw [iB]
      rintro e w6 ⟨rfl, h6⟩
      have hS6 := hS5.call0 h6
      clear hS5 h6
      go_wp2_with fail
      go_ret
      exact ⟨rfl, hS6.out⟩
  · have iA : incB (-1) 32 a = false := by simpa [IsSet] using hA
    have eU : ∀ r, ifSets a b r = [] := fun r => if_neg (fun h => hA h.1)
    rw [eU] at hS4 hlu hlm hln
    rw [eU] at hS4
    rw [eU] at hS4
    clear eU
    go_wp2_with fail
    refine (sValidSet_c va a w4 (hS4.rdI 0 rfl)).mono ?_
    rw [iA]
    rintro e w5 ⟨rfl, h5⟩
    have hS5 := hS4.call0 h5
    clear hS4 h5
    go_wp2_with fail
    go_ret
    exact ⟨rfl, hS5.out⟩
end Go.Proofs.Ytonmggppfopidaa
