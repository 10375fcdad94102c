/- Walks: what the laws on residues draw. -/
import Derived.Test.YtonmggppfopidaaDrw
import Derived.Test.YtonmggppfopidaaNum2
namespace Go.Proofs.Ytonmggppfopidaa
set_option linter.unusedSimpArgs false
set_option linter.unusedVariables false
open Go.RowKit

theorem l00In_c (n a b : Int) (w : World) :
    Calls Try.prog 93 #[.int .i64 n, .int .i64 a, .int .i64 b] w fun e w' => e = .returned (.bool (inB n a b)) ∧ w = w' := by
  go_enter Try.func93, Try.ntmps93
  by_cases h : a ≤ n
  · go_wp2
    go_ret
    exact ⟨ret_bool (by simp [inB, h]), rfl⟩
  · go_wp2
    go_ret
    exact ⟨ret_bool (by simp [inB, show ¬ a ≤ n by omega]), rfl⟩

theorem l00Max_c (a b : Int) (w : World) : Calls Try.prog 113 #[.int .i64 a, .int .i64 b] w fun e w' => e = .returned (.int .i64 (max a b)) ∧ w = w' := by
  by_cases h : b < a
  · go_enter Try.func113, Try.ntmps113
    go_wp2_with fail
    go_ret
    exact ⟨ret_i64 (by omega), rfl⟩
  · go_enter Try.func113, Try.ntmps113
    go_wp2_with fail
    go_ret
    exact ⟨ret_i64 (by omega), rfl⟩

theorem l02Modulus_c (m : Int) (w : World) : Calls Try.prog 72 #[.int .i64 m] w fun e w' => e = .returned (.bool (inB m 1 1000)) ∧ w = w' := by
  go_enter Try.func72, Try.ntmps72
  go_wp2_with fail
  refine (l00In_c _ _ _ _).mono ?_
  rintro e w1 ⟨rfl, rfl⟩
  go_wp2_with fail
  go_ret
  exact ⟨rfl, rfl⟩

set_option maxHeartbeats 1000000 in
set_option maxRecDepth 100000 in
theorem l02DrawModulus_c (w0 w : World) (cv : Value) (bs : List UInt8) (g K : Nat) (L : List Ent) (hb : RdB w0 cv bs) (h : Src w0 w cv g K L) (hK : K < 100000000000) :
    Calls Try.prog 69 #[.pointer (some ⟨g, 0, none⟩)] w (Some1 fun w' => Src w0 w' cv g (K + 4) L) := by
  go_enter Try.func69, Try.ntmps69
  go_wp2_with fail
  refine (pick_c w0 w cv bs g K L 6 hb h (by omega)).mono ?_
  rintro e w1 ⟨x, hx0, hx1, rfl, h1⟩
  by_cases e0 : x = 0
  · subst e0
    go_wp2_with fail
    refine (among_lit [0, 1, 2, 1000, 1001, -5] w0 w1 cv bs g _ L hb h1 (by decide) (by omega)).mono ?_
    rintro e w2 ⟨y, _, rfl, h2⟩
    go_wp2_with fail
    go_ret
    exact ⟨_, rfl, h2.mono (by omega)⟩
  · have f0 := eq_f e0
    by_cases e1 : x = 1
    · subst e1
      go_wp2_with fail
      refine (among_lit [7, 11, 13, 31, 997, 256, 360] w0 w1 cv bs g _ L hb h1 (by decide) (by omega)).mono ?_
      rintro e w2 ⟨y, _, rfl, h2⟩
      go_wp2_with fail
      go_ret
      exact ⟨_, rfl, h2.mono (by omega)⟩
    · have f1 := eq_f e1
      by_cases e2 : x = 2
      · subst e2
        go_wp2_with fail
        refine (pick_c w0 w1 cv bs g _ L 1000 hb h1 (by omega)).mono ?_
        rintro e w2 ⟨k, hk0, hk1, rfl, h2⟩
        go_wp2_with fail
        go_ret
        exact ⟨_, rfl, h2.mono (by omega)⟩
      · have f2 := eq_f e2
        go_wp2_with fail
        refine (pick_c w0 w1 cv bs g _ L 24 hb h1 (by omega)).mono ?_
        rintro e w2 ⟨k, hk0, hk1, rfl, h2⟩
        go_wp2_with fail
        go_ret
        exact ⟨_, rfl, h2.mono (by omega)⟩

set_option maxHeartbeats 1000000 in
set_option maxRecDepth 100000 in
theorem l02DrawResidue_c (w0 w : World) (cv : Value) (bs : List UInt8) (g K : Nat) (L : List Ent) (m : Int) (hb : RdB w0 cv bs) (h : Src w0 w cv g K L) (hK : K < 100000000000) :
    Calls Try.prog 70 #[.pointer (some ⟨g, 0, none⟩), .int .i64 m] w (Some1 fun w' => Src w0 w' cv g (K + 4) L) := by
  go_enter Try.func70, Try.ntmps70
  go_wp2_with fail
  refine (one_c w0 w cv bs g K L 10 hb h (by omega)).mono ?_
  rintro e w1 ⟨x, rfl, h1⟩
  cases x
  · go_wp2_with fail
    refine (l00Max_c _ _ _).mono ?_
    rintro e w2 ⟨rfl, rfl⟩
    go_wp2_with fail
    refine (pick_c w0 w1 cv bs g _ L _ hb h1 (by omega)).mono ?_
    rintro e w2 ⟨k, hk0, hk1, rfl, h2⟩
    go_wp2_with fail
    go_ret
    exact ⟨_, rfl, h2.mono (by omega)⟩
  · go_wp2_with fail
    refine (among_lit [-1, m, _] w0 w1 cv bs g _ L hb h1 (by simp) (by omega)).mono ?_
    rintro e w2 ⟨y, _, rfl, h2⟩
    go_wp2_with fail
    go_ret
    exact ⟨_, rfl, h2.mono (by omega)⟩

set_option maxHeartbeats 1000000 in
set_option maxRecDepth 100000 in
theorem DrawInverseMod_c (w : World) (cv : Value) (bs : List UInt8) (hb : RdB w cv bs) :
    Calls Try.prog 24 #[cv] w (Some2 fun w' => St w.heap.size w w' []) := by
  go_enter Try.func24, Try.ntmps24
  go_wp2_with fail
  refine (l00From_c w cv bs hb).mono ?_
  rintro e w1 ⟨rfl, h1⟩
  go_wp2_with fail
  refine (l02DrawModulus_c w w1 cv bs _ _ [] hb h1 (by omega)).mono ?_
  rintro e w2 ⟨m, rfl, h2⟩
  go_wp2_with fail
  refine (l02DrawResidue_c w w2 cv bs _ _ [] m hb h2 (by omega)).mono ?_
  rintro e w3 ⟨x, rfl, h3⟩
  go_wp2_with fail
  go_ret2
  exact ⟨_, _, rfl, h3.st⟩

set_option maxHeartbeats 2000000 in
set_option maxRecDepth 100000 in
theorem DrawSolveChinese_c (w : World) (cv : Value) (bs : List UInt8) (hb : RdB w cv bs) :
    Calls Try.prog 21 #[cv] w (Some4 fun w' => St w.heap.size w w' []) := by
  go_enter Try.func21, Try.ntmps21
  go_wp2_with fail
  refine (l00From_c w cv bs hb).mono ?_
  rintro e w1 ⟨rfl, h1⟩
  go_wp2_with fail
  refine (l02DrawModulus_c w w1 cv bs _ _ [] hb h1 (by omega)).mono ?_
  rintro e w2 ⟨m, rfl, h2⟩
  go_wp2_with fail
  refine (l02DrawModulus_c w w2 cv bs _ _ [] hb h2 (by omega)).mono ?_
  rintro e w3 ⟨n, rfl, h3⟩
  go_wp2_with fail
  refine (l02DrawResidue_c w w3 cv bs _ _ [] m hb h3 (by omega)).mono ?_
  rintro e w4 ⟨a, rfl, h4⟩
  go_wp2_with fail
  refine (l02DrawResidue_c w w4 cv bs _ _ [] n hb h4 (by omega)).mono ?_
  rintro e w5 ⟨b, rfl, h5⟩
  go_wp2_with fail
  refine (one_c w w5 cv bs _ _ [] 2 hb h5 (by omega)).mono ?_
  rintro e w6 ⟨x, rfl, h6⟩
  cases x
  · go_wp2_with fail
    refine bodyPost_ret (v := .tuple #[.int .i64 a, .int .i64 m, .int .i64 b, .int .i64 n]) (by simp [results, Try.results21, go_sem]) rfl ⟨_, _, _, _, rfl, h6.st⟩
  · by_cases hm : 1 ≤ m ∧ m ≤ 1000
    · have im := inB_true hm
      by_cases hn : 1 ≤ n ∧ n ≤ 1000
      · have ine := inB_true hn
        obtain ⟨m1, m2⟩ := hm
        obtain ⟨n1, n2⟩ := hn
        go_wp2_with (go_at_call 72; refine (l02Modulus_c _ _).mono ?_; rintro e w7 ⟨rfl, rfl⟩)
        refine (pick_c w w6 cv bs _ _ [] 1000 hb h6 (by omega)).mono ?_
        rintro e w7 ⟨y, hy0, hy1, rfl, h7⟩
        go_wp2_with fail
        have fm : (m == 0) = false := eq_f (by omega)
        have fn : (n == 0) = false := eq_f (by omega)
        have hS7 := h7.st
        have hne : Nonempty (SS _ _ _) := ⟨⟨_, hS7⟩⟩
        refine wp_region_st (by kernel_rfl) (by kernel_rfl) hS7 ?_
        repeat (go_big_quiet_step (fail))
        refine wpQuiet_nil ?_
        rintro _ ⟨s2, rfl⟩
        have hS8 := s2.st
        generalize s2.w = w8 at hS8 ⊢
        go_wp2_with fail
        refine bodyPost_ret (v := .tuple #[.int .i64 (y * 17 % m), .int .i64 m, .int .i64 (y * 17 % n), .int .i64 n]) (by simp [results, Try.results21, go_sem]) rfl ⟨_, _, _, _, rfl, hS8⟩
      · have ine := inB_false hn
        clear hn
        go_wp2_with (go_at_call 72; refine (l02Modulus_c _ _).mono ?_; rintro e w7 ⟨rfl, rfl⟩)
        refine bodyPost_ret (v := .tuple #[.int .i64 a, .int .i64 m, .int .i64 b, .int .i64 n]) (by simp [results, Try.results21, go_sem]) rfl ⟨_, _, _, _, rfl, h6.st⟩
    · have im := inB_false hm
      clear hm
      go_wp2_with (go_at_call 72; refine (l02Modulus_c _ _).mono ?_; rintro e w7 ⟨rfl, rfl⟩)
      refine bodyPost_ret (v := .tuple #[.int .i64 a, .int .i64 m, .int .i64 b, .int .i64 n]) (by simp [results, Try.results21, go_sem]) rfl ⟨_, _, _, _, rfl, h6.st⟩
end Go.Proofs.Ytonmggppfopidaa
