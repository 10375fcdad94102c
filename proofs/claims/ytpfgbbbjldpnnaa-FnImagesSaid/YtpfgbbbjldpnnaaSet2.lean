/- Walks: operations on sets, and what the law on sets draws. -/
import Derived.Test.YtpfgbbbjldpnnaaSet
import Derived.Test.YtpfgbbbjldpnnaaSrc2
import Derived.Test.YtpfgbbbjldpnnaaDrw2
namespace Go.Proofs.Ytpfgbbbjldpnnaa
set_option linter.unusedSimpArgs false
set_option linter.unusedVariables false
open Go.RowKit

def ifSets (a b : List Int) (r : List Int) : List Int := if IsSet a ∧ IsSet b then r else []

set_option maxHeartbeats 2000000 in
set_option maxRecDepth 100000 in
theorem l00Rises_c (v : Value) (xs : List Int) (lo hi : Int) (w : World) (hv : RdI w v xs) :
    Calls Try.prog 64 #[v, .int .i64 lo, .int .i64 hi] w (GivesB w (incB (lo - 1) (hi + 1) xs)) := by
  have hln := hv.len
  have hix := hv.ix
  have hm := hv.le
  go_enter Try.func64, Try.ntmps64
  go_wp2_with fail
  go_loopw [7] (fun i wr => ∃ (k : Nat) (last : Int), k ≤ xs.length ∧ i = .int .i64 k ∧ Hid (incB (lo - 1) (hi + 1) xs = incB last (hi + 1) (xs.drop k)) ∧ Hid (k = 0 → last = lo - 1) ∧ Hid (0 < k → last = nth xs (k - 1)) ∧ lo - 1 ≤ last ∧ St w.heap.size w wr []) (fun i _ => xs.length - (intOf i).toNat)
  case atStart => exact ⟨0, lo - 1, by omega, rfl, rfl, fun _ => rfl, fun h => by omega, by omega, St.refl w⟩
  case round =>
    obtain ⟨k, last, hk, rfl, hI, hl0, hl1, hll, hS⟩ := hrel
    by_cases hlt : k < xs.length
    · have hd := Lib.hid (incB_drop hlt last (hi + 1))
      have hq := fun s : SS w.heap.size w [] => (s.st.oldI hv).cell k hlt
      by_cases h1 : lo ≤ nth xs k ∧ nth xs k ≤ hi
      · have i1 := inB_true h1
        obtain ⟨h1a, h1b⟩ := h1
        by_cases h0 : 0 < k
        · have Hl := Lib.hid (hl1.out h0)
          have hix1 := hv.ixe ((k : Int) - 1) (k - 1) (by omega) (by omega)
          have hq1 := fun s : SS w.heap.size w [] => (s.st.oldI hv).cell (k - 1) (by omega)
          by_cases h2 : nth xs k ≤ nth xs (k - 1)
          · go_wp2_with fail
            have hne : Nonempty (SS _ _ _) := ⟨⟨_, hS⟩⟩
            refine wp_region_st (by kernel_rfl) (by kernel_rfl) hS ?_
            repeat (go_big_quiet_step ((go_at_call 63; exact st_quiet0 (l00In_c _ _ _ _))))
            refine wpQuiet_nil ?_
            rintro _ ⟨s2, rfl⟩
            have hS2 := s2.st
            generalize s2.w = w2 at hS2 ⊢
            go_wp2_with fail
            go_ret
            exact ⟨ret_bool (by rw [hI.out, hd.out, Hl.out]; simp [h2]), hS2⟩
          · go_wp2_with fail
            have hne : Nonempty (SS _ _ _) := ⟨⟨_, hS⟩⟩
            refine wp_region_st (by kernel_rfl) (by kernel_rfl) hS ?_
            repeat (go_big_quiet_step ((go_at_call 63; exact st_quiet0 (l00In_c _ _ _ _))))
            refine wpQuiet_nil ?_
            rintro _ ⟨s2, rfl⟩
            have hS2 := s2.st
            generalize s2.w = w2 at hS2 ⊢
            go_wp2_with fail
            go_roundw
            case rel => exact ⟨k + 1, nth xs k, by omega, by go_num, by rw [Hid, hI.out, hd.out, Hl.out, if_neg (by omega)], fun h => by omega, fun _ => rfl, by omega, hS2⟩
            case measure => simp [intOf]; omega
        · have Hl := Lib.hid (hl0.out (by omega))
          go_wp2_with fail
          have hne : Nonempty (SS _ _ _) := ⟨⟨_, hS⟩⟩
          refine wp_region_st (by kernel_rfl) (by kernel_rfl) hS ?_
          repeat (go_big_quiet_step ((go_at_call 63; exact st_quiet0 (l00In_c _ _ _ _))))
          refine wpQuiet_nil ?_
          rintro _ ⟨s2, rfl⟩
          have hS2 := s2.st
          generalize s2.w = w2 at hS2 ⊢
          go_wp2_with fail
          go_roundw
          case rel => exact ⟨k + 1, nth xs k, by omega, by go_num, by rw [Hid, hI.out, hd.out, Hl.out, if_neg (by omega)], fun h => by omega, fun _ => rfl, by omega, hS2⟩
          case measure => simp [intOf]; omega
      · have i1 := inB_false h1
        have H1 := Lib.hid h1; clear h1
        go_wp2_with fail
        have hne : Nonempty (SS _ _ _) := ⟨⟨_, hS⟩⟩
        refine wp_region_st (by kernel_rfl) (by kernel_rfl) hS ?_
        repeat (go_big_quiet_step ((go_at_call 63; exact st_quiet0 (l00In_c _ _ _ _))))
        refine wpQuiet_nil ?_
        rintro _ ⟨s2, rfl⟩
        have hS2 := s2.st
        generalize s2.w = w2 at hS2 ⊢
        go_wp2_with fail
        go_ret
        exact ⟨ret_bool (by rw [hI.out, hd.out, if_pos (by have := H1.out; omega)]), hS2⟩
    · go_wp2_with fail
      go_ret
      exact ⟨ret_bool (by rw [hI.out, List.drop_of_length_le (by omega)]; simp [incB]), hS⟩

theorem sValidSet_c (v : Value) (xs : List Int) (w : World) (hv : RdI w v xs) :
    Calls Try.prog 13 #[v, .int .i64 32] w (GivesB w (incB (-1) 32 xs)) := by
  have i1 : inB 32 0 32 = true := rfl
  go_enter Try.func13, Try.ntmps13
  go_wp2_with fail
  refine (l00In_c _ _ _ _).mono ?_
  rw [i1]
  rintro e w1 ⟨rfl, rfl⟩
  go_wp2_with fail
  refine (l00Rises_c v xs 0 31 w hv).mono ?_
  rintro e w1 ⟨rfl, h1⟩
  go_wp2_with fail
  go_ret
  exact ⟨rfl, h1⟩

/-- some list of at most m numbers, in memory of its own -/
def SomeL (w : World) (m : Nat) (e : Ending) (w' : World) : Prop := ∃ v ys, e = .returned v ∧ ys.length ≤ m ∧ St w.heap.size w w' [row 2 v (iv ys)]

set_option maxHeartbeats 2000000 in
set_option maxRecDepth 100000 in
theorem l00Put_c (v : Value) (xs : List Int) (n : Int) (w : World) (hv : RdI w v xs) (hxs : xs.length ≤ 1000000) :
    Calls Try.prog 131 #[v, .int .i64 n] w (SomeL w (xs.length + 1)) := by
  have hln := hv.len
  have hix := hv.ix
  have hm := hv.le
  go_enter Try.func131, Try.ntmps131
  go_wp2_with fail
  go_loopw [5, 6, 7] (fun o d i wr => ∃ (k : Nat) (b : Bool) (ys : List Int), k ≤ xs.length ∧ i = .int .i64 k ∧ d = .bool b ∧ ys.length ≤ k + b.toNat ∧ St w.heap.size w wr [row 2 o (iv ys)]) (fun _ _ i _ => xs.length - (intOf i).toNat)
  case atStart => exact ⟨0, false, [], by omega, rfl, rfl, by simp, St.emp0⟩
  case round =>
    obtain ⟨k, b, ys, hk, rfl, rfl, hy, hS⟩ := hrel
    by_cases hlt : k < xs.length
    · have hc := (hS.oldI hv).cell k hlt
      cases b
      · simp only [Bool.toNat_false, Nat.add_zero] at hy
        by_cases h1 : n ≤ nth xs k
        · by_cases h2 : n < nth xs k
          · go_wp2_with (first | (at_builtin; refine appI hS 0 rfl (by omega) rfl (.tmp 31) (.tmp 33) rfl rfl _ rfl ?_; intro v' w2 hS2; have hc2 := (hS2.oldI hv).cell k hlt) | (at_builtin; refine appI hS2 0 rfl (by simp; omega) rfl (.tmp 35) (.tmp 40) rfl rfl _ rfl ?_; intro v2 w3 hS3))
            go_roundw
            case rel => exact ⟨k + 1, true, _, by omega, by go_num, rfl, by simp; omega, hS3⟩
            case measure => simp [intOf]; omega
          · go_wp2_with (at_builtin; refine appI hS 0 rfl (by omega) rfl (.tmp 35) (.tmp 40) rfl rfl _ rfl ?_; intro v2 w3 hS3)
            go_roundw
            case rel => exact ⟨k + 1, true, _, by omega, by go_num, rfl, by simp; omega, hS3⟩
            case measure => simp [intOf]; omega
        · go_wp2_with (at_builtin; refine appI hS 0 rfl (by omega) rfl (.tmp 35) (.tmp 40) rfl rfl _ rfl ?_; intro v2 w3 hS3)
          go_roundw
          case rel => exact ⟨k + 1, false, _, by omega, by go_num, rfl, by simp; omega, hS3⟩
          case measure => simp [intOf]; omega
      · simp only [Bool.toNat_true] at hy
        go_wp2_with (at_builtin; refine appI hS 0 rfl (by omega) rfl (.tmp 35) (.tmp 40) rfl rfl _ rfl ?_; intro v2 w3 hS3)
        go_roundw
        case rel => exact ⟨k + 1, true, _, by omega, by go_num, rfl, by simp; omega, hS3⟩
        case measure => simp [intOf]; omega
    · cases b
      · simp only [Bool.toNat_false, Nat.add_zero] at hy
        go_wp2_with (at_builtin; refine appI hS 0 rfl (by omega) rfl (.tmp 44) (.tmp 46) rfl rfl _ rfl ?_; intro v2 w3 hS3)
        go_ret
        exact ⟨_, _, rfl, by simp; omega, hS3⟩
      · simp only [Bool.toNat_true] at hy
        go_wp2_with fail
        go_ret
        exact ⟨_, _, rfl, by omega, hS⟩

/-- some list of at most m numbers, and the source goes on -/
def SomeLS (w0 : World) (cv : Value) (g K m : Nat) (L : List Ent) (e : Ending) (w' : World) : Prop :=
  ∃ v ys, e = .returned v ∧ ys.length ≤ m ∧ Src w0 w' cv g K (L ++ [row 2 v (iv ys)])

set_option maxHeartbeats 2000000 in
set_option maxRecDepth 100000 in
theorem l01DrawSet_c (w0 w : World) (cv : Value) (bs : List UInt8) (g K : Nat) (L : List Ent) (n : Int) (hb : RdB w0 cv bs) (h : Src w0 w cv g K L) (hK : K < 100000000000) (hn : 0 ≤ n ∧ n ≤ 100) :
    Calls Try.prog 101 #[.pointer (some ⟨g, 0, none⟩), .int .i64 n] w (SomeLS w0 cv g (K + 300) 101 L) := by
  obtain ⟨hn0, hn1⟩ := hn
  have h0 : Src w0 (w.alloc (.cells #[] 2)) cv g K (L ++ [row 2 (.slice (some ⟨w.heap.size, 0, none⟩) 0 0) (iv [])]) := h.call St.emp0
  go_enter Try.func101, Try.ntmps101
  go_wp2_with fail
  refine (pick_c w0 _ cv bs g K _ (n + 1) hb h0 (by omega)).mono ?_
  rintro e w1 ⟨q, hq0, hq1, rfl, h1⟩
  go_wp2_with fail
  refine (one_c w0 w1 cv bs g _ _ 3 hb h1 (by omega)).mono ?_
  rintro e w2 ⟨x, rfl, h2⟩
  have key : ∀ (many : Int), 0 ≤ many → many ≤ 100 → True := fun _ _ _ => trivial
  clear key h0 h1 h
  cases x
  · go_wp2_with fail
    go_loopw [5, 7] (fun o i wr => ∃ (k : Nat) (ys : List Int), (k : Int) ≤ q ∧ i = .int .i64 k ∧ ys.length ≤ k ∧ Src w0 wr cv g (K + 4 + 2 * k) (L ++ [row 2 o (iv ys)])) (fun _ i _ => q.toNat - (intOf i).toNat)
    case atStart => exact ⟨0, [], by omega, rfl, by simp, h2.mono (by omega)⟩
    case round =>
      obtain ⟨k, ys, hk, rfl, hy, hs⟩ := hrel
      by_cases hlt : (k : Int) < q
      · go_wp2_with fail
        refine (pick_c w0 wr cv bs g _ _ n hb hs (by omega)).mono ?_
        rintro e w3 ⟨y, hy0, hy1, rfl, h3⟩
        go_wp2_with fail
        refine (l00Put_c _ ys y w3 (h3.rdI L.length (e := 2) (by simp)) (by omega)).mono ?_
        rintro e w4 ⟨v4, zs, rfl, hz, h4⟩
        have h5 := (h3.call h4).sub (L' := L ++ [row 2 v4 (iv zs)]) (by rw [List.append_assoc]; exact (List.sublist_append_right _ _).append_left _)
        go_wp2_with fail
        go_roundw
        case rel => exact ⟨k + 1, zs, by omega, by go_num, by omega, h5.mono (by omega)⟩
        case measure => simp [intOf]; omega
      · go_wp2_with fail
        go_ret
        exact ⟨_, ys, rfl, by omega, hs.mono (by omega)⟩
  · by_cases hpos : 0 < n
    · have fn : (n + 1 == 0) = false := eq_f (by omega)
      go_wp2_with fail
      refine (pick_c w0 w2 cv bs g _ _ 4 hb h2 (by omega)).mono ?_
      rintro e w2' ⟨q', hq0', hq1', rfl, h2'⟩
      have m0 := Int.emod_nonneg q' (show n + 1 ≠ 0 by omega)
      have m1 := Int.emod_lt_of_pos q' (show 0 < n + 1 by omega)
      go_wp2_with fail
      go_loopw [5, 7] (fun o i wr => ∃ (k : Nat) (ys : List Int), (k : Int) ≤ q' % (n + 1) ∧ i = .int .i64 k ∧ ys.length ≤ k ∧ Src w0 wr cv g (K + 6 + 2 * k) (L ++ [row 2 o (iv ys)])) (fun _ i _ => (q' % (n + 1)).toNat - (intOf i).toNat)
      case atStart => exact ⟨0, [], by omega, rfl, by simp, h2'.mono (by omega)⟩
      case round =>
        obtain ⟨k, ys, hk, rfl, hy, hs⟩ := hrel
        by_cases hlt : (k : Int) < q' % (n + 1)
        · go_wp2_with fail
          refine (pick_c w0 wr cv bs g _ _ n hb hs (by omega)).mono ?_
          rintro e w3 ⟨y, hy0, hy1, rfl, h3⟩
          go_wp2_with fail
          refine (l00Put_c _ ys y w3 (h3.rdI L.length (e := 2) (by simp)) (by omega)).mono ?_
          rintro e w4 ⟨v4, zs, rfl, hz, h4⟩
          have h5 := (h3.call h4).sub (L' := L ++ [row 2 v4 (iv zs)]) (by rw [List.append_assoc]; exact (List.sublist_append_right _ _).append_left _)
          go_wp2_with fail
          go_roundw
          case rel => exact ⟨k + 1, zs, by omega, by go_num, by omega, h5.mono (by omega)⟩
          case measure => simp [intOf]; omega
        · go_wp2_with fail
          go_ret
          exact ⟨_, ys, rfl, by omega, hs.mono (by omega)⟩
    · go_wp2_with fail
      go_loopw [5, 7] (fun o i wr => ∃ (k : Nat) (ys : List Int), (k : Int) ≤ q ∧ i = .int .i64 k ∧ ys.length ≤ k ∧ Src w0 wr cv g (K + 4 + 2 * k) (L ++ [row 2 o (iv ys)])) (fun _ i _ => q.toNat - (intOf i).toNat)
      case atStart => exact ⟨0, [], by omega, rfl, by simp, h2.mono (by omega)⟩
      case round =>
        obtain ⟨k, ys, hk, rfl, hy, hs⟩ := hrel
        have : ¬ ((k : Int) < q) := by omega
        go_wp2_with fail
        go_ret
        exact ⟨_, ys, rfl, by omega, hs.mono (by omega)⟩
end Go.Proofs.Ytpfgbbbjldpnnaa
