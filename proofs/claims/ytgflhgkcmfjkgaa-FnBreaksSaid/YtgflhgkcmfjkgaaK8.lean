/- The texts of this claim, run 8: Br4 Br5 Pm3 PCon PMol Pm6 SqB Ml1 SqG. -/
import Derived.Test.YtgflhgkcmfjkgaaK1
import Derived.Test.YtgflhgkcmfjkgaaK2
import Derived.Test.YtgflhgkcmfjkgaaK3
import Derived.Test.YtgflhgkcmfjkgaaK4
import Derived.Test.YtgflhgkcmfjkgaaK5
import Derived.Test.YtgflhgkcmfjkgaaK6
import Derived.Test.YtgflhgkcmfjkgaaK7
import Derived.Deep.RegionHeld3
import Derived.Deep.DrawnRows
section
/- Walks: rounds and home teams of the reference. -/
namespace Go.Proofs.Ytgflhgkcmfjkgaa
set_option linter.unusedSimpArgs false
set_option linter.unusedVariables false
open Go.RowKit
attribute [local go_sem ↓] Go.wp_at_zero Go.wp_at_succ

theorem l14Pair_c (a b : Int) (w : World) : Calls Try.prog 85 #[.int .i64 a, .int .i64 b] w (MakesI w (prL a b)) := by
  have hx : ∀ x y : Int, St w.heap.size w (w.alloc (.cells #[.int .i64 x, .int .i64 y] 2)) [row 2 (.slice (some ⟨w.heap.size, 0, none⟩) 2 2) (iv [x, y])] := fun x y => (St.refl w).new 2 (iv [x, y]).toArray (by simp [iv, maxLen])
  by_cases h : a < b
  · have hp : prL a b = [a, b] := by rw [prL, if_neg (by omega)]
    rw [hp]
    clear hp
    go_enter Try.func85, Try.ntmps85
    go_wp2_with fail
    go_ret
    exact ⟨_, rfl, hx _ _⟩
  · have hp : prL a b = [b, a] := by
      rw [prL]
      by_cases e : b < a
      · rw [if_pos e]
      · rw [if_neg e, show a = b by omega]
    rw [hp]
    clear hp
    go_enter Try.func85, Try.ntmps85
    go_wp2_with fail
    go_ret
    exact ⟨_, rfl, hx _ _⟩
/-- some pairs of teams -/
def PrsOk (n : Int) (q : List (List Int)) : Prop := ∀ p ∈ q, p.length = 2 ∧ ∀ x ∈ p, 0 ≤ x ∧ x < n
theorem PrsOk.snoc {n : Int} {q : List (List Int)} {a b : Int} (h : PrsOk n q) (ha : 0 ≤ a ∧ a < n) (hb : 0 ≤ b ∧ b < n) : PrsOk n (q ++ [prL a b]) := fun p hp => by
  rcases List.mem_append.1 hp with hp | hp
  · exact h p hp
  · rw [List.mem_singleton.1 hp]
    refine ⟨prL_len a b, fun x hx => ?_⟩
    rw [prL] at hx
    split at hx <;> simp at hx <;> omega
theorem PrsOk.srt {n : Int} {q : List (List Int)} (h : PrsOk n q) : PrsOk n (srtL q) := fun p hp => h p ((srtL_perm q).mem_iff.1 hp)
/-- some rounds -/
def RdsOk (n : Int) (X : List (List (List Int))) : Prop := ∀ q ∈ X, PrsOk n q ∧ q.length ≤ 40
theorem RdsOk.snoc {n : Int} {X : List (List (List Int))} {q : List (List Int)} (h : RdsOk n X) (hq : PrsOk n q) (hl : q.length ≤ 40) : RdsOk n (X ++ [q]) := fun p hp => by
  rcases List.mem_append.1 hp with hp | hp
  · exact h p hp
  · rw [List.mem_singleton.1 hp]; exact ⟨hq, hl⟩
def MakesRd (w : World) (n : Nat) (e : Ending) (w' : World) : Prop := ∃ v vs uss X, e = .returned v ∧ Fit3 vs uss X ∧ RdsOk n X ∧ X.length = n - 1 + n % 2 ∧ St w.heap.size w w' (own3 v vs uss X)
set_option maxHeartbeats 16000000 in
set_option maxRecDepth 100000 in
theorem l14Rounds_c (n : Nat) (w : World) (h2 : 2 ≤ n) (h32 : n ≤ 32) : Calls Try.prog 53 #[.int .i64 n] w (MakesRd w n) := by
  obtain ⟨m, hm⟩ : ∃ m, n - 1 + n % 2 = m := ⟨_, rfl⟩
  obtain ⟨h, hh⟩ : ∃ h, (m - 1) / 2 = h := ⟨_, rfl⟩
  have q0 : (n : Int).tmod 2 = ((n % 2 : Nat) : Int) := by rw [Int.tmod_eq_emod_of_nonneg (by omega)]; rfl
  have q1 : (n : Int) - 1 + (n : Int) % 2 = (m : Int) := by omega
  have q2 : (n : Int) - 1 + ((n % 2 : Nat) : Int) = (m : Int) := by omega
  have q3 : ((m : Int) - 1).tdiv 2 = (h : Int) := by rw [Int.tdiv_eq_ediv_of_nonneg (by omega)]; omega
  have q4 : ((m : Int) - 1) / 2 = (h : Int) := by omega
  have hb : 1 ≤ m ∧ m ≤ 32 ∧ h ≤ 16 ∧ m ≤ n := by omega
  have Hm := Lib.hid hm
  have Hh := Lib.hid hh
  have hS0 := St.emp0 (w := w)
  have hS0 : St w.heap.size w (w.alloc (.cells #[] 33)) (own3 (.slice (some ⟨w.heap.size, 0, none⟩) 0 0) [] [] []) := (St.refl w).new 33 #[] (by simp)
  clear hm hh
  go_enter Try.func53, Try.ntmps53
  go_wp2_with fail
  go_loopw [4, 5, 6, 7] (fun o r _ _ wr => ∃ (k : Nat) (vs : List Value) (uss : List (List Value)) (X : List (List (List Int))), k ≤ m ∧ r = .int .i64 k ∧ Hid (Fit3 vs uss X ∧ RdsOk n X ∧ X.length = k) ∧ St w.heap.size w wr (own3 o vs uss X)) (fun _ r _ _ _ => m - (intOf r).toNat)
  case atStart => exact ⟨0, [], [], [], by omega, rfl, ⟨⟨rfl, rfl, fun k h => by simp at h⟩, fun q hq => (by cases hq), rfl⟩, hS0⟩
  case round =>
    clear hS0
    obtain ⟨r, vs, uss, X, hk, rfl, hI, hS⟩ := hrel
    by_cases hlt : r < m
    · have hB := ((hS.call ((St.refl wr).new 30 #[] (by simp)))).perm (L' := own2 (.slice (some ⟨wr.heap.size, 0, none⟩) 0 0) [] [] ++ own3 u4 vs uss X) (by exact List.perm_append_comm)
      by_cases he : n % 2 = 0
      · have f1 : ((n : Int) % 2 == 0) = true := eq_t (by omega)
        clear q0
        have HP0 := Lib.hid (show PrsOk n ([] ++ [prL (r : Int) ((n : Int) - 1)]) from PrsOk.snoc (fun p hp => by cases hp) (by omega) (by omega))
        go_wp2_with (first
          | (at_builtin; refine appII hS2 0 rfl (by simp) rfl _ _ rfl rfl _ rfl rfl ?_; intro v3 w3 hS3)
          | (go_at_call 85; refine (l14Pair_c (r : Int) ((n : Int) - 1) _).mono ?_; rintro e2 w2 ⟨u, rfl, h2⟩; obtain ⟨ua, uc, hu⟩ := (h2.rdI 0 rfl).sl.sh; rw [iv_len, prL_len] at hu; subst hu; have hS2 := hB.call h2))
        have hS1 := own2_snocL rfl hS3
        clear hS2 h2 hS3 hB
        go_loopw [7, 6] (fun ii qq wr => ∃ (i : Nat) (q : Value) (us : List Value) (A : List (List Int)), q = qq ∧ 1 ≤ i ∧ i ≤ h + 1 ∧ ii = .int .i64 i ∧ Hid (us.length = A.length ∧ PrsOk n A ∧ A.length ≤ i) ∧ St w.heap.size w wr (own2 q us A ++ own3 u4 vs uss X)) (fun ii _ _ => h + 1 - (intOf ii).toNat)
        case atStart => exact ⟨1, _, _, _, rfl, by omega, by omega, rfl, ⟨rfl, HP0.out, by simp⟩, hS1⟩
        case round =>
          clear hS1
          obtain ⟨i, q, us, A, rfl, hi1, hi2, rfl, hJ, hS⟩ := hrel
          by_cases hit : i ≤ h
          · have qa : ((r : Int) + (i : Int)).tmod (m : Int) = (((r + i) % m : Nat) : Int) := by rw [Int.tmod_eq_emod_of_nonneg (by omega)]; rfl
            have qb : ((r : Int) - (i : Int) + (m : Int)).tmod (m : Int) = (((r + m - i) % m : Nat) : Int) := by
              rw [show (r : Int) - (i : Int) + (m : Int) = ((r + m - i : Nat) : Int) by omega, Int.tmod_eq_emod_of_nonneg (by omega)]; rfl
            have qm : ((m : Int) == 0) = false := eq_f (by omega)
            have qn : ¬ (m : Int) = 0 := by omega
            have qo : ¬ m = 0 := by omega
            have xa := Nat.mod_lt (r + i) (show 0 < m by omega)
            have xb := Nat.mod_lt (r + m - i) (show 0 < m by omega)
            have hlN := Lib.hid (show us.length < 4294967296 by have := hJ.out.2.2; rw [hJ.out.1]; omega)
            have w1 : IntKind.i64.wrap ((r : Int) + (i : Int)) = (r : Int) + (i : Int) := IntWalk.i64_in _ (by omega)
            have w2 : IntKind.i64.wrap (m : Int) = (m : Int) := IntWalk.i64_in _ (by omega)
            have w3 : IntKind.i64.wrap ((r : Int) - (i : Int)) = (r : Int) - (i : Int) := IntWalk.i64_in _ (by omega)
            have w4 : IntKind.i64.wrap ((r : Int) - (i : Int) + (m : Int)) = (r : Int) - (i : Int) + (m : Int) := IntWalk.i64_in _ (by omega)
            have hil : (i : Int) ≤ (h : Int) := by omega
            generalize (r + i) % m = ra at *
            generalize (r + m - i) % m = rb at *
            have wa : IntKind.i64.wrap (ra : Int) = (ra : Int) := IntWalk.i64_in _ (by omega)
            have wb : IntKind.i64.wrap (rb : Int) = (rb : Int) := IntWalk.i64_in _ (by omega)
            have HPr := Lib.hid (hJ.out.2.1.snoc (a := (ra : Int)) (b := (rb : Int)) (by omega) (by omega))
            go_wp2_with fail
            go_region_law (first
              | (refine stepII hS2 0 rfl hlN.out rfl (.tmp 37) (.tmp 51) rfl (by simp [Act.eval, Act.put]) _ rfl (by simp [Act.eval, Act.put]) ?_; intro v3 w3 hS3)
              | (go_simp; go_at_call 85; refine (l14Pair_c ra rb _).mono ?_; rintro e2 w2 ⟨u, rfl, h2⟩; obtain ⟨ua, uc, hu⟩ := (h2.rdI 0 rfl).sl.sh; rw [iv_len, prL_len] at hu; subst hu; have hS2 := hS.drew.call h2))
            all_goals
              go_wp2_with fail
              go_roundw
              case rel =>
                refine ⟨i + 1, v3, us ++ [.slice ua 2 uc], A ++ [prL ra rb], rfl, by omega, by omega, by go_num, ⟨by simp [hJ.out.1], HPr.out, by have := hJ.out.2.2; simp; omega⟩, ?_⟩
                exact own2_snocL hJ.out.1 hS3
              case measure => simp [intOf]; omega
          · have hig : ¬ (i : Int) ≤ (h : Int) := by omega
            have hAl : Hid (A.length ≤ 17) := Lib.hid (by have := hJ.out.2.2; omega)
            have rA := (hS.sub (List.sublist_append_left _ _)).rii hJ.out.1
            have KS := Lib.hid (l10Sort_c q us A _ rA (by have := hAl.out; omega) (fun xs hx => by rw [(hJ.out.2.1 xs hx).1]; omega))
            have hvl := Lib.hid (show vs.length < 4294967296 by rw [hI.out.1.1, hI.out.2.2]; omega)
            have Hsl := Lib.hid (show (srtL A).length = A.length from srtL_len A)
            clear rA
            go_wp2_with (first
              | (at_builtin; refine appIII hS6 0 rfl hvl.out rfl _ _ rfl rfl _ rfl rfl ?_; intro v7 w7 hS7)
              | (go_at_call 86; refine KS.out.mono ?_; rintro e3 w5 ⟨v5, us5, rfl, hl5, h5⟩; obtain ⟨la, lc, hv5⟩ := (h5.rd 0 (e := 30) (v := v5) (us := us5) rfl).sl.sh; subst hv5; have Hl5 := Lib.hid hl5; clear hl5; have hS6 := (hS.sub (List.sublist_append_right _ _)).call h5))
            have hf8 := hI.out.1.snoc (.slice la us5.length lc) Hl5.out
            have hS8 := own3_snoc hI.out.1.1 hI.out.1.2.1 hS7
            go_roundw
            case rel => exact ⟨r + 1, _, _, _, by omega, by go_num, ⟨hf8, hI.out.2.1.snoc hJ.out.2.1.srt (by rw [Hsl.out]; have := hAl.out; omega), by rw [List.length_append, hI.out.2.2]; rfl⟩, hS8⟩
            case measure => simp [intOf]; omega
      · have f1 : ((n : Int) % 2 == 0) = false := eq_f (by omega)
        clear q0
        have hS1 := hB
        clear hB
        go_wp2_with fail
        go_loopw [7, 6] (fun ii qq wr => ∃ (i : Nat) (q : Value) (us : List Value) (A : List (List Int)), q = qq ∧ 1 ≤ i ∧ i ≤ h + 1 ∧ ii = .int .i64 i ∧ Hid (us.length = A.length ∧ PrsOk n A ∧ A.length ≤ i) ∧ St w.heap.size w wr (own2 q us A ++ own3 u4 vs uss X)) (fun ii _ _ => h + 1 - (intOf ii).toNat)
        case atStart => exact ⟨1, _, _, _, rfl, by omega, by omega, rfl, ⟨rfl, fun p hp => (by cases hp), by simp⟩, hS1⟩
        case round =>
          clear hS1
          obtain ⟨i, q, us, A, rfl, hi1, hi2, rfl, hJ, hS⟩ := hrel
          by_cases hit : i ≤ h
          · have qa : ((r : Int) + (i : Int)).tmod (m : Int) = (((r + i) % m : Nat) : Int) := by rw [Int.tmod_eq_emod_of_nonneg (by omega)]; rfl
            have qb : ((r : Int) - (i : Int) + (m : Int)).tmod (m : Int) = (((r + m - i) % m : Nat) : Int) := by
              rw [show (r : Int) - (i : Int) + (m : Int) = ((r + m - i : Nat) : Int) by omega, Int.tmod_eq_emod_of_nonneg (by omega)]; rfl
            have qm : ((m : Int) == 0) = false := eq_f (by omega)
            have qn : ¬ (m : Int) = 0 := by omega
            have qo : ¬ m = 0 := by omega
            have xa := Nat.mod_lt (r + i) (show 0 < m by omega)
            have xb := Nat.mod_lt (r + m - i) (show 0 < m by omega)
            have hlN := Lib.hid (show us.length < 4294967296 by have := hJ.out.2.2; rw [hJ.out.1]; omega)
            have w1 : IntKind.i64.wrap ((r : Int) + (i : Int)) = (r : Int) + (i : Int) := IntWalk.i64_in _ (by omega)
            have w2 : IntKind.i64.wrap (m : Int) = (m : Int) := IntWalk.i64_in _ (by omega)
            have w3 : IntKind.i64.wrap ((r : Int) - (i : Int)) = (r : Int) - (i : Int) := IntWalk.i64_in _ (by omega)
            have w4 : IntKind.i64.wrap ((r : Int) - (i : Int) + (m : Int)) = (r : Int) - (i : Int) + (m : Int) := IntWalk.i64_in _ (by omega)
            have hil : (i : Int) ≤ (h : Int) := by omega
            generalize (r + i) % m = ra at *
            generalize (r + m - i) % m = rb at *
            have wa : IntKind.i64.wrap (ra : Int) = (ra : Int) := IntWalk.i64_in _ (by omega)
            have wb : IntKind.i64.wrap (rb : Int) = (rb : Int) := IntWalk.i64_in _ (by omega)
            have HPr := Lib.hid (hJ.out.2.1.snoc (a := (ra : Int)) (b := (rb : Int)) (by omega) (by omega))
            go_wp2_with fail
            go_region_law (first
              | (refine stepII hS2 0 rfl hlN.out rfl (.tmp 37) (.tmp 51) rfl (by simp [Act.eval, Act.put]) _ rfl (by simp [Act.eval, Act.put]) ?_; intro v3 w3 hS3)
              | (go_simp; go_at_call 85; refine (l14Pair_c ra rb _).mono ?_; rintro e2 w2 ⟨u, rfl, h2⟩; obtain ⟨ua, uc, hu⟩ := (h2.rdI 0 rfl).sl.sh; rw [iv_len, prL_len] at hu; subst hu; have hS2 := hS.drew.call h2))
            all_goals
              go_wp2_with fail
              go_roundw
              case rel =>
                refine ⟨i + 1, v3, us ++ [.slice ua 2 uc], A ++ [prL ra rb], rfl, by omega, by omega, by go_num, ⟨by simp [hJ.out.1], HPr.out, by have := hJ.out.2.2; simp; omega⟩, ?_⟩
                exact own2_snocL hJ.out.1 hS3
              case measure => simp [intOf]; omega
          · have hig : ¬ (i : Int) ≤ (h : Int) := by omega
            have hAl : Hid (A.length ≤ 17) := Lib.hid (by have := hJ.out.2.2; omega)
            have rA := (hS.sub (List.sublist_append_left _ _)).rii hJ.out.1
            have KS := Lib.hid (l10Sort_c q us A _ rA (by have := hAl.out; omega) (fun xs hx => by rw [(hJ.out.2.1 xs hx).1]; omega))
            have hvl := Lib.hid (show vs.length < 4294967296 by rw [hI.out.1.1, hI.out.2.2]; omega)
            have Hsl := Lib.hid (show (srtL A).length = A.length from srtL_len A)
            clear rA
            go_wp2_with (first
              | (at_builtin; refine appIII hS6 0 rfl hvl.out rfl _ _ rfl rfl _ rfl rfl ?_; intro v7 w7 hS7)
              | (go_at_call 86; refine KS.out.mono ?_; rintro e3 w5 ⟨v5, us5, rfl, hl5, h5⟩; obtain ⟨la, lc, hv5⟩ := (h5.rd 0 (e := 30) (v := v5) (us := us5) rfl).sl.sh; subst hv5; have Hl5 := Lib.hid hl5; clear hl5; have hS6 := (hS.sub (List.sublist_append_right _ _)).call h5))
            have hf8 := hI.out.1.snoc (.slice la us5.length lc) Hl5.out
            have hS8 := own3_snoc hI.out.1.1 hI.out.1.2.1 hS7
            go_roundw
            case rel => exact ⟨r + 1, _, _, _, by omega, by go_num, ⟨hf8, hI.out.2.1.snoc hJ.out.2.1.srt (by rw [Hsl.out]; have := hAl.out; omega), by rw [List.length_append, hI.out.2.2]; rfl⟩, hS8⟩
            case measure => simp [intOf]; omega
    · obtain rfl : r = m := by omega
      go_wp2_with fail
      go_ret
      exact ⟨_, vs, uss, X, rfl, hI.out.1, hI.out.2.1, by rw [hI.out.2.2, Hm.out], hS⟩
end Go.Proofs.Ytgflhgkcmfjkgaa
end

section
/- Walk: home teams of the reference. -/
namespace Go.Proofs.Ytgflhgkcmfjkgaa
set_option linter.unusedSimpArgs false
set_option linter.unusedVariables false
open Go.RowKit
attribute [local go_sem ↓] Go.wp_at_zero Go.wp_at_succ

def MakesHm (w : World) (e : Ending) (w' : World) : Prop := ∃ v us H c, e = .returned (.tuple #[v, .int .i64 c]) ∧ us.length = H.length ∧ H.length ≤ 40 ∧ (∀ r ∈ H, r.length ≤ 40) ∧ St w.heap.size w w' (own2 v us H)
set_option maxHeartbeats 16000000 in
set_option maxRecDepth 100000 in
theorem sHomeTeams_c (n : Nat) (w : World) (h2 : 2 ≤ n) (h32 : n ≤ 32) (he : n % 2 = 0) : Calls Try.prog 54 #[.int .i64 n] w (MakesHm w) := by
  obtain ⟨m, hm⟩ : ∃ m, n - 1 = m := ⟨_, rfl⟩
  obtain ⟨h, hh⟩ : ∃ h, (m - 1) / 2 = h := ⟨_, rfl⟩
  have KI := l00In_c n 2 32 w
  rw [show inB (n : Int) 2 32 = true from inB_true (by omega)] at KI
  have K1 := Lib.hid (l14Rounds_c n w h2 h32)
  have q1 : (n : Int) - 1 = (m : Int) := by omega
  have q3 : ((m : Int) - 1).tdiv 2 = (h : Int) := by rw [Int.tdiv_eq_ediv_of_nonneg (by omega)]; omega
  have q4 : ((m : Int) - 1) / 2 = (h : Int) := by omega
  have qe : (n : Int) % 2 = 0 := by omega
  have qe2 : (n : Int).tmod 2 = 0 := by rw [Int.tmod_eq_emod_of_nonneg (by omega)]; omega
  have hb : 1 ≤ m ∧ m ≤ 31 ∧ h ≤ 15 := by omega
  have HmX := Lib.hid (show n - 1 + n % 2 = m by omega)
  clear hm hh he
  go_enter Try.func54, Try.ntmps54
  go_wp2_with (go_at_call 87; refine KI.mono ?_; rintro e w2 ⟨rfl, hw2⟩; subst hw2)
  refine K1.out.mono ?_
  clear K1 KI
  rintro e w1 ⟨v, vs, uss, X, rfl, hf, hX, hXl, h1⟩
  have rv := St.riii (L2 := []) (by rw [List.append_nil]; exact h1) hf
  rw [HmX.out] at hXl
  have HX := Lib.hid hX
  have HXl := Lib.hid hXl
  have hix := rv.ixe
  have hle := rv.le
  rw [hXl] at hix hle
  have hT := h1.out
  clear h1 hf hX hXl
  have hS0 : St w1.heap.size w1 (w1.alloc (.cells #[] 30)) (own2 (.slice (some ⟨w1.heap.size, 0, none⟩) 0 0) [] []) := (St.refl w1).new 30 #[] (by simp)
  go_wp2_with fail
  go_loopw [7, 6, 8, 9, 10, 11] (fun r o _ _ _ _ wr => ∃ (k : Nat) (us : List Value) (H : List (List Int)), k ≤ m ∧ r = .int .i64 k ∧ Hid (us.length = H.length ∧ H.length = k ∧ ∀ x ∈ H, x.length ≤ 40) ∧ St w1.heap.size w1 wr (own2 o us H)) (fun r _ _ _ _ _ _ => m - (intOf r).toNat)
  case atStart => exact ⟨0, [], [], by omega, rfl, ⟨rfl, rfl, fun x hx => by cases hx⟩, hS0⟩
  case round =>
    clear hS0
    obtain ⟨r, us, H, hr, rfl, hI, hS⟩ := hrel
    by_cases hlt : r < m
    · have hB := (hS.call ((St.refl wr).new 2 #[] (by simp))).perm (L' := row 2 (.slice (some ⟨wr.heap.size, 0, none⟩) 0 0) (iv []) :: own2 u6 us H) List.perm_append_comm
      have rq := rv.row r (by rw [HXl.out]; exact hlt)
      have hq := HX.out _ (x3at_mem (show r < X.length by rw [HXl.out]; exact hlt))
      have hlq := rq.len
      have hleq := rq.le
      have hxq := rq.ixe
      have hx := hix (r : Int) r rfl hlt
      have hpar : ((r : Int) % 2 == 0) = true ∨ ((r : Int) % 2 == 0) = false := by
        by_cases e : (r : Int) % 2 = 0
        · exact .inl (eq_t e)
        · exact .inr (eq_f e)
      have hvl := Lib.hid (show us.length < 4294967296 by rw [hI.out.1, hI.out.2.1]; omega)
      rcases hpar with f1 | f1
      all_goals
        go_wp2_with (at_builtin; refine appI hB 0 rfl (by simp) rfl _ _ rfl rfl _ (by first | rfl | simp [Act.eval, World.size_alloc]) ?_; intro v3 w3 hS3; simp only [List.set_cons_zero] at hS3)
        go_loopw [8, 9] (fun l ii wx => ∃ (i : Nat) (vh : Value) (hs : List Int), vh = l ∧ 1 ≤ i ∧ i ≤ h + 1 ∧ ii = .int .i64 i ∧ Hid (hs.length ≤ i) ∧ St w1.heap.size w1 wx (row 2 vh (iv hs) :: own2 u6 us H)) (fun _ ii _ => h + 1 - (intOf ii).toNat)
        case atStart => exact ⟨1, _, _, rfl, by omega, by omega, rfl, by simp [Hid], hS3⟩
        case round =>
          clear hS3 hB
          obtain ⟨i, vh, hs, rfl, hi1, hi2, rfl, hl, hS⟩ := hrel
          by_cases hit : i ≤ h
          · have hil : (i : Int) ≤ (h : Int) := by omega
            have hN := Lib.hid (show hs.length < 4294967296 by have := hl.out; omega)
            have qm : ((m : Int) == 0) = false := eq_f (by omega)
            have qn : ¬ (m : Int) = 0 := by omega
            have qo : ¬ m = 0 := by omega
            have hpi : ((i : Int) % 2 == 1) = true ∨ ((i : Int) % 2 == 1) = false := by
              by_cases e : (i : Int) % 2 = 1
              · exact .inl (eq_t e)
              · exact .inr (eq_f e)
            rcases hpi with f2 | f2
            all_goals
              go_wp2_with (at_builtin; refine appI hS 0 rfl hN.out rfl _ _ rfl rfl _ rfl ?_; intro v3 w3 hS3; simp only [List.set_cons_zero] at hS3)
              go_roundw
              case rel => exact ⟨i + 1, _, _, rfl, by omega, by omega, by go_num, by have := hl.out; simp [Hid]; omega, hS3⟩
              case measure => simp [intOf]; omega
          · have hig : ¬ (i : Int) ≤ (h : Int) := by omega
            have hB := (hS.call ((St.refl wr).new 2 #[] (by simp))).perm (L' := row 2 (.slice (some ⟨wr.heap.size, 0, none⟩) 0 0) (iv []) :: row 2 vh (iv hs) :: own2 u6 us H) List.perm_append_comm
            clear hS
            go_wp2_with fail
            go_loopw [10, 11] (fun l ii wx => ∃ (j : Nat) (vr : Value) (rs : List Int), vr = l ∧ j ≤ (x3at X r).length ∧ ii = .int .i64 j ∧ Hid (rs.length ≤ j) ∧ St w1.heap.size w1 wx (row 2 vr (iv rs) :: row 2 vh (iv hs) :: own2 u6 us H)) (fun _ ii _ => (x3at X r).length - (intOf ii).toNat)
            case atStart => exact ⟨0, _, [], rfl, by omega, rfl, by simp [Hid], hB⟩
            case round =>
              clear hB
              obtain ⟨j, vr, rs, rfl, hj, rfl, hl2, hS⟩ := hrel
              have hc := (hS.oldIII rv).cell r (by rw [HXl.out]; exact hlt)
              by_cases hjt : j < (x3at X r).length
              · have rr := (hS.oldIII rv).row r (by rw [HXl.out]; exact hlt)
                have cj := rr.cell j hjt
                have xj := hxq (j : Int) j rfl hjt
                have h2l := (hq.1 _ (xat_mem hjt)).1
                have rp := rr.row j hjt
                have c0 := rp.cell 0 (by omega)
                have c1 := rp.cell 1 (by omega)
                have x0 := rp.ixe (0 : Int) 0 rfl (by omega)
                have x1 := rp.ixe (1 : Int) 1 rfl (by omega)
                have KH := Lib.hid (l00Has_c vh hs (nth (xat (x3at X r) j) 0) _ (hS.rdI 1 rfl))
                have hN := Lib.hid (show rs.length < 4294967296 by have := hl2.out; have := hq.2; omega)
                generalize nth (xat (x3at X r) j) 0 = y0 at *
                generalize nth (xat (x3at X r) j) 1 = y1 at *
                generalize hdd : decide (y0 ∈ hs) = dd at KH
                cases dd
                all_goals
                  go_wp2_with (first
                    | (at_builtin; refine appI hS 0 rfl hN.out rfl _ _ rfl rfl _ rfl ?_; intro v3 w3 hS3; simp only [List.set_cons_zero] at hS3)
                    | (go_at_call 88; refine KH.out.mono ?_; rintro e2 w4 ⟨rfl, hw4⟩; subst hw4))
                  go_roundw
                  case rel => exact ⟨j + 1, _, _, rfl, by omega, by go_num, by have := hl2.out; simp [Hid]; omega, hS3⟩
                  case measure => simp [intOf]; omega
              · obtain rfl : j = (x3at X r).length := by omega
                obtain ⟨la, lc, hle2⟩ := (hS.rdI 0 rfl).sl.sh
                subst hle2
                have hS7 := (hS.perm (L' := own2 u6 us H ++ [row 2 vh (iv hs)] ++ [row 2 (.slice la (iv rs).length lc) (iv rs)]) ((List.Perm.cons _ (List.perm_append_singleton _ _).symm).trans (List.perm_append_singleton _ _).symm))
                go_wp2_with (at_builtin; refine appII hS7 0 rfl hvl.out rfl _ _ rfl rfl _ rfl rfl ?_; intro v5 w5 hS5)
                have hS8 := (own2_snocL hI.out.1 hS5).sub (List.sublist_append_left _ _)
                have Hn := Lib.hid (show ∀ x ∈ H ++ [rs], x.length ≤ 40 from fun x hx => by
                  rcases List.mem_append.1 hx with hx | hx
                  · exact hI.out.2.2 x hx
                  · rw [List.mem_singleton.1 hx]; have := hl2.out; have := hq.2; omega)
                go_roundw
                case rel => exact ⟨r + 1, _, _, by omega, by go_num, ⟨by simp [hI.out.1], by rw [List.length_append, hI.out.2.1]; rfl, Hn.out⟩, hS8⟩
                case measure => simp [intOf]; omega
    · obtain rfl : r = m := by omega
      go_wp2_with fail
      go_ret2
      exact ⟨_, us, H, 0, rfl, hI.out.1, by rw [hI.out.2.1]; omega, hI.out.2.2, hT.trans hS⟩
end Go.Proofs.Ytgflhgkcmfjkgaa
end

section
/- Walks: permutations that are made and drawn; composition, inverses. Walks: composition and inverses of permutations. -/
namespace Go.Proofs.Ytgflhgkcmfjkgaa
set_option linter.unusedSimpArgs false
set_option linter.unusedVariables false
open Go.RowKit
attribute [local go_sem ↓] Go.wp_at_zero Go.wp_at_succ


set_option maxHeartbeats 1000000 in
set_option maxRecDepth 100000 in
theorem l04One_c (n : Nat) (w : World) (hn : n ≤ 1000) : Calls Try.prog 122 #[.int .i64 n] w (MakesI w (iot n)) := by
  have hS0 : St w.heap.size w (w.alloc (.cells #[] 2)) [row 2 (.slice (some ⟨w.heap.size, 0, none⟩) 0 0) (iv [])] := (St.refl w).new 2 #[] (by simp)
  go_enter Try.func122, Try.ntmps122
  go_wp2_with fail
  go_loopw [3, 4] (fun o x wr => ∃ k : Nat, k ≤ n ∧ x = .int .i64 k ∧ St w.heap.size w wr [row 2 o (iv (iot k))]) (fun _ x _ => n - (intOf x).toNat)
  case atStart => exact ⟨0, by omega, rfl, hS0⟩
  case round =>
    obtain ⟨k, hk, rfl, hS⟩ := hrel
    have hkl := iot_len k
    by_cases hlt : k < n
    · go_wp2_with (at_builtin; refine appI hS 0 rfl (by omega) rfl _ _ rfl rfl _ rfl ?_; intro v2 w2 hS2)
      go_roundw
      case rel => exact ⟨k + 1, by omega, by go_num, by rw [iot_succ]; exact hS2⟩
      case measure => simp [intOf]; omega
    · obtain rfl : k = n := by omega
      go_wp2_with fail
      go_ret
      exact ⟨_, rfl, hS⟩
/-- a permutation of n numbers, and the source goes on -/
def PermS (w0 : World) (cv : Value) (g K n : Nat) (L : List Ent) (e : Ending) (w' : World) : Prop := ∃ v xs, e = .returned v ∧ xs.length = n ∧ IsP xs ∧ Src w0 w' cv g K (row 2 v (iv xs) :: L)
set_option maxHeartbeats 2000000 in
set_option maxRecDepth 100000 in
theorem l04DrawPerm_c (w0 w : World) (cv : Value) (bs : List UInt8) (g K : Nat) (L : List Ent) (n : Nat) (hb : RdB w0 cv bs) (h : Src w0 w cv g K L) (hK : K < 100000000000) (hn : n ≤ 1000) :
    Calls Try.prog 83 #[.pointer (some ⟨g, 0, none⟩), .int .i64 n] w (PermS w0 cv g (K + 2 * n) n L) := by
  go_enter Try.func83, Try.ntmps83
  go_wp2_with fail
  refine (l04One_c n w hn).mono ?_
  rintro e w1 ⟨u, rfl, h1⟩
  have h2 := (h.call h1).perm List.perm_append_comm
  simp only [List.cons_append, List.nil_append] at h2
  clear h h1
  go_wp2_with fail
  go_loopw [6, 7, 8] (fun x _ _ wr => ∃ (j : Nat) (xs : List Int), j ≤ n ∧ x = .int .i64 ((j : Int) - 1) ∧ Hid (xs.length = n) ∧ Hid (IsP xs) ∧ Src w0 wr cv g (K + 2 * (n - j)) (row 2 u (iv xs) :: L)) (fun x _ _ _ => (intOf x).toNat)
  case atStart => exact ⟨n, iot n, by omega, by go_num, iot_len n, iot_isP n, h2.mono (by omega)⟩
  case round =>
    clear h2
    obtain ⟨j, xs, hj, rfl, hl, hp, hs⟩ := hrel
    by_cases h2 : 2 ≤ j
    · go_wp2_with fail
      refine (pick_c w0 wr cv bs g _ _ _ hb hs (by omega)).mono ?_
      rintro e w2 ⟨x, x0, x1, rfl, h3⟩
      obtain ⟨y, rfl⟩ := Int.eq_ofNat_of_zero_le x0
      have hyj : y < j := by omega
      have hyk : y < n := by omega
      have hr := h3.rdI 0 rfl
      have hi1 := hr.ixe ((j : Int) - 1) (j - 1) (by omega) (by rw [hl.out]; omega)
      have hi2 := hr.ixe (y : Int) y rfl (by rw [hl.out]; omega)
      have hc1 := hr.cell (j - 1) (by rw [hl.out]; omega)
      have hc2 := hr.cell y (by rw [hl.out]; omega)
      have Hsw := Lib.hid (hp.out.swp (i := j - 1) (k := y) (by rw [hl.out]; omega) (by rw [hl.out]; omega))
      obtain ⟨pp, ss, s0, s1, hS⟩ := h3
      clear hr x1 x0 hs
      go_wp2_with (first
        | (refine stoI hS2 1 rfl y (by rw [List.length_set, hl.out]; exact hyk) rfl _ _ rfl rfl _ rfl ?_; intro w3 hS3)
        | (refine stoI hS 1 rfl (j - 1) (by rw [hl.out]; omega) rfl _ _ rfl rfl _ rfl ?_; intro w2 hS2))
      go_roundw
      case rel => exact ⟨j - 1, swp2 xs (j - 1) y, by omega, by go_num, by unfold Hid; rw [swp2_len]; exact hl.out, Hsw.out, pp, ss, s0, by omega, hS3⟩
      case measure => simp [intOf]; omega
    · go_wp2_with fail
      go_ret
      exact ⟨_, xs, rfl, hl.out, hp.out, hs.mono (by omega)⟩
end Go.Proofs.Ytgflhgkcmfjkgaa
end

section
/- Isotopes and conjugates of Latin squares, in plain terms. Conjugates of Latin squares as lists of lists. In plain terms. -/
namespace Go.Proofs.Ytgflhgkcmfjkgaa
set_option linter.unusedSimpArgs false
set_option linter.unusedVariables false

structure Latin (n : Nat) (a : Nat → Nat → Nat) : Prop where
  row : ∀ x, x < n → Bij n (a x)
  col : ∀ y, y < n → Bij n fun x => a x y
def IsoOf (n : Nat) (a : Nat → Nat → Nat) (r c s : Nat → Nat) (b : Nat → Nat → Nat) : Prop := ∀ x y, x < n → y < n → b (r x) (c y) = s (a x y)
section
variable {n : Nat} {a b d : Nat → Nat → Nat} {r c s q : Nat → Nat}
theorem IsoOf.comp {r' c' s' : Nat → Nat} (hr : Bij n r) (hc : Bij n c) (h1 : IsoOf n a r c s b) (h2 : IsoOf n b r' c' s' d) : IsoOf n a (fun x => r' (r x)) (fun x => c' (c x)) (fun x => s' (s x)) d := fun x y hx hy => by
  show d (r' (r x)) (c' (c y)) = s' (s (a x y))
  rw [h2 _ _ (hr.lt x hx) (hc.lt y hy), h1 x y hx hy]
theorem IsoOf.back {ri ci si : Nat → Nat} (hl : Latin n a) (hr : Bij n r) (hc : Bij n c) (h1 : IsoOf n a r c s b) (h2 : IsoOf n b ri ci si d) (er : ∀ x, x < n → ri (r x) = x) (ec : ∀ x, x < n → ci (c x) = x) (es : ∀ x, x < n → si (s x) = x)
    {x y : Nat} (hx : x < n) (hy : y < n) : d x y = a x y := by
  have := h2 _ _ (hr.lt x hx) (hc.lt y hy)
  rw [er x hx, ec y hy, h1 x y hx hy, es _ ((hl.row x hx).lt y hy)] at this
  exact this
theorem IsoOf.latin (hl : Latin n a) (hr : Bij n r) (hc : Bij n c) (hs : Bij n s) (h : IsoOf n a r c s b) : Latin n b where
  row x hx := by
    obtain ⟨x', hx', rfl⟩ := hr.onto hx
    refine ⟨fun y hy => ?_, fun y z hy hz e => ?_⟩
    · obtain ⟨y', hy', rfl⟩ := hc.onto hy
      rw [h x' y' hx' hy']; exact hs.lt _ ((hl.row x' hx').lt y' hy')
    · obtain ⟨y', hy', rfl⟩ := hc.onto hy
      obtain ⟨z', hz', rfl⟩ := hc.onto hz
      rw [h x' y' hx' hy', h x' z' hx' hz'] at e
      rw [(hl.row x' hx').inj y' z' hy' hz' (hs.inj _ _ ((hl.row x' hx').lt y' hy') ((hl.row x' hx').lt z' hz') e)]
  col y hy := by
    obtain ⟨y', hy', rfl⟩ := hc.onto hy
    refine ⟨fun x hx => ?_, fun x z hx hz e => ?_⟩
    · obtain ⟨x', hx', rfl⟩ := hr.onto hx
      rw [h x' y' hx' hy']; exact hs.lt _ ((hl.row x' hx').lt y' hy')
    · obtain ⟨x', hx', rfl⟩ := hr.onto hx
      obtain ⟨z', hz', rfl⟩ := hr.onto hz
      rw [h x' y' hx' hy', h z' y' hz' hy'] at e
      rw [(hl.col y' hy').inj x' z' hx' hz' (hs.inj _ _ ((hl.row x' hx').lt y' hy') ((hl.row z' hz').lt y' hy') e)]
/-- the triple of a place -/
def tri (x y s : Nat) : Nat → Nat := fun i => if i = 0 then x else if i = 1 then y else s
def ConjOf (n : Nat) (a : Nat → Nat → Nat) (p : Nat → Nat) (b : Nat → Nat → Nat) : Prop := ∀ x y, x < n → y < n → b (tri x y (a x y) (p 0)) (tri x y (a x y) (p 1)) = tri x y (a x y) (p 2)
theorem tri_lt {x y s : Nat} (hx : x < n) (hy : y < n) (hs : s < n) (i : Nat) : tri x y s i < n := by
  unfold tri; split
  · exact hx
  · split
    · exact hy
    · exact hs
theorem ConjOf.comp {p q : Nat → Nat} (hl : Latin n a) (hq : Bij 3 q) (h1 : ConjOf n a p b) (h2 : ConjOf n b q d) : ConjOf n a (fun i => p (q i)) d := fun x y hx hy => by
  have hs := (hl.row x hx).lt y hy
  have h := h2 _ _ (tri_lt hx hy hs (p 0)) (tri_lt hx hy hs (p 1))
  rw [h1 x y hx hy] at h
  have e : ∀ i, i < 3 → tri (tri x y (a x y) (p 0)) (tri x y (a x y) (p 1)) (tri x y (a x y) (p 2)) i = tri x y (a x y) (p i) := fun i hi => by
    rcases i with _ | _ | _ | i
    · rfl
    · rfl
    · rfl
    · omega
  rw [e _ (hq.lt 0 (by omega)), e _ (hq.lt 1 (by omega)), e _ (hq.lt 2 (by omega))] at h
  exact h
end

section
variable {n : Nat} {a : Nat → Nat → Nat}
/-- two of the three numbers of a place tell it -/
theorem tri_inj (hl : Latin n a) {i j : Nat} (hi : i < 3) (hj : j < 3) (hij : i ≠ j) {x y x' y' : Nat} (hx : x < n) (hy : y < n) (hx' : x' < n) (hy' : y' < n)
    (e1 : tri x y (a x y) i = tri x' y' (a x' y') i) (e2 : tri x y (a x y) j = tri x' y' (a x' y') j) : x = x' ∧ y = y' := by
  have r : ∀ y y', y < n → y' < n → x = x' → a x y = a x' y' → y = y' := fun y y' hy hy' e h => by subst e; exact (hl.row x hx).inj y y' hy hy' h
  have c : y = y' → a x y = a x' y' → x = x' := fun e h => by subst e; exact (hl.col y hy).inj x x' hx hx' h
  rcases i with _ | _ | _ | i <;> rcases j with _ | _ | _ | j <;> simp [tri] at e1 e2 hij <;> first | omega | skip
  all_goals first
    | exact ⟨e1, r y y' hy hy' e1 e2⟩
    | exact ⟨c e1 e2, e1⟩
    | exact ⟨e2, r y y' hy hy' e2 e1⟩
    | exact ⟨c e2 e1, e2⟩
theorem tri_onto (hl : Latin n a) {i j : Nat} (hi : i < 3) (hj : j < 3) (hij : i ≠ j) {u v : Nat} (hu : u < n) (hv : v < n) :
    ∃ x y, x < n ∧ y < n ∧ tri x y (a x y) i = u ∧ tri x y (a x y) j = v := by
  rcases i with _ | _ | _ | i <;> rcases j with _ | _ | _ | j <;> first | omega | skip
  · exact ⟨u, v, hu, hv, rfl, rfl⟩
  · obtain ⟨y, hy, e⟩ := (hl.row u hu).onto hv
    exact ⟨u, y, hu, hy, rfl, e⟩
  · exact ⟨v, u, hv, hu, rfl, rfl⟩
  · obtain ⟨x, hx, e⟩ := (hl.col u hu).onto hv
    exact ⟨x, u, hx, hu, rfl, e⟩
  · obtain ⟨y, hy, e⟩ := (hl.row v hv).onto hu
    exact ⟨v, y, hv, hy, e, rfl⟩
  · obtain ⟨x, hx, e⟩ := (hl.col v hv).onto hu
    exact ⟨x, v, hx, hv, e, rfl⟩
end
def af (A : List (List Int)) (x y : Nat) : Nat := (at2 A x y).toNat
theorem Lat.latin {A : List (List Int)} (h : Lat A) : Latin A.length (af A) where
  row x hx := by
    have := (h.row x hx).bij
    rw [h.len x hx] at this
    exact this
  col y hy := by
    have := (h.col y hy).bij
    rw [colL_len] at this
    refine ⟨fun x hx => ?_, fun x z hx hz e => this.inj x z hx hz ?_⟩
    · have h2 := this.lt x hx
      unfold pf at h2; rw [nth_colL hx] at h2; exact h2
    · unfold pf; rw [nth_colL hx, nth_colL hz]; exact e
/-- number i of the place of a square -/
def trA (A : List (List Int)) (x y i : Nat) : Nat := tri x y (af A x y) i
structure ConR (A : List (List Int)) (p : List Int) (B : List (List Int)) : Prop where
  sqr : Sqr A.length B
  at' : ∀ x y, x < A.length → y < A.length → at2 B (trA A x y (pf p 0)) (trA A x y (pf p 1)) = trA A x y (pf p 2)
structure ConP (A : List (List Int)) (p : List Int) (x y : Nat) (B : List (List Int)) : Prop where
  sqr : Sqr A.length B
  at' : ∀ x' y', x' < A.length → y' < A.length → (x' < x ∨ x' = x ∧ y' < y) → at2 B (trA A x' y' (pf p 0)) (trA A x' y' (pf p 1)) = trA A x' y' (pf p 2)
section
variable {A B C D : List (List Int)} {p q : List Int}
theorem trA_lt (h : Lat A) {x y : Nat} (hx : x < A.length) (hy : y < A.length) (i : Nat) : trA A x y i < A.length := tri_lt hx hy ((h.latin.row x hx).lt y hy) i
theorem p3_lt (hp : IsP p) (h3 : p.length = 3) {i : Nat} (hi : i < 3) : pf p i < 3 := by have := hp.pf_lt (j := i) (by omega); omega
theorem p3_ne (hp : IsP p) (h3 : p.length = 3) {i j : Nat} (hi : i < 3) (hj : j < 3) (h : i ≠ j) : pf p i ≠ pf p j := fun e => h (hp.bij.inj i j (by omega) (by omega) e)
theorem ConP.step (hA : Lat A) (hp : IsP p) (h3 : p.length = 3) {x y : Nat} {S : List (List Int)} (h : ConP A p x y S) (hx : x < A.length) (hy : y < A.length) :
    ConP A p x (y + 1) (putS S (trA A x y (pf p 0)) (trA A x y (pf p 1)) (trA A x y (pf p 2))) := by
  have h1 := trA_lt hA hx hy (pf p 0)
  have h2 := trA_lt hA hx hy (pf p 1)
  refine ⟨putS_sqr h.sqr h1 _ _, fun x' y' hx' hy' hl => ?_⟩
  rw [at2_putS h.sqr h1 h2]
  split
  · rename_i e
    obtain ⟨rfl, rfl⟩ := tri_inj hA.latin (p3_lt hp h3 (by omega)) (p3_lt hp h3 (by omega)) (p3_ne hp h3 (i := 0) (j := 1) (by omega) (by omega) (by omega)) hx hy hx' hy' e.1 e.2
    rfl
  · rename_i e
    refine h.at' x' y' hx' hy' ?_
    rcases hl with hl | ⟨rfl, hl⟩
    · exact .inl hl
    · refine .inr ⟨rfl, ?_⟩
      by_cases e2 : y' = y
      · subst e2; exact absurd ⟨rfl, rfl⟩ e
      · omega
theorem ConP.next {x : Nat} {S : List (List Int)} (h : ConP A p x A.length S) : ConP A p (x + 1) 0 S :=
  ⟨h.sqr, fun x' y' hx' hy' hl => h.at' x' y' hx' hy' (by omega)⟩
theorem ConP.done {S : List (List Int)} (h : ConP A p A.length 0 S) : ConR A p S := ⟨h.sqr, fun x y hx hy => h.at' x y hx hy (.inl hx)⟩
theorem ConR.el (hA : Lat A) (hp : IsP p) (h3 : p.length = 3) (h : ConR A p B) : Sq0 A.length B := by
  refine ⟨h.sqr, fun u v hu hv => ?_⟩
  obtain ⟨x, y, hx, hy, rfl, rfl⟩ := tri_onto hA.latin (p3_lt hp h3 (i := 0) (by omega)) (p3_lt hp h3 (i := 1) (by omega)) (p3_ne hp h3 (by omega) (by omega) (by omega)) hu hv
  have e1 := h.at' x y hx hy
  have e2 := trA_lt hA hx hy (pf p 2)
  unfold trA at e1 e2
  rw [e1]; omega
/-- conjugates are Latin squares -/
theorem ConR.lat (hA : Lat A) (hp : IsP p) (h3 : p.length = 3) (h : ConR A p B) : Lat B := by
  have h0 := h.el hA hp h3
  have hb := h.sqr.len
  have on := fun {u v : Nat} (hu : u < A.length) (hv : v < A.length) => tri_onto hA.latin (p3_lt hp h3 (i := 0) (by omega)) (p3_lt hp h3 (i := 1) (by omega)) (p3_ne hp h3 (by omega) (by omega) (by omega)) hu hv
  refine ⟨by rw [hb]; exact hA.pos, by rw [hb]; exact hA.le, fun x hx => by rw [hb] at hx ⊢; exact h0.row x hx, fun u hu => ?_, fun v hv => ?_⟩
  · rw [hb] at hu
    refine ⟨fun v hv => ?_, fun v v' hv hv' e => ?_⟩
    · rw [h0.row u hu] at hv ⊢; exact h0.el u v hu hv
    · rw [h0.row u hu] at hv hv'
      obtain ⟨x, y, hx, hy, e1, e2⟩ := on hu hv
      obtain ⟨x', y', hx', hy', e1', e2'⟩ := on hu hv'
      have f1 := h.at' x y hx hy
      have f2 := h.at' x' y' hx' hy'
      unfold trA at f1 f2
      rw [e1, e2] at f1
      rw [e1', e2'] at f2
      have e' : at2 B u v = at2 B u v' := e
      rw [f1, f2] at e'
      obtain ⟨rfl, rfl⟩ := tri_inj hA.latin (p3_lt hp h3 (by omega)) (p3_lt hp h3 (by omega)) (p3_ne hp h3 (i := 0) (j := 2) (by omega) (by omega) (by omega)) hx hy hx' hy' (e1.trans e1'.symm) (by omega)
      rw [← e2, ← e2']
  · rw [hb] at hv
    refine ⟨fun u hu => ?_, fun u u' hu hu' e => ?_⟩
    · rw [colL_len, hb] at hu ⊢; rw [nth_colL (by rw [hb]; exact hu)]; exact h0.el u v hu hv
    · rw [colL_len, hb] at hu hu'
      rw [nth_colL (by rw [hb]; exact hu), nth_colL (by rw [hb]; exact hu')] at e
      obtain ⟨x, y, hx, hy, e1, e2⟩ := on hu hv
      obtain ⟨x', y', hx', hy', e1', e2'⟩ := on hu' hv
      have f1 := h.at' x y hx hy
      have f2 := h.at' x' y' hx' hy'
      unfold trA at f1 f2
      rw [e1, e2] at f1
      rw [e1', e2'] at f2
      rw [f1, f2] at e
      obtain ⟨rfl, rfl⟩ := tri_inj hA.latin (p3_lt hp h3 (by omega)) (p3_lt hp h3 (by omega)) (p3_ne hp h3 (i := 1) (j := 2) (by omega) (by omega) (by omega)) hx hy hx' hy' (e2.trans e2'.symm) (by omega)
      rw [← e1, ← e1']
/-- conjugates of conjugates -/
theorem ConR.comp (hA : Lat A) (hp : IsP p) (hq : IsP q) (h3 : p.length = 3) (hq3 : q.length = 3) (h1 : ConR A p B) (h2 : ConR B q C) : ConR A (cmpL q p) C := by
  have hb := h1.sqr.len
  have hl := hA.latin
  refine ⟨by rw [← hb]; exact h2.sqr, fun x y hx hy => ?_⟩
  have c1 : ConjOf A.length (af A) (pf p) (af B) := fun x y hx hy => by
    have := h1.at' x y hx hy
    show (at2 B (trA A x y (pf p 0)) (trA A x y (pf p 1))).toNat = trA A x y (pf p 2)
    rw [this]; simp
  have c2 : ConjOf A.length (af B) (pf q) (af C) := fun x y hx hy => by
    have := h2.at' x y (by omega) (by omega)
    show (at2 C (trA B x y (pf q 0)) (trA B x y (pf q 1))).toNat = trA B x y (pf q 2)
    rw [this]; simp
  have hq' : Bij 3 (pf q) := by have := hq.bij; rwa [hq3] at this
  have c3 := ConjOf.comp hl hq' c1 c2 x y hx hy
  rw [pf_cmpL (by omega), pf_cmpL (by omega), pf_cmpL (by omega)]
  have hz := h2.el (h1.lat hA hp h3) hq hq3
  have z := hz.el (trA A x y (pf p (pf q 0))) (trA A x y (pf p (pf q 1))) (by rw [hb]; exact trA_lt hA hx hy _) (by rw [hb]; exact trA_lt hA hx hy _)
  have e : (af C (trA A x y (pf p (pf q 0))) (trA A x y (pf p (pf q 1))) : Int) = trA A x y (pf p (pf q 2)) := by
    unfold trA; exact congrArg Int.ofNat c3
  rw [← e]; unfold af; omega
end

end Go.Proofs.Ytgflhgkcmfjkgaa
end

section
/- Orthogonal squares as lists of lists, in plain terms. -/
namespace Go.Proofs.Ytgflhgkcmfjkgaa
set_option linter.unusedSimpArgs false
set_option linter.unusedVariables false
/-- every pair of symbols once -/
def Ort (n : Nat) (A B : List (List Int)) : Prop := ∀ x y x' y', x < n → y < n → x' < n → y' < n → at2 A x y = at2 A x' y' → at2 B x y = at2 B x' y' → x = x' ∧ y = y'
theorem Ort.symm {n : Nat} {A B : List (List Int)} (h : Ort n A B) : Ort n B A := fun x y x' y' hx hy hx' hy' e1 e2 => h x y x' y' hx hy hx' hy' e2 e1
open Classical in
noncomputable def orB (A B : List (List Int)) : Bool := decide (A.length = B.length ∧ Ort A.length A B)
theorem orB_t {A B : List (List Int)} (h : orB A B = true) : A.length = B.length ∧ Ort A.length A B := by simpa [orB] using h
/-- places ahead of place y of row x -/
def Bef (n x y x' y' : Nat) : Prop := x' < n ∧ y' < n ∧ (x' < x ∨ x' = x ∧ y' < y)
/-- the numbers that are marked are those of the places ahead, each once -/
structure SnI (n N : Nat) (f : Nat → Nat → Nat) (x y : Nat) (s : List Bool) : Prop where
  len : s.length = N
  mem : ∀ v, v < N → (bat s v = true ↔ ∃ x' y', Bef n x y x' y' ∧ f x' y' = v)
  inj : ∀ x1 y1 x2 y2, Bef n x y x1 y1 → Bef n x y x2 y2 → f x1 y1 = f x2 y2 → x1 = x2 ∧ y1 = y2
section
variable {n N : Nat} {f : Nat → Nat → Nat} {x y : Nat} {s : List Bool}
theorem SnI.step (h : SnI n N f x y s) (hx : x < n) (hy : y < n) (hf : f x y < N) (hb : bat s (f x y) = false) : SnI n N f x (y + 1) (s.set (f x y) true) := by
  have bef : ∀ {x' y'}, Bef n x (y + 1) x' y' → Bef n x y x' y' ∨ (x' = x ∧ y' = y) := fun {x' y'} hh => by unfold Bef at hh ⊢; omega
  have feb : ∀ {x' y'}, Bef n x y x' y' → Bef n x (y + 1) x' y' := fun {x' y'} hh => by unfold Bef at hh ⊢; omega
  have nw : ∀ {x' y'}, Bef n x y x' y' → f x' y' ≠ f x y := fun {x' y'} hh e => by
    have := (h.mem _ hf).2 ⟨x', y', hh, e⟩
    rw [hb] at this; cases this
  refine ⟨by rw [List.length_set]; exact h.len, fun v hv => ?_, fun x1 y1 x2 y2 h1 h2 e => ?_⟩
  · rw [bat_set (by rw [h.len]; exact hf)]
    by_cases e : f x y = v
    · rw [if_pos e]; exact ⟨fun _ => ⟨x, y, by unfold Bef; omega, e⟩, fun _ => rfl⟩
    · rw [if_neg e, h.mem v hv]
      constructor
      · rintro ⟨x', y', h1, h2⟩; exact ⟨x', y', feb h1, h2⟩
      · rintro ⟨x', y', h1, h2⟩
        rcases bef h1 with h3 | ⟨rfl, rfl⟩
        · exact ⟨x', y', h3, h2⟩
        · exact absurd h2 e
  · rcases bef h1 with h1 | ⟨rfl, rfl⟩
    · rcases bef h2 with h2 | ⟨rfl, rfl⟩
      · exact h.inj x1 y1 x2 y2 h1 h2 e
      · exact absurd e (nw h1)
    · rcases bef h2 with h2 | ⟨rfl, rfl⟩
      · exact absurd e.symm (nw h2)
      · exact ⟨rfl, rfl⟩
theorem SnI.next (h : SnI n N f x n s) : SnI n N f (x + 1) 0 s := by
  have e : ∀ x' y', Bef n (x + 1) 0 x' y' ↔ Bef n x n x' y' := fun x' y' => by unfold Bef; omega
  refine ⟨h.len, fun v hv => ?_, fun x1 y1 x2 y2 h1 h2 => h.inj x1 y1 x2 y2 ((e _ _).1 h1) ((e _ _).1 h2)⟩
  rw [h.mem v hv]
  constructor
  · rintro ⟨x', y', h1, h2⟩; exact ⟨x', y', (e _ _).2 h1, h2⟩
  · rintro ⟨x', y', h1, h2⟩; exact ⟨x', y', (e _ _).1 h1, h2⟩
theorem SnI.done (h : SnI n N f n 0 s) : ∀ x y x' y', x < n → y < n → x' < n → y' < n → f x y = f x' y' → x = x' ∧ y = y' := fun x y x' y' hx hy hx' hy' e =>
  h.inj x y x' y' ⟨hx, hy, .inl hx⟩ ⟨hx', hy', .inl hx'⟩ e
end
/-- both symbols of a place in one number -/
def ovF (n : Nat) (A B : List (List Int)) (x y : Nat) : Nat := n * af A x y + af B x y
section
variable {n : Nat} {A B : List (List Int)}
theorem af_eq (h : Sq0 n A) {x y : Nat} (hx : x < n) (hy : y < n) : at2 A x y = (af A x y : Nat) ∧ af A x y < n := by
  have := h.el x y hx hy; unfold af; omega
theorem ovF_inj (hA : Sq0 n A) (hB : Sq0 n B) {x y x' y' : Nat} (hx : x < n) (hy : y < n) (hx' : x' < n) (hy' : y' < n) : ovF n A B x y = ovF n A B x' y' ↔ at2 A x y = at2 A x' y' ∧ at2 B x y = at2 B x' y' := by
  have a := af_eq hA hx hy
  have a' := af_eq hA hx' hy'
  have b := af_eq hB hx hy
  have b' := af_eq hB hx' hy'
  rw [a.1, a'.1, b.1, b'.1]
  unfold ovF
  generalize af A x y = p at *
  generalize af A x' y' = p' at *
  generalize af B x y = q at *
  generalize af B x' y' = q' at *
  constructor
  · intro e
    have e1 : p = p' := by
      have h1 : (n * p + q) / n = p := by rw [Nat.mul_add_div (by omega), Nat.div_eq_of_lt b.2]; omega
      have h2 : (n * p' + q') / n = p' := by rw [Nat.mul_add_div (by omega), Nat.div_eq_of_lt b'.2]; omega
      rw [← h1, ← h2, e]
    subst e1
    exact ⟨rfl, by omega⟩
  · rintro ⟨e1, e2⟩
    rw [show p = p' by omega, show q = q' by omega]
theorem SnI.ort (hA : Sq0 n A) (hB : Sq0 n B) {N : Nat} {s : List Bool} (h : SnI n N (ovF n A B) n 0 s) : Ort n A B := fun x y x' y' hx hy hx' hy' e1 e2 =>
  h.done x y x' y' hx hy hx' hy' ((ovF_inj hA hB hx hy hx' hy').2 ⟨e1, e2⟩)
end
/-! ### lists of squares -/
structure Mols (X : List (List (List Int))) : Prop where
  pos : 1 ≤ X.length
  le : X.length ≤ 10
  lat : ∀ k, k < X.length → Lat (x3at X k)
  ort : ∀ k i, i < k → k < X.length → orB (x3at X k) (x3at X i) = true
/-- all squares have as many rows -/
theorem Mols.len {X : List (List (List Int))} (h : Mols X) {k : Nat} (hk : k < X.length) : (x3at X k).length = (x3at X 0).length := by
  rcases Nat.eq_zero_or_pos k with rfl | h0
  · rfl
  · exact (orB_t (h.ort k 0 h0 hk)).1
end Go.Proofs.Ytgflhgkcmfjkgaa
end

section
/- Walks: the cycles of a permutation. Walks: SignOf; the law FnPermutations. Walks: CyclesOf, SignOf and OrderOfPermutation of any list, powers, permutations made of cycles, types. -/
namespace Go.Proofs.Ytgflhgkcmfjkgaa
set_option linter.unusedSimpArgs false
set_option linter.unusedVariables false
open Go.RowKit
attribute [local go_sem ↓] Go.wp_at_zero Go.wp_at_succ
/-- what is seen: all cycles that numbers below m lead, and the first j numbers of that of m -/
def Seen (xs : List Int) (m j : Nat) (s : List Bool) : Prop := s.length = xs.length ∧ ∀ y, y < xs.length → (bat s y = true ↔ y ∈ (cycs xs.length (pf xs) m).flatten ∨ ∃ i, i < j ∧ y = it (pf xs) i m)
theorem Seen.step {xs : List Int} {m j : Nat} {s : List Bool} (h : Seen xs m j s) (hp : IsP xs) (hm : m < xs.length) : Seen xs m (j + 1) (s.set (it (pf xs) j m) true) := by
  have hlt := it_lt hp.bij hm j
  refine ⟨by rw [List.length_set]; exact h.1, fun y hy => ?_⟩
  rw [bat_set (by rw [h.1]; exact hlt)]
  by_cases e : it (pf xs) j m = y
  · rw [if_pos e]; exact ⟨fun _ => .inr ⟨j, by omega, e.symm⟩, fun _ => rfl⟩
  · rw [if_neg e, h.2 y hy]
    constructor
    · rintro (h1 | ⟨i, hi, e2⟩)
      · exact .inl h1
      · exact .inr ⟨i, by omega, e2⟩
    · rintro (h1 | ⟨i, hi, e2⟩)
      · exact .inl h1
      · refine .inr ⟨i, ?_, e2⟩
        refine Nat.lt_of_le_of_ne (by omega) fun e3 => e ?_
        rw [e2, e3]
theorem Seen.no {xs : List Int} {m : Nat} {s : List Bool} (h : Seen xs m 0 s) (hp : IsP xs) (hm : m < xs.length) (hL : ¬ Lead (pf xs) m) : bat s m = true ∧ Seen xs (m + 1) 0 s := by
  have hs := fun hh => hL ((lead_seen hp.bij hm).2 hh)
  refine ⟨(h.2 m hm).2 (.inl (Classical.byContradiction hs)), h.1, fun y hy => ?_⟩
  rw [h.2 y hy, cycs, if_neg hL]; simp
theorem Seen.back {xs : List Int} {m : Nat} {s : List Bool} (h : Seen xs m (clen xs.length (pf xs) m) s) (hp : IsP xs) (hm : m < xs.length) (hL : Lead (pf xs) m) : bat s (it (pf xs) (clen xs.length (pf xs) m) m) = true ∧ Seen xs (m + 1) 0 s := by
  have hc := clen_ok hp.bij hm
  have hb := hc.back
  refine ⟨?_, h.1, fun y hy => ?_⟩
  · rw [hb]; exact (h.2 m hm).2 (.inr ⟨0, hc.pos, rfl⟩)
  · rw [h.2 y hy, cycs, if_pos hL]
    simp only [List.flatten_append, List.flatten_cons, List.flatten_nil, List.append_nil, List.mem_append]
    constructor
    · rintro (h1 | ⟨i, hi, rfl⟩)
      · exact .inl (.inl h1)
      · exact .inl (.inr ((mem_cycL hp.bij hm).2 ⟨i, rfl⟩))
    · rintro ((h1 | h1) | ⟨i, hi, _⟩)
      · exact .inl h1
      · unfold cycL at h1
        obtain ⟨i, hi, rfl⟩ := List.mem_map.1 h1
        exact .inr ⟨i, List.mem_range.1 hi, rfl⟩
      · omega
/-! ### the least common multiple, bounded -/
end Go.Proofs.Ytgflhgkcmfjkgaa
end

section
/- Walks: valid Latin squares, isotopes, of the program. Walks: isotopes of the program. -/
namespace Go.Proofs.Ytgflhgkcmfjkgaa
set_option linter.unusedSimpArgs false
set_option linter.unusedVariables false
open Go.RowKit
attribute [local go_sem ↓] Go.wp_at_zero Go.wp_at_succ


/-- a square and a code -/
def IIK (w : World) (A : List (List Int)) (c : Int) (e : Ending) (w' : World) : Prop := ∃ v us, e = .returned (.tuple #[v, .int .i64 c]) ∧ us.length = A.length ∧ St w.heap.size w w' (own2 v us A)
theorem IIK.no {w w' : World} {L : List Ent} {c : Int} (h : St w.heap.size w w' L) : IIK w [] c (.returned (.tuple #[.slice none 0 0, .int .i64 c])) w' := ⟨_, [], rfl, rfl, h.out.newnil _⟩
end Go.Proofs.Ytgflhgkcmfjkgaa
end

section
/- Walks: orthogonal squares and lists of them, of the program. -/
namespace Go.Proofs.Ytgflhgkcmfjkgaa
set_option linter.unusedSimpArgs false
set_option linter.unusedVariables false
open Go.RowKit
attribute [local go_sem ↓] Go.wp_at_zero Go.wp_at_succ

theorem und_elem_a3 : Try.prog.underlying 25 = some (.slice (Try.prog.elem 25)) := by kernel_rfl
theorem elem_size_a3 : (Try.prog.info? (Try.prog.elem 25)).map (·.size) = some 1 := by kernel_rfl
theorem rslIII_hi {w : World} {v : Value} {us : List Value} (h : Rd w v us) (hi : Nat) (h2 : hi ≤ us.length) (W : World) :
    (Instr.slice 25 v none (some (.int .i64 (hi : Int))) none).run Try.prog W = .ok (rsl v 0 hi) W := by
  obtain ⟨⟨a, cap, rfl, hc1, hc2, ha⟩, hcell⟩ := h
  obtain ⟨inf, hinf, hs⟩ := Option.map_eq_some_iff.1 elem_size_a3
  rw [run_slice_h W 25 a _ cap und_elem_a3 .i64 hi (by omega) (by omega)]
  simp [sizeOf, typeInfo, hinf, hs, rsl, Result.andThen]
end Go.Proofs.Ytgflhgkcmfjkgaa
end

section
/- Walks: squares that the reference draws, whole or not. Walks: squares that the reference draws, whole or not; isotopes and conjugates that are drawn. -/
namespace Go.Proofs.Ytgflhgkcmfjkgaa
set_option linter.unusedSimpArgs false
set_option linter.unusedVariables false
open Go.RowKit
attribute [local go_sem ↓] Go.wp_at_zero Go.wp_at_succ


/-- a row cut at place k -/
theorem St.shrink {B : Nat} {w0 w : World} {L : List Ent} (h : St B w0 w L) (i : Nat) {e : TypeId} {v : Value} {us : List Value} (hi : L[i]? = some (row e v us)) (k : Nat) (hk : k ≤ us.length) : St B w0 w (L.set i (row e (rsl v 0 k) (us.take k))) := by
  have hg : ∀ r, w.grownBy w r := fun r => ⟨rfl, rfl, rfl, Nat.le_refl _, fun _ _ _ => rfl⟩
  have hx := h.ok _ (List.mem_of_getElem? hi)
  rcases hx with ⟨hp, _⟩ | ⟨_, hv, hu⟩ | ⟨_, g, cap, cur, hv, hB, hh, h1, h2, h3, h4⟩
  · simp [row] at hp
  · simp only [row] at hv hu
    subst hv; subst hu
    have hk0 : k = 0 := by simpa using hk
    subst hk0
    exact h.put i hi (hg _) _ (.inr (.inl ⟨rfl, rfl, rfl⟩)) (.inl rfl)
  · simp only [row] at hv h1 h4 hh
    have e1 : rsl v 0 k = .slice (some ⟨g, 0, none⟩) k cap := by
      rw [hv]
      simp only [rsl, sliced, Nat.zero_mul, Nat.sub_zero, Option.map_some]
      rw [add_mk]; simp
    have hl : (us.take k).length = k := by rw [List.length_take]; omega
    rw [e1]
    refine h.put i hi (hg _) (row e (.slice (some ⟨g, 0, none⟩) k cap) (us.take k)) (.inr (.inr ⟨rfl, g, cap, cur, ?_, hB, hh, ?_, h2, h3, ?_⟩)) (.inl ?_)
    · simp only [row]; rw [hl]
    · simp only [row]; rw [hl]; omega
    · simp only [row]; rw [hl, ← h4, List.take_take, Nat.min_eq_left hk]
    · simp only [row]; rw [hv]; rfl
theorem xat_put {A : List (List Int)} {j k : Nat} {r : List Int} (h : j < A.length) : xat (A.set j r) k = if j = k then r else xat A k := by
  unfold xat
  rw [List.getD_eq_getElem?_getD, List.getElem?_set]
  split
  · rename_i e; subst e; simp [h]
  · simp
/-- rows, not more than 10, of not more than 10 numbers each -/
structure SmA (A : List (List Int)) : Prop where
  len : A.length ≤ 10
  row : ∀ x, x < A.length → (xat A x).length ≤ 10
theorem Sq0.sm {n : Nat} {A : List (List Int)} (h : Sq0 n A) (hn : n ≤ 10) : SmA A := ⟨by rw [h.len]; exact hn, fun x hx => by rw [h.row x (by rw [← h.len]; exact hx)]; exact hn⟩
theorem SmA.put {A : List (List Int)} (h : SmA A) {x : Nat} (hx : x < A.length) {r : List Int} (hr : r.length ≤ 10) : SmA (A.set x r) :=
  ⟨by rw [List.length_set]; exact h.len, fun t ht => by
    rw [List.length_set] at ht
    rw [xat_put hx]; split
    · exact hr
    · exact h.row t ht⟩
theorem SmA.take {A : List (List Int)} (h : SmA A) (k : Nat) : SmA (A.take k) :=
  ⟨by rw [List.length_take]; have := h.len; omega, fun x hx => by
    have hx' : x < A.length := by rw [List.length_take] at hx; omega
    have : xat (A.take k) x = xat A x := by rw [xat_eq hx, xat_eq hx', List.getElem_take]
    rw [this]; exact h.row x hx'⟩
end Go.Proofs.Ytgflhgkcmfjkgaa
end
