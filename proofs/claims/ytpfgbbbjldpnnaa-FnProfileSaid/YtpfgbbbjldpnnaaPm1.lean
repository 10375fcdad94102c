/- Walks: valid permutations of both sides; permutations that the laws make. -/
import Derived.Test.YtpfgbbbjldpnnaaPPm
import Derived.Test.YtpfgbbbjldpnnaaSrt
import Derived.Test.YtpfgbbbjldpnnaaCopy
import Derived.Test.YtpfgbbbjldpnnaaHas
import Derived.Test.YtpfgbbbjldpnnaaIn
import Derived.Test.YtpfgbbbjldpnnaaDrw
import Derived.Test.YtpfgbbbjldpnnaaSrc2
import Derived.Deep.RegionHeld3
import Derived.Deep.DrawnRows
namespace Go.Proofs.Ytpfgbbbjldpnnaa
set_option linter.unusedSimpArgs false
set_option linter.unusedVariables false
open Go.RowKit
attribute [local go_sem ↓] Go.wp_at_zero Go.wp_at_succ

set_option maxHeartbeats 2000000 in
set_option maxRecDepth 100000 in
theorem ValidPermutation_c (v : Value) (xs : List Int) (w : World) (hv : RdI w v xs) (hN : xs.length ≤ 1048576) : Calls Try.prog 58 #[v] w (GivesB w (pvB xs)) := by
  have hlx := hv.len
  have HP := Lib.hid (show IsP xs ↔ ∀ j, j < xs.length → nth (srt xs) j = j from isP_iff)
  have Hl := Lib.hid (srt_len xs)
  have HS := fun {B : Nat} {w0 w : World} {L : List Ent} (hS : St B w0 w L) (i : Nat) {v : Value} (hi : L[i]? = some (row 2 v (iv xs))) => Lib.hid (Sort_c hS i hi (by omega))
  generalize srt xs = ys at *
  go_enter Try.func58, Try.ntmps58
  go_wp2_with fail
  refine (Clone_c v xs w hv hN).mono ?_
  rintro e w1 ⟨u, rfl, h1⟩
  go_wp2_with fail
  refine (HS h1 0 rfl).out.mono ?_
  rintro e w2 ⟨rfl, hS⟩
  simp only [List.set_cons_zero] at hS
  have hln := (hS.rdI 0 rfl).len
  have hix := (hS.rdI 0 rfl).ix
  rw [Hl.out] at hln hix
  clear HS h1
  go_wp2_with fail
  go_loopw [4, 5, 12] (fun _ _ x wr => ∃ k : Nat, k ≤ xs.length ∧ x = .int .i64 k ∧ Hid (∀ j, j < k → nth ys j = j) ∧ St w.heap.size w wr [row 2 u (iv ys)]) (fun _ _ x _ => xs.length - (intOf x).toNat)
  case atStart => exact ⟨0, by omega, rfl, fun j hj => by omega, hS⟩
  case round =>
    clear hS
    obtain ⟨k, hk, rfl, hI, hS⟩ := hrel
    by_cases hlt : k < xs.length
    · have hc := (hS.rdI 0 rfl).cell k (by rw [Hl.out]; exact hlt)
      by_cases h1 : nth ys k = k
      · have e1 := ne_f h1
        have H1 := Lib.hid h1
        clear h1
        go_wp2_with fail
        go_roundw
        case rel => exact ⟨k + 1, by omega, by go_num, fun j hj => by
          by_cases e : j = k
          · subst e; exact H1.out
          · exact hI.out j (by omega), hS⟩
        case measure => simp [intOf]; omega
      · have e1 := ne_t h1
        have H1 := Lib.hid h1
        clear h1
        go_wp2_with fail
        go_ret
        exact ⟨ret_bool (pvB_no fun h => H1.out (HP.out.1 h.2 k hlt)).symm, hS.out⟩
    · go_wp2_with fail
      go_ret
      have hp : IsP xs := HP.out.2 fun j hj => hI.out j (by omega)
      refine ⟨ret_bool ?_, hS.out⟩
      by_cases h32 : xs.length ≤ 32
      · rw [pvB_yes h32 hp]; simp; omega
      · rw [pvB_no fun h => h32 h.1]; simp; omega

set_option maxHeartbeats 2000000 in
set_option maxRecDepth 100000 in
theorem l04Ok_c (v : Value) (xs : List Int) (w : World) (hv : RdI w v xs) : Calls Try.prog 62 #[v] w (GivesB w (pvB xs)) := by
  have hln := hv.len
  have hix := hv.ix
  have hle := hv.le
  have HP := Lib.hid (isP_iff2 (xs := xs))
  by_cases h32 : 32 < xs.length
  · have H := Lib.hid (pvB_no (xs := xs) fun h => by omega)
    go_enter Try.func62, Try.ntmps62
    go_wp2_with fail
    go_ret
    exact ⟨ret_bool H.out.symm, St.refl w⟩
  · go_enter Try.func62, Try.ntmps62
    go_wp2_with fail
    go_loopw [3] (fun x wr => ∃ k : Nat, k ≤ xs.length ∧ x = .int .i64 k ∧ Hid (∀ j, j < k → (0 ≤ nth xs j ∧ nth xs j ≤ xs.length - 1) ∧ nth xs j ∉ xs.take j) ∧ St w.heap.size w wr []) (fun x _ => xs.length - (intOf x).toNat)
    case atStart => exact ⟨0, by omega, rfl, fun j hj => by omega, St.refl w⟩
    case round =>
      obtain ⟨k, hk, rfl, hI, hS⟩ := hrel
      by_cases hlt : k < xs.length
      · have hq := fun s : SS w.heap.size w [] => (s.st.oldI hv).cell k hlt
        have hsl := rsl_hi hv k (by omega)
        by_cases h1 : 0 ≤ nth xs k ∧ nth xs k ≤ (xs.length : Int) - 1
        · have i1 := inB_true h1
          have H1 := Lib.hid h1
          clear h1
          by_cases h2 : nth xs k ∈ xs.take k
          · have i2 : decide (nth xs k ∈ List.drop 0 (xs.take k)) = true := decide_eq_true h2
            have H2 := Lib.hid h2
            clear h2
            have hHas := fun W (h : St w.heap.size w W []) => Lib.hid (l00Has_c (rsl v 0 k) _ (nth xs k) W (rsl_rd (h.oldI hv) (Nat.zero_le k) hk))
            rw [i2] at hHas
            go_wp2_with fail
            have hne : Nonempty (SS _ _ _) := ⟨⟨_, hS⟩⟩
            refine wp_region_st (by kernel_rfl) (by kernel_rfl) hS ?_
            repeat (go_big_quiet_step ((first | (go_at_call 63; exact st_quiet0 (l00In_c _ _ _ _)) | (go_at_call 104; exact st_quiet0 (hHas _ (SS.st _)).out))))
            refine wpQuiet_nil ?_
            rintro _ ⟨s2, rfl⟩
            have hS2 := s2.st
            generalize s2.w = w2 at hS2 ⊢
            go_wp2_with fail
            go_ret
            exact ⟨ret_bool (pvB_no fun h => (HP.out.1 h.2 k hlt).2 H2.out).symm, hS2⟩
          · have i2 : decide (nth xs k ∈ List.drop 0 (xs.take k)) = false := decide_eq_false h2
            have H2 := Lib.hid h2
            clear h2
            have hHas := fun W (h : St w.heap.size w W []) => Lib.hid (l00Has_c (rsl v 0 k) _ (nth xs k) W (rsl_rd (h.oldI hv) (Nat.zero_le k) hk))
            rw [i2] at hHas
            go_wp2_with fail
            have hne : Nonempty (SS _ _ _) := ⟨⟨_, hS⟩⟩
            refine wp_region_st (by kernel_rfl) (by kernel_rfl) hS ?_
            repeat (go_big_quiet_step ((first | (go_at_call 63; exact st_quiet0 (l00In_c _ _ _ _)) | (go_at_call 104; exact st_quiet0 (hHas _ (SS.st _)).out))))
            refine wpQuiet_nil ?_
            rintro _ ⟨s2, rfl⟩
            have hS2 := s2.st
            generalize s2.w = w2 at hS2 ⊢
            go_wp2_with fail
            go_roundw
            case rel => exact ⟨k + 1, by omega, by go_num, fun j hj => by
              by_cases e : j = k
              · subst e; exact ⟨H1.out, H2.out⟩
              · exact hI.out j (by omega), hS2⟩
            case measure => simp [intOf]; omega
        · have i1 := inB_false h1
          have H1 := Lib.hid h1
          clear h1
          go_wp2_with fail
          have hne : Nonempty (SS _ _ _) := ⟨⟨_, hS⟩⟩
          refine wp_region_st (by kernel_rfl) (by kernel_rfl) hS ?_
          repeat (go_big_quiet_step ((go_at_call 63; exact st_quiet0 (l00In_c _ _ _ _))))
          refine wpQuiet_nil ?_
          rintro _ ⟨s2, rfl⟩
          have hS2 := s2.st
          generalize s2.w = w2 at hS2 ⊢
          go_wp2_with fail
          go_ret
          exact ⟨ret_bool (pvB_no fun h => H1.out (HP.out.1 h.2 k hlt).1).symm, hS2⟩
      · go_wp2_with fail
        go_ret
        exact ⟨ret_bool (pvB_yes (by omega) (HP.out.2 fun j hj => hI.out j (by omega))).symm, hS⟩
theorem sValidPermutation_c (v : Value) (xs : List Int) (w : World) (hv : RdI w v xs) : Calls Try.prog 12 #[v] w (GivesB w (pvB xs)) := by
  go_enter Try.func12, Try.ntmps12
  go_wp2_with fail
  refine (l04Ok_c v xs w hv).mono ?_
  rintro e w1 ⟨rfl, h1⟩
  go_wp2_with fail
  go_ret
  exact ⟨rfl, h1⟩
end Go.Proofs.Ytpfgbbbjldpnnaa
