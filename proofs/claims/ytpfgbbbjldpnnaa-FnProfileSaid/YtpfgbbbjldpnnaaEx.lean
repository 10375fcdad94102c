/- Walks: the helpers of the exact laws. -/
import Derived.Test.YtpfgbbbjldpnnaaII
import Derived.Test.YtpfgbbbjldpnnaaPSet
namespace Go.Proofs.Ytpfgbbbjldpnnaa
set_option linter.unusedSimpArgs false
set_option linter.unusedVariables false
open Go.RowKit

def szI (left : Int) (xs : List Int) : Int := if left - xs.length < 0 then -1 else left - xs.length
def szL (left : Int) : List (List Int) → Int
  | [] => left
  | xs :: r => if szI left xs < 0 then -1 else szL (szI left xs) r
def szII (left : Int) (xss : List (List Int)) : Int := if left - xss.length < 0 then -1 else szL (left - xss.length) xss

theorem szI_le {left : Int} {xs : List Int} (h : 0 ≤ szI left xs) : (xs.length : Int) ≤ left ∧ szI left xs ≤ left := by
  unfold szI at *; split at h
  · omega
  · rename_i hn; rw [if_neg hn]; omega
theorem szL_le : ∀ {left : Int} {xss : List (List Int)}, 0 ≤ szL left xss → ∀ xs ∈ xss, (xs.length : Int) ≤ left
  | _, [], _, xs, hx => by simp at hx
  | left, y :: r, h, xs, hx => by
    unfold szL at h
    split at h
    · omega
    · rename_i hn
      have h1 := szI_le (show 0 ≤ szI left y by omega)
      rcases List.mem_cons.1 hx with rfl | hx
      · exact h1.1
      · have := szL_le h xs hx; omega
theorem szII_le {left : Int} {xss : List (List Int)} (h : 0 ≤ szII left xss) : (xss.length : Int) ≤ left ∧ ∀ xs ∈ xss, (xs.length : Int) ≤ left := by
  unfold szII at h
  split at h
  · omega
  · exact ⟨by omega, fun xs hx => by have := szL_le h xs hx; omega⟩

theorem szL_top : ∀ {left : Int} {xss : List (List Int)}, 0 ≤ szL left xss → szL left xss ≤ left
  | left, [], _ => by simp [szL]
  | left, y :: r, h => by
    unfold szL at h ⊢
    split at h
    · omega
    · rename_i hn
      rw [if_neg hn]
      have h1 := szI_le (show 0 ≤ szI left y by omega)
      have := szL_top h
      omega
theorem szII_top {left : Int} {xss : List (List Int)} (h : 0 ≤ szII left xss) : szII left xss ≤ left := by
  unfold szII at h ⊢
  split at h
  · omega
  · rename_i hn
    rw [if_neg hn]
    have := szL_top h
    omega

theorem szInt64S_c (v : Value) (xs : List Int) (left : Int) (w : World) (hv : RdI w v xs) (hl : 0 ≤ left ∧ left ≤ 1048576) :
    Calls Try.prog 118 #[v, .int .i64 left] w fun e w' => e = .returned (.int .i64 (szI left xs)) ∧ w = w' := by
  have hln := hv.len
  have hm := hv.le
  obtain ⟨l0, l1⟩ := hl
  by_cases h : left - xs.length < 0
  · go_enter Try.func118, Try.ntmps118
    go_wp2_with fail
    go_ret
    exact ⟨ret_i64 (by rw [szI, if_pos h]), rfl⟩
  · go_enter Try.func118, Try.ntmps118
    go_wp2_with fail
    go_ret
    exact ⟨ret_i64 (by rw [szI, if_neg (by omega)]), rfl⟩

theorem szL_drop {xss : List (List Int)} {k : Nat} (hk : k < xss.length) (left : Int) :
    szL left (xss.drop k) = if szI left (xat xss k) < 0 then -1 else szL (szI left (xat xss k)) (xss.drop (k + 1)) := by
  rw [drop_xat hk]; rfl

set_option maxHeartbeats 1000000 in
set_option maxRecDepth 100000 in
theorem szInt64SS_c (v : Value) (us : List Value) (xss : List (List Int)) (left : Int) (w : World) (hv : RII w v us xss) (hl : 0 ≤ left ∧ left ≤ 1048576) :
    Calls Try.prog 87 #[v, .int .i64 left] w fun e w' => e = .returned (.int .i64 (szII left xss)) ∧ w = w' := by
  have hln := hv.len
  have hix := hv.ix
  have hc := hv.cell
  have hm := hv.le
  obtain ⟨l0, l1⟩ := hl
  by_cases h : left - xss.length < 0
  · go_enter Try.func87, Try.ntmps87
    go_wp2_with fail
    go_ret
    exact ⟨ret_i64 (by rw [szII, if_pos h]), rfl⟩
  · have H0 := Lib.hid (show szII left xss = szL (left - xss.length) xss by rw [szII, if_neg h])
    go_enter Try.func87, Try.ntmps87
    go_wp2_with fail
    go_loop [1, 5] (fun a i => ∃ (k : Nat) (m : Int), k ≤ xss.length ∧ i = .int .i64 k ∧ a = .int .i64 m ∧ 0 ≤ m ∧ m ≤ 1048576 ∧ Hid (szII left xss = szL m (xss.drop k))) (fun _ i => xss.length - (intOf i).toNat)
    case atStart => exact ⟨0, left - xss.length, by omega, rfl, rfl, by omega, by omega, H0⟩
    case round =>
      obtain ⟨k, m, hk, rfl, rfl, m0, m1, hI⟩ := hrel
      by_cases hlt : k < xss.length
      · have hd := Lib.hid (szL_drop hlt m)
        by_cases hs : szI m (xat xss k) < 0
        · go_wp2_with fail
          refine (szInt64S_c _ _ m w (hv.row k hlt) ⟨m0, m1⟩).mono ?_
          rintro e w1 ⟨rfl, rfl⟩
          go_wp2_with fail
          go_ret
          exact ⟨ret_i64 (by rw [hI.out, hd.out, if_pos hs]), rfl⟩
        · have hb := szI_le (show 0 ≤ szI m (xat xss k) by omega)
          obtain ⟨hb1, hb2⟩ := hb
          go_wp2_with fail
          refine (szInt64S_c _ _ m w (hv.row k hlt) ⟨m0, m1⟩).mono ?_
          rintro e w1 ⟨rfl, rfl⟩
          go_wp2_with fail
          go_round
          case rel => exact ⟨k + 1, _, by omega, by go_num, rfl, by omega, by omega, by rw [Hid, hI.out, hd.out, if_neg (by omega)]⟩
          case measure => simp [intOf]; omega
      · go_wp2_with fail
        go_ret
        exact ⟨ret_i64 (by rw [hI.out, List.drop_of_length_le (by omega)]; rfl), rfl⟩

set_option maxHeartbeats 1000000 in
set_option maxRecDepth 100000 in
theorem toInt64S_c (v : Value) (xs : List Int) (w : World) (hv : RdI w v xs) (hN : xs.length ≤ 1048576) :
    Calls Try.prog 120 #[v] w (MakesI w xs) := by
  have hln := hv.len
  have hix := hv.ix
  have hc := hv.cell
  go_enter Try.func120, Try.ntmps120
  go_wp2_with (at_make; refine mkI (St.refl w) rfl _ _ rfl _ _ xs.length rfl rfl (by omega) ?_; intro v1 w1 hS1)
  have hi1 := (hS1.rdI 0 rfl).ix
  simp only [List.length_replicate] at hi1
  go_loopw [4] (fun i wr => ∃ k : Nat, k ≤ xs.length ∧ i = .int .i64 k ∧ St w.heap.size w wr [row 2 v1 (iv (xs.take k ++ List.replicate (xs.length - k) 0))]) (fun i _ => xs.length - (intOf i).toNat)
  case atStart => exact ⟨0, by omega, rfl, hS1⟩
  case round =>
    obtain ⟨k, hk, rfl, hS⟩ := hrel
    by_cases hlt : k < xs.length
    · have hck := (hS.oldI hv).cell k hlt
      go_wp2_with (refine stoI hS 0 rfl k (by simp; omega) rfl (.tmp 20) (.tmp 19) rfl rfl _ rfl ?_; intro w2 hS2)
      go_roundw
      case rel =>
        refine ⟨k + 1, by omega, by go_num, ?_⟩
        have e : (xs.take k ++ List.replicate (xs.length - k) 0).set k (nth xs k) = xs.take (k + 1) ++ List.replicate (xs.length - (k + 1)) 0 := by
          rw [take_nth hlt, show xs.length - k = (xs.length - (k + 1)) + 1 by omega, List.replicate_succ]
          rw [List.set_append_right _ _ (by simp; omega)]
          simp [Nat.min_eq_left (Nat.le_of_lt hlt)]
        rw [← e]; exact hS2
      case measure => simp [intOf]; omega
    · go_wp2_with fail
      go_ret
      refine ⟨_, rfl, ?_⟩
      have e : xs.take k ++ List.replicate (xs.length - k) 0 = xs := by rw [List.take_of_length_le (by omega), show xs.length - k = 0 by omega]; simp
      rw [e] at hS
      exact hS

set_option maxHeartbeats 2000000 in
set_option maxRecDepth 100000 in
theorem toInt64SS_c (v : Value) (us : List Value) (xss : List (List Int)) (w : World) (hv : RII w v us xss) (hN : xss.length ≤ 1048576) (hNN : ∀ xs ∈ xss, xs.length ≤ 1048576) :
    Calls Try.prog 90 #[v] w (MakesII w xss) := by
  have HNN := Lib.hid hNN
  clear hNN
  have hln := hv.len
  have hix := hv.ix
  go_enter Try.func90, Try.ntmps90
  go_wp2_with (at_make; refine mkII (St.refl w) rfl _ _ rfl _ _ xss.length rfl rfl (by omega) ?_; intro v1 w1 hS1)
  have hi1 := run_ix_sl (P := Try.prog) (hS1.rd 0 rfl).sl 37 Try.und_iss Try.size_is
  simp only [nils, List.length_replicate] at hi1
  go_loopw [4] (fun i wr => ∃ (k : Nat) (ws : List Value), k ≤ xss.length ∧ i = .int .i64 k ∧ Hid (ws.length = k) ∧ St w.heap.size w wr (row 24 v1 (ws ++ nils (xss.length - k)) :: rowsI ws (xss.take k))) (fun i _ => xss.length - (intOf i).toNat)
  case atStart => exact ⟨0, [], by omega, rfl, rfl, hS1⟩
  case round =>
    obtain ⟨k, ws, hk, rfl, hw, hS⟩ := hrel
    by_cases hlt : k < xss.length
    · have hck := (hS.oldII hv).cell k hlt
      go_wp2_with fail
      refine (toInt64S_c _ _ wr ((hS.oldII hv).row k hlt) (HNN.out _ (xat_mem hlt))).mono ?_
      rintro e w2 ⟨u, rfl, h2⟩
      have hS2 := hS.call h2
      have hsl := (h2.rdI 0 rfl).sl
      go_wp2_with (refine stoII hS2 0 rfl k (by simp [nils, hw.out]; omega) rfl (.tmp 21) (.tmp 20) rfl rfl u hsl.cells hsl.one rfl ?_; intro w3 hS3)
      go_roundw
      case rel =>
        refine ⟨k + 1, ws ++ [u], by omega, by go_num, by simp [Hid, hw.out], ?_⟩
        have e : (ws ++ nils (xss.length - k)).set k u = (ws ++ [u]) ++ nils (xss.length - (k + 1)) := by
          rw [nils, show xss.length - k = (xss.length - (k + 1)) + 1 by omega, List.replicate_succ]
          rw [List.set_append_right _ _ (by rw [hw.out]; omega), hw.out]
          simp [nils]
        rw [take_xat hlt, rowsI_app (by simp [hw.out]; omega), ← e]
        exact hS3
      case measure => simp [intOf]; omega
    · go_wp2_with fail
      go_ret
      have ek : k = xss.length := by omega
      refine ⟨_, ws, rfl, by rw [hw.out]; exact ek, ?_⟩
      subst ek
      rw [List.take_length] at hS
      simpa [nils, own2] using hS

set_option maxHeartbeats 1000000 in
set_option maxRecDepth 100000 in
theorem eqInt64S_c (va vb : Value) (xs ys : List Int) (w : World) (ha : RdI w va xs) (hb : RdI w vb ys) :
    Calls Try.prog 121 #[va, vb] w (GivesB w (decide (xs = ys))) := by
  have hla := ha.len
  have hlb := hb.len
  have hia := ha.ix
  have hib := hb.ix
  have hma := ha.le
  by_cases hne : xs.length = ys.length
  · have f0 : ((xs.length : Int) != (ys.length : Int)) = false := ne_f (by omega)
    have hle : xs.length ≤ ys.length := by omega
    have Hne := Lib.hid hne; clear hne
    go_enter Try.func121, Try.ntmps121
    go_wp2_with fail
    go_loopw [5] (fun i wr => ∃ k : Nat, k ≤ xs.length ∧ i = .int .i64 k ∧ Hid (∀ j, j < k → nth xs j = nth ys j) ∧ St w.heap.size w wr []) (fun i _ => xs.length - (intOf i).toNat)
    case atStart => exact ⟨0, by omega, rfl, fun j hj => by omega, St.refl w⟩
    case round =>
      obtain ⟨k, hk, rfl, hI, hS⟩ := hrel
      by_cases hlt : k < xs.length
      · have hqa := fun s : SS w.heap.size w [] => (s.st.oldI ha).cell k hlt
        have hqb := fun s : SS w.heap.size w [] => (s.st.oldI hb).cell k (by omega)
        have hk2 : k < ys.length := by omega
        by_cases h1 : nth xs k = nth ys k
        · have f1 := ne_f h1
          have H1 := Lib.hid h1; clear h1
          go_wp2_with fail
          have hne : Nonempty (SS _ _ _) := ⟨⟨_, hS⟩⟩
          refine wp_region_st (by kernel_rfl) (by kernel_rfl) hS ?_
          repeat (go_big_quiet_step (fail))
          refine wpQuiet_nil ?_
          rintro _ ⟨s2, rfl⟩
          have hS2 := s2.st
          generalize s2.w = w2 at hS2 ⊢
          go_wp2_with fail
          go_roundw
          case rel => exact ⟨k + 1, by omega, by go_num, fun j hj => by
            by_cases e : j = k
            · subst e; exact H1.out
            · exact hI.out j (by omega), hS2⟩
          case measure => simp [intOf]; omega
        · have f1 := ne_t h1
          have H1 := Lib.hid h1; clear h1
          go_wp2_with fail
          have hne : Nonempty (SS _ _ _) := ⟨⟨_, hS⟩⟩
          refine wp_region_st (by kernel_rfl) (by kernel_rfl) hS ?_
          repeat (go_big_quiet_step (fail))
          refine wpQuiet_nil ?_
          rintro _ ⟨s2, rfl⟩
          have hS2 := s2.st
          generalize s2.w = w2 at hS2 ⊢
          go_wp2_with fail
          go_ret
          exact ⟨ret_bool (by symm; rw [decide_eq_false_iff_not]; intro e; subst e; exact H1.out rfl), hS2⟩
      · go_wp2_with fail
        go_ret
        refine ⟨ret_bool ?_, hS⟩
        symm; rw [decide_eq_true_iff]
        apply List.ext_getElem Hne.out
        intro j h1 h2
        have := hI.out j (by omega)
        rwa [nth_eq h1, nth_eq h2] at this
  · have f0 : ((xs.length : Int) != (ys.length : Int)) = true := ne_t (by omega)
    have Hne := Lib.hid hne; clear hne
    go_enter Try.func121, Try.ntmps121
    go_wp2_with fail
    go_ret
    exact ⟨ret_bool (by symm; rw [decide_eq_false_iff_not]; intro e; exact Hne.out (by rw [e])), St.refl w⟩

set_option maxHeartbeats 1000000 in
set_option maxRecDepth 100000 in
theorem eqInt64SS_c (va vb : Value) (us ws : List Value) (xs ys : List (List Int)) (w : World) (ha : RII w va us xs) (hb : RII w vb ws ys) :
    Calls Try.prog 91 #[va, vb] w (GivesB w (decide (xs = ys))) := by
  have hla := ha.len
  have hlb := hb.len
  have hia := ha.ix
  have hib := hb.ix
  have hma := ha.le
  by_cases hne : xs.length = ys.length
  · have f0 : ((xs.length : Int) != (ys.length : Int)) = false := ne_f (by omega)
    have hle : xs.length ≤ ys.length := by omega
    have Hne := Lib.hid hne; clear hne
    go_enter Try.func91, Try.ntmps91
    go_wp2_with fail
    go_loopw [5] (fun i wr => ∃ k : Nat, k ≤ xs.length ∧ i = .int .i64 k ∧ Hid (∀ j, j < k → xat xs j = xat ys j) ∧ St w.heap.size w wr []) (fun i _ => xs.length - (intOf i).toNat)
    case atStart => exact ⟨0, by omega, rfl, fun j hj => by omega, St.refl w⟩
    case round =>
      obtain ⟨k, hk, rfl, hI, hS⟩ := hrel
      by_cases hlt : k < xs.length
      · have hqa := fun s : SS w.heap.size w [] => (s.st.oldII ha).cell k hlt
        have hqb := fun s : SS w.heap.size w [] => (s.st.oldII hb).cell k (by omega)
        have hk2 : k < ys.length := by omega
        by_cases h1 : xat xs k = xat ys k
        · have f1 : decide (xat xs k = xat ys k) = true := decide_eq_true h1
          have H1 := Lib.hid h1; clear h1
          go_wp2_with fail
          have hne : Nonempty (SS _ _ _) := ⟨⟨_, hS⟩⟩
          refine wp_region_st (by kernel_rfl) (by kernel_rfl) hS ?_
          repeat (go_big_quiet_step ((go_at_call 121; exact st_quiet (eqInt64S_c _ _ _ _ _ (((SS.st _).oldII ha).row k hlt) (((SS.st _).oldII hb).row k hk2)))))
          refine wpQuiet_nil ?_
          rintro _ ⟨s2, rfl⟩
          have hS2 := s2.st
          generalize s2.w = w2 at hS2 ⊢
          go_wp2_with fail
          go_roundw
          case rel => exact ⟨k + 1, by omega, by go_num, fun j hj => by
            by_cases e : j = k
            · subst e; exact H1.out
            · exact hI.out j (by omega), hS2⟩
          case measure => simp [intOf]; omega
        · have f1 : decide (xat xs k = xat ys k) = false := decide_eq_false h1
          have H1 := Lib.hid h1; clear h1
          go_wp2_with fail
          have hne : Nonempty (SS _ _ _) := ⟨⟨_, hS⟩⟩
          refine wp_region_st (by kernel_rfl) (by kernel_rfl) hS ?_
          repeat (go_big_quiet_step ((go_at_call 121; exact st_quiet (eqInt64S_c _ _ _ _ _ (((SS.st _).oldII ha).row k hlt) (((SS.st _).oldII hb).row k hk2)))))
          refine wpQuiet_nil ?_
          rintro _ ⟨s2, rfl⟩
          have hS2 := s2.st
          generalize s2.w = w2 at hS2 ⊢
          go_wp2_with fail
          go_ret
          exact ⟨ret_bool (by symm; rw [decide_eq_false_iff_not]; intro e; subst e; exact H1.out rfl), hS2⟩
      · go_wp2_with fail
        go_ret
        refine ⟨ret_bool ?_, hS⟩
        symm; rw [decide_eq_true_iff]
        apply List.ext_getElem Hne.out
        intro j h1 h2
        have := hI.out j (by omega)
        rwa [xat_eq h1, xat_eq h2] at this
  · have f0 : ((xs.length : Int) != (ys.length : Int)) = true := ne_t (by omega)
    have Hne := Lib.hid hne; clear hne
    go_enter Try.func91, Try.ntmps91
    go_wp2_with fail
    go_ret
    exact ⟨ret_bool (by symm; rw [decide_eq_false_iff_not]; intro e; exact Hne.out (by rw [e])), St.refl w⟩
end Go.Proofs.Ytpfgbbbjldpnnaa
