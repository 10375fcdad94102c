/- The texts of this claim, run 5: Same Ds2 Ds3 Has Po Df1 Sss Sq PLat Ds7 Ds8 Ds9 DsA DsB Bo Pm6 Im1 PRR RrA. -/
import Derived.Test.YtgflhgkcmfjkgaaK1
import Derived.Test.YtgflhgkcmfjkgaaK2
import Derived.Test.YtgflhgkcmfjkgaaK3
import Derived.Test.YtgflhgkcmfjkgaaK4
import Derived.Deep.RegionHeld3
import Derived.Deep.DrawnRows
import Derived.Shelf.SlicesG.Delete
import Derived.Sort.OwnSortedInts
section
/- Walks: equal lists, equal lists of lists, equal arrays. -/
namespace Go.Proofs.Ytgflhgkcmfjkgaa
set_option linter.unusedSimpArgs false
set_option linter.unusedVariables false
open Go.RowKit

set_option maxHeartbeats 1000000 in
set_option maxRecDepth 100000 in
theorem Equal_c (va vb : Value) (xs ys : List Int) (w : World) (ha : RdI w va xs) (hb : RdI w vb ys) :
    Calls Try.prog 46 #[va, vb] w (GivesB w (decide (xs = ys))) := by
  have hla := ha.len
  have hlb := hb.len
  have hia := ha.ix
  have hib := hb.ix
  have hma := ha.le
  by_cases hne : xs.length = ys.length
  · have f0 : ((xs.length : Int) != (ys.length : Int)) = false := ne_f (by omega)
    have hle : xs.length ≤ ys.length := by omega
    have Hne := Lib.hid hne; clear hne
    go_enter Try.func46, Try.ntmps46
    go_wp2_with fail
    go_loopw [5, 13] (fun _ i wr => ∃ k : Nat, k ≤ xs.length ∧ i = .int .i64 k ∧ Hid (∀ j, j < k → nth xs j = nth ys j) ∧ St w.heap.size w wr []) (fun _ i _ => xs.length - (intOf i).toNat)
    case atStart => exact ⟨0, by omega, rfl, fun j hj => by omega, St.refl w⟩
    case round =>
      obtain ⟨k, hk, rfl, hI, hS⟩ := hrel
      by_cases hlt : k < xs.length
      · have hqa := fun s : SS w.heap.size w [] => (s.st.oldI ha).cell k hlt
        have hqb := fun s : SS w.heap.size w [] => (s.st.oldI hb).cell k (by omega)
        have hk2 : k < ys.length := by omega
        by_cases h1 : nth xs k = nth ys k
        · have f1 := ne_f h1
          have H1 := Lib.hid h1; clear h1
          go_wp2_with fail
          have hne : Nonempty (SS _ _ _) := ⟨⟨_, hS⟩⟩
          refine wp_region_st (by kernel_rfl) (by kernel_rfl) hS ?_
          repeat (go_big_quiet_step (fail))
          refine wpQuiet_nil ?_
          rintro _ ⟨s2, rfl⟩
          have hS2 := s2.st
          generalize s2.w = w2 at hS2 ⊢
          go_wp2_with fail
          go_roundw
          case rel => exact ⟨k + 1, by omega, by go_num, fun j hj => by
            by_cases e : j = k
            · subst e; exact H1.out
            · exact hI.out j (by omega), hS2⟩
          case measure => simp [intOf]; omega
        · have f1 := ne_t h1
          have H1 := Lib.hid h1; clear h1
          go_wp2_with fail
          have hne : Nonempty (SS _ _ _) := ⟨⟨_, hS⟩⟩
          refine wp_region_st (by kernel_rfl) (by kernel_rfl) hS ?_
          repeat (go_big_quiet_step (fail))
          refine wpQuiet_nil ?_
          rintro _ ⟨s2, rfl⟩
          have hS2 := s2.st
          generalize s2.w = w2 at hS2 ⊢
          go_wp2_with fail
          go_ret
          exact ⟨ret_bool (by symm; rw [decide_eq_false_iff_not]; intro e; subst e; exact H1.out rfl), hS2⟩
      · go_wp2_with fail
        go_ret
        refine ⟨ret_bool ?_, hS⟩
        symm; rw [decide_eq_true_iff]
        apply List.ext_getElem Hne.out
        intro j h1 h2
        have := hI.out j (by omega)
        rwa [nth_eq h1, nth_eq h2] at this
  · have f0 : ((xs.length : Int) != (ys.length : Int)) = true := ne_t (by omega)
    have Hne := Lib.hid hne; clear hne
    go_enter Try.func46, Try.ntmps46
    go_wp2_with fail
    go_ret
    exact ⟨ret_bool (by symm; rw [decide_eq_false_iff_not]; intro e; exact Hne.out (by rw [e])), St.refl w⟩

set_option maxHeartbeats 1000000 in
set_option maxRecDepth 100000 in
theorem EqualFunc_c (va vb : Value) (us ws : List Value) (xs ys : List (List Int)) (w : World) (ha : RII w va us xs) (hb : RII w vb ws ys) :
    Calls Try.prog 124 #[va, vb, .func (.func 46) #[] #[]] w (GivesB w (decide (xs = ys))) := by
  have hla := ha.len
  have hlb := hb.len
  have hia := ha.ix
  have hib := hb.ix
  have hma := ha.le
  by_cases hne : xs.length = ys.length
  · have f0 : ((xs.length : Int) != (ys.length : Int)) = false := ne_f (by omega)
    have hle : xs.length ≤ ys.length := by omega
    have Hne := Lib.hid hne; clear hne
    go_enter Try.func124, Try.ntmps124
    go_wp2_with fail
    go_loopw [7, 8, 9, 17] (fun _ _ _ i wr => ∃ k : Nat, k ≤ xs.length ∧ i = .int .i64 k ∧ Hid (∀ j, j < k → xat xs j = xat ys j) ∧ St w.heap.size w wr []) (fun _ _ _ i _ => xs.length - (intOf i).toNat)
    case atStart => exact ⟨0, by omega, rfl, fun j hj => by omega, St.refl w⟩
    case round =>
      obtain ⟨k, hk, rfl, hI, hS⟩ := hrel
      by_cases hlt : k < xs.length
      · have hk2 : k < ys.length := by omega
        have hqa := (hS.oldII ha).cell k hlt
        have hqb := (hS.oldII hb).cell k hk2
        by_cases h1 : xat xs k = xat ys k
        · have f1 : decide (xat xs k = xat ys k) = true := decide_eq_true h1
          have H1 := Lib.hid h1; clear h1
          go_wp2_with fail
          refine (Equal_c _ _ _ _ wr ((hS.oldII ha).row k hlt) ((hS.oldII hb).row k hk2)).mono ?_
          rw [f1]
          rintro e w2 ⟨rfl, h2⟩
          have hS2 := hS.call0 h2
          go_wp2_with fail
          go_roundw
          case rel => exact ⟨k + 1, by omega, by go_num, fun j hj => by
            by_cases e : j = k
            · subst e; exact H1.out
            · exact hI.out j (by omega), hS2⟩
          case measure => simp [intOf]; omega
        · have f1 : decide (xat xs k = xat ys k) = false := decide_eq_false h1
          have H1 := Lib.hid h1; clear h1
          go_wp2_with fail
          refine (Equal_c _ _ _ _ wr ((hS.oldII ha).row k hlt) ((hS.oldII hb).row k hk2)).mono ?_
          rw [f1]
          rintro e w2 ⟨rfl, h2⟩
          have hS2 := hS.call0 h2
          go_wp2_with fail
          go_ret
          exact ⟨ret_bool (by symm; rw [decide_eq_false_iff_not]; intro e; subst e; exact H1.out rfl), hS2⟩
      · go_wp2_with fail
        go_ret
        refine ⟨ret_bool ?_, hS⟩
        symm; rw [decide_eq_true_iff]
        apply List.ext_getElem Hne.out
        intro j h1 h2
        have := hI.out j (by omega)
        rwa [xat_eq h1, xat_eq h2] at this
  · have f0 : ((xs.length : Int) != (ys.length : Int)) = true := ne_t (by omega)
    have Hne := Lib.hid hne; clear hne
    go_enter Try.func124, Try.ntmps124
    go_wp2_with fail
    go_ret
    exact ⟨ret_bool (by symm; rw [decide_eq_false_iff_not]; intro e; exact Hne.out (by rw [e])), St.refl w⟩

theorem areSame_c (va vb : Value) (us ws : List Value) (xs ys : List (List Int)) (w : World) (ha : RII w va us xs) (hb : RII w vb ws ys) :
    Calls Try.prog 92 #[va, vb] w (GivesB w (decide (xs = ys))) := by
  have H := Lib.hid (EqualFunc_c va vb us ws xs ys w ha hb)
  generalize hd : decide (xs = ys) = d at H ⊢
  clear hd
  go_enter Try.func92, Try.ntmps92
  go_wp2_with fail
  refine H.out.mono ?_
  rintro e w1 ⟨rfl, h⟩
  go_wp2_with fail
  go_ret
  exact ⟨rfl, h⟩

end Go.Proofs.Ytgflhgkcmfjkgaa
end

section
/- Walks: valid designs of both sides, equal designs. -/
namespace Go.Proofs.Ytgflhgkcmfjkgaa
set_option linter.unusedSimpArgs false
set_option linter.unusedVariables false
open Go.RowKit

/-- a design as a value -/
def dv (P : Int) (v : Value) : Value := .agg #[.int .i64 P, v]
def BoxD (w : World) (g : Nat) (P : Int) (v : Value) : Prop := w.cell? ⟨g, 0, none⟩ = some (.int .i64 P) ∧ w.cell? ⟨g, 1, none⟩ = some v
theorem BoxD.keep {w0 w : World} {g : Nat} {P : Int} {v : Value} (h : BoxD w0 g P v) (hb : Below w0.heap.size w0 w) : BoxD w g P v := by
  obtain ⟨h1, h2⟩ := h
  have hg : g < w0.heap.size := by
    rcases Nat.lt_or_ge g w0.heap.size with h | h
    · exact h
    · rw [World.cell?, Array.getElem?_eq_none h] at h1; cases h1
  exact ⟨by rw [hb.cell hg]; exact h1, by rw [hb.cell hg]; exact h2⟩
theorem St.oldBoxD {w0 w : World} {L : List Ent} {g : Nat} {P : Int} {v : Value} (h : St w0.heap.size w0 w L) (hr : BoxD w0 g P v) : BoxD w g P v := hr.keep h.below

theorem isBlock_c (v : Value) (xs : List Int) (P : Int) (w : World) (hv : RdI w v xs) :
    Calls Try.prog 111 #[v, .int .i64 P] w fun e w' => e = .returned (.bool (blkB P xs)) ∧ w = w' := by
  have hln := hv.len
  by_cases h0 : 0 < xs.length
  · have H : Hid (blkB P xs = validSetB xs P) := by rw [Hid, blkB, decide_eq_true h0]; rfl
    go_enter Try.func111, Try.ntmps111
    go_wp2_with (go_at_call 96; refine (ValidSet_c _ _ _ _ hv).mono ?_; rintro e w1 ⟨rfl, rfl⟩)
    go_ret
    exact ⟨by rw [H.out]; rfl, rfl⟩
  · have H : Hid (blkB P xs = false) := by rw [Hid, blkB, decide_eq_false h0]; rfl
    go_enter Try.func111, Try.ntmps111
    go_wp2_with fail
    go_ret
    exact ⟨by rw [H.out]; rfl, rfl⟩
theorem areBlocks1_c (v : Value) (xs : List Int) (g : Nat) (P : Int) (w : World) (hv : RdI w v xs) (hb : w.cell? ⟨g, 0, none⟩ = some (.int .i64 P)) :
    Calls Try.prog 110 #[v, .pointer (some ⟨g, 0, none⟩)] w (GivesB w (!blkB P xs)) := by
  go_enter Try.func110, Try.ntmps110
  go_wp2_with fail
  refine (isBlock_c _ _ _ _ hv).mono ?_
  rintro e w1 ⟨rfl, rfl⟩
  go_wp2_with fail
  go_ret
  exact ⟨rfl, St.refl w⟩
theorem anyR_not {p : List Int → Bool} {A : List (List Int)} : (!anyR (fun b => !p b) A) = A.all p := by
  unfold anyR
  induction A with
  | nil => rfl
  | cons a r ih => simp only [List.any_cons, List.all_cons, Bool.not_or, ih, Bool.not_not]
set_option maxHeartbeats 1000000 in
theorem areBlocks_c (v : Value) (us : List Value) (A : List (List Int)) (P : Int) (w : World) (hv : RII w v us A) :
    Calls Try.prog 75 #[v, .int .i64 P] w (GivesB w (inB P 1 32 && A.all (blkB P))) := by
  have hS1 := (St.refl w).newbox 2 #[.int .i64 P]
  have hcf := callFunc_go Try.func110 (by kernel_rfl) (by kernel_rfl)
  have hb := hS1.bcell 0 rfl 0 rfl
  cases hp : inB P 1 32
  · go_enter Try.func75, Try.ntmps75
    go_wp2_with (go_at_call 37; refine (within_c _ _ _ _).mono ?_; rw [hp]; rintro e w1 ⟨rfl, rfl⟩)
    go_ret
    exact ⟨rfl, hS1.out⟩
  · have hmf : ∀ (fn : Fn) (first cap : Array Value) (w : World), (Instr.makeFunc fn first cap).run Try.prog w = .ok (.func fn first cap) w := fun _ _ _ _ => rfl
    have hcall := Lib.hid (ContainsFuncR_c 110 #[.pointer (some ⟨w.heap.size, 0, none⟩)] (fun b => !blkB P b) v us A _ (hS1.oldII hv) hcf (fun j W hW hj => areBlocks1_c _ _ w.heap.size P W ((hW.oldII (hS1.oldII hv)).row j hj) (by
      have h2 := hS1.call0 hW
      exact h2.bcell 0 rfl 0 rfl)))
    clear hcf
    go_enter Try.func75, Try.ntmps75
    go_wp2_with (first | (go_at_call 37; refine (within_c _ _ _ _).mono ?_; rw [hp]; rintro e w1 ⟨rfl, rfl⟩) | (go_at_call 109; refine hcall.out.mono ?_; rintro e w2 ⟨rfl, h2⟩; have hS2 := hS1.call0 h2))
    go_ret
    exact ⟨ret_bool (by rw [anyR_not]; rfl), hS2.out⟩
set_option maxHeartbeats 1000000 in
theorem ValidDesign_c (P : Int) (v : Value) (us : List Value) (A : List (List Int)) (w : World) (hv : RII w v us A) :
    Calls Try.prog 42 #[dv P v] w (GivesB w (dOk P A)) := by
  have hS1 := (St.refl w).newbox 35 #[.int .i64 P, v]
  have hb0 := hS1.bcell 0 rfl 0 rfl
  have hb1 := hS1.bcell 0 rfl 1 rfl
  have hln := hv.len
  unfold dv
  have hcall := fun W a => Lib.hid (areBlocks_c v us A P W a)
  have hsrt := fun W a => Lib.hid (IsSortedR_c v us A W a)
  cases hp : inB P 1 32 && A.all (blkB P)
  · rw [hp] at hcall
    have H : Hid (dOk P A = false) := by rw [Hid, dOk, hp]; rfl
    go_enter Try.func42, Try.ntmps42
    go_wp2_with (go_at_call 75; refine (hcall _ (hS1.oldII hv)).out.mono ?_; rintro e w2 ⟨rfl, h2⟩; have hS2 := hS1.call0 h2)
    go_ret
    exact ⟨ret_bool H.out.symm, hS2.out⟩
  · rw [hp] at hcall
    by_cases hl : A.length ≤ 128
    · have H : Hid (dOk P A = srtB A) := by rw [Hid, dOk, hp, decide_eq_true hl]; rfl
      go_enter Try.func42, Try.ntmps42
      go_wp2_with (first | (go_at_call 75; refine (hcall _ (hS1.oldII hv)).out.mono ?_; rintro e w2 ⟨rfl, h2⟩; have hS2 := hS1.call0 h2; have c1 := hS2.bcell 0 rfl 1 rfl) | (go_at_call 76; refine (hsrt _ (hS2.oldII hv)).out.mono ?_; rintro e w3 ⟨rfl, h3⟩; have hS3 := hS2.call0 h3))
      go_ret
      exact ⟨ret_bool H.out.symm, hS3.out⟩
    · have H : Hid (dOk P A = false) := by rw [Hid, dOk, hp, decide_eq_false hl]; rfl
      have hl' : 128 < A.length := by omega
      go_enter Try.func42, Try.ntmps42
      go_wp2_with (go_at_call 75; refine (hcall _ (hS1.oldII hv)).out.mono ?_; rintro e w2 ⟨rfl, h2⟩; have hS2 := hS1.call0 h2; have c1 := hS2.bcell 0 rfl 1 rfl)
      go_ret
      exact ⟨ret_bool H.out.symm, hS2.out⟩

theorem blkB_in {P : Int} (h : 1 ≤ P ∧ P ≤ 32) (b : List Int) : blkB P b = (decide (0 < b.length) && incB (-1) P b) := by
  rw [blkB, validSetB, show inB P 0 32 = true by simp [inB]; omega, Bool.and_true]
theorem l10Block_c (v : Value) (xs : List Int) (P : Int) (w : World) (hv : RdI w v xs) (h : 1 ≤ P ∧ P ≤ 32) :
    Calls Try.prog 94 #[v, .int .i64 P] w (GivesB w (blkB P xs)) := by
  have hln := hv.len
  have hw : IntKind.i64.wrap (P - 1) = P - 1 := IntWalk.i64_in _ (by omega)
  by_cases h0 : 0 < xs.length
  · have H : Hid (blkB P xs = incB (-1) P xs) := by rw [Hid, blkB_in h, decide_eq_true h0]; rfl
    go_enter Try.func94, Try.ntmps94
    go_wp2_with (go_at_call 125; refine (l00Rises_c _ _ _ _ _ hv).mono ?_; rintro e w1 ⟨rfl, h1⟩)
    go_ret
    exact ⟨by rw [H.out]; rfl, h1⟩
  · have H : Hid (blkB P xs = false) := by rw [Hid, blkB, decide_eq_false h0]; rfl
    go_enter Try.func94, Try.ntmps94
    go_wp2_with fail
    go_ret
    exact ⟨by rw [H.out]; rfl, St.refl w⟩
theorem srtB_adj : ∀ {A : List (List Int)}, (∀ j, j + 1 < A.length → leL (xat A j) (xat A (j + 1)) = true) → srtB A = true
  | [], _ => rfl
  | [_], _ => rfl
  | a :: b :: r, h => by
    rw [srtB, Bool.and_eq_true]
    exact ⟨h 0 (by simp), srtB_adj fun j hj => h (j + 1) (by simp at hj ⊢; omega)⟩
set_option maxHeartbeats 4000000 in
set_option maxRecDepth 100000 in
theorem l10Ok_c (P : Int) (g : Nat) (v : Value) (us : List Value) (A : List (List Int)) (w : World) (hv : RII w v us A) (hb : BoxD w g P v) :
    Calls Try.prog 62 #[.pointer (some ⟨g, 0, none⟩)] w (GivesB w (dOk P A)) := by
  have hln := hv.len
  have hix := hv.ixe
  have q0 := fun s : SS w.heap.size w [] => (s.st.oldBoxD hb).1
  have q1 := fun s : SS w.heap.size w [] => (s.st.oldBoxD hb).2
  obtain ⟨b0, b1⟩ := id hb
  cases hp : inB P 1 32
  · have H : Hid (dOk P A = false) := by rw [Hid, dOk, hp]; rfl
    go_enter Try.func62, Try.ntmps62
    go_wp2_with (go_at_call 87; refine (l00In_c _ _ _ _).mono ?_; rw [hp]; rintro e w1 ⟨rfl, rfl⟩)
    go_ret
    exact ⟨ret_bool H.out.symm, St.refl w⟩
  · have hP : 1 ≤ P ∧ P ≤ 32 := by simpa [inB] using hp
    by_cases hl : A.length ≤ 128
    · have H0 : Hid (dOk P A = (A.all (blkB P) && srtB A)) := by rw [Hid, dOk, hp, decide_eq_true hl, Bool.and_true]; rfl
      go_enter Try.func62, Try.ntmps62
      go_wp2_with (go_at_call 87; refine (l00In_c _ _ _ _).mono ?_; rw [hp]; rintro e w1 ⟨rfl, rfl⟩)
      go_loopw [3] (fun i wr => ∃ k : Nat, k ≤ A.length ∧ i = .int .i64 k ∧ Hid ((∀ j, j < k → blkB P (xat A j) = true) ∧ (∀ j, j + 1 < k → leL (xat A j) (xat A (j + 1)) = true)) ∧ St w.heap.size w wr []) (fun i _ => A.length - (intOf i).toNat)
      case atStart => exact ⟨0, by omega, rfl, ⟨fun j hj => by omega, fun j hj => by omega⟩, St.refl w⟩
      case round =>
        clear b0 b1
        obtain ⟨k, hk, rfl, hI, hS⟩ := hrel
        obtain ⟨b0, b1⟩ := hS.oldBoxD hb
        by_cases hlt : k < A.length
        · have R1 := Lib.hid fun s : SS w.heap.size w [] => (s.st.oldII hv).row k hlt
          have hq1 := fun s : SS w.heap.size w [] => (s.st.oldII hv).cell k hlt
          have x1 := hix (k : Int) k rfl hlt
          cases hbk : blkB P (xat A k)
          · have HN : Hid (dOk P A = false) := by
              rw [Hid, H0.out, Bool.and_eq_false_iff]
              refine .inl (Bool.eq_false_iff.2 fun h => ?_)
              rw [List.all_eq_true.1 h _ (xat_mem hlt)] at hbk; cases hbk
            have Hbk := Lib.hid hbk
            go_wp2_with fail
            have hne : Nonempty (SS _ _ _) := ⟨⟨_, hS⟩⟩
            refine wp_region_st (by kernel_rfl) (by kernel_rfl) hS ?_
            repeat (go_big_quiet_step ((go_at_call 94; exact st_quiet (l10Block_c _ _ _ _ (R1.out _) hP))))
            refine wpQuiet_nil ?_
            rintro _ ⟨s2, rfl⟩
            have hS2 := s2.st
            generalize s2.w = w2 at hS2 ⊢
            go_wp2_with fail
            go_ret
            exact ⟨ret_bool HN.out.symm, hS2⟩
          · have Hbk := Lib.hid hbk
            by_cases hk0 : 0 < k
            · obtain ⟨m, hmk⟩ : ∃ m, m + 1 = k := ⟨k - 1, by omega⟩
              have R0 := Lib.hid fun s : SS w.heap.size w [] => (s.st.oldII hv).row m (by omega)
              have hq0 := fun s : SS w.heap.size w [] => (s.st.oldII hv).cell m (by omega)
              have x0 := hix ((k : Int) - 1) m (by omega) (by omega)
              have hw : IntKind.i64.wrap ((k : Int) - 1) = ((k : Int) - 1) := IntWalk.i64_in _ (by omega)
              have Hmk := Lib.hid hmk
              clear hmk
              cases hc : leL (xat A m) (xat A k)
              · have hgt : 0 < cmpI (xat A m) (xat A k) := by
                  have := of_decide_eq_false hc; omega
                have HN : Hid (dOk P A = false) := by
                  rw [Hid, H0.out, srtB_no (k := m) (by have := Hmk.out; omega) (by rw [Hmk.out]; exact hc), Bool.and_false]
                clear hc
                go_wp2_with fail
                have hne : Nonempty (SS _ _ _) := ⟨⟨_, hS⟩⟩
                refine wp_region_st (by kernel_rfl) (by kernel_rfl) hS ?_
                repeat (go_big_quiet_step ((first | (go_at_call 94; exact st_quiet (l10Block_c _ _ _ _ (R1.out _) hP)) | (go_at_call 95; exact st_quiet (sCompareLists_c _ _ _ _ _ (R0.out _) (R1.out _))))))
                refine wpQuiet_nil ?_
                rintro _ ⟨s2, rfl⟩
                have hS2 := s2.st
                generalize s2.w = w2 at hS2 ⊢
                go_wp2_with fail
                go_ret
                exact ⟨ret_bool HN.out.symm, hS2⟩
              · have hgt : ¬ 0 < cmpI (xat A m) (xat A k) := by
                  have := of_decide_eq_true hc; omega
                have Hc := Lib.hid hc
                clear hc
                go_wp2_with fail
                have hne : Nonempty (SS _ _ _) := ⟨⟨_, hS⟩⟩
                refine wp_region_st (by kernel_rfl) (by kernel_rfl) hS ?_
                repeat (go_big_quiet_step ((first | (go_at_call 94; exact st_quiet (l10Block_c _ _ _ _ (R1.out _) hP)) | (go_at_call 95; exact st_quiet (sCompareLists_c _ _ _ _ _ (R0.out _) (R1.out _))))))
                refine wpQuiet_nil ?_
                rintro _ ⟨s2, rfl⟩
                have hS2 := s2.st
                generalize s2.w = w2 at hS2 ⊢
                go_wp2_with fail
                go_roundw
                case rel => exact ⟨k + 1, by omega, by go_num, ⟨fun j hj => by
                  by_cases e : j = k
                  · rw [e]; exact Hbk.out
                  · exact hI.out.1 j (by omega), fun j hj => by
                  by_cases e : j = m
                  · rw [e, Hmk.out]; exact Hc.out
                  · exact hI.out.2 j (by have := Hmk.out; omega)⟩, hS2⟩
                case measure => simp [intOf]; omega
            · go_wp2_with fail
              have hne : Nonempty (SS _ _ _) := ⟨⟨_, hS⟩⟩
              refine wp_region_st (by kernel_rfl) (by kernel_rfl) hS ?_
              repeat (go_big_quiet_step ((go_at_call 94; exact st_quiet (l10Block_c _ _ _ _ (R1.out _) hP))))
              refine wpQuiet_nil ?_
              rintro _ ⟨s2, rfl⟩
              have hS2 := s2.st
              generalize s2.w = w2 at hS2 ⊢
              go_wp2_with fail
              go_roundw
              case rel => exact ⟨k + 1, by omega, by go_num, ⟨fun j hj => by
                rw [show j = k by omega]; exact Hbk.out, fun j hj => by omega⟩, hS2⟩
              case measure => simp [intOf]; omega
        · obtain rfl : k = A.length := by omega
          have HY : Hid (dOk P A = true) := by
            rw [Hid, H0.out, Bool.and_eq_true]
            refine ⟨List.all_eq_true.2 fun b hb' => ?_, srtB_adj hI.out.2⟩
            obtain ⟨j, hj, rfl⟩ := List.getElem_of_mem hb'
            have := hI.out.1 j hj
            rwa [xat_eq hj] at this
          go_wp2_with fail
          go_ret
          exact ⟨ret_bool HY.out.symm, hS⟩
    · have H : Hid (dOk P A = false) := by rw [Hid, dOk, hp, decide_eq_false hl]; simp
      have hl' : 128 < A.length := by omega
      go_enter Try.func62, Try.ntmps62
      go_wp2_with (go_at_call 87; refine (l00In_c _ _ _ _).mono ?_; rw [hp]; rintro e w1 ⟨rfl, rfl⟩)
      go_ret
      exact ⟨ret_bool H.out.symm, St.refl w⟩

end Go.Proofs.Ytgflhgkcmfjkgaa
end

section
/- Walks: a design of sorted copies; complements. -/
namespace Go.Proofs.Ytgflhgkcmfjkgaa
set_option linter.unusedSimpArgs false
set_option linter.unusedVariables false
open Go.RowKit
attribute [local go_sem ↓] Go.wp_at_zero Go.wp_at_succ

/-- it hands over a design of its own, and a code -/
def MakesD (w : World) (P : Int) (A : List (List Int)) (c : Int) (e : Ending) (w' : World) : Prop := ∃ v us, e = .returned (.tuple #[dv P v, .int .i64 c]) ∧ us.length = A.length ∧ St w.heap.size w w' (own2 v us A)
theorem MakesD.no {w w' : World} {L : List Ent} {c : Int} (h : St w.heap.size w w' L) : MakesD w 0 [] c (.returned (.tuple #[.agg #[.int .i64 0, .slice none 0 0], .int .i64 c])) w' :=
  ⟨_, [], rfl, rfl, h.out.newnil _⟩
theorem sorted_no (P : Int) (v : Value) (us : List Value) (A : List (List Int)) (w : World) (hv : RII w v us A) (hl : 128 < A.length) :
    Calls Try.prog 39 #[.int .i64 P, v] w (MakesD w 0 [] 5) := by
  have hS0 := (St.refl w).newboxF 35 #[.int .i64 0, .slice none 0 0]
  have b0 := hS0.bcell 0 rfl 0 rfl
  have b1 := hS0.bcell 0 rfl 1 rfl
  have f0 := hS0.bfree 0 rfl
  have hln := hv.len
  have h6 := (hS0.bstore 0 rfl 0 (.int .i64 0)).bstore 0 rfl 1 (.slice none 0 0)
  have d0 := h6.bcell 0 rfl 0 rfl
  have d1 := h6.bcell 0 rfl 1 rfl
  go_enter Try.func39, Try.ntmps39
  go_wp2_with fail
  refine bodyPost_ret (v := .tuple #[.agg #[.int .i64 0, .slice none 0 0], .int .i64 5]) (by simp [results, Try.results39, go_sem, d0, d1, b0, b1]) rfl ?_
  first | exact MakesD.no h6 | exact MakesD.no hS0
set_option maxHeartbeats 1000000 in
theorem sorted_c (P : Int) (v : Value) (us : List Value) (A : List (List Int)) (w : World) (hv : RII w v us A) (hl : A.length ≤ 128) (hN : ∀ xs ∈ A, xs.length ≤ 1048576) :
    Calls Try.prog 39 #[.int .i64 P, v] w (MakesD w P (srtL A) 0) := by
  have hS0 := (St.refl w).newboxF 35 #[.int .i64 0, .slice none 0 0]
  have hln := hv.len
  have hc := Lib.hid (copyLists_c v us A _ (hS0.oldII hv) (by omega) hN)
  go_enter Try.func39, Try.ntmps39
  go_wp2_with fail
  refine hc.out.mono ?_
  clear hc
  rintro e w1 ⟨v1, us1, rfl, hl1, h1⟩
  have h2 := hS0.call h1
  obtain ⟨a1, c1, hv1⟩ := (h1.rd 0 (e := 30) (v := v1) (us := us1) rfl).sl.sh
  rw [hl1] at hv1
  subst hv1
  have hB := h2.newboxF 35 #[.int .i64 P, .slice a1 A.length c1]
  have b0 := hB.bcell 0 rfl 0 rfl
  have b1 := hB.bcell 0 rfl 1 rfl
  have h3 := hB.perm (L' := own2 (.slice a1 A.length c1) us1 A ++ [box 35 w.heap.size [.int .i64 0, .slice none 0 0], box 35 w1.heap.size [.int .i64 P, .slice a1 A.length c1]]) (by (try simp only [own2, List.cons_append, List.nil_append, List.append_nil]); classical exact List.perm_iff_count.2 (fun a => by simp only [List.cons_append, List.nil_append, List.append_nil, List.count_append, List.count_cons, List.count_nil] <;> omega))
  clear h1 h2 hB hS0
  go_wp2_with fail
  refine (SortRows_c h3 hl1 (by omega)).mono ?_
  rintro e w2 ⟨us2, rfl, hl2, h4⟩
  have h5 := h4.perm (L' := box 35 w.heap.size [.int .i64 0, .slice none 0 0] :: box 35 w1.heap.size [.int .i64 P, .slice a1 A.length c1] :: own2 (.slice a1 A.length c1) us2 (srtL A)) (by (try simp only [own2, List.cons_append, List.nil_append, List.append_nil]); classical exact List.perm_iff_count.2 (fun a => by simp only [List.cons_append, List.nil_append, List.append_nil, List.count_append, List.count_cons, List.count_nil] <;> omega))
  clear h3 h4 b0 b1
  have b0 := h5.bcell 1 rfl 0 rfl
  have b1 := h5.bcell 1 rfl 1 rfl
  have e0 := h5.bcell 0 rfl 0 rfl
  have e1 := h5.bcell 0 rfl 1 rfl
  have f0 := h5.bfree 0 rfl
  have h6 := (h5.bstore 0 rfl 0 (.int .i64 P)).bstore 0 rfl 1 (.slice a1 A.length c1)
  have d0 := h6.bcell 0 rfl 0 rfl
  have d1 := h6.bcell 0 rfl 1 rfl
  go_wp2_with fail
  refine bodyPost_ret (v := .tuple #[.agg #[.int .i64 P, .slice a1 A.length c1], .int .i64 0]) (by simp [results, Try.results39, go_sem, d0, d1]) rfl ?_
  exact ⟨_, us2, rfl, by rw [hl2, srtL_len], h6.sub ((List.sublist_cons_self _ _).trans (List.sublist_cons_self _ _))⟩

end Go.Proofs.Ytgflhgkcmfjkgaa
end

section
/- Walks: whether a list holds a number. -/
namespace Go.Proofs.Ytgflhgkcmfjkgaa
set_option linter.unusedSimpArgs false
set_option linter.unusedVariables false
open Go.RowKit
set_option maxHeartbeats 1000000 in
set_option maxRecDepth 100000 in
theorem l00Has_c (v : Value) (xs : List Int) (n : Int) (w : World) (hv : RdI w v xs) :
    Calls Try.prog 88 #[v, .int .i64 n] w fun e w' => e = .returned (.bool (decide (n ∈ xs))) ∧ w = w' := by
  have hln := hv.len
  have hix := hv.ix
  have hm := hv.le
  go_enter Try.func88, Try.ntmps88
  go_wp2_with fail
  go_loopw [5] (fun i wr => ∃ k : Nat, k ≤ xs.length ∧ i = .int .i64 k ∧ Hid (n ∉ xs.take k) ∧ wr = w) (fun i _ => xs.length - (intOf i).toNat)
  case atStart => exact ⟨0, by omega, rfl, by simp [Hid], rfl⟩
  case round =>
    obtain ⟨k, hk, rfl, hI, rfl⟩ := hrel
    by_cases hlt : k < xs.length
    · have hc := hv.cell k hlt
      by_cases hp : nth xs k = n
      · have f1 := eq_t hp
        have Hp := Lib.hid (show decide (n ∈ xs) = true by rw [decide_eq_true_iff, ← hp]; exact nth_mem hlt)
        clear hp
        go_wp2_with fail
        go_ret
        exact ⟨ret_bool Hp.out.symm, rfl⟩
      · have f1 := eq_f hp
        have Hp := Lib.hid (show n ∉ xs.take (k + 1) by rw [take_nth hlt, List.mem_append, not_or]; exact ⟨hI.out, by simp; exact fun e => hp e.symm⟩)
        clear hp
        go_wp2_with fail
        go_roundw
        case rel => exact ⟨k + 1, by omega, by go_num, Hp, by first | rfl | trivial⟩
        case measure => simp [intOf]; omega
    · have Hn := Lib.hid (show decide (n ∈ xs) = false by rw [decide_eq_false_iff_not]; have := hI.out; rwa [List.take_of_length_le (by omega)] at this)
      go_wp2_with fail
      go_ret
      exact ⟨ret_bool Hn.out.symm, rfl⟩
end Go.Proofs.Ytgflhgkcmfjkgaa
end

section
/- Posts: a row and a code; a list of rows and a code. -/
namespace Go.Proofs.Ytgflhgkcmfjkgaa
set_option linter.unusedSimpArgs false
set_option linter.unusedVariables false
/-- a row of its own, and a code -/
def MakesC1 (w : World) (xs : List Int) (c : Int) (e : Ending) (w' : World) : Prop := ∃ v, e = .returned (.tuple #[v, .int .i64 c]) ∧ St w.heap.size w w' [row 2 v (iv xs)]
end Go.Proofs.Ytgflhgkcmfjkgaa
end

section
/- Walks: differences of families, translates, least translates, of the program. -/
namespace Go.Proofs.Ytgflhgkcmfjkgaa
set_option linter.unusedSimpArgs false
set_option linter.unusedVariables false
open Go.RowKit
attribute [local go_sem ↓] Go.wp_at_zero Go.wp_at_succ

/-- residues and base blocks -/
structure Fam (n : Nat) (A : List (List Int)) : Prop where
  n1 : 1 ≤ n
  n32 : n ≤ 32
  len : A.length ≤ 8
  ne : ∀ s ∈ A, 0 < s.length
  rst : ∀ s ∈ A, Rst n s
theorem Rst.len {n : Nat} {s : List Int} (h : Rst n s) (hn : 1 ≤ n) : s.length ≤ n := by
  have := inc_len h (by omega)
  omega
theorem areBases_c (n : Nat) (v : Value) (us : List Value) (A : List (List Int)) (w : World) (hv : RII w v us A) (h : Fam n A) :
    Calls Try.prog 56 #[.int .i64 n, v] w (GivesB w true) := by
  have K := areBlocks_c v us A n w hv
  have hln := hv.len
  have h8 := h.len
  have f8 : decide ((A.length : Int) ≤ 8) = true := decide_eq_true (by omega)
  have : (inB (n : Int) 1 32 && A.all (blkB n)) = true := by
    have h1 := h.n1
    have h2 := h.n32
    rw [inB_true (by omega), Bool.true_and, List.all_eq_true]
    intro s hs
    rw [blkB_in (by omega), decide_eq_true (h.ne s hs), Bool.true_and]
    exact h.rst s hs
  rw [this] at K
  have HK := Lib.hid K
  clear K this h
  go_enter Try.func56, Try.ntmps56
  go_wp2_with (go_at_call 75; refine HK.out.mono ?_; rintro e w2 ⟨rfl, h2⟩)
  go_ret
  exact ⟨rfl, h2⟩
theorem isResidueSet_c (n : Nat) (v : Value) (xs : List Int) (w : World) (hv : RdI w v xs) (hn : 1 ≤ n) (h32 : n ≤ 32) (h : Rst n xs) :
    Calls Try.prog 64 #[.int .i64 n, v] w (GivesB w true) := by
  have K := ValidSet_c v xs n w hv
  have : validSetB xs n = true := by rw [validSetB, show incB (-1) n xs = true from h, inB_true (by omega)]; rfl
  rw [this] at K
  have HK := Lib.hid K
  have h1 : ¬ (n : Int) < 1 := by omega
  have h2 : (1 : Int) ≤ n := by omega
  have h3 : decide ((1 : Int) ≤ n) = true := decide_eq_true h2
  clear K this h
  go_enter Try.func64, Try.ntmps64
  go_wp2_with (go_at_call 96; refine HK.out.mono ?_; rintro e w2 ⟨rfl, hw2⟩; subst hw2)
  go_ret
  exact ⟨rfl, St.refl w⟩
/-- differences up to place j of row i -/
def dfP (n : Nat) (s : List Int) (i j : Nat) : List Int := (s.take i).flatMap (dfr n s) ++ dfr n (s.take j) (nth s i)
theorem dfP_0 (n : Nat) (s : List Int) : dfP n s 0 0 = [] := by simp [dfP, dfr]
theorem dfP_next {n : Nat} {s : List Int} {i : Nat} (h : i < s.length) : dfP n s (i + 1) 0 = dfP n s i s.length := by
  rw [dfP, dfP, take_nth h, List.flatMap_append, List.take_length]; simp [dfr]
theorem dfP_end (n : Nat) (s : List Int) : dfP n s s.length 0 = dfl n s := by simp [dfP, dfr, dfl]
theorem dfP_eq {n : Nat} {s : List Int} {i j : Nat} (hj : j < s.length) (h : nth s i = nth s j) : dfP n s i (j + 1) = dfP n s i j := by
  rw [dfP, dfP, dfr, dfr, take_nth hj, List.filter_append]; simp [h]
theorem dfP_ne {n : Nat} {s : List Int} {i j : Nat} (hj : j < s.length) (h : nth s i ≠ nth s j) : dfP n s i (j + 1) = dfP n s i j ++ [dfm n (nth s i) (nth s j)] := by
  rw [dfP, dfP, dfr, dfr, take_nth hj, List.filter_append, List.map_append, ← List.append_assoc]
  congr 1
  rw [List.filter_cons, if_pos (by simpa using h)]; rfl
def dfQ (n : Nat) (A : List (List Int)) (k i j : Nat) : List Int := dfA n (A.take k) ++ dfP n (xat A k) i j
theorem dfQ_next {n : Nat} {A : List (List Int)} {k : Nat} (h : k < A.length) : dfA n (A.take (k + 1)) = dfQ n A k (xat A k).length 0 := by
  rw [dfQ, dfP_end, take_xat h, dfA, List.flatMap_append]; simp [dfA]
theorem tab_lt {n : Nat} {L : List Int} {d : Nat} (hd : d < n) : 0 ≤ nth (tabL n L) d ∧ nth (tabL n L) d ≤ L.length := by
  rw [tabL_nth hd]
  have := List.countP_le_length (p := fun x => decide (x = (d : Int))) (l := L)
  omega
theorem dfr_len (n : Nat) (t : List Int) (a : Int) : (dfr n t a).length ≤ t.length := by
  rw [dfr, List.length_map]; exact List.length_filter_le _ _
theorem fl_len {α β : Type} {f : α → List β} {c : Nat} : ∀ {l : List α}, (∀ x ∈ l, (f x).length ≤ c) → (l.flatMap f).length ≤ l.length * c
  | [], _ => by simp
  | x :: r, h => by
    have h1 := h x (List.mem_cons_self ..)
    have h2 := fl_len (l := r) fun y hy => h y (List.mem_cons_of_mem _ hy)
    rw [List.flatMap_cons, List.length_append, List.length_cons, Nat.add_mul]; omega
theorem dfQ_len {n : Nat} {A : List (List Int)} {k i j : Nat} (h : Fam n A) (hk : k < A.length) : (dfQ n A k i j).length ≤ 100000 := by
  have h1 : ∀ s ∈ A, s.length ≤ 32 := fun s hs => by
    have := Rst.len (h.rst s hs) h.n1
    have := h.n32; omega
  have h0 : ∀ s ∈ A, ∀ t : List Int, t.length ≤ 32 → ∀ u : List Int, u.length ≤ 32 → (u.flatMap (dfr n t)).length ≤ 1024 := fun s hs t ht u hu => by
    have := fl_len (f := dfr n t) (c := 32) (l := u) fun x _ => by have := dfr_len n t x; omega
    have : u.length * 32 ≤ 32 * 32 := Nat.mul_le_mul_right 32 hu
    omega
  have h2 : (dfA n (A.take k)).length ≤ 8192 := by
    have := fl_len (f := dfl n) (c := 1024) (l := A.take k) fun s hs => h0 s (List.mem_of_mem_take hs) s (h1 s (List.mem_of_mem_take hs)) s (h1 s (List.mem_of_mem_take hs))
    have h8 := h.len
    have : (A.take k).length ≤ 8 := by rw [List.length_take]; omega
    have : (A.take k).length * 1024 ≤ 8 * 1024 := Nat.mul_le_mul_right 1024 this
    have e : dfA n (A.take k) = (A.take k).flatMap (dfl n) := rfl
    rw [e]; omega
  have hs := h1 _ (xat_mem hk)
  have h3 := h0 _ (xat_mem hk) (xat A k) hs ((xat A k).take i) (by rw [List.length_take]; omega)
  have h4 := dfr_len n ((xat A k).take j) (nth (xat A k) i)
  rw [List.length_take] at h4
  rw [dfQ, dfP, List.length_append, List.length_append]
  omega
set_option maxHeartbeats 8000000 in
set_option maxRecDepth 100000 in
theorem differenceTable_c (n : Nat) (v : Value) (us : List Value) (A : List (List Int)) (w : World) (hv : RII w v us A) (h : Fam n A) :
    Calls Try.prog 57 #[.int .i64 n, v] w (MakesI w (tabL n (dfA n A))) := by
  have hln := hv.len
  have hle := hv.le
  have hix := hv.ixe
  have n1 := h.n1
  have n32 := h.n32
  have HF := Lib.hid h
  have H0 := Lib.hid (tabL_nil n)
  have H1 := Lib.hid (show dfA n (A.take 0) = [] by simp [dfA])
  clear h
  go_enter Try.func57, Try.ntmps57
  go_wp2_with (at_make; refine mkI (St.refl w) rfl _ _ rfl .i64 .i64 n rfl rfl (by omega) ?_; intro v1 w1 hS1; simp only [List.nil_append] at hS1; rw [← H0.out] at hS1)
  go_loopw [16, 7, 9, 11] (fun i _ _ _ wr => ∃ k : Nat, k ≤ A.length ∧ i = .int .i64 k ∧ St w.heap.size w wr [row 2 v1 (iv (tabL n (dfA n (A.take k))))]) (fun i _ _ _ _ => A.length - (intOf i).toNat)
  case atStart => exact ⟨0, by omega, rfl, by rw [H1.out]; exact hS1⟩
  case round =>
    clear hS1
    obtain ⟨k, hk, rfl, hS⟩ := hrel
    by_cases hlt : k < A.length
    · have hc := (hS.oldII hv).cell k hlt
      have hx := hix (k : Int) k rfl hlt
      have hlr := (hv.row k hlt).len
      have hler := (hv.row k hlt).le
      have hxr := (hv.row k hlt).ixe
      have HQ0 := Lib.hid (show dfA n (A.take k) = dfQ n A k 0 0 by rw [dfQ, dfP_0, List.append_nil])
      have HQ1 := Lib.hid (dfQ_next (n := n) hlt)
      have HB := Lib.hid (Rst.bd (HF.out.rst _ (xat_mem hlt)))
      go_wp2_with fail
      go_loopw [22, 9, 11] (fun i _ _ wr => ∃ a : Nat, a ≤ (xat A k).length ∧ i = .int .i64 a ∧ St w.heap.size w wr [row 2 v1 (iv (tabL n (dfQ n A k a 0)))]) (fun i _ _ _ => (xat A k).length - (intOf i).toNat)
      case atStart => exact ⟨0, by omega, rfl, by rw [← HQ0.out]; exact hS⟩
      case round =>
        clear hS hc
        obtain ⟨a, ha, rfl, hS⟩ := hrel
        by_cases hat : a < (xat A k).length
        · have hca := ((hS.oldII hv).row k hlt).cell a hat
          have hxa := hxr (a : Int) a rfl hat
          have Hn := Lib.hid (show dfQ n A k (a + 1) 0 = dfQ n A k a (xat A k).length by rw [dfQ, dfQ, dfP_next hat])
          have ba := HB.out _ (nth_mem hat)
          have Hxa := Lib.hid (rfl : nth (xat A k) a = nth (xat A k) a)
          obtain ⟨x, hxe⟩ : ∃ x, nth (xat A k) a = x := ⟨_, rfl⟩
          rw [hxe] at hca ba
          have Hxe := Lib.hid hxe
          clear hxe Hxa
          go_wp2_with fail
          go_loopw [28, 11] (fun i _ wr => ∃ b : Nat, b ≤ (xat A k).length ∧ i = .int .i64 b ∧ St w.heap.size w wr [row 2 v1 (iv (tabL n (dfQ n A k a b)))]) (fun i _ _ => (xat A k).length - (intOf i).toNat)
          case atStart => exact ⟨0, by omega, rfl, hS⟩
          case round =>
            clear hS hca
            obtain ⟨b, hb, rfl, hS⟩ := hrel
            by_cases hbt : b < (xat A k).length
            · have hcb := ((hS.oldII hv).row k hlt).cell b hbt
              have hxb := hxr (b : Int) b rfl hbt
              have bb := HB.out _ (nth_mem hbt)
              obtain ⟨y, hye⟩ : ∃ y, nth (xat A k) b = y := ⟨_, rfl⟩
              rw [hye] at hcb bb
              by_cases hxy : x = y
              · have f1 : (x != y) = false := ne_f hxy
                have HE := Lib.hid (show dfQ n A k a (b + 1) = dfQ n A k a b by rw [dfQ, dfQ, dfP_eq hbt (by rw [Hxe.out, hye, hxy])])
                subst hxy
                clear hye
                go_wp2_with fail
                go_roundw
                case rel => exact ⟨b + 1, by omega, by go_num, by rw [HE.out]; exact hS⟩
                case measure => simp [intOf]; omega
              · have f1 : (x != y) = true := ne_t hxy
                have HE := Lib.hid (show dfQ n A k a (b + 1) = dfQ n A k a b ++ [dfm n x y] by rw [dfQ, dfQ, dfP_ne hbt (by rw [Hxe.out, hye]; exact hxy), List.append_assoc, Hxe.out, hye])
                obtain ⟨d, hd⟩ : ∃ d : Nat, dfm n x y = d := ⟨(dfm n x y).toNat, by
                  rw [dfm_v ba bb]; split <;> omega⟩
                have hdn : d < n := by
                  rw [dfm_v ba bb] at hd; split at hd <;> omega
                have hmod : (x - y + (n : Int)).tmod (n : Int) = (d : Int) := by
                  rw [Int.tmod_eq_emod_of_nonneg (by omega), ← hd]; rfl
                have hn0 : ((n : Int) == 0) = false := eq_f (by omega)
                have hn1 : ¬ (n : Int) = 0 := by omega
                have hn2 : ¬ n = 0 := by omega
                rw [hd] at HE
                have HT := Lib.hid (tabL_snoc (L := dfQ n A k a b) hdn)
                have Hdn := Lib.hid hdn
                have tb := tab_lt (L := dfQ n A k a b) hdn
                have hql := dfQ_len (i := a) (j := b) HF.out hlt
                have rT := hS.rdI 0 rfl
                have cd := rT.cell d (by rw [tabL_len]; exact hdn)
                have ixd := rT.ixe (d : Int) d rfl (by rw [tabL_len]; exact hdn)
                have w1 : IntKind.i64.wrap (x - y) = x - y := IntWalk.i64_in _ (by omega)
                have w2 : IntKind.i64.wrap (x - y + (n : Int)) = x - y + (n : Int) := IntWalk.i64_in _ (by omega)
                have w3 : IntKind.i64.wrap (d : Int) = (d : Int) := IntWalk.i64_in _ (by omega)
                clear hd hye rT hxy
                generalize nth (tabL n (dfQ n A k a b)) d = z at *
                have w4 : IntKind.i64.wrap (z + 1) = z + 1 := IntWalk.i64_in _ (by omega)
                go_wp2_with (refine stoI hS 0 rfl d (by rw [tabL_len]; exact Hdn.out) rfl _ _ rfl rfl _ rfl ?_; intro w5 hS5; simp only [List.set_cons_zero] at hS5)
                rw [← HT.out] at hS5
                go_roundw
                case rel => exact ⟨b + 1, by omega, by go_num, by rw [HE.out]; exact hS5⟩
                case measure => simp [intOf]; omega
            · obtain rfl : b = (xat A k).length := by omega
              go_wp2_with fail
              go_roundw
              case rel => exact ⟨a + 1, by omega, by go_num, by rw [Hn.out]; exact hS⟩
              case measure => simp [intOf]; omega
        · obtain rfl : a = (xat A k).length := by omega
          go_wp2_with fail
          go_roundw
          case rel => exact ⟨k + 1, by omega, by go_num, by rw [HQ1.out]; exact hS⟩
          case measure => simp [intOf]; omega
    · obtain rfl : k = A.length := by omega
      rw [List.take_length] at hS
      go_wp2_with fail
      go_ret
      exact ⟨_, rfl, hS⟩
theorem DifferenceTable_c (n : Nat) (v : Value) (us : List Value) (A : List (List Int)) (w : World) (hv : RII w v us A) (h : Fam n A) :
    Calls Try.prog 21 #[.int .i64 n, v] w (MakesC1 w (tabL n (dfA n A)) 0) := by
  have K1 := areBases_c n v us A w hv h
  have K2 := fun W hW => Lib.hid (differenceTable_c n v us A W hW h)
  clear h
  go_enter Try.func21, Try.ntmps21
  go_wp2_with (first
    | (go_at_call 56; refine K1.mono ?_; rintro e2 w2 ⟨rfl, h2⟩)
    | (go_at_call 57; refine (K2 _ (h2.oldII hv)).out.mono ?_; rintro e3 w3 ⟨v3, rfl, h3⟩))
  go_ret2
  exact ⟨_, rfl, h2.trans h3⟩

/-! ### translates -/
theorem translate1_c (x : Int) (g : Nat) (b : Int) (w : World) (hb : w.cell? ⟨g, 0, none⟩ = some (.int .i64 b)) (hx : 0 ≤ x ∧ x < 1000) (hb2 : 0 ≤ b ∧ b < 1000) :
    Calls Try.prog 91 #[.int .i64 x, .pointer (some ⟨g, 0, none⟩)] w (GivesI w (x + b)) := by
  have w1 : IntKind.i64.wrap (x + b) = x + b := IntWalk.i64_in _ (by omega)
  go_enter Try.func91, Try.ntmps91
  go_wp2_with fail
  go_ret
  exact ⟨rfl, St.refl w⟩
set_option maxHeartbeats 4000000 in
set_option maxRecDepth 100000 in
theorem mappedSet_c (n b g : Nat) (v : Value) (s : List Int) (w : World) (hv : RdI w v s) (hs : ∀ x ∈ s, 0 ≤ x ∧ x < n) (h1 : 1 ≤ n) (h32 : n ≤ 32) (hb : b < n) (hl : s.length ≤ 1000)
    (hc : w.cell? ⟨g, 0, none⟩ = some (.int .i64 b)) (hg : g < w.heap.size) :
    Calls Try.prog 90 #[.int .i64 n, v, .func (.func 91) #[] #[.pointer (some ⟨g, 0, none⟩)]] w (MakesI w (trZ n s b)) := by
  have hlv := hv.len
  have hix := hv.ixe
  have HB := Lib.hid hs
  have hcf : ∀ (args : Array Value) (W : World), (callFunc 91 args).run Try.prog W = .ok (.enter 91 args) W :=
    fun args W => callFunc_go (P := Try.prog) Try.func91 (by kernel_rfl) (by kernel_rfl) args W
  have HT := Lib.hid (show trZ n s b = srt (s.map fun x => (x + b) % (n : Int)) from rfl)
  have HC := fun W (h : St w.heap.size w W []) => Lib.hid (show W.cell? ⟨g, 0, none⟩ = some (.int .i64 b) by rw [h.below.cell hg]; exact hc)
  generalize hf : (fun x : Int => (x + b) % (n : Int)) = f at *
  have Hf := Lib.hid (fun x => congrFun hf x)
  clear hf hs
  generalize trZ n s b = T at *
  have hS0 := (St.refl w).newnil 2
  simp only [List.nil_append] at hS0
  go_enter Try.func90, Try.ntmps90
  go_wp2_with fail
  go_loopw [12, 7, 9] (fun i o _ wr => ∃ (k : Nat) (v2 : Value), v2 = o ∧ k ≤ s.length ∧ i = .int .i64 k ∧ St w.heap.size w wr [row 2 v2 (iv ((s.take k).map f))]) (fun i _ _ _ => s.length - (intOf i).toNat)
  case atStart => exact ⟨0, _, rfl, by omega, rfl, hS0⟩
  case round =>
    clear hS0
    obtain ⟨k, v2, rfl, hk, rfl, hS⟩ := hrel
    by_cases hlt : k < s.length
    · have hck := (hS.oldI hv).cell k hlt
      have hxk := hix (k : Int) k rfl hlt
      have hm := HB.out _ (nth_mem hlt)
      have Hst := Lib.hid (show (s.take (k + 1)).map f = (s.take k).map f ++ [f (nth s k)] by rw [take_nth hlt]; simp)
      have Hlt := Lib.hid (show ((s.take k).map f).length < 4294967296 by simp; omega)
      have Hy := Lib.hid (Hf.out (nth s k))
      generalize f (nth s k) = y at *
      generalize nth s k = x at *
      have hmod : (x + (b : Int)).tmod (n : Int) = y := by rw [Int.tmod_eq_emod_of_nonneg (by omega)]; exact Hy.out
      have hy : 0 ≤ y ∧ y < n := by
        rw [← Hy.out]; exact ⟨Int.emod_nonneg _ (by omega), Int.emod_lt_of_pos _ (by omega)⟩
      have hn0 : ((n : Int) == 0) = false := eq_f (by omega)
      have hn1 : ¬ (n : Int) = 0 := by omega
      have hn2 : ¬ n = 0 := by omega
      have w3 : IntKind.i64.wrap y = y := IntWalk.i64_in _ (by omega)
      have w4 : IntKind.i64.wrap (x + (b : Int)) = x + (b : Int) := IntWalk.i64_in _ (by omega)
      have KT := fun W h => Lib.hid (translate1_c x g b W h ⟨hm.1, by omega⟩ ⟨by omega, by omega⟩)
      go_wp2_with (first
        | (at_builtin; refine appI hS4 0 rfl Hlt.out rfl _ _ rfl rfl _ rfl ?_; intro v5 w5 hS5; simp only [List.set_cons_zero] at hS5)
        | (go_at_call 91; refine (KT _ (HC _ hS.out).out).out.mono ?_; rintro e2 w4 ⟨rfl, h4⟩; have hS4 := hS.call0 h4))
      rw [← Hst.out] at hS5
      go_roundw
      case rel => exact ⟨k + 1, _, rfl, by omega, by go_num, hS5⟩
      case measure => simp [intOf]; omega
    · obtain rfl : k = s.length := by omega
      rw [List.take_length] at hS
      have HN := Lib.hid (show (s.map f).length < 4611686018427387904 by rw [List.length_map]; omega)
      go_wp2_with (go_at_call 45; refine (Sort_c hS 0 rfl HN.out).mono ?_; rintro e2 w5 ⟨rfl, hS5⟩; simp only [List.set_cons_zero] at hS5; rw [← HT.out] at hS5)
      go_ret
      exact ⟨_, rfl, hS5⟩
theorem translate_c (n b : Nat) (v : Value) (s : List Int) (w : World) (hv : RdI w v s) (hs : Rst n s) (h1 : 1 ≤ n) (h32 : n ≤ 32) (hb : b < n) :
    Calls Try.prog 58 #[.int .i64 n, v, .int .i64 b] w (MakesI w (trZ n s b)) := by
  have hS0 := (St.refl w).newboxF 2 #[.int .i64 b]
  have hl := Rst.len hs h1
  have b0 := hS0.bcell 0 rfl 0 rfl
  have hlt := (hS0.blt 0 rfl).2
  have K := Lib.hid (mappedSet_c n b w.heap.size v s _ (hS0.oldI hv) (Rst.bd hs) h1 h32 hb (by omega) b0 hlt)
  clear b0 hlt
  go_enter Try.func58, Try.ntmps58
  go_wp2_with (go_at_call 90; refine K.out.mono ?_; rintro e2 w2 ⟨v2, rfl, h2⟩; have hS2 := hS0.call h2)
  go_ret
  exact ⟨_, rfl, hS2.sub (List.sublist_cons_self _ _)⟩
theorem TranslateSet_c (n b : Nat) (v : Value) (s : List Int) (w : World) (hv : RdI w v s) (hs : Rst n s) (h1 : 1 ≤ n) (h32 : n ≤ 32) (hb : b < n) :
    Calls Try.prog 27 #[.int .i64 n, v, .int .i64 b] w (MakesC1 w (trZ n s b) 0) := by
  have K1 := isResidueSet_c n v s w hv h1 h32 hs
  have K2 := within_c (b : Int) 0 ((n : Int) - 1)
  rw [inB_true (by omega)] at K2
  have K3 := fun W hW => Lib.hid (translate_c n b v s W hW hs h1 h32 hb)
  go_enter Try.func27, Try.ntmps27
  go_wp2_with (first
    | (go_at_call 64; refine K1.mono ?_; rintro e2 w2 ⟨rfl, h2⟩)
    | (go_at_call 37; refine (K2 _).mono ?_; rintro e2 w4 ⟨rfl, hw4⟩; subst hw4)
    | (go_at_call 58; refine (K3 _ (h2.oldI hv)).out.mono ?_; rintro e3 w3 ⟨v3, rfl, h3⟩))
  go_ret2
  exact ⟨_, rfl, h2.trans h3⟩
set_option maxHeartbeats 4000000 in
set_option maxRecDepth 100000 in
theorem normalSet_c (n : Nat) (v : Value) (s : List Int) (w : World) (hv : RdI w v s) (hs : Rst n s) (h1 : 1 ≤ n) (h32 : n ≤ 32) :
    Calls Try.prog 65 #[.int .i64 n, v] w (MakesI w (nrK n s n)) := by
  have HK := fun b W (hW : RdI W v s) (hb : b < n) => Lib.hid (translate_c n b v s W hW hs h1 h32 hb)
  have HL := fun k (hk : k ≤ n) => Lib.hid (show (nrK n s k).length ≤ 1048576 by
    obtain ⟨b, _, e⟩ := nrK_of hs (by omega) k hk
    rw [e, trZ_len]
    have := Rst.len hs h1
    omega)
  go_enter Try.func65, Try.ntmps65
  go_wp2_with fail
  go_loopw [10, 5, 6, 7] (fun i l _ _ wr => ∃ (k : Nat) (v2 : Value), v2 = l ∧ k ≤ n ∧ i = .int .i64 k ∧ Hid (RdI wr v2 (nrK n s k)) ∧ St w.heap.size w wr []) (fun i _ _ _ _ => n - (intOf i).toNat)
  case atStart => exact ⟨0, _, rfl, by omega, rfl, hv, St.refl w⟩
  case round =>
    obtain ⟨k, v2, rfl, hk, rfl, hr, hS⟩ := hrel
    by_cases hlt : k < n
    · have K1 := HK k _ (hS.oldI hv) hlt
      by_cases hc : cmpI (trZ n s k) (nrK n s k) < 0
      · have HN := Lib.hid (show nrK n s (k + 1) = trZ n s k by rw [nrK, if_pos hc])
        have KC := fun W a b ha hb => Lib.hid (Compare_c a b (trZ n s k) (nrK n s k) W ha hb)
        generalize cmpI (trZ n s k) (nrK n s k) = z at KC hc
        go_wp2_with (first
          | (go_at_call 35; refine (KC _ _ _ (h3.rdI 0 rfl) (hr.out.keep h3.below)).out.mono ?_; rintro e2 w4 ⟨rfl, hw4⟩; subst hw4)
          | (go_at_call 58; refine K1.out.mono ?_; rintro e3 w3 ⟨v3, rfl, h3⟩))
        go_roundw
        case rel => exact ⟨k + 1, _, rfl, by omega, by go_num, by rw [HN.out]; exact h3.rdI 0 rfl, (hS.call h3).out⟩
        case measure => simp [intOf]; omega
      · have HN := Lib.hid (show nrK n s (k + 1) = nrK n s k by rw [nrK, if_neg hc])
        have KC := fun W a b ha hb => Lib.hid (Compare_c a b (trZ n s k) (nrK n s k) W ha hb)
        generalize cmpI (trZ n s k) (nrK n s k) = z at KC hc
        go_wp2_with (first
          | (go_at_call 35; refine (KC _ _ _ (h3.rdI 0 rfl) (hr.out.keep h3.below)).out.mono ?_; rintro e2 w4 ⟨rfl, hw4⟩; subst hw4)
          | (go_at_call 58; refine K1.out.mono ?_; rintro e3 w3 ⟨v3, rfl, h3⟩))
        go_roundw
        case rel => exact ⟨k + 1, _, rfl, by omega, by go_num, by rw [HN.out]; exact hr.out.keep h3.below, (hS.call h3).out⟩
        case measure => simp [intOf]; omega
    · obtain rfl : k = n := by omega
      have KL := Lib.hid (Clone_c v2 _ _ hr.out (HL k (Nat.le_refl _)).out)
      go_wp2_with (go_at_call 97; refine KL.out.mono ?_; rintro e3 w3 ⟨v3, rfl, h3⟩)
      go_ret
      exact ⟨_, rfl, hS.call h3⟩
theorem NormalSet_c (n : Nat) (v : Value) (s : List Int) (w : World) (hv : RdI w v s) (hs : Rst n s) (h1 : 1 ≤ n) (h32 : n ≤ 32) :
    Calls Try.prog 28 #[.int .i64 n, v] w (MakesC1 w (nrK n s n) 0) := by
  have K1 := isResidueSet_c n v s w hv h1 h32 hs
  have K3 := fun W hW => Lib.hid (normalSet_c n v s W hW hs h1 h32)
  go_enter Try.func28, Try.ntmps28
  go_wp2_with (first
    | (go_at_call 64; refine K1.mono ?_; rintro e2 w2 ⟨rfl, h2⟩)
    | (go_at_call 65; refine (K3 _ (h2.oldI hv)).out.mono ?_; rintro e3 w3 ⟨v3, rfl, h3⟩))
  go_ret2
  exact ⟨_, rfl, h2.trans h3⟩
end Go.Proofs.Ytgflhgkcmfjkgaa
end

section
/- Slices of slices of slices of integers: what they read as, what a call owns, and the law's functions on them. -/
namespace Go.Proofs.Ytgflhgkcmfjkgaa
set_option linter.unusedSimpArgs false
set_option linter.unusedVariables false
open Go.RowKit

def x3at (X : List (List (List Int))) (k : Nat) : List (List Int) := X.getD k []
theorem x3at_eq {X : List (List (List Int))} {k : Nat} (h : k < X.length) : x3at X k = X[k] := by simp [x3at, h]
theorem drop_x3at {X : List (List (List Int))} {k : Nat} (hk : k < X.length) : X.drop k = x3at X k :: X.drop (k + 1) := by
  rw [List.drop_eq_getElem_cons hk, x3at_eq hk]
theorem x3at_set {X : List (List (List Int))} {j k : Nat} {x : List (List Int)} (h : j < X.length) : x3at (X.set j x) k = if j = k then x else x3at X k := by
  unfold x3at
  rw [List.getD_eq_getElem?_getD, List.getElem?_set]
  split
  · rename_i e; subst e; simp [h]
  · simp [List.getD_eq_getElem?_getD]
/-- what is read -/
def RIII (w : World) (v : Value) (vs : List Value) (uss : List (List Value)) (X : List (List (List Int))) : Prop :=
  Rd w v vs ∧ vs.length = X.length ∧ ∀ k, k < X.length → RII w (vat vs k) (vsat uss k) (x3at X k)
section
variable {w w' : World} {v : Value} {vs : List Value} {uss : List (List Value)} {X : List (List (List Int))}
theorem RIII.le (h : RIII w v vs uss X) : X.length ≤ 9223372036854775807 := by have := h.1.sl.le; rwa [h.2.1] at this
theorem RIII.len (h : RIII w v vs uss X) (ty : TypeId) (W : World) : (Builtin.len_ #[25] ty #[v]).run Try.prog W = .ok (.int .i64 X.length) W := by
  have := run_len_sl (P := Try.prog) h.1.sl 25 ty Try.und_isss W; rwa [h.2.1] at this
theorem RIII.ix (h : RIII w v vs uss X) (k : IntKind) (i : Int) (h0 : 0 ≤ i) (hi : i < X.length) (W : World) :
    (Instr.indexAt 25 v (.int k i)).run Try.prog W = .ok (.pointer (some (el v i.toNat))) W :=
  run_ix_sl (P := Try.prog) h.1.sl 25 Try.und_isss Try.size_iss k i h0 (by rw [h.2.1]; exact hi) W
theorem RIII.ixe (h : RIII w v vs uss X) (i : Int) (j : Nat) (hij : i = (j : Int)) (hj : j < X.length) (W : World) :
    (Instr.indexAt 25 v (.int .i64 i)).run Try.prog W = .ok (.pointer (some (el v j))) W := by
  have := h.ix .i64 i (by omega) (by omega) W
  rwa [hij, Int.toNat_natCast, ← hij] at this
theorem RIII.cell (h : RIII w v vs uss X) (j : Nat) (hj : j < X.length) : w.cell? (el v j) = some (vat vs j) := Rd.cell h.1 (by rw [h.2.1]; exact hj)
theorem RIII.row (h : RIII w v vs uss X) (j : Nat) (hj : j < X.length) : RII w (vat vs j) (vsat uss j) (x3at X j) := h.2.2 j hj
theorem RIII.keep (h : RIII w v vs uss X) (hb : Below w.heap.size w w') : RIII w' v vs uss X := ⟨h.1.keep hb, h.2.1, fun j hj => (h.2.2 j hj).keep hb⟩
end
/-! ### what is owned -/
section
variable {v : Value} {vs : List Value} {uss : List (List Value)} {X : List (List (List Int))} {L2 : List Ent} {j : Nat}
end
/-- the lengths fit -/
def Fit3 (vs : List Value) (uss : List (List Value)) (X : List (List (List Int))) : Prop := vs.length = X.length ∧ uss.length = X.length ∧ ∀ k, k < X.length → (vsat uss k).length = (x3at X k).length
theorem Fit3.set {vs : List Value} {uss : List (List Value)} {X : List (List (List Int))} (h : Fit3 vs uss X) {j : Nat} (hj : j < X.length) {x : List (List Int)} (hx : x.length = (x3at X j).length) : Fit3 vs uss (X.set j x) :=
  ⟨by simpa using h.1, by simpa using h.2.1, fun k hk => by
    rw [x3at_set hj]
    simp only [List.length_set] at hk
    by_cases e : j = k
    · rw [if_pos e, hx]; subst e; exact h.2.2 j hj
    · rw [if_neg e]; exact h.2.2 k hk⟩

/-! ### the law's functions -/
end Go.Proofs.Ytgflhgkcmfjkgaa
end

section
/- Walks: squares that are made. -/
namespace Go.Proofs.Ytgflhgkcmfjkgaa
set_option linter.unusedSimpArgs false
set_option linter.unusedVariables false
open Go.RowKit
section
variable {ops : Array Oper} {rest : List Oper} {o : Oper} {a : Act} {Q : Exit → Act → World → Prop} {B : Nat} {w0 w : World} {L : List Ent}
end
/-- a square by its entries -/
def sqF (n : Nat) (f : Nat → Nat → Int) : List (List Int) := (List.range n).map fun x => tab n (f x)
theorem sqF_len (n : Nat) (f : Nat → Nat → Int) : (sqF n f).length = n := by simp [sqF]
theorem xat_sqF {n : Nat} {f : Nat → Nat → Int} {x : Nat} (h : x < n) : xat (sqF n f) x = tab n (f x) := by simp [sqF, xat, h]
end Go.Proofs.Ytgflhgkcmfjkgaa
end

section
/- Latin squares as lists of lists, their isotopes. In plain terms. -/
namespace Go.Proofs.Ytgflhgkcmfjkgaa
set_option linter.unusedSimpArgs false
set_option linter.unusedVariables false
/-- the entry of a place -/
def at2 (A : List (List Int)) (x y : Nat) : Int := nth (xat A x) y
/-- a square of n rows and columns -/
structure Sqr (n : Nat) (A : List (List Int)) : Prop where
  len : A.length = n
  row : ∀ x, x < n → (xat A x).length = n
theorem sq_ext {n : Nat} {A B : List (List Int)} (hA : Sqr n A) (hB : Sqr n B) (h : ∀ x y, x < n → y < n → at2 A x y = at2 B x y) : A = B := by
  apply List.ext_getElem (hA.len.trans hB.len.symm)
  intro x h1 h2
  have hx : x < n := by rw [← hA.len]; exact h1
  have e1 : A[x] = xat A x := by simp [xat, h1]
  have e2 : B[x] = xat B x := by simp [xat, h2]
  rw [e1, e2]
  refine nth_ext (by rw [hA.row x hx, hB.row x hx]) fun y hy => h x y hx (by rw [← hA.row x hx]; exact hy)
theorem sq_ext2 {n : Nat} {A B : List (List Int)} {r c : List Int} (hr : IsP r) (hc : IsP c) (hrl : r.length = n) (hcl : c.length = n) (hA : Sqr n A) (hB : Sqr n B)
    (h : ∀ x y, x < n → y < n → at2 A (pf r x) (pf c y) = at2 B (pf r x) (pf c y)) : A = B := by
  refine sq_ext hA hB fun x y hx hy => ?_
  obtain ⟨x', hx', rfl⟩ := hr.bij.onto (y := x) (by omega)
  obtain ⟨y', hy', rfl⟩ := hc.bij.onto (y := y) (by omega)
  exact h x' y' (by omega) (by omega)
theorem at2_sqF {n : Nat} {f : Nat → Nat → Int} {x y : Nat} (hx : x < n) (hy : y < n) : at2 (sqF n f) x y = f x y := by
  unfold at2; rw [xat_sqF hx]; simp [tab, nth, hy]
theorem sqF_sqr (n : Nat) (f : Nat → Nat → Int) : Sqr n (sqF n f) := ⟨sqF_len n f, fun x hx => by rw [xat_sqF hx, tab_len]⟩
/-! ### isotopes -/
def isoL (A : List (List Int)) (r c s : List Int) : List (List Int) := sqF A.length fun x y => nth s (at2 A (pf (invL r) x) (pf (invL c) y)).toNat
theorem pf_invL {xs : List Int} (h : IsP xs) {j : Nat} (hj : j < xs.length) : pf (invL xs) (pf xs j) = j := by unfold pf; rw [show nth (invL xs) (nth xs j).toNat = j from nth_invL h hj]; rfl
theorem isoL_sqr (A : List (List Int)) (r c s : List Int) : Sqr A.length (isoL A r c s) := sqF_sqr _ _
theorem isoL_at {A : List (List Int)} {r c s : List Int} (hr : IsP r) (hc : IsP c) (hrl : r.length = A.length) (hcl : c.length = A.length) {x y : Nat} (hx : x < A.length) (hy : y < A.length) :
    at2 (isoL A r c s) (pf r x) (pf c y) = nth s (at2 A x y).toNat := by
  have h1 : pf r x < A.length := by rw [← hrl]; exact hr.pf_lt (by omega)
  have h2 : pf c y < A.length := by rw [← hcl]; exact hc.pf_lt (by omega)
  unfold isoL
  rw [at2_sqF h1 h2, pf_invL hr (by omega), pf_invL hc (by omega)]
/-- the isotope, made as far as place y of row x -/
structure IsoP (A : List (List Int)) (r c s : List Int) (x y : Nat) (S : List (List Int)) : Prop where
  sqr : Sqr A.length S
  at' : ∀ x' y', x' < A.length → y' < A.length → (x' < x ∨ x' = x ∧ y' < y) → at2 S (pf r x') (pf c y') = nth s (at2 A x' y').toNat
section
variable {A : List (List Int)} {r c s : List Int}
theorem IsoP.next {x : Nat} {S : List (List Int)} (h : IsoP A r c s x A.length S) : IsoP A r c s (x + 1) 0 S :=
  ⟨h.sqr, fun x' y' hx' hy' hl => h.at' x' y' hx' hy' (by omega)⟩
theorem IsoP.done (hr : IsP r) (hc : IsP c) (hrl : r.length = A.length) (hcl : c.length = A.length) {S : List (List Int)} (h : IsoP A r c s A.length 0 S) : S = isoL A r c s :=
  sq_ext2 hr hc hrl hcl h.sqr (isoL_sqr A r c s) fun x y hx hy => by
    rw [h.at' x y hx hy (.inl hx), isoL_at hr hc hrl hcl hx hy]
end
end Go.Proofs.Ytgflhgkcmfjkgaa
end

section
/- Walks: how often points and pairs of points occur in a design. -/
namespace Go.Proofs.Ytgflhgkcmfjkgaa
set_option linter.unusedSimpArgs false
set_option linter.unusedVariables false
open Go.RowKit
attribute [local go_sem ↓] Go.wp_at_zero Go.wp_at_succ

/-- a block of points 0 .. P - 1 that increases -/
structure Inc (P : Nat) (b : List Int) : Prop where
  bd : ∀ i, i < b.length → 0 ≤ nth b i ∧ nth b i < P
  lt : ∀ i j, i < j → j < b.length → nth b i < nth b j
  len : b.length ≤ P
theorem inc_of {P : Nat} {b : List Int} (h : incB (-1) P b = true) : Inc P b where
  len := by have := inc_len h (by omega); omega
  bd i hi := by have := incB_gt h _ (nth_mem hi); omega
  lt i j hij hj := by
    have := List.pairwise_iff_getElem.1 (incB_pw h) i j (by omega) hj hij
    rwa [← nth_eq (show i < b.length by omega), ← nth_eq hj] at this
theorem DOk.inc' {P : Nat} {A : List (List Int)} (h : DOk P A) {k : Nat} (hk : k < A.length) : Inc P (xat A k) := inc_of (h.inc _ (xat_mem hk))
theorem mem_take1 {b : List Int} {j : Nat} (hj : j < b.length) (x : Int) : x ∈ b.take (j + 1) ↔ x ∈ b.take j ∨ x = nth b j := by
  rw [List.take_add_one, List.getElem?_eq_getElem hj, nth_eq hj, List.mem_append]
  simp only [Option.toList, List.mem_singleton]
end Go.Proofs.Ytgflhgkcmfjkgaa
end

section
/- Walks: how often pairs of points occur in a design. -/
namespace Go.Proofs.Ytgflhgkcmfjkgaa
set_option linter.unusedSimpArgs false
set_option linter.unusedVariables false
open Go.RowKit
attribute [local go_sem ↓] Go.wp_at_zero Go.wp_at_succ

def parC (b : List Int) (i j x y : Nat) : Prop := ((x : Int) ∈ b.take i ∧ (y : Int) ∈ b) ∨ ((x : Int) = nth b i ∧ (y : Int) ∈ (b.drop (i + 1)).take j)
open Classical in
noncomputable def parT (A : List (List Int)) (k i j x y : Nat) : Int := parF (A.take k) x y + if parC (xat A k) i j x y then 1 else 0
/-- the table behind k blocks, i points and j further points -/
structure PrM (P : Nat) (A : List (List Int)) (k i j : Nat) (M : List (List Int)) : Prop where
  sq : Sqr P M
  at' : ∀ x y, x < y → y < P → at2 M x y = parT A k i j x y
theorem PrM.next {P : Nat} {A : List (List Int)} {k i : Nat} {M : List (List Int)} (h : PrM P A k i ((xat A k).length - (i + 1)) M) (hi : Inc P (xat A k)) (hl : i < (xat A k).length) : PrM P A k (i + 1) 0 M := by
  refine ⟨h.sq, fun x y hxy hy => ?_⟩
  rw [h.at' x y hxy hy]
  unfold parT
  have : parC (xat A k) i ((xat A k).length - (i + 1)) x y ↔ parC (xat A k) (i + 1) 0 x y := by
    unfold parC
    rw [mem_take1 hl, List.take_zero, show ((xat A k).drop (i + 1)).take ((xat A k).length - (i + 1)) = (xat A k).drop (i + 1) from List.take_of_length_le (by simp)]
    constructor
    · rintro (⟨h1, h2⟩ | ⟨h1, h2⟩)
      · exact .inl ⟨.inl h1, h2⟩
      · exact .inl ⟨.inr h1, List.mem_of_mem_drop h2⟩
    · rintro (⟨h1 | h1, h2⟩ | ⟨_, h2⟩)
      · exact .inl ⟨h1, h2⟩
      · refine .inr ⟨h1, ?_⟩
        obtain ⟨m, hm, he⟩ := List.getElem_of_mem h2
        rw [← nth_eq hm] at he
        have him : i < m := by
          rcases Nat.lt_trichotomy i m with h3 | h3 | h3
          · exact h3
          · subst h3; omega
          · have := hi.lt m i h3 hl; omega
        rw [List.mem_iff_getElem]
        exact ⟨m - (i + 1), by simp; omega, by rw [List.getElem_drop, ← he, nth_eq hm]; congr 1; omega⟩
      · cases h2
  by_cases hc : parC (xat A k) i ((xat A k).length - (i + 1)) x y
  · rw [if_pos hc, if_pos (this.1 hc)]
  · rw [if_neg hc, if_neg (fun h => hc (this.2 h))]
theorem PrM.block {P : Nat} {A : List (List Int)} {k : Nat} {M : List (List Int)} (h : PrM P A k (xat A k).length 0 M) (hk : k < A.length) : PrM P A (k + 1) 0 0 M := by
  refine ⟨h.sq, fun x y hxy hy => ?_⟩
  rw [h.at' x y hxy hy]
  unfold parT
  have c1 : ¬ parC (xat A (k + 1)) 0 0 x y := by rintro (⟨h1, _⟩ | ⟨_, h1⟩) <;> cases h1
  have c0 : parC (xat A k) (xat A k).length 0 x y ↔ ((x : Int) ∈ xat A k ∧ (y : Int) ∈ xat A k) := by
    unfold parC
    rw [List.take_length, List.take_zero]
    constructor
    · rintro (h1 | ⟨_, h1⟩)
      · exact h1
      · cases h1
    · exact .inl
  rw [if_neg c1, take_xat hk]
  unfold parF
  rw [cntD_snoc]
  by_cases hc : (x : Int) ∈ xat A k ∧ (y : Int) ∈ xat A k
  · rw [if_pos (c0.2 hc), if_pos (by rw [decide_eq_true hc.1, decide_eq_true hc.2]; rfl)]; omega
  · rw [if_neg (fun h => hc (c0.1 h)), if_neg (by rw [Bool.and_eq_true, decide_eq_true_eq, decide_eq_true_eq]; exact hc)]; omega
theorem PrM.row {P : Nat} {A : List (List Int)} {M : List (List Int)} (h : PrM P A A.length 0 0 M) {x : Nat} (hx : x < P) : ((xat M x).take P).drop (x + 1) = parR P A x := by
  have hl := h.sq.row x hx
  apply List.ext_getElem
  · simp [parR, hl]
  · intro t h1 h2
    have ht : t < P - (x + 1) := by simpa [parR] using h2
    rw [List.getElem_drop, List.getElem_take, ← nth_eq (by rw [hl]; omega)]
    have := h.at' x (x + 1 + t) (by omega) (by omega)
    have c1 : ¬ parC (xat A A.length) 0 0 x (x + 1 + t) := by rintro (⟨h1, _⟩ | ⟨_, h1⟩) <;> cases h1
    unfold parT at this
    rw [if_neg c1, List.take_length] at this
    rw [show nth (xat M x) (x + 1 + t) = at2 M x (x + 1 + t) from rfl, this]
    simp [parR]
/-- the numbers of the pairs of the first k points -/
def parK (P : Nat) (A : List (List Int)) (k : Nat) : List Int := ((List.range k).map (parR P A)).flatten
theorem parK_succ (P : Nat) (A : List (List Int)) (k : Nat) : parK P A (k + 1) = parK P A k ++ parR P A k := by
  rw [parK, List.range_succ, List.map_append, List.flatten_append]; simp [parK]
theorem parK_len (P : Nat) (A : List (List Int)) : ∀ k, (parK P A k).length ≤ k * P
  | 0 => Nat.zero_le _
  | k + 1 => by
    rw [parK_succ, List.length_append, Nat.succ_mul]
    have := parK_len P A k
    have : (parR P A k).length ≤ P := by simp [parR]
    omega
theorem parK_end (P : Nat) (A : List (List Int)) : parK P A P = parL P A := rfl

end Go.Proofs.Ytgflhgkcmfjkgaa
end

section
/- Walks: the parameters of a balanced design. -/
namespace Go.Proofs.Ytgflhgkcmfjkgaa
set_option linter.unusedSimpArgs false
set_option linter.unusedVariables false
open Go.RowKit
attribute [local go_sem ↓] Go.wp_at_zero Go.wp_at_succ

/-- parameters as a value -/
def pmV (xs : List Int) : Value := .agg #[.int .i64 (nth xs 0), .int .i64 (nth xs 1), .int .i64 (nth xs 2), .int .i64 (nth xs 3), .int .i64 (nth xs 4)]
def MakesPr (w : World) (xs : List Int) (b : Bool) (e : Ending) (w' : World) : Prop := e = .returned (.tuple #[pmV xs, .bool b]) ∧ St w.heap.size w w' []
theorem prmV_no {P : Nat} {A : List (List Int)} (h : prmB P A = false) : prmV P A = [0, 0, 0, 0, 0] := by unfold prmV; rw [if_neg (by rw [h]; decide)]
theorem MakesPr.no {w w' : World} {L : List Ent} {P : Nat} {A : List (List Int)} (h : prmB P A = false) (hS : St w.heap.size w w' L) :
    MakesPr w (prmV P A) (prmB P A) (.returned (.tuple #[.agg #[.int .i64 0, .int .i64 0, .int .i64 0, .int .i64 0, .int .i64 0], .bool false])) w' := by
  rw [prmV_no h, h]; exact ⟨rfl, hS.out⟩
end Go.Proofs.Ytgflhgkcmfjkgaa
end

section
/- Walks: ParametersOf of the program; replications, pairs and parameters of the reference. -/
namespace Go.Proofs.Ytgflhgkcmfjkgaa
set_option linter.unusedSimpArgs false
set_option linter.unusedVariables false
open Go.RowKit
attribute [local go_sem ↓] Go.wp_at_zero Go.wp_at_succ
def z5 (g : Nat) : Ent := box 39 g [.int .i64 0, .int .i64 0, .int .i64 0, .int .i64 0, .int .i64 0]
end Go.Proofs.Ytgflhgkcmfjkgaa
end

section
/- Walks: pairs and parameters of the reference. -/
namespace Go.Proofs.Ytgflhgkcmfjkgaa
set_option linter.unusedSimpArgs false
set_option linter.unusedVariables false
open Go.RowKit
attribute [local go_sem ↓] Go.wp_at_zero Go.wp_at_succ

theorem parF_snoc {A : List (List Int)} {i x y : Nat} (hi : i < A.length) : parF (A.take (i + 1)) x y = parF (A.take i) x y + if (decide ((x : Int) ∈ xat A i) && decide ((y : Int) ∈ xat A i)) = true then 1 else 0 := by
  unfold parF; rw [take_xat hi, cntD_snoc]
theorem parR_take {P : Nat} {A : List (List Int)} {x t : Nat} (ht : t < P - (x + 1)) : (parR P A x).take (t + 1) = (parR P A x).take t ++ [parF A x (x + 1 + t)] := by
  rw [List.take_add_one, List.getElem?_eq_getElem (by simp [parR]; exact ht)]
  simp [parR]
set_option maxHeartbeats 4000000 in
set_option maxRecDepth 100000 in
theorem l10Pairs_c (P : Nat) (g : Nat) (v : Value) (us : List Value) (A : List (List Int)) (w : World) (hv : RII w v us A) (hb : BoxD w g P v) (hP : P ≤ 32) (hDl : A.length ≤ 128) :
    Calls Try.prog 63 #[.pointer (some ⟨g, 0, none⟩)] w (MakesI w (parL P A)) := by
  have hln := hv.len
  have hixe := hv.ixe
  have hS1 := St.emp0 (w := w)
  go_enter Try.func63, Try.ntmps63
  go_wp2_with fail
  go_loopw [3, 4, 5, 6, 7] (fun o i _ _ _ wr => ∃ x : Nat, x ≤ P ∧ i = .int .i64 x ∧ St w.heap.size w wr [row 2 o (iv (parK P A x))]) (fun _ i _ _ _ _ => P - (intOf i).toNat)
  case atStart => exact ⟨0, by omega, rfl, hS1⟩
  case round =>
    clear hS1
    obtain ⟨x, hx, rfl, hS⟩ := hrel
    have b0 := (hS.oldBoxD hb).1
    by_cases hxP : x < P
    · have hKs := Lib.hid (parK_succ P A x)
      have hS' := hS
      rw [show parK P A x = parK P A x ++ (parR P A x).take 0 by simp] at hS'
      clear hS
      go_wp2_with fail
      obtain ⟨wo, rfl⟩ : ∃ wo : World, wo = wr := ⟨_, rfl⟩
      go_loopw [3, 5, 6, 7] (fun o i _ _ wr => ∃ t : Nat, t ≤ P - (x + 1) ∧ i = .int .i64 ((x : Int) + 1 + t) ∧ St w.heap.size w wr [row 2 o (iv (parK P A x ++ (parR P A x).take t))]) (fun _ i _ _ _ => P - (intOf i).toNat)
      case atStart => exact ⟨0, by omega, by simp, hS'⟩
      case round =>
        clear hS' b0
        obtain ⟨t, ht, rfl, hS⟩ := hrel
        have b0 := (hS.oldBoxD hb).1
        by_cases htP : t < P - (x + 1)
        · obtain ⟨y, hy⟩ : ∃ y : Nat, x + 1 + t = y := ⟨_, rfl⟩
          have hyi : (x : Int) + 1 + t = (y : Int) := by omega
          have Ht := Lib.hid (parR_take (P := P) (A := A) (x := x) htP)
          rw [hy] at Ht
          have hyP : (y : Int) < P := by omega
          rw [hyi]
          have Hy := Lib.hid hyi
          clear hyi
          go_wp2_with fail
          obtain ⟨wq, rfl⟩ : ∃ wq : World, wq = wr := ⟨_, rfl⟩
          go_loopw [6, 7] (fun n i wr => ∃ k : Nat, k ≤ A.length ∧ i = .int .i64 k ∧ n = .int .i64 (parF (A.take k) x y) ∧ wr = wq) (fun _ i _ => A.length - (intOf i).toNat)
          case atStart => exact ⟨0, by omega, rfl, by simp [parF, cntD], rfl⟩
          case round =>
            obtain ⟨k, hk, rfl, rfl, rfl⟩ := hrel
            have b1 := (hS.oldBoxD hb).2
            by_cases hlt : k < A.length
            · have hrk := Lib.hid ((hS.oldII hv).row k hlt)
              have ck := (hS.oldII hv).cell k hlt
              have xk := hixe (k : Int) k rfl hlt
              have HF := Lib.hid (parF_snoc (x := x) (y := y) hlt)
              have hbd := cntD_bd (fun b => decide ((x : Int) ∈ b) && decide ((y : Int) ∈ b)) (A.take k)
              rw [show cntD (fun b => decide ((x : Int) ∈ b) && decide ((y : Int) ∈ b)) (A.take k) = parF (A.take k) x y from rfl] at hbd
              have hbl : (A.take k).length ≤ 128 := by simp; omega
              have KA := l00Has_c (vat us k) (xat A k) x wr hrk.out
              have KB := l00Has_c (vat us k) (xat A k) y wr hrk.out
              generalize decide ((x : Int) ∈ xat A k) = ba at *
              generalize decide ((y : Int) ∈ xat A k) = bb at *
              have KA := Lib.hid KA
              have KB := Lib.hid KB
              generalize parF (A.take k) x y = q at *
              generalize (A.take k).length = q' at *
              cases ba
              · go_wp2_with (go_at_call 88; refine KA.out.mono ?_; rintro e w1 ⟨rfl, rfl⟩)
                go_roundw
                case rel => exact ⟨k + 1, by omega, by go_num, by rw [HF.out]; simp, by first | trivial | rfl⟩
                case measure => simp [intOf]; omega
              · cases bb
                · go_wp2_with fail
                  refine KA.out.mono ?_
                  rintro e w1 ⟨rfl, rfl⟩
                  go_wp2_with fail
                  refine KB.out.mono ?_
                  rintro e w1 ⟨rfl, rfl⟩
                  go_wp2_with fail
                  go_roundw
                  case rel => exact ⟨k + 1, by omega, by go_num, by rw [HF.out]; simp, by first | trivial | rfl⟩
                  case measure => simp [intOf]; omega
                · go_wp2_with fail
                  refine KA.out.mono ?_
                  rintro e w1 ⟨rfl, rfl⟩
                  go_wp2_with fail
                  refine KB.out.mono ?_
                  rintro e w1 ⟨rfl, rfl⟩
                  go_wp2_with fail
                  go_roundw
                  case rel => exact ⟨k + 1, by omega, by go_num, by rw [HF.out]; simp, by first | trivial | rfl⟩
                  case measure => simp [intOf]; omega
            · obtain rfl : k = A.length := by omega
              rw [List.take_length]
              have hml := Lib.hid (show (parK P A x ++ (parR P A x).take t).length < 4294967296 by
                have := parK_len P A x
                have h2 : x * P ≤ 32 * 32 := Nat.mul_le_mul (by omega) (by omega)
                have : (parR P A x).length ≤ P := by simp [parR]
                simp only [List.length_append, List.length_take]; omega)
              go_wp2_with (at_builtin; refine appI hS 0 rfl hml.out rfl _ _ rfl rfl _ rfl ?_; intro v8 w8 hS8)
              simp only [List.set_cons_zero] at hS8
              rw [List.append_assoc, ← Ht.out] at hS8
              go_roundw
              case rel => exact ⟨t + 1, by omega, by have := Hy.out; go_num, hS8⟩
              case measure => have := Hy.out; simp [intOf]; omega
        · obtain rfl : t = P - (x + 1) := by omega
          rw [List.take_of_length_le (by simp [parR]), ← hKs.out] at hS
          have hge : ¬ ((x : Int) + 1 + ((P - (x + 1) : Nat) : Int)) < P := by omega
          go_wp2_with fail
          go_roundw
          case rel => exact ⟨x + 1, by omega, by go_num, hS⟩
          case measure => simp [intOf]; omega
    · obtain rfl : x = P := by omega
      rw [parK_end] at hS
      go_wp2_with fail
      go_ret
      exact ⟨_, rfl, hS⟩
end Go.Proofs.Ytgflhgkcmfjkgaa
end

section
/- Slices of truth values. -/
namespace Go.Proofs.Ytgflhgkcmfjkgaa
set_option linter.unusedSimpArgs false
set_option linter.unusedVariables false
open Go.RowKit
/-- the cells of a list of truth values -/
def bo (xs : List Bool) : List Value := xs.map Value.bool
/-- element j -/
def bat (xs : List Bool) (j : Nat) : Bool := xs.getD j false
theorem bo_len (xs : List Bool) : (bo xs).length = xs.length := by simp [bo]
theorem bo_get {xs : List Bool} {j : Nat} (h : j < xs.length) : (bo xs).getD j undef = .bool (bat xs j) := by
  simp [bo, bat, List.getD, List.getElem?_eq_getElem h]
def RdO (w : World) (v : Value) (xs : List Bool) : Prop := Rd w v (bo xs)
theorem Try.size_o : (Try.prog.info? 4).map (·.size) = some 1 := by kernel_rfl
theorem Try.und_os : Try.prog.underlying 69 = some (.slice 4) := by kernel_rfl
section
variable {w w' : World} {v : Value} {xs : List Bool}
theorem RdO.le (h : RdO w v xs) : xs.length ≤ 9223372036854775807 := by have := h.sl.le; rwa [bo_len] at this
theorem RdO.len (h : RdO w v xs) (ty : TypeId) (W : World) : (Builtin.len_ #[69] ty #[v]).run Try.prog W = .ok (.int .i64 xs.length) W := by
  have := run_len_sl (P := Try.prog) h.sl 69 ty Try.und_os W; rwa [bo_len] at this
theorem RdO.ix (h : RdO w v xs) (k : IntKind) (i : Int) (h0 : 0 ≤ i) (hi : i < xs.length) (W : World) :
    (Instr.indexAt 69 v (.int k i)).run Try.prog W = .ok (.pointer (some (el v i.toNat))) W :=
  run_ix_sl (P := Try.prog) h.sl 69 Try.und_os Try.size_o k i h0 (by rw [bo_len]; exact hi) W
theorem RdO.ixe (h : RdO w v xs) (i : Int) (j : Nat) (hij : i = (j : Int)) (hj : j < xs.length) (W : World) :
    (Instr.indexAt 69 v (.int .i64 i)).run Try.prog W = .ok (.pointer (some (el v j))) W := by
  have := h.ix .i64 i (by omega) (by omega) W
  rwa [hij, Int.toNat_natCast, ← hij] at this
theorem RdO.cell (h : RdO w v xs) (j : Nat) (hj : j < xs.length) : w.cell? (el v j) = some (.bool (bat xs j)) := by
  rw [Rd.cell h (by rw [bo_len]; exact hj), bo_get hj]
theorem RdO.keep (h : RdO w v xs) (hb : Below w.heap.size w w') : RdO w' v xs := Rd.keep h hb
end
section
variable {ops : Array Oper} {rest : List Oper} {o : Oper} {a : Act} {Q : Exit → Act → World → Prop} {B : Nat} {w0 w : World} {L : List Ent}
end
end Go.Proofs.Ytgflhgkcmfjkgaa
end

section
/- Walks: the cycles of a permutation. Walks: SignOf; the law FnPermutations. Walks: CyclesOf, SignOf and OrderOfPermutation of any list, powers, permutations made of cycles, types. -/
namespace Go.Proofs.Ytgflhgkcmfjkgaa
set_option linter.unusedSimpArgs false
set_option linter.unusedVariables false
open Go.RowKit
attribute [local go_sem ↓] Go.wp_at_zero Go.wp_at_succ
/-- what is seen: all cycles that numbers below m lead, and the first j numbers of that of m -/
def Seen (xs : List Int) (m j : Nat) (s : List Bool) : Prop := s.length = xs.length ∧ ∀ y, y < xs.length → (bat s y = true ↔ y ∈ (cycs xs.length (pf xs) m).flatten ∨ ∃ i, i < j ∧ y = it (pf xs) i m)
theorem Seen.no {xs : List Int} {m : Nat} {s : List Bool} (h : Seen xs m 0 s) (hp : IsP xs) (hm : m < xs.length) (hL : ¬ Lead (pf xs) m) : bat s m = true ∧ Seen xs (m + 1) 0 s := by
  have hs := fun hh => hL ((lead_seen hp.bij hm).2 hh)
  refine ⟨(h.2 m hm).2 (.inl (Classical.byContradiction hs)), h.1, fun y hy => ?_⟩
  rw [h.2 y hy, cycs, if_neg hL]; simp
theorem Seen.back {xs : List Int} {m : Nat} {s : List Bool} (h : Seen xs m (clen xs.length (pf xs) m) s) (hp : IsP xs) (hm : m < xs.length) (hL : Lead (pf xs) m) : bat s (it (pf xs) (clen xs.length (pf xs) m) m) = true ∧ Seen xs (m + 1) 0 s := by
  have hc := clen_ok hp.bij hm
  have hb := hc.back
  refine ⟨?_, h.1, fun y hy => ?_⟩
  · rw [hb]; exact (h.2 m hm).2 (.inr ⟨0, hc.pos, rfl⟩)
  · rw [h.2 y hy, cycs, if_pos hL]
    simp only [List.flatten_append, List.flatten_cons, List.flatten_nil, List.append_nil, List.mem_append]
    constructor
    · rintro (h1 | ⟨i, hi, rfl⟩)
      · exact .inl (.inl h1)
      · exact .inl (.inr ((mem_cycL hp.bij hm).2 ⟨i, rfl⟩))
    · rintro ((h1 | h1) | ⟨i, hi, _⟩)
      · exact .inl h1
      · unfold cycL at h1
        obtain ⟨i, hi, rfl⟩ := List.mem_map.1 h1
        exact .inr ⟨i, List.mem_range.1 hi, rfl⟩
      · omega
/-! ### the least common multiple, bounded -/
end Go.Proofs.Ytgflhgkcmfjkgaa
end

section
/- slices.Delete at []int64: a row that a call owns, without one of its numbers. Walks: images of sets, ranks of permutations. -/
namespace Go.Proofs.Ytgflhgkcmfjkgaa
set_option linter.unusedSimpArgs false
set_option linter.unusedVariables false
open Go.RowKit
attribute [local go_sem ↓] Go.wp_at_zero Go.wp_at_succ
theorem incB_len : ∀ {xs : List Int} {l n : Int}, incB l n xs = true → l < n → (xs.length : Int) ≤ n - l - 1
  | [], l, n, _, h => by simp; omega
  | x :: t, l, n, h, hl => by
    unfold incB at h; split at h
    · simp at h
    · have := incB_len h (by omega)
      simp; omega
set_option maxHeartbeats 4000000 in
set_option maxRecDepth 100000 in
theorem image_c (v u : Value) (xs ss : List Int) (w : World) (hv : RdI w v xs) (hu : RdI w u ss) (hs : incB (-1) xs.length ss = true) (hN : xs.length ≤ 1000) :
    Calls Try.prog 93 #[v, u] w (MakesI w (imL xs ss)) := by
  have hlu := hu.len
  have hiu := hu.ix
  have hix := hv.ix
  have hsl := incB_len hs (by omega)
  have HM := Lib.hid (fun x hx => incB_gt hs x hx)
  have HS := fun {B : Nat} {w0 w : World} {L : List Ent} (hS : St B w0 w L) (i : Nat) {v : Value} {ys : List Int} (hl : ys.length = ss.length) (hi : L[i]? = some (row 2 v (iv ys))) => Lib.hid (Sort_c hS i hi (by omega))
  have HF := Lib.hid (show imL xs ss = srt (ss.map fun x => nth xs x.toNat) from rfl)
  generalize hf : (fun x : Int => nth xs x.toNat) = f at *
  have Hf := Lib.hid (fun x => congrFun hf x)
  clear hf hs
  generalize imL xs ss = R at *
  go_enter Try.func93, Try.ntmps93
  go_wp2_with fail
  go_loopw [5, 7, 10] (fun o _ x wr => ∃ k : Nat, k ≤ ss.length ∧ x = .int .i64 k ∧ St w.heap.size w wr [row 2 o (iv ((ss.take k).map f))]) (fun _ _ x _ => ss.length - (intOf x).toNat)
  case atStart => exact ⟨0, by omega, rfl, (St.refl w).emp⟩
  case round =>
    obtain ⟨k, hk, rfl, hS⟩ := hrel
    by_cases hlt : k < ss.length
    · have hck := (hS.oldI hu).cell k hlt
      have hm := HM.out _ (nth_mem hlt)
      have hcx := (hS.oldI hv).cell (nth ss k).toNat (by omega)
      rw [Hf.out] at hcx
      have Hst := Lib.hid (show (ss.take (k + 1)).map f = (ss.take k).map f ++ [f (nth ss k)] by rw [take_nth hlt]; simp)
      have Hlt := Lib.hid (show ((ss.take k).map f).length < 4294967296 by simp; omega)
      generalize f (nth ss k) = y at *
      generalize nth ss k = x at *
      obtain ⟨m0, m1⟩ := hm
      have hixx := hix .i64 x (by omega) m1
      go_wp2_with (at_builtin; refine appI hS 0 rfl Hlt.out rfl _ _ rfl rfl _ rfl ?_; intro v' w2 hS2)
      simp only [List.set_cons_zero] at hS2
      rw [← Hst.out] at hS2
      go_roundw
      case rel => exact ⟨k + 1, by omega, by go_num, hS2⟩
      case measure => simp [intOf]; omega
    · obtain rfl : k = ss.length := by omega
      rw [List.take_length] at hS
      go_wp2_with fail
      refine (HS hS 0 (by simp) rfl).out.mono ?_
      rintro e w2 ⟨rfl, hS2⟩
      rw [← HF.out] at hS2
      simp only [List.set_cons_zero] at hS2
      go_wp2_with fail
      go_ret
      exact ⟨_, rfl, hS2⟩
end Go.Proofs.Ytgflhgkcmfjkgaa
end

section
/- Plain: schedules of rounds of pairs: what a valid one is, opponents. -/
namespace Go.Proofs.Ytgflhgkcmfjkgaa
set_option linter.unusedSimpArgs false
set_option linter.unusedVariables false

def gdP (n : Int) (p : List Int) : Bool := decide (p.length = 2) && decide (nth p 0 < nth p 1) && inB (nth p 0) 0 (n - 1) && inB (nth p 1) 0 (n - 1)
/-- whether a team plays in some of these pairs -/
def plB (q : List (List Int)) (x : Int) : Bool := q.any fun p => decide (x ∈ p)
/-- the pairs ahead of place k of round r -/
def seen (R : List (List (List Int))) (r k : Nat) : List (List Int) := (R.take r).flatten ++ (x3at R r).take k
section
variable {R : List (List (List Int))} {r k : Nat}
theorem seen_snoc (hk : k < (x3at R r).length) : seen R r (k + 1) = seen R r k ++ [xat (x3at R r) k] := by
  rw [seen, take_xat hk, ← List.append_assoc]; rfl
theorem seen_pre (hr : r < R.length) (hk : k ≤ (x3at R r).length) : R.flatten = seen R r k ++ ((x3at R r).drop k ++ (R.drop (r + 1)).flatten) := by
  rw [seen, List.append_assoc, ← List.append_assoc ((x3at R r).take k), List.take_append_drop, ← List.flatten_cons, ← drop_x3at hr, ← List.flatten_append, List.take_append_drop]
theorem x3at_mem (hr : r < R.length) : x3at R r ∈ R := by rw [x3at_eq hr]; exact List.getElem_mem hr
end
theorem mem_xat {A : List (List Int)} {p : List Int} (h : p ∈ A) : ∃ k, k < A.length ∧ xat A k = p := by
  obtain ⟨k, hk, e⟩ := List.getElem_of_mem h
  exact ⟨k, hk, by rw [xat_eq hk, e]⟩
/-- what is asked of a pair -/
def okAt (n : Int) (R : List (List (List Int))) (r k : Nat) : Bool :=
  gdP n (xat (x3at R r) k) && (decide (k = 0) || decide (cmpI (xat (x3at R r) (k - 1)) (xat (x3at R r) k) < 0)) &&
  !plB ((x3at R r).take k) (nth (xat (x3at R r) k) 0) && !plB ((x3at R r).take k) (nth (xat (x3at R r) k) 1) && !decide (xat (x3at R r) k ∈ seen R r k)
def vsB (n : Int) (R : List (List (List Int))) : Bool :=
  inB n 2 32 && ((List.range R.length).all fun r => (List.range (x3at R r).length).all fun k => okAt n R r k) &&
  ((List.range n.toNat).all fun a => (List.range n.toNat).all fun b => decide (b ≤ a) || decide ([(a : Int), (b : Int)] ∈ R.flatten))
structure VS (n : Nat) (R : List (List (List Int))) : Prop where
  n2 : 2 ≤ n
  n32 : n ≤ 32
  gd : ∀ q ∈ R, ∀ p ∈ q, gdP n p = true
  st : ∀ q ∈ R, ∀ k, k + 1 < q.length → cmpI (xat q k) (xat q (k + 1)) < 0
  dj : ∀ q ∈ R, ∀ k, k < q.length → ∀ j, j < k → ∀ x ∈ xat q j, x ∉ xat q k
  nd : R.flatten.Nodup
  al : ∀ a b : Nat, a < b → b < n → [(a : Int), (b : Int)] ∈ R.flatten
structure GdP (n : Int) (p : List Int) : Prop where
  eq : p = [nth p 0, nth p 1]
  lt : nth p 0 < nth p 1
  lo : 0 ≤ nth p 0
  hi : nth p 1 ≤ n - 1
theorem gdP_t {n : Int} {p : List Int} (h : gdP n p = true) : GdP n p := by
  simp only [gdP, Bool.and_eq_true, decide_eq_true_eq, inB] at h
  obtain ⟨⟨⟨h1, h2⟩, h3⟩, h4⟩ := h
  match p, h1 with
  | [a, b], _ => exact ⟨rfl, h2, h3.1, h4.2⟩
theorem plB_f {q : List (List Int)} {x : Int} : plB q x = false ↔ ∀ p ∈ q, x ∉ p := by simp [plB]
theorem mem_take_xat {q : List (List Int)} {k : Nat} {p : List Int} (h : p ∈ q.take k) : ∃ j, j < k ∧ j < q.length ∧ xat q j = p := by
  obtain ⟨j, hj, e⟩ := mem_xat h
  simp only [List.length_take] at hj
  refine ⟨j, by omega, by omega, ?_⟩
  rw [← e, xat_eq (by omega), xat_eq (by simp; omega), List.getElem_take]
theorem VS.ok {n : Nat} {R : List (List (List Int))} (h : VS n R) {r k : Nat} (hr : r < R.length) (hk : k < (x3at R r).length) : okAt n R r k = true := by
  have hq := x3at_mem hr
  have hp := xat_mem hk
  have hg := h.gd _ hq _ hp
  have hG := gdP_t hg
  have h1 : ∀ x ∈ xat (x3at R r) k, plB ((x3at R r).take k) x = false := fun x hx => plB_f.2 fun p hp' hx' => by
    obtain ⟨j, hj, hj2, rfl⟩ := mem_take_xat hp'
    exact h.dj _ hq k hk j hj x hx' hx
  have h2 : xat (x3at R r) k ∉ seen R r k := by
    have := h.nd
    rw [seen_pre hr (Nat.succ_le_of_lt hk), seen_snoc hk, List.append_assoc] at this
    have := (List.nodup_append.1 this).2.2
    intro hm
    exact this _ hm _ (by simp) rfl
  have e0 : nth (xat (x3at R r) k) 0 ∈ xat (x3at R r) k := by rw [hG.eq]; simp [nth]
  have e1 : nth (xat (x3at R r) k) 1 ∈ xat (x3at R r) k := by rw [hG.eq]; simp [nth]
  simp only [okAt, Bool.and_eq_true, hg, h1 _ e0, h1 _ e1, decide_eq_false h2, Bool.not_false, and_true, true_and, Bool.or_eq_true, decide_eq_true_eq]
  cases k with
  | zero => exact .inl rfl
  | succ k => exact .inr (h.st _ hq k hk)
theorem VS.t {n : Nat} {R : List (List (List Int))} (h : VS n R) : vsB n R = true := by
  have h1 := h.n2
  have h2 := h.n32
  simp only [vsB, Bool.and_eq_true, List.all_eq_true, List.mem_range, Bool.or_eq_true, decide_eq_true_eq]
  refine ⟨⟨inB_true (by omega), fun r hr k hk => h.ok hr hk⟩, fun a ha b hb => ?_⟩
  by_cases hab : b ≤ a
  · exact .inl hab
  · exact .inr (h.al a b (by omega) (by omega))
/-! ### opponents -/
section
variable {n : Nat} {R : List (List (List Int))}
end
end Go.Proofs.Ytgflhgkcmfjkgaa
end

section
/- Walks: pairs, and the schedule of the circle method, of the program. -/
namespace Go.Proofs.Ytgflhgkcmfjkgaa
set_option linter.unusedSimpArgs false
set_option linter.unusedVariables false
open Go.RowKit
attribute [local go_sem ↓] Go.wp_at_zero Go.wp_at_succ
/-- behind the append of a row of its own, with more behind -/
theorem own2_snocL {B : Nat} {w0 w : World} {v v' : Value} {us : List Value} {xss : List (List Int)} {u : Value} {xs : List Int} {L2 : List Ent} (hl : us.length = xss.length)
    (h : St B w0 w ((own2 v us xss ++ L2 ++ [row 2 u (iv xs)]).set 0 (row 30 v' (us ++ [u])))) : St B w0 w (own2 v' (us ++ [u]) (xss ++ [xs]) ++ L2) := by
  rw [own2, rowsI_app hl]
  refine h.perm ?_
  show (row 30 v' (us ++ [u]) :: (rowsI us xss ++ L2 ++ [row 2 u (iv xs)])).Perm (row 30 v' (us ++ [u]) :: (rowsI us xss ++ [row 2 u (iv xs)] ++ L2))
  refine List.Perm.cons _ ?_
  rw [List.append_assoc, List.append_assoc]
  exact List.Perm.append_left _ List.perm_append_comm
end Go.Proofs.Ytgflhgkcmfjkgaa
end
