/- The texts of this claim, run 9: Ds2 Ds3 DsD Hd7 PIm Ds7 Ds8 Ds9 DsA. -/
import Derived.Test.YtnodcfhdfpeokaaGreatK3
import Derived.Test.YtnodcfhdfpeokaaGreatK4
import Derived.Test.YtnodcfhdfpeokaaGreatK5
import Derived.Test.YtnodcfhdfpeokaaGreatK6
import Derived.Test.YtnodcfhdfpeokaaGreatK7
import Derived.Test.YtnodcfhdfpeokaaGreatK8

section
/- Walks: valid designs of both sides, equal designs. -/
namespace Go.Proofs.YtnodcfhdfpeokaaGreat
set_option linter.unusedSimpArgs false
set_option linter.unusedVariables false
open Go.RowKit

/-- a design as a value -/
def dv (P : Int) (v : Value) : Value := .agg #[.int .i64 P, v]
def BoxD (w : World) (g : Nat) (P : Int) (v : Value) : Prop := w.cell? ⟨g, 0, none⟩ = some (.int .i64 P) ∧ w.cell? ⟨g, 1, none⟩ = some v
theorem BoxD.keep {w0 w : World} {g : Nat} {P : Int} {v : Value} (h : BoxD w0 g P v) (hb : Below w0.heap.size w0 w) : BoxD w g P v := by
  obtain ⟨h1, h2⟩ := h
  have hg : g < w0.heap.size := by
    rcases Nat.lt_or_ge g w0.heap.size with h | h
    · exact h
    · rw [World.cell?, Array.getElem?_eq_none h] at h1; cases h1
  exact ⟨by rw [hb.cell hg]; exact h1, by rw [hb.cell hg]; exact h2⟩
theorem St.oldBoxD {w0 w : World} {L : List Ent} {g : Nat} {P : Int} {v : Value} (h : St w0.heap.size w0 w L) (hr : BoxD w0 g P v) : BoxD w g P v := hr.keep h.below

theorem isBlock_c (v : Value) (xs : List Int) (P : Int) (w : World) (hv : RdI w v xs) :
    Calls Tryz.prog 97 #[v, .int .i64 P] w fun e w' => e = .returned (.bool (blkB P xs)) ∧ w = w' := by
  have hln := hv.len
  by_cases h0 : 0 < xs.length
  · have H : Hid (blkB P xs = validSetB xs P) := by rw [Hid, blkB, decide_eq_true h0]; rfl
    go_enter Tryz.func97, Tryz.ntmps97
    go_wp2_with (go_at_call 107; refine (ValidSet_c _ _ _ _ hv).mono ?_; rintro e w1 ⟨rfl, rfl⟩)
    go_ret
    exact ⟨by rw [H.out]; rfl, rfl⟩
  · have H : Hid (blkB P xs = false) := by rw [Hid, blkB, decide_eq_false h0]; rfl
    go_enter Tryz.func97, Tryz.ntmps97
    go_wp2_with fail
    go_ret
    exact ⟨by rw [H.out]; rfl, rfl⟩
theorem areBlocks1_c (v : Value) (xs : List Int) (g : Nat) (P : Int) (w : World) (hv : RdI w v xs) (hb : w.cell? ⟨g, 0, none⟩ = some (.int .i64 P)) :
    Calls Tryz.prog 96 #[v, .pointer (some ⟨g, 0, none⟩)] w (GivesB w (!blkB P xs)) := by
  go_enter Tryz.func96, Tryz.ntmps96
  go_wp2_with fail
  refine (isBlock_c _ _ _ _ hv).mono ?_
  rintro e w1 ⟨rfl, rfl⟩
  go_wp2_with fail
  go_ret
  exact ⟨rfl, St.refl w⟩
theorem anyR_not {p : List Int → Bool} {A : List (List Int)} : (!anyR (fun b => !p b) A) = A.all p := by
  unfold anyR
  induction A with
  | nil => rfl
  | cons a r ih => simp only [List.any_cons, List.all_cons, Bool.not_or, ih, Bool.not_not]
set_option maxHeartbeats 1000000 in
theorem areBlocks_c (v : Value) (us : List Value) (A : List (List Int)) (P : Int) (w : World) (hv : RII w v us A) :
    Calls Tryz.prog 73 #[v, .int .i64 P] w (GivesB w (inB P 1 32 && A.all (blkB P))) := by
  have hS1 := (St.refl w).newbox 2 #[.int .i64 P]
  have hcf := callFunc_go Tryz.func96 (by kernel_rfl) (by kernel_rfl)
  have hb := hS1.bcell 0 rfl 0 rfl
  cases hp : inB P 1 32
  · go_enter Tryz.func73, Tryz.ntmps73
    go_wp2_with (go_at_call 23; refine (within_c _ _ _ _).mono ?_; rw [hp]; rintro e w1 ⟨rfl, rfl⟩)
    go_ret
    exact ⟨rfl, hS1.out⟩
  · have hmf : ∀ (fn : Fn) (first cap : Array Value) (w : World), (Instr.makeFunc fn first cap).run Tryz.prog w = .ok (.func fn first cap) w := fun _ _ _ _ => rfl
    have hcall := Lib.hid (ContainsFuncR_c 96 #[.pointer (some ⟨w.heap.size, 0, none⟩)] (fun b => !blkB P b) v us A _ (hS1.oldII hv) hcf (fun j W hW hj => areBlocks1_c _ _ w.heap.size P W ((hW.oldII (hS1.oldII hv)).row j hj) (by
      have h2 := hS1.call0 hW
      exact h2.bcell 0 rfl 0 rfl)))
    clear hcf
    go_enter Tryz.func73, Tryz.ntmps73
    go_wp2_with (first | (go_at_call 23; refine (within_c _ _ _ _).mono ?_; rw [hp]; rintro e w1 ⟨rfl, rfl⟩) | (go_at_call 95; refine hcall.out.mono ?_; rintro e w2 ⟨rfl, h2⟩; have hS2 := hS1.call0 h2))
    go_ret
    exact ⟨ret_bool (by rw [anyR_not]; rfl), hS2.out⟩
set_option maxHeartbeats 1000000 in
theorem ValidDesign_c (P : Int) (v : Value) (us : List Value) (A : List (List Int)) (w : World) (hv : RII w v us A) :
    Calls Tryz.prog 57 #[dv P v] w (GivesB w (dOk P A)) := by
  have hS1 := (St.refl w).newbox 37 #[.int .i64 P, v]
  have hb0 := hS1.bcell 0 rfl 0 rfl
  have hb1 := hS1.bcell 0 rfl 1 rfl
  have hln := hv.len
  unfold dv
  have hcall := fun W a => Lib.hid (areBlocks_c v us A P W a)
  have hsrt := fun W a => Lib.hid (IsSortedR_c v us A W a)
  cases hp : inB P 1 32 && A.all (blkB P)
  · rw [hp] at hcall
    have H : Hid (dOk P A = false) := by rw [Hid, dOk, hp]; rfl
    go_enter Tryz.func57, Tryz.ntmps57
    go_wp2_with (go_at_call 73; refine (hcall _ (hS1.oldII hv)).out.mono ?_; rintro e w2 ⟨rfl, h2⟩; have hS2 := hS1.call0 h2)
    go_ret
    exact ⟨ret_bool H.out.symm, hS2.out⟩
  · rw [hp] at hcall
    by_cases hl : A.length ≤ 128
    · have H : Hid (dOk P A = srtB A) := by rw [Hid, dOk, hp, decide_eq_true hl]; rfl
      go_enter Tryz.func57, Tryz.ntmps57
      go_wp2_with (first | (go_at_call 73; refine (hcall _ (hS1.oldII hv)).out.mono ?_; rintro e w2 ⟨rfl, h2⟩; have hS2 := hS1.call0 h2; have c1 := hS2.bcell 0 rfl 1 rfl) | (go_at_call 74; refine (hsrt _ (hS2.oldII hv)).out.mono ?_; rintro e w3 ⟨rfl, h3⟩; have hS3 := hS2.call0 h3))
      go_ret
      exact ⟨ret_bool H.out.symm, hS3.out⟩
    · have H : Hid (dOk P A = false) := by rw [Hid, dOk, hp, decide_eq_false hl]; rfl
      have hl' : 128 < A.length := by omega
      go_enter Tryz.func57, Tryz.ntmps57
      go_wp2_with (go_at_call 73; refine (hcall _ (hS1.oldII hv)).out.mono ?_; rintro e w2 ⟨rfl, h2⟩; have hS2 := hS1.call0 h2; have c1 := hS2.bcell 0 rfl 1 rfl)
      go_ret
      exact ⟨ret_bool H.out.symm, hS2.out⟩

theorem blkB_in {P : Int} (h : 1 ≤ P ∧ P ≤ 32) (b : List Int) : blkB P b = (decide (0 < b.length) && incB (-1) P b) := by
  rw [blkB, validSetB, show inB P 0 32 = true by simp [inB]; omega, Bool.and_true]
theorem l10Block_c (v : Value) (xs : List Int) (P : Int) (w : World) (hv : RdI w v xs) (h : 1 ≤ P ∧ P ≤ 32) :
    Calls Tryz.prog 53 #[v, .int .i64 P] w (GivesB w (blkB P xs)) := by
  have hln := hv.len
  have hw : IntKind.i64.wrap (P - 1) = P - 1 := IntWalk.i64_in _ (by omega)
  by_cases h0 : 0 < xs.length
  · have H : Hid (blkB P xs = incB (-1) P xs) := by rw [Hid, blkB_in h, decide_eq_true h0]; rfl
    go_enter Tryz.func53, Tryz.ntmps53
    go_wp2_with (go_at_call 72; refine (l00Rises_c _ _ _ _ _ hv).mono ?_; rintro e w1 ⟨rfl, h1⟩)
    go_ret
    exact ⟨by rw [H.out]; rfl, h1⟩
  · have H : Hid (blkB P xs = false) := by rw [Hid, blkB, decide_eq_false h0]; rfl
    go_enter Tryz.func53, Tryz.ntmps53
    go_wp2_with fail
    go_ret
    exact ⟨by rw [H.out]; rfl, St.refl w⟩
theorem srtB_adj : ∀ {A : List (List Int)}, (∀ j, j + 1 < A.length → leL (xat A j) (xat A (j + 1)) = true) → srtB A = true
  | [], _ => rfl
  | [_], _ => rfl
  | a :: b :: r, h => by
    rw [srtB, Bool.and_eq_true]
    exact ⟨h 0 (by simp), srtB_adj fun j hj => h (j + 1) (by simp at hj ⊢; omega)⟩
set_option maxHeartbeats 4000000 in
set_option maxRecDepth 100000 in
theorem l10Ok_c (P : Int) (g : Nat) (v : Value) (us : List Value) (A : List (List Int)) (w : World) (hv : RII w v us A) (hb : BoxD w g P v) :
    Calls Tryz.prog 32 #[.pointer (some ⟨g, 0, none⟩)] w (GivesB w (dOk P A)) := by
  have hln := hv.len
  have hix := hv.ixe
  have q0 := fun s : SS w.heap.size w [] => (s.st.oldBoxD hb).1
  have q1 := fun s : SS w.heap.size w [] => (s.st.oldBoxD hb).2
  obtain ⟨b0, b1⟩ := id hb
  cases hp : inB P 1 32
  · have H : Hid (dOk P A = false) := by rw [Hid, dOk, hp]; rfl
    go_enter Tryz.func32, Tryz.ntmps32
    go_wp2_with (go_at_call 52; refine (l00In_c _ _ _ _).mono ?_; rw [hp]; rintro e w1 ⟨rfl, rfl⟩)
    go_ret
    exact ⟨ret_bool H.out.symm, St.refl w⟩
  · have hP : 1 ≤ P ∧ P ≤ 32 := by simpa [inB] using hp
    by_cases hl : A.length ≤ 128
    · have H0 : Hid (dOk P A = (A.all (blkB P) && srtB A)) := by rw [Hid, dOk, hp, decide_eq_true hl, Bool.and_true]; rfl
      go_enter Tryz.func32, Tryz.ntmps32
      go_wp2_with (go_at_call 52; refine (l00In_c _ _ _ _).mono ?_; rw [hp]; rintro e w1 ⟨rfl, rfl⟩)
      go_loopw [3] (fun i wr => ∃ k : Nat, k ≤ A.length ∧ i = .int .i64 k ∧ Hid ((∀ j, j < k → blkB P (xat A j) = true) ∧ (∀ j, j + 1 < k → leL (xat A j) (xat A (j + 1)) = true)) ∧ St w.heap.size w wr []) (fun i _ => A.length - (intOf i).toNat)
      case atStart => exact ⟨0, by omega, rfl, ⟨fun j hj => by omega, fun j hj => by omega⟩, St.refl w⟩
      case round =>
        clear b0 b1
        obtain ⟨k, hk, rfl, hI, hS⟩ := hrel
        obtain ⟨b0, b1⟩ := hS.oldBoxD hb
        by_cases hlt : k < A.length
        · have R1 := Lib.hid fun s : SS w.heap.size w [] => (s.st.oldII hv).row k hlt
          have hq1 := fun s : SS w.heap.size w [] => (s.st.oldII hv).cell k hlt
          have x1 := hix (k : Int) k rfl hlt
          cases hbk : blkB P (xat A k)
          · have HN : Hid (dOk P A = false) := by
              rw [Hid, H0.out, Bool.and_eq_false_iff]
              refine .inl (Bool.eq_false_iff.2 fun h => ?_)
              rw [List.all_eq_true.1 h _ (xat_mem hlt)] at hbk; cases hbk
            have Hbk := Lib.hid hbk
            go_wp2_with fail
            have hne : Nonempty (SS _ _ _) := ⟨⟨_, hS⟩⟩
            refine wp_region_st (by kernel_rfl) (by kernel_rfl) hS ?_
            repeat (go_big_quiet_step ((go_at_call 53; exact st_quiet (l10Block_c _ _ _ _ (R1.out _) hP))))
            refine wpQuiet_nil ?_
            rintro _ ⟨s2, rfl⟩
            have hS2 := s2.st
            generalize s2.w = w2 at hS2 ⊢
            go_wp2_with fail
            go_ret
            exact ⟨ret_bool HN.out.symm, hS2⟩
          · have Hbk := Lib.hid hbk
            by_cases hk0 : 0 < k
            · obtain ⟨m, hmk⟩ : ∃ m, m + 1 = k := ⟨k - 1, by omega⟩
              have R0 := Lib.hid fun s : SS w.heap.size w [] => (s.st.oldII hv).row m (by omega)
              have hq0 := fun s : SS w.heap.size w [] => (s.st.oldII hv).cell m (by omega)
              have x0 := hix ((k : Int) - 1) m (by omega) (by omega)
              have hw : IntKind.i64.wrap ((k : Int) - 1) = ((k : Int) - 1) := IntWalk.i64_in _ (by omega)
              have Hmk := Lib.hid hmk
              clear hmk
              cases hc : leL (xat A m) (xat A k)
              · have hgt : 0 < cmpI (xat A m) (xat A k) := by
                  have := of_decide_eq_false hc; omega
                have HN : Hid (dOk P A = false) := by
                  rw [Hid, H0.out, srtB_no (k := m) (by have := Hmk.out; omega) (by rw [Hmk.out]; exact hc), Bool.and_false]
                clear hc
                go_wp2_with fail
                have hne : Nonempty (SS _ _ _) := ⟨⟨_, hS⟩⟩
                refine wp_region_st (by kernel_rfl) (by kernel_rfl) hS ?_
                repeat (go_big_quiet_step ((first | (go_at_call 53; exact st_quiet (l10Block_c _ _ _ _ (R1.out _) hP)) | (go_at_call 54; exact st_quiet (sCompareLists_c _ _ _ _ _ (R0.out _) (R1.out _))))))
                refine wpQuiet_nil ?_
                rintro _ ⟨s2, rfl⟩
                have hS2 := s2.st
                generalize s2.w = w2 at hS2 ⊢
                go_wp2_with fail
                go_ret
                exact ⟨ret_bool HN.out.symm, hS2⟩
              · have hgt : ¬ 0 < cmpI (xat A m) (xat A k) := by
                  have := of_decide_eq_true hc; omega
                have Hc := Lib.hid hc
                clear hc
                go_wp2_with fail
                have hne : Nonempty (SS _ _ _) := ⟨⟨_, hS⟩⟩
                refine wp_region_st (by kernel_rfl) (by kernel_rfl) hS ?_
                repeat (go_big_quiet_step ((first | (go_at_call 53; exact st_quiet (l10Block_c _ _ _ _ (R1.out _) hP)) | (go_at_call 54; exact st_quiet (sCompareLists_c _ _ _ _ _ (R0.out _) (R1.out _))))))
                refine wpQuiet_nil ?_
                rintro _ ⟨s2, rfl⟩
                have hS2 := s2.st
                generalize s2.w = w2 at hS2 ⊢
                go_wp2_with fail
                go_roundw
                case rel => exact ⟨k + 1, by omega, by go_num, ⟨fun j hj => by
                  by_cases e : j = k
                  · rw [e]; exact Hbk.out
                  · exact hI.out.1 j (by omega), fun j hj => by
                  by_cases e : j = m
                  · rw [e, Hmk.out]; exact Hc.out
                  · exact hI.out.2 j (by have := Hmk.out; omega)⟩, hS2⟩
                case measure => simp [intOf]; omega
            · go_wp2_with fail
              have hne : Nonempty (SS _ _ _) := ⟨⟨_, hS⟩⟩
              refine wp_region_st (by kernel_rfl) (by kernel_rfl) hS ?_
              repeat (go_big_quiet_step ((go_at_call 53; exact st_quiet (l10Block_c _ _ _ _ (R1.out _) hP))))
              refine wpQuiet_nil ?_
              rintro _ ⟨s2, rfl⟩
              have hS2 := s2.st
              generalize s2.w = w2 at hS2 ⊢
              go_wp2_with fail
              go_roundw
              case rel => exact ⟨k + 1, by omega, by go_num, ⟨fun j hj => by
                rw [show j = k by omega]; exact Hbk.out, fun j hj => by omega⟩, hS2⟩
              case measure => simp [intOf]; omega
        · obtain rfl : k = A.length := by omega
          have HY : Hid (dOk P A = true) := by
            rw [Hid, H0.out, Bool.and_eq_true]
            refine ⟨List.all_eq_true.2 fun b hb' => ?_, srtB_adj hI.out.2⟩
            obtain ⟨j, hj, rfl⟩ := List.getElem_of_mem hb'
            have := hI.out.1 j hj
            rwa [xat_eq hj] at this
          go_wp2_with fail
          go_ret
          exact ⟨ret_bool HY.out.symm, hS⟩
    · have H : Hid (dOk P A = false) := by rw [Hid, dOk, hp, decide_eq_false hl]; simp
      have hl' : 128 < A.length := by omega
      go_enter Tryz.func32, Tryz.ntmps32
      go_wp2_with (go_at_call 52; refine (l00In_c _ _ _ _).mono ?_; rw [hp]; rintro e w1 ⟨rfl, rfl⟩)
      go_ret
      exact ⟨ret_bool H.out.symm, St.refl w⟩

end Go.Proofs.YtnodcfhdfpeokaaGreat
end

section
/- Walks: a design of sorted copies; complements. -/
namespace Go.Proofs.YtnodcfhdfpeokaaGreat
set_option linter.unusedSimpArgs false
set_option linter.unusedVariables false
open Go.RowKit
attribute [local go_sem ↓] Go.wp_at_zero Go.wp_at_succ

/-- it hands over a design of its own, and a code -/
def MakesD (w : World) (P : Int) (A : List (List Int)) (c : Int) (e : Ending) (w' : World) : Prop := ∃ v us, e = .returned (.tuple #[dv P v, .int .i64 c]) ∧ us.length = A.length ∧ St w.heap.size w w' (own2 v us A)
theorem MakesD.no {w w' : World} {L : List Ent} {c : Int} (h : St w.heap.size w w' L) : MakesD w 0 [] c (.returned (.tuple #[.agg #[.int .i64 0, .slice none 0 0], .int .i64 c])) w' :=
  ⟨_, [], rfl, rfl, h.out.newnil _⟩
set_option maxHeartbeats 1000000 in
theorem sorted_c (P : Int) (v : Value) (us : List Value) (A : List (List Int)) (w : World) (hv : RII w v us A) (hl : A.length ≤ 128) (hN : ∀ xs ∈ A, xs.length ≤ 1048576) :
    Calls Tryz.prog 31 #[.int .i64 P, v] w (MakesD w P (srtL A) 0) := by
  have hS0 := (St.refl w).newboxF 37 #[.int .i64 0, .slice none 0 0]
  have hln := hv.len
  have hc := Lib.hid (copyLists_c v us A _ (hS0.oldII hv) (by omega) hN)
  go_enter Tryz.func31, Tryz.ntmps31
  go_wp2_with fail
  refine hc.out.mono ?_
  clear hc
  rintro e w1 ⟨v1, us1, rfl, hl1, h1⟩
  have h2 := hS0.call h1
  obtain ⟨a1, c1, hv1⟩ := (h1.rd 0 (e := 31) (v := v1) (us := us1) rfl).sl.sh
  rw [hl1] at hv1
  subst hv1
  have hB := h2.newboxF 37 #[.int .i64 P, .slice a1 A.length c1]
  have b0 := hB.bcell 0 rfl 0 rfl
  have b1 := hB.bcell 0 rfl 1 rfl
  have h3 := hB.perm (L' := own2 (.slice a1 A.length c1) us1 A ++ [box 37 w.heap.size [.int .i64 0, .slice none 0 0], box 37 w1.heap.size [.int .i64 P, .slice a1 A.length c1]]) (by (try simp only [own2, List.cons_append, List.nil_append, List.append_nil]); classical exact List.perm_iff_count.2 (fun a => by simp only [List.cons_append, List.nil_append, List.append_nil, List.count_append, List.count_cons, List.count_nil] <;> omega))
  clear h1 h2 hB hS0
  go_wp2_with fail
  refine (SortRows_c h3 hl1 (by omega)).mono ?_
  rintro e w2 ⟨us2, rfl, hl2, h4⟩
  have h5 := h4.perm (L' := box 37 w.heap.size [.int .i64 0, .slice none 0 0] :: box 37 w1.heap.size [.int .i64 P, .slice a1 A.length c1] :: own2 (.slice a1 A.length c1) us2 (srtL A)) (by (try simp only [own2, List.cons_append, List.nil_append, List.append_nil]); classical exact List.perm_iff_count.2 (fun a => by simp only [List.cons_append, List.nil_append, List.append_nil, List.count_append, List.count_cons, List.count_nil] <;> omega))
  clear h3 h4 b0 b1
  have b0 := h5.bcell 1 rfl 0 rfl
  have b1 := h5.bcell 1 rfl 1 rfl
  have e0 := h5.bcell 0 rfl 0 rfl
  have e1 := h5.bcell 0 rfl 1 rfl
  have f0 := h5.bfree 0 rfl
  have h6 := (h5.bstore 0 rfl 0 (.int .i64 P)).bstore 0 rfl 1 (.slice a1 A.length c1)
  have d0 := h6.bcell 0 rfl 0 rfl
  have d1 := h6.bcell 0 rfl 1 rfl
  go_wp2_with fail
  refine bodyPost_ret (v := .tuple #[.agg #[.int .i64 P, .slice a1 A.length c1], .int .i64 0]) (by simp [results, Tryz.results31, go_sem, d0, d1]) rfl ?_
  exact ⟨_, us2, rfl, by rw [hl2, srtL_len], h6.sub ((List.sublist_cons_self _ _).trans (List.sublist_cons_self _ _))⟩

end Go.Proofs.YtnodcfhdfpeokaaGreat
end

section
/- Walks: the reference's sorting of blocks. -/
namespace Go.Proofs.YtnodcfhdfpeokaaGreat
set_option linter.unusedSimpArgs false
set_option linter.unusedVariables false
open Go.RowKit
attribute [local go_sem ↓] Go.wp_at_zero Go.wp_at_succ

section
variable {a : Act} {w : World} {Q : Exit → Act → World → Prop} {ops : Array Oper} {rest : List Oper} {o : Oper} {B : Nat} {w0 : World} {L : List Ent}
end
theorem rslII_lo2 {w : World} {v : Value} {us : List Value} (h : Rd w v us) (lo : Nat) (h2 : lo ≤ us.length) (W : World) :
    (Instr.slice 24 v (some (.int .i64 (lo : Int))) none none).run Tryz.prog W = .ok (rsl v lo us.length) W := by
  obtain ⟨⟨a, cap, rfl, hc1, hc2, ha⟩, hcell⟩ := h
  rw [run_slice_l W 24 a _ cap und_elem_iis .i64 lo (by omega) (by omega), run_size_elemII]
  rfl
end Go.Proofs.YtnodcfhdfpeokaaGreat
end

section
/- Walks: the design of a Hadamard matrix, of the program. -/
namespace Go.Proofs.YtnodcfhdfpeokaaGreat
set_option linter.unusedSimpArgs false
set_option linter.unusedVariables false
open Go.RowKit
attribute [local go_sem ↓] Go.wp_at_zero Go.wp_at_succ

theorem upF_snoc (f : Int → Bool) : ∀ k lo : Nat, upF f lo (k + 1) = upF f lo k ++ if f ((lo + k : Nat) : Int) = true then [((lo + k : Nat) : Int)] else []
  | 0, lo => by simp [upF]
  | k + 1, lo => by
    rw [upF, upF_snoc f k (lo + 1), show lo + 1 + k = lo + (k + 1) by omega]
    rw [show upF f lo (k + 1) = if f lo then (lo : Int) :: upF f (lo + 1) k else upF f (lo + 1) k from rfl]
    by_cases h : f (lo : Int) = true
    · rw [if_pos h, if_pos h]; rfl
    · rw [if_neg h, if_neg h]
theorem upF_lenO (f : Int → Bool) : ∀ k lo, (upF f lo k).length ≤ k
  | 0, _ => Nat.le_refl _
  | k + 1, lo => by
    rw [upF]
    split
    · simpa using upF_lenO f k (lo + 1)
    · exact Nat.le_succ_of_le (upF_lenO f k (lo + 1))
set_option maxHeartbeats 4000000 in
set_option maxRecDepth 100000 in
theorem DesignOfHadamard_no (v : Value) (us : List Value) (H : List (List Int)) (n : Nat) (w : World) (hv : RII w v us H) (hH : Had n H) (h4 : n < 4) :
    Calls Tryz.prog 15 #[v] w (MakesD w 0 [] 6) := by
  have hln := hv.len
  rw [hH.sqr.len] at hln
  have hS0 := (St.refl w).newboxF 37 #[.int .i64 0, .slice none 0 0]
  have HV := Lib.hid (ValidHadamard_c v us H n _ (hS0.oldII hv) hH)
  clear hH
  go_enter Tryz.func15, Tryz.ntmps15
  go_wp2_with fail
  refine HV.out.mono ?_
  clear HV
  rintro e w1 ⟨rfl, h1⟩
  have hB := hS0.call0 h1
  have c0 := hB.bcell 0 rfl 0 rfl
  have c1 := hB.bcell 0 rfl 1 rfl
  have f0 := hB.bfree 0 rfl
  have h6 := (hB.bstore 0 rfl 0 (.int .i64 0)).bstore 0 rfl 1 (.slice none 0 0)
  have d0 := h6.bcell 0 rfl 0 rfl
  have d1 := h6.bcell 0 rfl 1 rfl
  clear hB hS0 h1
  go_wp2_with fail
  refine bodyPost_ret (v := .tuple #[.agg #[.int .i64 0, .slice none 0 0], .int .i64 6]) (by simp [results, Tryz.results15, go_sem, d0, d1]) rfl ?_
  exact MakesD.no h6
set_option maxHeartbeats 8000000 in
set_option maxRecDepth 100000 in
theorem DesignOfHadamard_c (v : Value) (us : List Value) (H : List (List Int)) (n : Nat) (w : World) (hv : RII w v us H) (hH : Had n H) (h4 : 4 ≤ n) :
    Calls Tryz.prog 15 #[v] w (MakesD w ((n - 1 : Nat) : Int) (srtL (hbA n (nmL n H))) 0) := by
  have hln := hv.len
  rw [hH.sqr.len] at hln
  have n2 := hH.le
  have hS0 := (St.refl w).newboxF 37 #[.int .i64 0, .slice none 0 0]
  have HV := Lib.hid (ValidHadamard_c v us H n _ (hS0.oldII hv) hH)
  have HN := fun W h => Lib.hid (normalHadamard_c v us H n W h hH)
  have HZ := fun W h => Lib.hid (szII_c v us H W h)
  rw [hH.sqr.len] at HZ
  have HNh := Lib.hid (nm_nm hH).had
  generalize nmL n H = N at *
  clear hH
  go_enter Tryz.func15, Tryz.ntmps15
  go_wp2_with fail
  refine HV.out.mono ?_
  clear HV
  rintro e w1 ⟨rfl, h1⟩
  have hS1 := hS0.call0 h1
  clear h1 hS0
  go_wp2_with fail
  refine (HN _ (hS1.oldII hv)).out.mono ?_
  clear HN
  rintro e w2 ⟨vn, un, rfl, hl2, h2⟩
  have hS2 := hS1.call h2
  have hN := h2.rii hl2
  have hNl : N.length = n := HNh.out.sqr.len
  have hsl : ∀ W, (Instr.slice 24 vn (some (.int .i64 1)) none none).run Tryz.prog W = .ok (rsl vn 1 n) W := fun W => by
    have := rslII_lo2 hN.1 1 (by rw [hN.2.1]; omega) W
    rw [hN.2.1, hNl] at this
    exact this
  have hD := hN.rs2 (lo := 1) (hi := n) (by omega) (by omega)
  have hDl : ((N.take n).drop 1).length = n - 1 := by simp [hNl]
  have hDx : ∀ k, k < n - 1 → xat ((N.take n).drop 1) k = xat N (k + 1) := fun k hk => by
    rw [xat_eq (by rw [hDl]; exact hk), xat_eq (by omega)]; simp [Nat.add_comm]
  have hlD := hD.len
  have hxD := hD.ixe
  rw [hDl] at hlD hxD
  have HDl := Lib.hid hDl
  have HDx := Lib.hid hDx
  have hS3 := (St.refl w2).newnil 31
  clear hDl hDx h2 hl2 hS1
  generalize (un.take n).drop 1 = ud at *
  generalize (N.take n).drop 1 = D at *
  have Hn := Lib.hid hNl
  clear hNl
  go_wp2_with fail
  go_loopw [4, 6, 7, 8, 9, 22] (fun o _ _ _ _ i wr => ∃ (k : Nat) (uo : List Value), k ≤ n - 1 ∧ i = .int .i64 k ∧ Hid (uo.length = ((hbA n N).take k).length) ∧ St w2.heap.size w2 wr (own2 o uo ((hbA n N).take k))) (fun _ _ _ _ _ i _ => n - 1 - (intOf i).toNat)
  case atStart => exact ⟨0, [], by omega, rfl, rfl, hS3⟩
  case round =>
    clear hS3
    obtain ⟨k, uo, hk, rfl, hl, hS⟩ := hrel
    by_cases hlt : k < n - 1
    · have Hk := Lib.hid (show (hbA n N).take (k + 1) = (hbA n N).take k ++ [hbl n N k] by
        rw [take_xat (by rw [hbA_len]; exact hlt)]
        rw [xat_eq (by rw [hbA_len]; exact hlt)]; simp [hbA])
      have hlk : Hid (((hbA n N).take k).length = k) := by unfold Hid; rw [List.length_take, hbA_len]; omega
      have c1 := (hS.oldII hD).cell k (by rw [HDl.out]; exact hlt)
      have x1 := hxD (k : Int) k rfl hlt
      have hrow := hD.row k (by rw [HDl.out]; exact hlt)
      rw [HDx.out k hlt] at hrow
      have hrl : (xat N (k + 1)).length = n := HNh.out.sqr.row (k + 1) (by omega)
      have hs1 : ∀ W, (Instr.slice 31 (vat ud k) (some (.int .i64 1)) none none).run Tryz.prog W = .ok (rsl (vat ud k) 1 n) W := fun W => by
        have := rsl_lo hrow 1 (by omega) W
        rw [hrl] at this
        exact this
      have hrs := rsl_rd hrow (lo := 1) (hi := n) (by omega) (by omega)
      have hrsl : (((xat N (k + 1)).take n).drop 1).length = n - 1 := by simp [hrl]
      have hlr := hrs.len
      have hxr := hrs.ixe
      rw [hrsl] at hlr hxr
      have Hat := Lib.hid (fun y (hy : y < n - 1) => (show nth (((xat N (k + 1)).take n).drop 1) y = at2 N (k + 1) (y + 1) from by
        rw [nth_eq (by rw [hrsl]; exact hy), at2, nth_eq (by rw [hrl]; omega)]; simp [Nat.add_comm]))
      have Hrsl := Lib.hid hrsl
      clear hrsl hrl
      have hS3 := (hS.newnil 2).perm List.perm_append_comm
      simp only [List.cons_append, List.nil_append] at hS3
      go_wp2_with fail
      go_loopw [7, 8, 9, 29] (fun r _ _ j wx => ∃ y : Nat, y ≤ n - 1 ∧ j = .int .i64 y ∧ St w2.heap.size w2 wx (row 2 r (iv (upF (fun x => at2 N (k + 1) (x.toNat + 1) == 1) 0 y)) :: own2 u4 uo ((hbA n N).take k))) (fun _ _ _ j _ => n - 1 - (intOf j).toNat)
      case atStart => exact ⟨0, by omega, rfl, hS3⟩
      case round =>
        clear hS3 c1
        obtain ⟨y, hy, rfl, hS3⟩ := hrel
        by_cases hly : y < n - 1
        · have c2 := (hS3.oldI hrs).cell y (by rw [Hrsl.out]; exact hly)
          rw [Hat.out y hly] at c2
          have x2 := hxr (y : Int) y rfl hly
          have hst := upF_snoc (fun x => at2 N (k + 1) (x.toNat + 1) == 1) y 0
          simp only [Nat.zero_add, Int.toNat_natCast] at hst
          by_cases he : at2 N (k + 1) (y + 1) = 1
          · rw [if_pos (by simp [he])] at hst
            rw [he] at c2
            have hst := Lib.hid hst
            have hlen := Lib.hid (show (upF (fun x => at2 N (k + 1) (x.toNat + 1) == 1) 0 y).length < 4294967296 by have := upF_lenO (fun x => at2 N (k + 1) (x.toNat + 1) == 1) y 0; omega)
            clear he
            go_wp2_with (at_builtin; refine appI hS3 0 rfl hlen.out rfl _ _ rfl rfl _ rfl ?_; intro v4 w4 hS4)
            go_roundw
            case rel => exact ⟨y + 1, by omega, by go_num, by rw [hst.out]; exact hS4⟩
            case measure => simp [intOf]; omega
          · rw [if_neg (by simp [he]), List.append_nil] at hst
            have f := eq_f he
            have hst := Lib.hid hst
            clear he
            go_wp2_with fail
            go_roundw
            case rel => exact ⟨y + 1, by omega, by go_num, by rw [hst.out]; exact hS3⟩
            case measure => simp [intOf]; omega
        · obtain rfl : y = n - 1 := by omega
          rw [show upF (fun x => at2 N (k + 1) (x.toNat + 1) == 1) 0 (n - 1) = hbl n N k from rfl] at hS3
          obtain ⟨ar, cr, hre⟩ := (hS3.rdI 0 rfl).shq
          subst hre
          go_wp2_with (at_builtin; refine appII hS3 1 rfl (by rw [hl.out, hlk.out]; omega) rfl _ _ rfl rfl _ rfl rfl ?_; intro v4 w4 hS4)
          go_roundw
          case rel =>
            refine ⟨k + 1, uo ++ [.slice ar (hbl n N k).length cr], by omega, by go_num, by rw [Hid, Hk.out]; simp [hl.out], ?_⟩
            rw [Hk.out, own2, rowsI_app hl.out]
            simp only [own2, List.set_cons_succ, List.set_cons_zero] at hS4
            exact hS4.perm (by (try simp only [own2, List.cons_append, List.nil_append, List.append_nil]); classical exact List.perm_iff_count.2 (fun a => by simp only [List.cons_append, List.nil_append, List.append_nil, List.count_append, List.count_cons, List.count_nil] <;> omega))
          case measure => simp [intOf]; omega
    · obtain rfl : k = n - 1 := by omega
      rw [show (hbA n N).take (n - 1) = hbA n N from List.take_of_length_le (by rw [hbA_len]; omega)] at hS hl
      have ro := hS.rii hl.out
      have hs := Lib.hid (sorted_c ((n - 1 : Nat) : Int) u4 uo (hbA n N) _ ro (by rw [hbA_len]; omega) (fun xs hx => by
        obtain ⟨i, hi, rfl⟩ := mem_hbA.1 hx
        have := upF_lenO (fun x => at2 N (i + 1) (x.toNat + 1) == 1) (n - 1) 0
        unfold hbl; omega))
      have hB := hS2.call hS
      have eN : (n : Int) - 1 = ((n - 1 : Nat) : Int) := by omega
      have hZ := Lib.hid (HZ _ (hB.oldII hv))
      clear ro hS HZ
      go_wp2_with fail
      refine hZ.out.out.mono ?_
      clear hZ
      rintro e w4 ⟨rfl, rfl⟩
      go_wp2_with fail
      refine hs.out.mono ?_
      rintro e w5 ⟨v5, us5, rfl, hl5, h5⟩
      obtain ⟨ua, uc, hv5⟩ := (h5.rd 0 (e := 31) (v := v5) (us := us5) rfl).sl.sh
      rw [hl5] at hv5
      subst hv5
      have hB5 := hB.call h5
      have c0 := hB5.bcell 0 rfl 0 rfl
      have c1 := hB5.bcell 0 rfl 1 rfl
      have f0 := hB5.bfree 0 rfl
      have h6 := (hB5.bstore 0 rfl 0 (.int .i64 ((n - 1 : Nat) : Int))).bstore 0 rfl 1 (.slice ua (srtL (hbA n N)).length uc)
      have d0 := h6.bcell 0 rfl 0 rfl
      have d1 := h6.bcell 0 rfl 1 rfl
      clear hs hB h5
      unfold dv
      go_wp2_with fail
      refine bodyPost_ret (v := .tuple #[.agg #[.int .i64 ((n - 1 : Nat) : Int), .slice ua (srtL (hbA n N)).length uc], .int .i64 0]) (by simp [results, Tryz.results15, go_sem, d0, d1]) rfl ?_
      exact ⟨_, us5, rfl, hl5, h6.sub (L' := own2 (.slice ua (srtL (hbA n N)).length uc) us5 (srtL (hbA n N))) ((List.sublist_append_right (([] ++ own2 vn un N) ++ own2 u4 uo (hbA n N)) _).trans (List.sublist_cons_self _ _))⟩
end Go.Proofs.YtnodcfhdfpeokaaGreat
end

section
/- Images of sets under permutations; ranks of permutations. In plain terms. -/
namespace Go.Proofs.YtnodcfhdfpeokaaGreat
set_option linter.unusedSimpArgs false
set_option linter.unusedVariables false
theorem incB_pw : ∀ {xs : List Int} {l n : Int}, incB l n xs = true → xs.Pairwise (· < ·)
  | [], _, _, _ => List.Pairwise.nil
  | x :: t, l, n, h => by
    unfold incB at h; split at h
    · simp at h
    · exact List.Pairwise.cons (fun y hy => (incB_gt h y hy).1) (incB_pw h)
/-! ### ranks -/
end Go.Proofs.YtnodcfhdfpeokaaGreat
end

section
/- Walks: how often points and pairs of points occur in a design. -/
namespace Go.Proofs.YtnodcfhdfpeokaaGreat
set_option linter.unusedSimpArgs false
set_option linter.unusedVariables false
open Go.RowKit
attribute [local go_sem ↓] Go.wp_at_zero Go.wp_at_succ

/-- a block of points 0 .. P - 1 that increases -/
structure Inc (P : Nat) (b : List Int) : Prop where
  bd : ∀ i, i < b.length → 0 ≤ nth b i ∧ nth b i < P
  lt : ∀ i j, i < j → j < b.length → nth b i < nth b j
  len : b.length ≤ P
theorem inc_of {P : Nat} {b : List Int} (h : incB (-1) P b = true) : Inc P b where
  len := by have := inc_len h (by omega); omega
  bd i hi := by have := incB_gt h _ (nth_mem hi); omega
  lt i j hij hj := by
    have := List.pairwise_iff_getElem.1 (incB_pw h) i j (by omega) hj hij
    rwa [← nth_eq (show i < b.length by omega), ← nth_eq hj] at this
theorem DOk.inc' {P : Nat} {A : List (List Int)} (h : DOk P A) {k : Nat} (hk : k < A.length) : Inc P (xat A k) := inc_of (h.inc _ (xat_mem hk))
theorem Inc.nat {P : Nat} {b : List Int} (h : Inc P b) {i : Nat} (hi : i < b.length) : ∃ x : Nat, nth b i = x ∧ x < P :=
  ⟨(nth b i).toNat, by have := h.bd i hi; omega, by have := h.bd i hi; omega⟩
theorem Inc.fresh {P : Nat} {b : List Int} (h : Inc P b) {j : Nat} (hj : j < b.length) : nth b j ∉ b.take j := by
  intro hm
  obtain ⟨i, hi, he⟩ := List.getElem_of_mem hm
  have hi' : i < j := by simp at hi; omega
  rw [List.getElem_take, ← nth_eq (show i < b.length by omega)] at he
  have := h.lt i j hi' hj
  omega
theorem mem_take1 {b : List Int} {j : Nat} (hj : j < b.length) (x : Int) : x ∈ b.take (j + 1) ↔ x ∈ b.take j ∨ x = nth b j := by
  rw [List.take_add_one, List.getElem?_eq_getElem hj, nth_eq hj, List.mem_append]
  simp only [Option.toList, List.mem_singleton]
/-- how often the points have come up, behind k blocks and j points -/
def repS (P : Nat) (A : List (List Int)) (k j : Nat) : List Int := (List.range P).map fun x => repF (A.take k) x + if (x : Int) ∈ (xat A k).take j then 1 else 0
theorem repS_len (P : Nat) (A : List (List Int)) (k j : Nat) : (repS P A k j).length = P := by simp [repS]
theorem repS_at {P : Nat} {A : List (List Int)} {k j x : Nat} (hx : x < P) : nth (repS P A k j) x = repF (A.take k) x + if (x : Int) ∈ (xat A k).take j then 1 else 0 := by
  rw [nth_eq (by rw [repS_len]; exact hx)]; simp [repS]
theorem repS_0 (P : Nat) (A : List (List Int)) : repS P A 0 0 = List.replicate P 0 := by
  apply List.ext_getElem
  · simp [repS]
  · intro i h1 h2
    simp [repS, repF, cntD]
theorem repS_bd {P : Nat} {A : List (List Int)} {k j x : Nat} (hk : k < A.length) (hA : A.length ≤ 128) (hx : x < P) : 0 ≤ nth (repS P A k j) x ∧ nth (repS P A k j) x ≤ 129 := by
  rw [repS_at hx]
  have := cntD_bd (fun b => decide ((x : Int) ∈ b)) (A.take k)
  have hl : (A.take k).length ≤ 128 := by simp; omega
  unfold repF
  split <;> omega
theorem repS_step {P : Nat} {A : List (List Int)} {k j x : Nat} (hi : Inc P (xat A k)) (hj : j < (xat A k).length) (hx : nth (xat A k) j = x) (hxP : x < P) :
    (repS P A k j).set x (nth (repS P A k j) x + 1) = repS P A k (j + 1) := by
  apply List.ext_getElem
  · simp [repS]
  · intro i h1 h2
    have hiP : i < P := by simpa [repS] using h2
    rw [← nth_eq h2, repS_at hiP, List.getElem_set]
    have hf := hi.fresh hj
    rw [hx] at hf
    have hm := mem_take1 hj (i : Int)
    rw [hx] at hm
    by_cases e : x = i
    · subst e
      rw [if_pos rfl, repS_at hxP, if_neg hf, if_pos (hm.2 (.inr rfl))]; omega
    · rw [if_neg e, ← nth_eq (by rw [repS_len]; exact hiP), repS_at hiP]
      congr 1
      have : ((i : Int) ∈ (xat A k).take (j + 1)) ↔ (i : Int) ∈ (xat A k).take j := by rw [hm]; constructor
                                                                                       · rintro (h | h)
                                                                                         · exact h
                                                                                         · omega
                                                                                       · exact .inl
      simp only [this]
theorem repS_next {P : Nat} {A : List (List Int)} {k : Nat} (hk : k < A.length) : repS P A k (xat A k).length = repS P A (k + 1) 0 := by
  refine List.map_congr_left fun x _ => ?_
  rw [List.take_length, take_xat hk]
  unfold repF
  rw [cntD_snoc]
  simp
theorem repS_end {P : Nat} {A : List (List Int)} : repS P A A.length 0 = repL P A := by
  refine List.map_congr_left fun x _ => ?_
  rw [List.take_length]; simp

set_option maxHeartbeats 2000000 in
set_option maxRecDepth 100000 in
theorem replicationsOf_c (P : Nat) (v : Value) (us : List Value) (A : List (List Int)) (w : World) (hv : RII w v us A) (hD : DOk P A) :
    Calls Tryz.prog 76 #[dv P v] w (MakesI w (repL P A)) := by
  obtain ⟨a, c, hsh⟩ := hv.1.sl.sh
  rw [hv.2.1] at hsh
  subst hsh
  have hP := hD.le
  have hDl := hD.len
  have HD := Lib.hid hD
  clear hD
  have hS1 := (St.refl w).newboxF 37 #[.int .i64 P, .slice a A.length c]
  have b0 := hS1.bcell 0 rfl 0 rfl
  have b1 := hS1.bcell 0 rfl 1 rfl
  have hix := hv.ix
  unfold dv
  go_enter Tryz.func76, Tryz.ntmps76
  go_wp2_with (at_make; refine mkI hS1 rfl _ _ rfl _ _ P (by go_num) (by go_num) (by omega) ?_; intro vc w3 hS3; have b1 := hS3.bcell 0 rfl 1 rfl)
  have hxc := (hS3.rdI 1 rfl).ixe
  rw [← repS_0 P A] at hS3 hxc
  rw [repS_len] at hxc
  go_loopw [5, 7, 14] (fun _ _ i wr => ∃ k : Nat, k ≤ A.length ∧ i = .int .i64 k ∧ St w.heap.size w wr [box 37 w.heap.size [.int .i64 P, .slice a A.length c], row 2 vc (iv (repS P A k 0))]) (fun _ _ i _ => A.length - (intOf i).toNat)
  case atStart => exact ⟨0, by omega, rfl, hS3⟩
  case round =>
    clear hS3 b0 b1
    obtain ⟨k, hk, rfl, hS⟩ := hrel
    by_cases hlt : k < A.length
    · have hc := (hS.oldII hv).cell k hlt
      have hrk := (hS.oldII hv).row k hlt
      have hlk := hrk.len
      have hik := hrk.ix
      have HI := Lib.hid (HD.out.inc' hlt)
      have hl32 := HI.out.len
      have Hnx := Lib.hid (repS_next (P := P) hlt)
      go_wp2_with fail
      obtain ⟨wo, rfl⟩ : ∃ wo : World, wo = wr := ⟨_, rfl⟩
      go_loopw [7, 20] (fun _ i wr => ∃ j : Nat, j ≤ (xat A k).length ∧ i = .int .i64 j ∧ St w.heap.size w wr [box 37 w.heap.size [.int .i64 P, .slice a A.length c], row 2 vc (iv (repS P A k j))]) (fun _ i _ => (xat A k).length - (intOf i).toNat)
      case atStart => exact ⟨0, by omega, rfl, hS⟩
      case round =>
        clear hS hc hrk
        obtain ⟨j, hj, rfl, hS⟩ := hrel
        by_cases hjt : j < (xat A k).length
        · have cb := ((hS.oldII hv).row k hlt).cell j hjt
          obtain ⟨x, hx, hxP⟩ := HI.out.nat hjt
          rw [hx] at cb
          have Hst := Lib.hid (repS_step HI.out hjt hx hxP)
          have cx := (hS.rdI 1 rfl).cell x (by rw [repS_len]; exact hxP)
          have ux := hS.unfrozen 1 rfl (j := x) (by rw [iv_len, repS_len]; exact hxP)
          have xx := hxc (x : Int) x rfl hxP
          have hbd := repS_bd (P := P) (j := j) hlt hDl hxP
          have HS9 := Lib.hid (hS.store 1 rfl (j := x) (by rw [iv_len, repS_len]; exact hxP) (.int .i64 (nth (repS P A k j) x + 1)))
          generalize hq : nth (repS P A k j) x = q at *
          clear hq hx
          go_wp2_with fail
          have hS9 := HS9.out
          simp only [List.set_cons_zero, List.set_cons_succ] at hS9
          rw [iv_set, Hst.out] at hS9
          go_roundw
          case rel => exact ⟨j + 1, by omega, by go_num, hS9⟩
          case measure => simp [intOf]; omega
        · obtain rfl : j = (xat A k).length := by omega
          rw [Hnx.out] at hS
          go_wp2_with fail
          go_roundw
          case rel => exact ⟨k + 1, by omega, by go_num, hS⟩
          case measure => simp [intOf]; omega
    · obtain rfl : k = A.length := by omega
      rw [repS_end] at hS
      go_wp2_with fail
      go_ret
      exact ⟨vc, rfl, hS.sub (List.sublist_cons_self _ _)⟩
end Go.Proofs.YtnodcfhdfpeokaaGreat
end

section
/- Walks: how often pairs of points occur in a design. -/
namespace Go.Proofs.YtnodcfhdfpeokaaGreat
set_option linter.unusedSimpArgs false
set_option linter.unusedVariables false
open Go.RowKit
attribute [local go_sem ↓] Go.wp_at_zero Go.wp_at_succ

def parC (b : List Int) (i j x y : Nat) : Prop := ((x : Int) ∈ b.take i ∧ (y : Int) ∈ b) ∨ ((x : Int) = nth b i ∧ (y : Int) ∈ (b.drop (i + 1)).take j)
open Classical in
noncomputable def parT (A : List (List Int)) (k i j x y : Nat) : Int := parF (A.take k) x y + if parC (xat A k) i j x y then 1 else 0
/-- the table behind k blocks, i points and j further points -/
structure PrM (P : Nat) (A : List (List Int)) (k i j : Nat) (M : List (List Int)) : Prop where
  sq : Sqr P M
  at' : ∀ x y, x < y → y < P → at2 M x y = parT A k i j x y
theorem parT_bd {A : List (List Int)} {k i j x y : Nat} (hA : A.length ≤ 128) : 0 ≤ parT A k i j x y ∧ parT A k i j x y ≤ 129 := by
  unfold parT parF
  have := cntD_bd (fun b => decide ((x : Int) ∈ b) && decide ((y : Int) ∈ b)) (A.take k)
  have hl : (A.take k).length ≤ 128 := by simp; omega
  split <;> omega
theorem nth_drop (b : List Int) (i j : Nat) : nth (b.drop i) j = nth b (i + j) := by simp [nth]
theorem Inc.fresh2 {P : Nat} {b : List Int} (h : Inc P b) {i j : Nat} (hj : i + j < b.length) : nth b (i + j) ∉ (b.drop i).take j := by
  intro hm
  obtain ⟨m, hm', he⟩ := List.getElem_of_mem hm
  have hmj : m < j := by simp at hm'; omega
  rw [List.getElem_take, List.getElem_drop, ← nth_eq (show i + m < b.length by omega)] at he
  have := h.lt (i + m) (i + j) (by omega) hj
  omega
theorem PrM.step {P : Nat} {A : List (List Int)} {k i j x y : Nat} {M : List (List Int)} (h : PrM P A k i j M) (hi : Inc P (xat A k)) (hj : i + 1 + j < (xat A k).length) (hx : nth (xat A k) i = x) (hy : nth (xat A k) (i + 1 + j) = y) :
    PrM P A k i (j + 1) (putS M x y (at2 M x y + 1)) := by
  have hxP : x < P := by have := (hi.bd i (by omega)).2; omega
  have hyP : y < P := by have := (hi.bd (i + 1 + j) hj).2; omega
  have hxy : x < y := by have := hi.lt i (i + 1 + j) (by omega) hj; omega
  have hd : nth ((xat A k).drop (i + 1)) j = y := by rw [nth_drop, hy]
  have hdl : j < ((xat A k).drop (i + 1)).length := by simp; omega
  refine ⟨putS_sqr h.sq hxP _ _, fun t u htu huP => ?_⟩
  rw [at2_putS h.sq hxP hyP]
  have hm := mem_take1 hdl (u : Int)
  rw [hd] at hm
  by_cases e : x = t ∧ y = u
  · obtain ⟨rfl, rfl⟩ := e
    rw [if_pos ⟨rfl, rfl⟩, h.at' x y hxy hyP]
    have c0 : ¬ parC (xat A k) i j x y := by
      rintro (⟨h1, _⟩ | ⟨_, h2⟩)
      · have := hi.fresh (show i < (xat A k).length by omega); rw [hx] at this; exact this h1
      · have := hi.fresh2 (i := i + 1) (j := j) hj; rw [hy] at this; exact this h2
    have c1 : parC (xat A k) i (j + 1) x y := .inr ⟨hx.symm, hm.2 (.inr rfl)⟩
    unfold parT
    rw [if_neg c0, if_pos c1]; omega
  · rw [if_neg e, h.at' t u htu huP]
    unfold parT
    have : parC (xat A k) i j t u ↔ parC (xat A k) i (j + 1) t u := by
      unfold parC
      rw [hm, hx]
      constructor
      · rintro (h1 | ⟨h1, h2⟩)
        · exact .inl h1
        · exact .inr ⟨h1, .inl h2⟩
      · rintro (h1 | ⟨h1, h2 | h2⟩)
        · exact .inl h1
        · exact .inr ⟨h1, h2⟩
        · exact absurd ⟨by omega, by omega⟩ e
    by_cases hc : parC (xat A k) i j t u
    · rw [if_pos hc, if_pos (this.1 hc)]
    · rw [if_neg hc, if_neg (fun h => hc (this.2 h))]
theorem PrM.next {P : Nat} {A : List (List Int)} {k i : Nat} {M : List (List Int)} (h : PrM P A k i ((xat A k).length - (i + 1)) M) (hi : Inc P (xat A k)) (hl : i < (xat A k).length) : PrM P A k (i + 1) 0 M := by
  refine ⟨h.sq, fun x y hxy hy => ?_⟩
  rw [h.at' x y hxy hy]
  unfold parT
  have : parC (xat A k) i ((xat A k).length - (i + 1)) x y ↔ parC (xat A k) (i + 1) 0 x y := by
    unfold parC
    rw [mem_take1 hl, List.take_zero, show ((xat A k).drop (i + 1)).take ((xat A k).length - (i + 1)) = (xat A k).drop (i + 1) from List.take_of_length_le (by simp)]
    constructor
    · rintro (⟨h1, h2⟩ | ⟨h1, h2⟩)
      · exact .inl ⟨.inl h1, h2⟩
      · exact .inl ⟨.inr h1, List.mem_of_mem_drop h2⟩
    · rintro (⟨h1 | h1, h2⟩ | ⟨_, h2⟩)
      · exact .inl ⟨h1, h2⟩
      · refine .inr ⟨h1, ?_⟩
        obtain ⟨m, hm, he⟩ := List.getElem_of_mem h2
        rw [← nth_eq hm] at he
        have him : i < m := by
          rcases Nat.lt_trichotomy i m with h3 | h3 | h3
          · exact h3
          · subst h3; omega
          · have := hi.lt m i h3 hl; omega
        rw [List.mem_iff_getElem]
        exact ⟨m - (i + 1), by simp; omega, by rw [List.getElem_drop, ← he, nth_eq hm]; congr 1; omega⟩
      · cases h2
  by_cases hc : parC (xat A k) i ((xat A k).length - (i + 1)) x y
  · rw [if_pos hc, if_pos (this.1 hc)]
  · rw [if_neg hc, if_neg (fun h => hc (this.2 h))]
theorem PrM.block {P : Nat} {A : List (List Int)} {k : Nat} {M : List (List Int)} (h : PrM P A k (xat A k).length 0 M) (hk : k < A.length) : PrM P A (k + 1) 0 0 M := by
  refine ⟨h.sq, fun x y hxy hy => ?_⟩
  rw [h.at' x y hxy hy]
  unfold parT
  have c1 : ¬ parC (xat A (k + 1)) 0 0 x y := by rintro (⟨h1, _⟩ | ⟨_, h1⟩) <;> cases h1
  have c0 : parC (xat A k) (xat A k).length 0 x y ↔ ((x : Int) ∈ xat A k ∧ (y : Int) ∈ xat A k) := by
    unfold parC
    rw [List.take_length, List.take_zero]
    constructor
    · rintro (h1 | ⟨_, h1⟩)
      · exact h1
      · cases h1
    · exact .inl
  rw [if_neg c1, take_xat hk]
  unfold parF
  rw [cntD_snoc]
  by_cases hc : (x : Int) ∈ xat A k ∧ (y : Int) ∈ xat A k
  · rw [if_pos (c0.2 hc), if_pos (by rw [decide_eq_true hc.1, decide_eq_true hc.2]; rfl)]; omega
  · rw [if_neg (fun h => hc (c0.1 h)), if_neg (by rw [Bool.and_eq_true, decide_eq_true_eq, decide_eq_true_eq]; exact hc)]; omega
theorem PrM.start (P : Nat) (A : List (List Int)) : PrM P A 0 0 0 (sqF P fun _ _ => 0) := by
  refine ⟨sqF_sqr _ _, fun x y hxy hy => ?_⟩
  rw [at2_sqF (by omega) hy]
  unfold parT
  have c1 : ¬ parC (xat A 0) 0 0 x y := by rintro (⟨h1, _⟩ | ⟨_, h1⟩) <;> cases h1
  rw [if_neg c1]; simp [parF, cntD]
theorem PrM.row {P : Nat} {A : List (List Int)} {M : List (List Int)} (h : PrM P A A.length 0 0 M) {x : Nat} (hx : x < P) : ((xat M x).take P).drop (x + 1) = parR P A x := by
  have hl := h.sq.row x hx
  apply List.ext_getElem
  · simp [parR, hl]
  · intro t h1 h2
    have ht : t < P - (x + 1) := by simpa [parR] using h2
    rw [List.getElem_drop, List.getElem_take, ← nth_eq (by rw [hl]; omega)]
    have := h.at' x (x + 1 + t) (by omega) (by omega)
    have c1 : ¬ parC (xat A A.length) 0 0 x (x + 1 + t) := by rintro (⟨h1, _⟩ | ⟨_, h1⟩) <;> cases h1
    unfold parT at this
    rw [if_neg c1, List.take_length] at this
    rw [show nth (xat M x) (x + 1 + t) = at2 M x (x + 1 + t) from rfl, this]
    simp [parR]
theorem St.nilrow4 {B : Nat} {w0 w : World} {L : List Ent} (h : St B w0 w L) (e : TypeId) : St B w0 w (L ++ [row e (.slice none 0 0) []]) :=
  h.add ⟨rfl, rfl, rfl, Nat.le_refl _, fun _ _ _ => rfl⟩ _ (.inr (.inl ⟨rfl, rfl, rfl⟩)) (fun k hk => by simp [bk, row] at hk)
/-- the numbers of the pairs of the first k points -/
def parK (P : Nat) (A : List (List Int)) (k : Nat) : List Int := ((List.range k).map (parR P A)).flatten
theorem parK_succ (P : Nat) (A : List (List Int)) (k : Nat) : parK P A (k + 1) = parK P A k ++ parR P A k := by
  rw [parK, List.range_succ, List.map_append, List.flatten_append]; simp [parK]
theorem parK_len (P : Nat) (A : List (List Int)) : ∀ k, (parK P A k).length ≤ k * P
  | 0 => Nat.zero_le _
  | k + 1 => by
    rw [parK_succ, List.length_append, Nat.succ_mul]
    have := parK_len P A k
    have : (parR P A k).length ≤ P := by simp [parR]
    omega
theorem parK_end (P : Nat) (A : List (List Int)) : parK P A P = parL P A := rfl

set_option maxHeartbeats 4000000 in
set_option maxRecDepth 100000 in
theorem pairCounts_c (P : Nat) (v : Value) (us : List Value) (A : List (List Int)) (w : World) (hv : RII w v us A) (hD : DOk P A) :
    Calls Tryz.prog 75 #[dv P v] w (MakesI w (parL P A)) := by
  obtain ⟨a, c, hsh⟩ := hv.1.sl.sh
  rw [hv.2.1] at hsh
  subst hsh
  have hP := hD.le
  have hDl := hD.len
  have HD := Lib.hid hD
  clear hD
  have hS1 := (St.refl w).newboxF 37 #[.int .i64 P, .slice a A.length c]
  have b0 := hS1.bcell 0 rfl 0 rfl
  have b1 := hS1.bcell 0 rfl 1 rfl
  have hix := hv.ix
  unfold dv
  go_enter Tryz.func75, Tryz.ntmps75
  go_wp2_with fail
  refine (emptySquare_c P _ (by omega)).mono ?_
  rintro e w2 ⟨vo, uo, rfl, hlo, h2⟩
  have hS2 := hS1.call h2
  have b1 := hS2.bcell 0 rfl 1 rfl
  have hS3 := hS2.perm (L' := own2 vo uo (sqF P fun _ _ => 0) ++ [box 37 w.heap.size [.int .i64 P, .slice a A.length c]]) List.perm_append_comm
  have hM := PrM.start P A
  have hlo' : uo.length = P := by rw [hlo, hM.sq.len]
  have Hlo := Lib.hid hlo'
  have hro := h2.rii hlo
  have hxo := hro.ixe
  have hlno := hro.len
  rw [hM.sq.len] at hxo hlno
  generalize (sqF P fun _ _ => (0 : Int)) = M0 at *
  have HM := Lib.hid hM
  clear hS1 hS2 h2 hlo hlo' hM b0 hro
  go_wp2_with fail
  go_loopw [5, 6, 7, 9, 19] (fun _ _ _ _ i wr => ∃ (k : Nat) (M : List (List Int)), k ≤ A.length ∧ i = .int .i64 k ∧ Hid (PrM P A k 0 0 M) ∧ St w.heap.size w wr (own2 vo uo M ++ [box 37 w.heap.size [.int .i64 P, .slice a A.length c]])) (fun _ _ _ _ i _ => A.length - (intOf i).toNat)
  case atStart => exact ⟨0, M0, by omega, rfl, HM, hS3⟩
  case round =>
    clear hS3 b1 HM
    obtain ⟨k, M, hk, rfl, hM, hS⟩ := hrel
    by_cases hlt : k < A.length
    · have hc := (hS.oldII hv).cell k hlt
      have hrk := (hS.oldII hv).row k hlt
      have hlk := hrk.len
      have hik := hrk.ix
      have HI := Lib.hid (HD.out.inc' hlt)
      have hl32 := HI.out.len
      go_wp2_with fail
      obtain ⟨wo, rfl⟩ : ∃ wo : World, wo = wr := ⟨_, rfl⟩
      go_loopw [6, 7, 9, 25] (fun _ _ _ m wr => ∃ (i : Nat) (M : List (List Int)), i ≤ (xat A k).length ∧ m = .int .i64 i ∧ Hid (PrM P A k i 0 M) ∧ St w.heap.size w wr (own2 vo uo M ++ [box 37 w.heap.size [.int .i64 P, .slice a A.length c]])) (fun _ _ _ m _ => (xat A k).length - (intOf m).toNat)
      case atStart => exact ⟨0, M, by omega, rfl, hM, hS⟩
      case round =>
        clear hS hc hrk hM
        obtain ⟨i, M, hi, rfl, hM, hS⟩ := hrel
        by_cases hil : i < (xat A k).length
        · have hrk := (hS.oldII hv).row k hlt
          have ci := hrk.cell i hil
          obtain ⟨x, hx, hxP⟩ := HI.out.nat hil
          rw [hx] at ci
          have hsl : ∀ W, (Instr.slice 31 (vat us k) (some (.int .i64 ((i : Int) + 1))) none none).run Tryz.prog W = .ok (rsl (vat us k) (i + 1) (xat A k).length) W := fun W => by
            have := rsl_lo hrk (i + 1) (by omega) W; rwa [show ((i + 1 : Nat) : Int) = (i : Int) + 1 by omega] at this
          have hsr := rsl_rd hrk (lo := i + 1) (hi := (xat A k).length) (by omega) (Nat.le_refl _)
          rw [List.take_length] at hsr
          have hsn := hsr.len
          have hsx := hsr.ix
          have hdl : ((xat A k).drop (i + 1)).length = (xat A k).length - (i + 1) := by simp
          rw [hdl] at hsn hsx
          have Hx := Lib.hid hx
          have Hsr := Lib.hid (fun W (hW : St w.heap.size w W (own2 vo uo M ++ [box 37 w.heap.size [.int .i64 P, .slice a A.length c]])) => hW)
          clear Hsr hsr hdl hx
          go_wp2_with fail
          obtain ⟨wq, rfl⟩ : ∃ wq : World, wq = wr := ⟨_, rfl⟩
          go_loopw [9, 35] (fun _ m wr => ∃ (j : Nat) (M : List (List Int)), j ≤ (xat A k).length - (i + 1) ∧ m = .int .i64 j ∧ Hid (PrM P A k i j M) ∧ St w.heap.size w wr (own2 vo uo M ++ [box 37 w.heap.size [.int .i64 P, .slice a A.length c]])) (fun _ m _ => (xat A k).length - (intOf m).toNat)
          case atStart => exact ⟨0, M, by omega, rfl, hM, hS⟩
          case round =>
            clear hS hM hrk ci
            obtain ⟨j, M, hj, rfl, hM, hS⟩ := hrel
            by_cases hjl : j < (xat A k).length - (i + 1)
            · have hrk := (hS.oldII hv).row k hlt
              have hsr := rsl_rd hrk (lo := i + 1) (hi := (xat A k).length) (by omega) (Nat.le_refl _)
              rw [List.take_length] at hsr
              have cj := hsr.cell j (by simp; omega)
              rw [nth_drop] at cj
              obtain ⟨y, hy, hyP⟩ := HI.out.nat (show i + 1 + j < (xat A k).length by omega)
              rw [hy] at cj
              have hst := Lib.hid (hM.out.step HI.out (by omega) Hx.out hy)
              have hMl := hM.out.sq.len
              have hMr := hM.out.sq.row x hxP
              have hlS : uo.length = M.length := by rw [Hlo.out, hMl]
              have hat := hS.at_row hlS (j := x) (by rw [hMl]; exact hxP)
              have hrx := hS.rdI (x + 1) hat
              have cx := (rii2 hS hlS).cell x (by rw [hMl]; exact hxP)
              have cxy : wr.cell? (el (vat uo x) y) = some (.int .i64 (at2 M x y)) := hrx.cell y (by rw [hMr]; exact hyP)
              have uxy := hS.unfrozen (x + 1) hat (j := y) (by rw [iv_len, hMr]; exact hyP)
              have xx := hxo (x : Int) x rfl hxP
              have xy := hrx.ixe (y : Int) y rfl (by rw [hMr]; exact hyP)
              have hbd : 0 ≤ at2 M x y ∧ at2 M x y ≤ 129 := by
                rw [hM.out.at' x y (by have := HI.out.lt i (i + 1 + j) (by omega) (by omega); have := Hx.out; omega) hyP]; exact parT_bd hDl
              have HS9 := Lib.hid (hS.store (x + 1) hat (j := y) (by rw [iv_len, hMr]; exact hyP) (.int .i64 (at2 M x y + 1)))
              have Hset := Lib.hid (own2_set (v := vo) (L2 := [box 37 w.heap.size [.int .i64 P, .slice a A.length c]]) hlS (j := x) (by rw [hMl]; exact hxP) ((xat M x).set y (at2 M x y + 1)))
              unfold putS at hst
              generalize at2 M x y = q at *
              clear hat hrx hlS hMl hMr hy hrk hsr hM hS
              go_wp2_with fail
              have hS9 := HS9.out
              rw [iv_set, Hset.out] at hS9
              go_roundw
              case rel => exact ⟨j + 1, _, by omega, by go_num, hst, hS9⟩
              case measure => simp [intOf]; omega
            · obtain rfl : j = (xat A k).length - (i + 1) := by omega
              have HN := Lib.hid (hM.out.next HI.out hil)
              go_wp2_with fail
              go_roundw
              case rel => exact ⟨i + 1, M, by omega, by go_num, HN, hS⟩
              case measure => simp [intOf]; omega
        · obtain rfl : i = (xat A k).length := by omega
          have HN := Lib.hid (hM.out.block hlt)
          go_wp2_with fail
          go_roundw
          case rel => exact ⟨k + 1, M, by omega, by go_num, HN, hS⟩
          case measure => simp [intOf]; omega
    · obtain rfl : k = A.length := by omega
      have hN0 := (hS.nilrow4 2).perm (L' := row 2 (.slice none 0 0) [] :: (own2 vo uo M ++ [box 37 w.heap.size [.int .i64 P, .slice a A.length c]])) (by (try simp only [own2, List.cons_append, List.nil_append, List.append_nil]); classical exact List.perm_iff_count.2 (fun a => by simp only [List.cons_append, List.nil_append, List.append_nil, List.count_append, List.count_cons, List.count_nil] <;> omega))
      have hMl := hM.out.sq.len
      have hMr := Lib.hid hM.out.sq.row
      have hlS := Lib.hid (show uo.length = M.length by rw [Hlo.out, hMl])
      clear hS
      go_wp2_with fail
      go_loopw [10, 11, 12, 53] (fun ct _ _ i wr => ∃ x : Nat, x ≤ P ∧ i = .int .i64 x ∧ St w.heap.size w wr (row 2 ct (iv (parK P A x)) :: (own2 vo uo M ++ [box 37 w.heap.size [.int .i64 P, .slice a A.length c]]))) (fun _ _ _ i _ => P - (intOf i).toNat)
      case atStart => exact ⟨0, by omega, rfl, hN0⟩
      case round =>
        clear hN0
        obtain ⟨x, hx, rfl, hS⟩ := hrel
        by_cases hxP : x < P
        · have hR := rii2 (hS.sub (List.sublist_cons_self _ _)) hlS.out
          have cx := hR.cell x (by rw [hMl]; exact hxP)
          have hrx := hR.row x (by rw [hMl]; exact hxP)
          have hxl := hMr.out x hxP
          have hsl : ∀ W, (Instr.slice 31 (vat uo x) (some (.int .i64 ((x : Int) + 1))) none none).run Tryz.prog W = .ok (rsl (vat uo x) (x + 1) (xat M x).length) W := fun W => by
            have := rsl_lo hrx (x + 1) (by rw [hxl]; omega) W; rwa [show ((x + 1 : Nat) : Int) = (x : Int) + 1 by omega] at this
          have hsr := rsl_rd hrx (lo := x + 1) (hi := (xat M x).length) (by rw [hxl]; omega) (Nat.le_refl _)
          rw [hxl] at hsl hsr
          rw [hM.out.row hxP] at hsr
          have Hsr := Lib.hid hsr
          have hpl := Lib.hid (show (parK P A x).length + (parR P A x).length < 100000 by
            have := parK_len P A x
            have h2 : x * P ≤ 32 * 32 := Nat.mul_le_mul (by omega) (by omega)
            have : (parR P A x).length ≤ P := by simp [parR]
            omega)
          clear hrx hR hsr hxl
          have xx := hxo (x : Int) x rfl hxP
          go_wp2_with (at_builtin; refine appsI hS 0 rfl _ _ Hsr.out (by have := hpl.out; omega) rfl _ _ rfl rfl rfl ?_; intro v2 w2 hS2)
          simp only [List.set_cons_zero] at hS2
          rw [← parK_succ] at hS2
          go_roundw
          case rel => exact ⟨x + 1, by omega, by go_num, hS2⟩
          case measure => simp [intOf]; omega
        · obtain rfl : x = P := by omega
          rw [parK_end] at hS
          go_wp2_with fail
          go_ret
          exact ⟨_, rfl, hS.sub (by simp)⟩
end Go.Proofs.YtnodcfhdfpeokaaGreat
end

section
/- Walks: the parameters of a balanced design. -/
namespace Go.Proofs.YtnodcfhdfpeokaaGreat
set_option linter.unusedSimpArgs false
set_option linter.unusedVariables false
open Go.RowKit
attribute [local go_sem ↓] Go.wp_at_zero Go.wp_at_succ

/-- parameters as a value -/
def pmV (xs : List Int) : Value := .agg #[.int .i64 (nth xs 0), .int .i64 (nth xs 1), .int .i64 (nth xs 2), .int .i64 (nth xs 3), .int .i64 (nth xs 4)]
def MakesPr (w : World) (xs : List Int) (b : Bool) (e : Ending) (w' : World) : Prop := e = .returned (.tuple #[pmV xs, .bool b]) ∧ St w.heap.size w w' []
theorem prmV_no {P : Nat} {A : List (List Int)} (h : prmB P A = false) : prmV P A = [0, 0, 0, 0, 0] := by unfold prmV; rw [if_neg (by rw [h]; decide)]
theorem MakesPr.no {w w' : World} {L : List Ent} {P : Nat} {A : List (List Int)} (h : prmB P A = false) (hS : St w.heap.size w w' L) :
    MakesPr w (prmV P A) (prmB P A) (.returned (.tuple #[.agg #[.int .i64 0, .int .i64 0, .int .i64 0, .int .i64 0, .int .i64 0], .bool false])) w' := by
  rw [prmV_no h, h]; exact ⟨rfl, hS.out⟩
theorem prm_no1 {P : Nat} {A : List (List Int)} (h : ¬ (2 ≤ P ∧ 0 < A.length ∧ 2 ≤ (xat A 0).length)) : prmB P A = false := by
  unfold prmB
  by_cases h1 : 2 ≤ P
  · by_cases h2 : 0 < A.length
    · have h3 : ¬ 2 ≤ (xat A 0).length := fun h3 => h ⟨h1, h2, h3⟩
      simp [h3]
    · simp [h2]
  · simp [h1]
theorem prm_no2 {P : Nat} {A : List (List Int)} {k : Nat} (hk : k < A.length) (h : (xat A k).length ≠ (xat A 0).length) : prmB P A = false := by
  unfold prmB
  have : (A.all fun b => b.length == (xat A 0).length) = false := by
    rw [Bool.eq_false_iff]; intro hh
    have := List.all_eq_true.1 hh _ (xat_mem hk)
    simp at this; exact h this
  rw [this]; simp
theorem prm_no3 {P : Nat} {A : List (List Int)} {k : Nat} (hk : k < (parL P A).length) (h : nth (parL P A) k ≠ nth (parL P A) 0) : prmB P A = false := by
  unfold prmB
  have : ((parL P A).all fun c => c == nth (parL P A) 0) = false := by
    rw [Bool.eq_false_iff]; intro hh
    have := List.all_eq_true.1 hh _ (nth_mem hk)
    simp at this; exact h this
  rw [this]; simp
theorem prm_yes {P : Nat} {A : List (List Int)} (h1 : 2 ≤ P ∧ 0 < A.length ∧ 2 ≤ (xat A 0).length) (h2 : ∀ k, k < A.length → (xat A k).length = (xat A 0).length) (h3 : ∀ k, k < (parL P A).length → nth (parL P A) k = nth (parL P A) 0) : prmB P A = true := by
  unfold prmB
  have e1 : (A.all fun b => b.length == (xat A 0).length) = true := List.all_eq_true.2 fun b hb => by
    obtain ⟨k, hk, rfl⟩ := List.getElem_of_mem hb
    have := h2 k hk
    rw [xat_eq hk] at this; simp [this]
  have e2 : ((parL P A).all fun c => c == nth (parL P A) 0) = true := List.all_eq_true.2 fun b hb => by
    obtain ⟨k, hk, rfl⟩ := List.getElem_of_mem hb
    have := h3 k hk
    rw [nth_eq hk] at this; simp [this]
  rw [e1, e2]; simp [h1]
theorem prm_val {P : Nat} {A : List (List Int)} (h : prmB P A = true) : prmV P A = [(P : Int), (A.length : Int), nth (repL P A) 0, ((xat A 0).length : Int), nth (parL P A) 0] := by unfold prmV; rw [if_pos h]
theorem parL_pos {P : Nat} {A : List (List Int)} (h : 2 ≤ P) : 0 < (parL P A).length := by
  rw [← parK_end, show P = (P - 1) + 1 by omega]
  have : ∀ k, 0 < k → 0 < (parK (P - 1 + 1) A k).length := by
    intro k hk
    induction k with
    | zero => omega
    | succ k ih =>
      rw [parK_succ, List.length_append]
      rcases Nat.eq_zero_or_pos k with rfl | h0
      · simp [parR]; omega
      · have := ih h0; omega
  exact this _ (by omega)
theorem repL_len (P : Nat) (A : List (List Int)) : (repL P A).length = P := by simp [repL]

set_option maxHeartbeats 8000000 in
set_option maxRecDepth 100000 in
theorem parametersOf_c (P : Nat) (v : Value) (us : List Value) (A : List (List Int)) (w : World) (hv : RII w v us A) (hD : DOk P A) :
    Calls Tryz.prog 58 #[dv P v] w (MakesPr w (prmV P A) (prmB P A)) := by
  obtain ⟨a, c, hsh⟩ := hv.1.sl.sh
  rw [hv.2.1] at hsh
  subst hsh
  have hP := hD.le
  have hDl := hD.len
  have HD := Lib.hid hD
  clear hD
  have hS1 := ((St.refl w).newboxF 37 #[.int .i64 P, .slice a A.length c]).newboxF 41 #[.int .i64 0, .int .i64 0, .int .i64 0, .int .i64 0, .int .i64 0]
  simp only [World.size_alloc] at hS1
  have b0 := hS1.bcell 1 rfl 0 rfl
  have b1 := hS1.bcell 1 rfl 1 rfl
  have hix := hv.ix
  have f0 := hS1.bfree 0 rfl
  have r0 := hS1.bcell 0 rfl 0 rfl
  have r1 := hS1.bcell 0 rfl 1 rfl
  have r2 := hS1.bcell 0 rfl 2 rfl
  have r3 := hS1.bcell 0 rfl 3 rfl
  have r4 := hS1.bcell 0 rfl 4 rfl
  unfold dv
  by_cases h1 : 2 ≤ P
  · by_cases h2 : 0 < A.length
    · have fz := eq_f (show ¬ (A.length : Int) = 0 by omega)
      have cz := (hS1.oldII hv).cell 0 h2
      have hl0 := (hv.row 0 h2).len
      by_cases h3 : 2 ≤ (xat A 0).length
      · have HPC := Lib.hid (pairCounts_c P (.slice a A.length c) us A _ (hS1.oldII hv) HD.out)
        have hC0 := parL_pos (A := A) h1
        have H1 := Lib.hid (And.intro h1 (And.intro h2 h3))
        have h3' : ¬ ((xat A 0).length : Int) < 2 := by omega
        have h1' : ¬ (P : Int) < 2 := by omega
        have x0 := hv.ixe 0 0 rfl h2
        have HR := fun W h => Lib.hid (replicationsOf_c P (.slice a A.length c) us A W h HD.out)
        have hprm := Lib.hid (fun h h' => prm_val (prm_yes (A := A) H1.out h h'))
        have hprb := Lib.hid (fun h h' => prm_yes (A := A) H1.out h h')
        unfold dv at HPC HR
        go_enter Tryz.func58, Tryz.ntmps58
        go_wp2_with fail
        refine HPC.out.mono ?_
        clear HPC r0 r1 r2 r3 r4 f0 b0 b1 cz
        rintro e w2 ⟨vc, rfl, h4⟩
        have hS2 := hS1.call h4
        have b1 := hS2.bcell 1 rfl 1 rfl
        have hlc := (h4.rdI 0 rfl).len
        have hic := (h4.rdI 0 rfl).ix
        have xc0 := (h4.rdI 0 rfl).ixe 0 0 rfl hC0
        have hCle : (parL P A).length ≤ 1024 := by
          have := parK_len P A P
          have h2 : P * P ≤ 32 * 32 := Nat.mul_le_mul (by omega) (by omega)
          rw [parK_end] at this; omega
        have HN2 := Lib.hid (fun k (hk : k < A.length) (h : (xat A k).length ≠ (xat A 0).length) => prm_no2 (P := P) hk h)
        have HN3 := Lib.hid (fun k (hk : k < (parL P A).length) (h : nth (parL P A) k ≠ nth (parL P A) 0) => prm_no3 hk h)
        generalize parL P A = C at *
        clear hS1 h4
        simp only [List.cons_append, List.nil_append] at hS2
        go_wp2_with fail
        go_loopw [6, 32] (fun _ i wr => ∃ k : Nat, k ≤ A.length ∧ i = .int .i64 k ∧ Hid (∀ j, j < k → (xat A j).length = (xat A 0).length) ∧ St w.heap.size w wr [box 41 (w.heap.size + 1) [.int .i64 0, .int .i64 0, .int .i64 0, .int .i64 0, .int .i64 0], box 37 w.heap.size [.int .i64 P, .slice a A.length c], row 2 vc (iv C)]) (fun _ i _ => A.length - (intOf i).toNat)
        case atStart => exact ⟨0, by omega, rfl, fun j hj => by omega, hS2⟩
        case round =>
          clear hS2 b1
          obtain ⟨k, hk, rfl, hI, hS⟩ := hrel
          have b1 := hS.bcell 1 rfl 1 rfl
          by_cases hlt : k < A.length
          · have ck := (hS.oldII hv).cell k hlt
            have cz := (hS.oldII hv).cell 0 h2
            have hlk := (hv.row k hlt).len
            by_cases he : (xat A k).length = (xat A 0).length
            · have f := ne_f (show ((xat A k).length : Int) = (xat A 0).length by omega)
              have He := Lib.hid he
              clear he
              go_wp2_with fail
              go_roundw
              case rel => exact ⟨k + 1, by omega, by go_num, fun j hj => by
                by_cases e : j = k
                · rw [e]; exact He.out
                · exact hI.out j (by omega), hS⟩
              case measure => simp [intOf]; omega
            · have f := ne_t (fun e : ((xat A k).length : Int) = (xat A 0).length => he (by omega))
              have HN := Lib.hid (HN2.out k hlt he)
              clear he
              have r0 := hS.bcell 0 rfl 0 rfl
              have r1 := hS.bcell 0 rfl 1 rfl
              have r2 := hS.bcell 0 rfl 2 rfl
              have r3 := hS.bcell 0 rfl 3 rfl
              have r4 := hS.bcell 0 rfl 4 rfl
              have f0 := hS.bfree 0 rfl
              have hZ := ((((hS.bstore 0 rfl 0 (.int .i64 0)).bstore 0 rfl 1 (.int .i64 0)).bstore 0 rfl 2 (.int .i64 0)).bstore 0 rfl 3 (.int .i64 0)).bstore 0 rfl 4 (.int .i64 0)
              have z0 := hZ.bcell 0 rfl 0 rfl
              have z1 := hZ.bcell 0 rfl 1 rfl
              have z2 := hZ.bcell 0 rfl 2 rfl
              have z3 := hZ.bcell 0 rfl 3 rfl
              have z4 := hZ.bcell 0 rfl 4 rfl
              go_wp2_with fail
              refine bodyPost_ret (v := .tuple #[.agg #[.int .i64 0, .int .i64 0, .int .i64 0, .int .i64 0, .int .i64 0], .bool false]) (by simp [results, Tryz.results58, go_sem, z0, z1, z2, z3, z4]) rfl ?_
              exact MakesPr.no HN.out hZ
          · obtain rfl : k = A.length := by omega
            have hall := hI
            clear hI
            go_wp2_with fail
            go_loopw [8, 48] (fun _ i wr => ∃ k : Nat, k ≤ C.length ∧ i = .int .i64 k ∧ Hid (∀ j, j < k → nth C j = nth C 0) ∧ St w.heap.size w wr [box 41 (w.heap.size + 1) [.int .i64 0, .int .i64 0, .int .i64 0, .int .i64 0, .int .i64 0], box 37 w.heap.size [.int .i64 P, .slice a A.length c], row 2 vc (iv C)]) (fun _ i _ => C.length - (intOf i).toNat)
            case atStart => exact ⟨0, by omega, rfl, fun j hj => by omega, hS⟩
            case round =>
              clear hS b1
              obtain ⟨k, hk, rfl, hI, hS⟩ := hrel
              by_cases hlt : k < C.length
              · have ck := (hS.rdI 2 rfl).cell k hlt
                have cz := (hS.rdI 2 rfl).cell 0 hC0
                by_cases he : nth C k = nth C 0
                · have f := ne_f he
                  have He := Lib.hid he
                  clear he
                  go_wp2_with fail
                  go_roundw
                  case rel => exact ⟨k + 1, by omega, by go_num, fun j hj => by
                    by_cases e : j = k
                    · rw [e]; exact He.out
                    · exact hI.out j (by omega), hS⟩
                  case measure => simp [intOf]; omega
                · have f := ne_t he
                  have HN := Lib.hid (HN3.out k hlt he)
                  clear he
                  have r0 := hS.bcell 0 rfl 0 rfl
                  have r1 := hS.bcell 0 rfl 1 rfl
                  have r2 := hS.bcell 0 rfl 2 rfl
                  have r3 := hS.bcell 0 rfl 3 rfl
                  have r4 := hS.bcell 0 rfl 4 rfl
                  have f0 := hS.bfree 0 rfl
                  have hZ := ((((hS.bstore 0 rfl 0 (.int .i64 0)).bstore 0 rfl 1 (.int .i64 0)).bstore 0 rfl 2 (.int .i64 0)).bstore 0 rfl 3 (.int .i64 0)).bstore 0 rfl 4 (.int .i64 0)
                  have z0 := hZ.bcell 0 rfl 0 rfl
                  have z1 := hZ.bcell 0 rfl 1 rfl
                  have z2 := hZ.bcell 0 rfl 2 rfl
                  have z3 := hZ.bcell 0 rfl 3 rfl
                  have z4 := hZ.bcell 0 rfl 4 rfl
                  go_wp2_with fail
                  refine bodyPost_ret (v := .tuple #[.agg #[.int .i64 0, .int .i64 0, .int .i64 0, .int .i64 0, .int .i64 0], .bool false]) (by simp [results, Tryz.results58, go_sem, z0, z1, z2, z3, z4]) rfl ?_
                  exact MakesPr.no HN.out hZ
              · obtain rfl : k = C.length := by omega
                have HV := Lib.hid (hprm.out hall.out hI.out)
                have HB := Lib.hid (hprb.out hall.out hI.out)
                have b0 := hS.bcell 1 rfl 0 rfl
                have b1 := hS.bcell 1 rfl 1 rfl
                have cz := (hS.oldII hv).cell 0 h2
                have c0 := (hS.rdI 2 rfl).cell 0 hC0
                have hS3 := hS.drew
                clear hI hprm hprb HN2 HN3
                go_wp2_with fail
                refine regionG (fun w' => w'.cell? ⟨w.heap.size, 0, none⟩ = some (.int .i64 P) ∧ w'.cell? ⟨w.heap.size, 1, none⟩ = some (.slice a A.length c) ∧ w'.cell? (el (.slice a A.length c) 0) = some (vat us 0) ∧ w'.cell? (el vc 0) = some (.int .i64 (nth C 0))) 18 (by kernel_rfl) ⟨cell_dr b0, cell_dr b1, cell_dr cz, cell_dr c0⟩ (fun hHeld => ?_)
                refine takeP (i := 0) (v := ?_) rfl (by kernel_rfl) (fun _ _ _ h => h) (by rfl) ?_ (by assumption) ?_
                case refine_2 => (intro w'; go_simp; first | done | with_reducible rfl)
                try simp only [Act.put, List.setIfInBounds_toArray, List.set_cons_zero, List.set_cons_succ]
                refine takeH (i := 1) [17] (v := ?_) rfl (by kernel_rfl) (fun _ _ _ h => h) (by rfl) ?_ (by assumption) ?_
                case refine_2 => (intro w' hSw; (try dsimp only at hSw); go_simp; first | done | with_reducible rfl)
                try simp only [Act.put, List.setIfInBounds_toArray, List.set_cons_zero, List.set_cons_succ]
                refine takeP (i := 2) (v := ?_) rfl (by kernel_rfl) (fun _ _ _ h => h) (by rfl) ?_ (by assumption) ?_
                case refine_2 => (intro w'; go_simp; first | done | with_reducible rfl)
                try simp only [Act.put, List.setIfInBounds_toArray, List.set_cons_zero, List.set_cons_succ]
                refine takeH (i := 3) [4, 17] (v := ?_) rfl (by kernel_rfl) (fun _ _ _ h => h) (by rfl) ?_ (by assumption) ?_
                case refine_2 => (intro w' hSw; (try dsimp only at hSw); go_simp; first | done | with_reducible rfl)
                try simp only [Act.put, List.setIfInBounds_toArray, List.set_cons_zero, List.set_cons_succ]
                refine takeH (i := 5) [6, 7, 8, 17] (v := ?_) rfl (by kernel_rfl) (fun _ _ _ h => h) (by rfl) ?_ (by assumption) ?_
                case refine_2 => (intro w' hSw; (try dsimp only at hSw); go_simp; first | done | with_reducible rfl)
                try simp only [Act.put, List.setIfInBounds_toArray, List.set_cons_zero, List.set_cons_succ]
                refine takeP (i := 9) (v := ?_) rfl (by kernel_rfl) (fun _ _ _ h => h) (by rfl) ?_ (by assumption) ?_
                case refine_2 => (intro w'; go_simp; first | done | with_reducible rfl)
                try simp only [Act.put, List.setIfInBounds_toArray, List.set_cons_zero, List.set_cons_succ]
                refine takeH (i := 10) [11, 12, 13, 17] (v := ?_) rfl (by kernel_rfl) (fun _ _ _ h => h) (by rfl) ?_ (by assumption) ?_
                case refine_2 => (intro w' hSw; (try dsimp only at hSw); go_simp; first | done | with_reducible rfl)
                try simp only [Act.put, List.setIfInBounds_toArray, List.set_cons_zero, List.set_cons_succ]
                refine takeP (i := 11) (v := ?_) rfl (by kernel_rfl) (fun _ _ _ h => h) (by rfl) ?_ (by assumption) ?_
                case refine_2 => (intro w'; go_simp; first | done | with_reducible rfl)
                try simp only [Act.put, List.setIfInBounds_toArray, List.set_cons_zero, List.set_cons_succ]
                refine takeH (i := 12) [13, 17] (v := ?_) rfl (by kernel_rfl) (fun _ _ _ h => h) (by rfl) ?_ (by assumption) ?_
                case refine_2 => (intro w' hSw; (try dsimp only at hSw); go_simp; first | done | with_reducible rfl)
                try simp only [Act.put, List.setIfInBounds_toArray, List.set_cons_zero, List.set_cons_succ]
                refine takeP (i := 14) (v := ?_) rfl (by kernel_rfl) (fun _ _ _ h => h) (by rfl) ?_ (by assumption) ?_
                case refine_2 => (intro w'; go_simp; first | done | with_reducible rfl)
                try simp only [Act.put, List.setIfInBounds_toArray, List.set_cons_zero, List.set_cons_succ]
                refine takeP (i := 15) (v := ?_) rfl (by kernel_rfl) (fun _ _ _ h => h) (by rfl) ?_ (by assumption) ?_
                case refine_2 => (intro w'; go_simp; first | done | with_reducible rfl)
                try simp only [Act.put, List.setIfInBounds_toArray, List.set_cons_zero, List.set_cons_succ]
                refine takeH (i := 16) [17] (v := ?_) rfl (by kernel_rfl) (fun _ _ _ h => h) (by rfl) ?_ (by assumption) ?_
                case refine_2 => (intro w' hSw; (try dsimp only at hSw); go_simp; first | done | with_reducible rfl)
                try simp only [Act.put, List.setIfInBounds_toArray, List.set_cons_zero, List.set_cons_succ]
                refine readyG (rs := [4]) (by kernel_rfl) (by simp) ?_
                refine AllG.cons rfl (fun K hK => ?_) AllG.nil
                go_simp
                refine (szII_c _ us A _ (hS3.oldII hv)).mono ?_
                rintro e w4 ⟨rfl, rfl⟩
                refine hK.out _ _ ⟨cell_dr b0, cell_dr b1, cell_dr cz, cell_dr c0⟩ (fun hHeld => ?_)
                clear hK K
                try simp only [Act.put, List.setIfInBounds_toArray, List.set_cons_zero, List.set_cons_succ]
                refine readyG (rs := [6]) (by kernel_rfl) (by simp) ?_
                refine AllG.cons rfl (fun K hK => ?_) AllG.nil
                go_simp
                refine (HR _ (hS3.oldII hv)).out.mono ?_
                rintro e w5 ⟨vr, rfl, h5⟩
                have hS5 := hS3.call h5
                have e0 := hS5.bcell 1 rfl 0 rfl
                have e1 := hS5.bcell 1 rfl 1 rfl
                have ez := (hS5.oldII hv).cell 0 h2
                have ec := (hS5.rdI 2 rfl).cell 0 hC0
                have xr0 := (h5.rdI 0 rfl).ixe 0 0 rfl (by rw [repL_len]; omega)
                have cr0 := (h5.rdI 0 rfl).cell 0 (by rw [repL_len]; omega)
                have rz := Lib.hid ((hS5.oldII hv).row 0 h2)
                have hS6 := Lib.hid hS5
                refine hK.out _ _ ⟨e0, e1, ez, ec⟩ (fun hHeld => ?_)
                clear hK K h5 hS3 hS b0 b1 cz c0
                try simp only [Act.put, List.setIfInBounds_toArray, List.set_cons_zero, List.set_cons_succ]
                refine takeP (i := 7) (v := ?_) rfl (by kernel_rfl) (fun _ _ _ h => h) (by rfl) ?_ (by assumption) ?_
                case refine_2 => (intro w'; go_simp; first | done | with_reducible rfl)
                try simp only [Act.put, List.setIfInBounds_toArray, List.set_cons_zero, List.set_cons_succ]
                refine readyG (rs := [8, 13]) (by kernel_rfl) (by simp) ?_
                refine AllG.cons rfl (fun K hK => ?_) (AllG.cons rfl (fun K hK => ?_) AllG.nil)
                · go_simp
                  refine hK.out _ _ ⟨e0, e1, ez, ec⟩ (fun hHeld => ?_)
                  clear hK K
                  try simp only [Act.put, List.setIfInBounds_toArray, List.set_cons_zero, List.set_cons_succ]
                  refine readyG (rs := [13]) (by kernel_rfl) (by simp) ?_
                  refine AllG.cons rfl (fun K hK => ?_) AllG.nil
                  go_simp
                  refine (size_c _ _ _ rz.out).mono ?_
                  rintro e w6 ⟨rfl, rfl⟩
                  refine hK.out _ _ ⟨e0, e1, ez, ec⟩ (fun hHeld => ?_)
                  clear hK K
                  try simp only [Act.put, List.setIfInBounds_toArray, List.set_cons_zero, List.set_cons_succ]
                  have t0 := hS5.bcell 0 rfl 0 rfl
                  have t1 := hS5.bcell 0 rfl 1 rfl
                  have t2 := hS5.bcell 0 rfl 2 rfl
                  have t3 := hS5.bcell 0 rfl 3 rfl
                  have t4 := hS5.bcell 0 rfl 4 rfl
                  have f0 := hS5.bfree 0 rfl
                  refine takeP (i := 17) (v := ?_) rfl (by kernel_rfl) (fun _ _ _ h => h) (by rfl) ?_ (by assumption) ?_
                  case refine_2 => (intro w'; go_simp; first | done | with_reducible rfl)
                  try simp only [Act.put, List.setIfInBounds_toArray, List.set_cons_zero, List.set_cons_succ]
                  refine readyG (rs := [18]) (by kernel_rfl) (by simp) ?_
                  refine AllG.last rfl (by kernel_rfl) (fun K hK => ?_) AllG.nil
                  go_simp
                  refine hK.out _ _ ?_
                  clear hK K
                  try simp only [Act.put, List.setIfInBounds_toArray, List.set_cons_zero, List.set_cons_succ]
                  refine readyG (rs := [19]) (by kernel_rfl) (by simp) ?_
                  refine AllG.last rfl (by kernel_rfl) (fun K hK => ?_) AllG.nil
                  go_simp
                  refine hK.out _ _ ?_
                  clear hK K
                  try simp only [Act.put, List.setIfInBounds_toArray, List.set_cons_zero, List.set_cons_succ]
                  refine doneG (by kernel_rfl) ?_ _
                  refine NoPanic.normal ?_
                  have hZ := ((((hS6.out.bstore 0 rfl 0 (.int .i64 P)).bstore 0 rfl 1 (.int .i64 A.length)).bstore 0 rfl 2 (.int .i64 (nth (repL P A) 0))).bstore 0 rfl 3 (.int .i64 (xat A 0).length)).bstore 0 rfl 4 (.int .i64 (nth C 0))
                  have z0 := hZ.bcell 0 rfl 0 rfl
                  have z1 := hZ.bcell 0 rfl 1 rfl
                  have z2 := hZ.bcell 0 rfl 2 rfl
                  have z3 := hZ.bcell 0 rfl 3 rfl
                  have z4 := hZ.bcell 0 rfl 4 rfl
                  clear hS5 t0 t1 t2 t3 t4
                  go_wp2_with fail
                  refine bodyPost_ret (v := .tuple #[.agg #[.int .i64 P, .int .i64 A.length, .int .i64 (nth (repL P A) 0), .int .i64 (xat A 0).length, .int .i64 (nth C 0)], .bool true]) (by simp [results, Tryz.results58, go_sem, z0, z1, z2, z3, z4]) rfl ?_
                  rw [HB.out, HV.out]
                  exact ⟨rfl, hZ.out⟩
                · go_simp
                  refine (size_c _ _ _ rz.out).mono ?_
                  rintro e w6 ⟨rfl, rfl⟩
                  refine hK.out _ _ ⟨e0, e1, ez, ec⟩ (fun hHeld => ?_)
                  clear hK K
                  try simp only [Act.put, List.setIfInBounds_toArray, List.set_cons_zero, List.set_cons_succ]
                  refine readyG (rs := [8]) (by kernel_rfl) (by simp) ?_
                  refine AllG.cons rfl (fun K hK => ?_) AllG.nil
                  go_simp
                  refine hK.out _ _ ⟨e0, e1, ez, ec⟩ (fun hHeld => ?_)
                  clear hK K
                  try simp only [Act.put, List.setIfInBounds_toArray, List.set_cons_zero, List.set_cons_succ]
                  have t0 := hS5.bcell 0 rfl 0 rfl
                  have t1 := hS5.bcell 0 rfl 1 rfl
                  have t2 := hS5.bcell 0 rfl 2 rfl
                  have t3 := hS5.bcell 0 rfl 3 rfl
                  have t4 := hS5.bcell 0 rfl 4 rfl
                  have f0 := hS5.bfree 0 rfl
                  refine takeP (i := 17) (v := ?_) rfl (by kernel_rfl) (fun _ _ _ h => h) (by rfl) ?_ (by assumption) ?_
                  case refine_2 => (intro w'; go_simp; first | done | with_reducible rfl)
                  try simp only [Act.put, List.setIfInBounds_toArray, List.set_cons_zero, List.set_cons_succ]
                  refine readyG (rs := [18]) (by kernel_rfl) (by simp) ?_
                  refine AllG.last rfl (by kernel_rfl) (fun K hK => ?_) AllG.nil
                  go_simp
                  refine hK.out _ _ ?_
                  clear hK K
                  try simp only [Act.put, List.setIfInBounds_toArray, List.set_cons_zero, List.set_cons_succ]
                  refine readyG (rs := [19]) (by kernel_rfl) (by simp) ?_
                  refine AllG.last rfl (by kernel_rfl) (fun K hK => ?_) AllG.nil
                  go_simp
                  refine hK.out _ _ ?_
                  clear hK K
                  try simp only [Act.put, List.setIfInBounds_toArray, List.set_cons_zero, List.set_cons_succ]
                  refine doneG (by kernel_rfl) ?_ _
                  refine NoPanic.normal ?_
                  have hZ := ((((hS6.out.bstore 0 rfl 0 (.int .i64 P)).bstore 0 rfl 1 (.int .i64 A.length)).bstore 0 rfl 2 (.int .i64 (nth (repL P A) 0))).bstore 0 rfl 3 (.int .i64 (xat A 0).length)).bstore 0 rfl 4 (.int .i64 (nth C 0))
                  have z0 := hZ.bcell 0 rfl 0 rfl
                  have z1 := hZ.bcell 0 rfl 1 rfl
                  have z2 := hZ.bcell 0 rfl 2 rfl
                  have z3 := hZ.bcell 0 rfl 3 rfl
                  have z4 := hZ.bcell 0 rfl 4 rfl
                  clear hS5 t0 t1 t2 t3 t4
                  go_wp2_with fail
                  refine bodyPost_ret (v := .tuple #[.agg #[.int .i64 P, .int .i64 A.length, .int .i64 (nth (repL P A) 0), .int .i64 (xat A 0).length, .int .i64 (nth C 0)], .bool true]) (by simp [results, Tryz.results58, go_sem, z0, z1, z2, z3, z4]) rfl ?_
                  rw [HB.out, HV.out]
                  exact ⟨rfl, hZ.out⟩
      · have H := Lib.hid (prm_no1 (P := P) (A := A) (fun h => h3 h.2.2))
        go_enter Tryz.func58, Tryz.ntmps58
        go_wp2_with fail
        refine bodyPost_ret (v := .tuple #[.agg #[.int .i64 0, .int .i64 0, .int .i64 0, .int .i64 0, .int .i64 0], .bool false]) (by simp [results, Tryz.results58, go_sem, r0, r1, r2, r3, r4]) rfl ?_
        exact MakesPr.no H.out hS1
    · have H := Lib.hid (prm_no1 (P := P) (A := A) (fun h => h2 h.2.1))
      have f := eq_t (show (A.length : Int) = 0 by omega)
      have h1' : ¬ (P : Int) < 2 := by omega
      have H0 := Lib.hid (show A.length = 0 by omega)
      clear h2
      go_enter Tryz.func58, Tryz.ntmps58
      go_wp2_with fail
      refine bodyPost_ret (v := .tuple #[.agg #[.int .i64 0, .int .i64 0, .int .i64 0, .int .i64 0, .int .i64 0], .bool false]) (by simp [results, Tryz.results58, go_sem, r0, r1, r2, r3, r4]) rfl ?_
      first
      | exact MakesPr.no H.out hS1
      | (rw [H0.out] at hS1; exact MakesPr.no H.out hS1)
  · have H := Lib.hid (prm_no1 (P := P) (A := A) (fun h => h1 h.1))
    have h1' : (P : Int) < 2 := by omega
    go_enter Tryz.func58, Tryz.ntmps58
    go_wp2_with fail
    refine bodyPost_ret (v := .tuple #[.agg #[.int .i64 0, .int .i64 0, .int .i64 0, .int .i64 0, .int .i64 0], .bool false]) (by simp [results, Tryz.results58, go_sem, r0, r1, r2, r3, r4]) rfl ?_
    exact MakesPr.no H.out hS1
end Go.Proofs.YtnodcfhdfpeokaaGreat
end

section
/- Walks: ParametersOf of the program; replications, pairs and parameters of the reference. -/
namespace Go.Proofs.YtnodcfhdfpeokaaGreat
set_option linter.unusedSimpArgs false
set_option linter.unusedVariables false
open Go.RowKit
attribute [local go_sem ↓] Go.wp_at_zero Go.wp_at_succ

def prmC (P : Nat) (A : List (List Int)) : Int := if prmB P A = true then 0 else 6
/-- it hands over parameters, and a code -/
def MakesPC (w : World) (xs : List Int) (c : Int) (e : Ending) (w' : World) : Prop := e = .returned (.tuple #[pmV xs, .int .i64 c]) ∧ St w.heap.size w w' []
def z5 (g : Nat) : Ent := box 41 g [.int .i64 0, .int .i64 0, .int .i64 0, .int .i64 0, .int .i64 0]
theorem St.five {B : Nat} {w0 w : World} {L : List Ent} {g : Nat} {us : List Value} (h : St B w0 w (box 41 g us :: L)) (hl : us.length = 5) (a b c d e : Value) :
    St B w0 (((((w.setCell ⟨g, 0, none⟩ a).setCell ⟨g, 1, none⟩ b).setCell ⟨g, 2, none⟩ c).setCell ⟨g, 3, none⟩ d).setCell ⟨g, 4, none⟩ e) (box 41 g [a, b, c, d, e] :: L) := by
  match us, hl with
  | [u0, u1, u2, u3, u4], _ => exact ((((h.bstore 0 rfl 0 a).bstore 0 rfl 1 b).bstore 0 rfl 2 c).bstore 0 rfl 3 d).bstore 0 rfl 4 e
set_option maxHeartbeats 4000000 in
set_option maxRecDepth 100000 in
theorem ParametersOf_c (P : Nat) (v : Value) (us : List Value) (A : List (List Int)) (w : World) (hv : RII w v us A) (hok : dOk P A = true) :
    Calls Tryz.prog 34 #[dv P v] w (MakesPC w (prmV P A) (prmC P A)) := by
  obtain ⟨a, c, hsh⟩ := hv.1.sl.sh
  rw [hv.2.1] at hsh
  subst hsh
  have hS1 := ((St.refl w).newboxF 37 #[.int .i64 P, .slice a A.length c]).newboxF 41 #[.int .i64 0, .int .i64 0, .int .i64 0, .int .i64 0, .int .i64 0]
  simp only [World.size_alloc] at hS1
  have b0 := hS1.bcell 1 rfl 0 rfl
  have b1 := hS1.bcell 1 rfl 1 rfl
  have K1 := Lib.hid (ValidDesign_c P (.slice a A.length c) us A _ (hS1.oldII hv))
  rw [hok] at K1
  have K2 := fun W h => Lib.hid (parametersOf_c P (.slice a A.length c) us A W h (dOk_t hok))
  have HV := Lib.hid (prmV_no (P := P) (A := A))
  have HC := Lib.hid (And.intro (show prmB P A = true → prmC P A = 0 from fun h => by rw [prmC, if_pos h]) (show prmB P A = false → prmC P A = 6 from fun h => by rw [prmC, if_neg (by rw [h]; decide)]))
  unfold dv at K1 K2 ⊢
  generalize prmV P A = X at *
  generalize prmC P A = C at *
  generalize prmB P A = B at *
  go_enter Tryz.func34, Tryz.ntmps34
  go_wp2_with fail
  refine K1.out.mono ?_
  clear K1 b0 b1
  rintro e w2 ⟨rfl, h2⟩
  have hS2 := hS1.call0 h2
  have b0 := hS2.bcell 1 rfl 0 rfl
  have b1 := hS2.bcell 1 rfl 1 rfl
  clear h2 hS1
  go_wp2_with fail
  refine (K2 _ (hS2.oldII hv)).out.mono ?_
  rintro e w3 ⟨rfl, h3⟩
  have hS3 := (hS2.call0 h3).newboxF 41 #[.int .i64 (nth X 0), .int .i64 (nth X 1), .int .i64 (nth X 2), .int .i64 (nth X 3), .int .i64 (nth X 4)]
  have p0 := hS3.bcell 0 rfl 0 rfl
  have p1 := hS3.bcell 0 rfl 1 rfl
  have p2 := hS3.bcell 0 rfl 2 rfl
  have p3 := hS3.bcell 0 rfl 3 rfl
  have p4 := hS3.bcell 0 rfl 4 rfl
  have r0 := hS3.bcell 1 rfl 0 rfl
  have r1 := hS3.bcell 1 rfl 1 rfl
  have r2 := hS3.bcell 1 rfl 2 rfl
  have r3 := hS3.bcell 1 rfl 3 rfl
  have r4 := hS3.bcell 1 rfl 4 rfl
  have f0 := hS3.bfree 1 rfl
  have hS4 := hS3.sub (List.sublist_cons_self _ _)
  clear h3 hS2 b0 b1
  unfold pmV
  cases B
  · have hX := HV.out rfl
    have hC := HC.out.2 rfl
    have hZ := hS4.five rfl (.int .i64 0) (.int .i64 0) (.int .i64 0) (.int .i64 0) (.int .i64 0)
    have z0 := hZ.bcell 0 rfl 0 rfl
    have z1 := hZ.bcell 0 rfl 1 rfl
    have z2 := hZ.bcell 0 rfl 2 rfl
    have z3 := hZ.bcell 0 rfl 3 rfl
    have z4 := hZ.bcell 0 rfl 4 rfl
    subst hX
    subst hC
    clear hS3 hS4
    go_wp2_with fail
    refine bodyPost_ret (v := .tuple #[.agg #[.int .i64 0, .int .i64 0, .int .i64 0, .int .i64 0, .int .i64 0], .int .i64 6]) (by simp [results, Tryz.results34, go_sem, z0, z1, z2, z3, z4]) rfl ?_
    exact ⟨rfl, hZ.out⟩
  · have hC := HC.out.1 rfl
    subst hC
    have hZ := hS4.five rfl (.int .i64 (nth X 0)) (.int .i64 (nth X 1)) (.int .i64 (nth X 2)) (.int .i64 (nth X 3)) (.int .i64 (nth X 4))
    have z0 := hZ.bcell 0 rfl 0 rfl
    have z1 := hZ.bcell 0 rfl 1 rfl
    have z2 := hZ.bcell 0 rfl 2 rfl
    have z3 := hZ.bcell 0 rfl 3 rfl
    have z4 := hZ.bcell 0 rfl 4 rfl
    clear hS3 hS4
    go_wp2_with fail
    refine bodyPost_ret (v := .tuple #[.agg #[.int .i64 (nth X 0), .int .i64 (nth X 1), .int .i64 (nth X 2), .int .i64 (nth X 3), .int .i64 (nth X 4)], .int .i64 0]) (by simp [results, Tryz.results34, go_sem, z0, z1, z2, z3, z4]) rfl ?_
    exact ⟨rfl, hZ.out⟩

set_option maxHeartbeats 2000000 in
set_option maxRecDepth 100000 in
theorem l10Replications_c (P : Nat) (g : Nat) (v : Value) (us : List Value) (A : List (List Int)) (w : World) (hv : RII w v us A) (hb : BoxD w g P v) (hD : DOk P A) :
    Calls Tryz.prog 56 #[.pointer (some ⟨g, 0, none⟩)] w (MakesI w (repL P A)) := by
  have hP := hD.le
  have hDl := hD.len
  have HD := Lib.hid hD
  clear hD
  have hln := hv.len
  have hixe := hv.ixe
  obtain ⟨b0, b1⟩ := id hb
  go_enter Tryz.func56, Tryz.ntmps56
  go_wp2_with (at_make; refine mkI (St.refl w) rfl _ _ rfl _ _ P (by go_num) (by go_num) (by omega) ?_; intro vc w3 hS3; rw [List.nil_append] at hS3; have hb3 := hS3.oldBoxD hb; have b1' := hb3.2)
  have hxc := (hS3.rdI 0 rfl).ixe
  rw [← repS_0 P A] at hS3 hxc
  rw [repS_len] at hxc
  go_loopw [4, 5] (fun i _ wr => ∃ k : Nat, k ≤ A.length ∧ i = .int .i64 k ∧ St w.heap.size w wr [row 2 vc (iv (repS P A k 0))]) (fun i _ _ => A.length - (intOf i).toNat)
  case atStart => exact ⟨0, by omega, rfl, hS3⟩
  case round =>
    clear hS3 b0 b1 b1' hb3
    obtain ⟨k, hk, rfl, hS⟩ := hrel
    have b1 := (hS.oldBoxD hb).2
    by_cases hlt : k < A.length
    · have HI := Lib.hid (HD.out.inc' hlt)
      have hl32 := HI.out.len
      have Hnx := Lib.hid (repS_next (P := P) hlt)
      go_wp2_with fail
      obtain ⟨wo, rfl⟩ : ∃ wo : World, wo = wr := ⟨_, rfl⟩
      go_loopw [5] (fun i wr => ∃ j : Nat, j ≤ (xat A k).length ∧ i = .int .i64 j ∧ St w.heap.size w wr [row 2 vc (iv (repS P A k j))]) (fun i _ => (xat A k).length - (intOf i).toNat)
      case atStart => exact ⟨0, by omega, rfl, hS⟩
      case round =>
        clear hS b1
        obtain ⟨j, hj, rfl, hS⟩ := hrel
        have b1 := (hS.oldBoxD hb).2
        have hrk := (hS.oldII hv).row k hlt
        have hc := (hS.oldII hv).cell k hlt
        have xk := hixe (k : Int) k rfl hlt
        have hlk := hrk.len
        by_cases hjt : j < (xat A k).length
        · have cb := hrk.cell j hjt
          have xj := hrk.ixe (j : Int) j rfl hjt
          obtain ⟨x, hx, hxP⟩ := HI.out.nat hjt
          rw [hx] at cb
          have Hst := Lib.hid (repS_step HI.out hjt hx hxP)
          have cx := (hS.rdI 0 rfl).cell x (by rw [repS_len]; exact hxP)
          have ux := hS.unfrozen 0 rfl (j := x) (by rw [iv_len, repS_len]; exact hxP)
          have xx := hxc (x : Int) x rfl hxP
          have hbd := repS_bd (P := P) (j := j) hlt hDl hxP
          have HS9 := Lib.hid (hS.store 0 rfl (j := x) (by rw [iv_len, repS_len]; exact hxP) (.int .i64 (nth (repS P A k j) x + 1)))
          generalize hq : nth (repS P A k j) x = q at *
          clear hq hx hrk
          go_wp2_with fail
          have hS9 := HS9.out
          simp only [List.set_cons_zero] at hS9
          rw [iv_set, Hst.out] at hS9
          go_roundw
          case rel => exact ⟨j + 1, by omega, by go_num, hS9⟩
          case measure => simp [intOf]; omega
        · obtain rfl : j = (xat A k).length := by omega
          rw [Hnx.out] at hS
          clear hrk
          go_wp2_with fail
          go_roundw
          case rel => exact ⟨k + 1, by omega, by go_num, hS⟩
          case measure => simp [intOf]; omega
    · obtain rfl : k = A.length := by omega
      rw [repS_end] at hS
      go_wp2_with fail
      go_ret
      exact ⟨vc, rfl, hS⟩
end Go.Proofs.YtnodcfhdfpeokaaGreat
end
