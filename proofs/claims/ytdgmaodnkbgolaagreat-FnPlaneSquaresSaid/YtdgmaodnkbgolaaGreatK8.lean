/- The texts of this claim, run 8: Src2 Drw Set2 Arr2 Same Ds2 Ds3 Has Ds5 PRR Srt PIm PRs RrA RrC PPln PNt. -/
import Derived.Test.YtdgmaodnkbgolaaGreatK3
import Derived.Test.YtdgmaodnkbgolaaGreatK4
import Derived.Test.YtdgmaodnkbgolaaGreatK5
import Derived.Test.YtdgmaodnkbgolaaGreatK6
import Derived.Test.YtdgmaodnkbgolaaGreatK7
import Derived.Deep.RegionHeld3
import Derived.Deep.DrawnRows
import Derived.Shelf.SortM.Plain
import Derived.Shelf.SortM.SortNone
import Derived.Sort.OwnSortedInts
section
/- The source of choices: what lies beside it. -/
namespace Go.Proofs.YtdgmaodnkbgolaaGreat
set_option linter.unusedSimpArgs false
set_option linter.unusedVariables false
open Go.RowKit

theorem Src.call {w0 w w' : World} {cv : Value} {g K : Nat} {L L' : List Ent} (h : Src w0 w cv g K L) (h' : St w.heap.size w w' L') : Src w0 w' cv g K (L ++ L') := by
  obtain ⟨p, s, h0, h1, hS⟩ := h
  exact ⟨p, s, h0, h1, hS.call h'⟩
theorem Src.sub {w0 w : World} {cv : Value} {g K : Nat} {L L' : List Ent} (h : Src w0 w cv g K L) (h' : L'.Sublist L) : Src w0 w cv g K L' := by
  obtain ⟨p, s, h0, h1, hS⟩ := h
  exact ⟨p, s, h0, h1, hS.sub (h'.cons_cons _)⟩
theorem Src.rdI {w0 w : World} {cv : Value} {g K : Nat} {L : List Ent} (h : Src w0 w cv g K L) (i : Nat) {e : TypeId} {v : Value} {xs : List Int} (hi : L[i]? = some (row e v (iv xs))) : RdI w v xs := by
  obtain ⟨p, s, h0, h1, hS⟩ := h
  exact hS.rdI (i + 1) hi

theorem St.emp0 {w : World} : St w.heap.size w (w.alloc (.cells #[] 2)) [row 2 (.slice (some ⟨w.heap.size, 0, none⟩) 0 0) (iv [])] :=
  (St.refl w).new 2 #[] (by simp)

theorem Src.perm {w0 w : World} {cv : Value} {g K : Nat} {L L' : List Ent} (h : Src w0 w cv g K L) (h' : L.Perm L') : Src w0 w cv g K L' := by
  obtain ⟨p, s, h0, h1, hS⟩ := h
  exact ⟨p, s, h0, h1, hS.perm (h'.cons _)⟩
theorem Src.call0 {w0 w w' : World} {cv : Value} {g K : Nat} {L : List Ent} (h : Src w0 w cv g K L) (h' : St w.heap.size w w' []) : Src w0 w' cv g K L := by
  have := h.call h'; rwa [List.append_nil] at this
theorem Src.rd {w0 w : World} {cv : Value} {g K : Nat} {L : List Ent} (h : Src w0 w cv g K L) (i : Nat) {e : TypeId} {v : Value} {us : List Value} (hi : L[i]? = some (row e v us)) : Rd w v us := by
  obtain ⟨p, s, h0, h1, hS⟩ := h
  exact hS.rd (i + 1) hi
theorem Src.box {w0 w : World} {cv : Value} {g K : Nat} {L : List Ent} (h : Src w0 w cv g K L) (i : Nat) {e : TypeId} {gf : Nat} {us : List Value} (hi : L[i]? = some (Go.Proofs.YtdgmaodnkbgolaaGreat.box e gf us)) (j : Nat) {u : Value} (hj : us[j]? = some u) : w.cell? ⟨gf, j, none⟩ = some u := by
  obtain ⟨p, s, h0, h1, hS⟩ := h
  exact hS.bcell (i + 1) hi j hj
theorem Src.bfree {w0 w : World} {cv : Value} {g K : Nat} {L : List Ent} (h : Src w0 w cv g K L) (i : Nat) {e : TypeId} {gf : Nat} {us : List Value} (hi : L[i]? = some (Go.Proofs.YtdgmaodnkbgolaaGreat.box e gf us)) (j : Nat) : w.frozen? ⟨gf, j, none⟩ = false := by
  obtain ⟨p, s, h0, h1, hS⟩ := h
  exact hS.bfree (i + 1) hi j
theorem Src.bstore {w0 w : World} {cv : Value} {g K : Nat} {L : List Ent} (h : Src w0 w cv g K L) (i : Nat) {e : TypeId} {gf : Nat} {us : List Value} (hi : L[i]? = some (Go.Proofs.YtdgmaodnkbgolaaGreat.box e gf us)) (j : Nat) (u : Value) :
    Src w0 (w.setCell ⟨gf, j, none⟩ u) cv g K (L.set i (Go.Proofs.YtdgmaodnkbgolaaGreat.box e gf (us.set j u))) := by
  obtain ⟨p, s, h0, h1, hS⟩ := h
  exact ⟨p, s, h0, h1, hS.bstore (i + 1) hi j u⟩
/-- a new block behind a pointer, ahead of the others -/
theorem Src.newboxF {w0 w : World} {cv : Value} {g K : Nat} {L : List Ent} (h : Src w0 w cv g K L) (e : TypeId) (cs : Array Value) : Src w0 (w.alloc (.cells cs e)) cv g K (Go.Proofs.YtdgmaodnkbgolaaGreat.box e w.heap.size cs.toList :: L) := by
  obtain ⟨p, s, h0, h1, hS⟩ := h
  exact ⟨p, s, h0, h1, (hS.newboxF e cs).perm (List.Perm.swap _ _ _)⟩
theorem Src.drew {w0 w : World} {cv : Value} {g K : Nat} {L : List Ent} (h : Src w0 w cv g K L) : Src w0 w.drew cv g K L := by
  obtain ⟨p, s, h0, h1, hS⟩ := h
  exact ⟨p, s, h0, h1, hS.drew⟩
theorem at_app {M L : List Ent} {i : Nat} {x : Ent} (h : L[i]? = some x) : (M ++ L)[M.length + i]? = some x := by
  rw [List.getElem?_append_right (by omega), Nat.add_sub_cancel_left]; exact h
theorem at_cons {L : List Ent} {i : Nat} {x y : Ent} (h : L[i]? = some x) : (y :: L)[i + 1]? = some x := by
  rw [List.getElem?_cons_succ]; exact h
theorem Src.riiS {w0 w : World} {cv : Value} {g K : Nat} {L : List Ent} (h : Src w0 w cv g K L) {v : Value} {us : List Value} {A : List (List Int)} (hs : (own2 v us A).Sublist L) (hl : us.length = A.length) : RII w v us A := (h.st.sub hs).rii hl
end Go.Proofs.YtdgmaodnkbgolaaGreat
end

section
/- Walks: what the laws on numbers draw. -/
namespace Go.Proofs.YtdgmaodnkbgolaaGreat
set_option linter.unusedSimpArgs false
set_option linter.unusedVariables false
open Go.RowKit

theorem Src.lit {w0 w : World} {cv : Value} {g K : Nat} {L : List Ent} (h : Src w0 w cv g K L) (xs : List Int) (hm : xs.length ≤ 1000) :
    Src w0 (w.alloc (.cells (iv xs).toArray 2)) cv g K (row 2 (.slice (some ⟨w.heap.size, 0, none⟩) xs.length xs.length) (iv xs) :: L) := by
  obtain ⟨p, s, h0, h1, hS⟩ := h
  refine ⟨p, s, h0, h1, ?_⟩
  have h2 := hS.new 2 (iv xs).toArray (by simp [iv_len]; unfold maxLen; omega)
  simp only [List.size_toArray, iv_len] at h2
  refine h2.perm ?_
  refine List.Perm.trans (List.perm_append_comm) ?_
  simp only [List.cons_append, List.nil_append]
  exact List.Perm.swap _ _ _

/-- one of some numbers that are written out -/
theorem among_lit (xs : List Int) (w0 w : World) (cv : Value) (bs : List UInt8) (g K : Nat) (L : List Ent) (hb : RdB w0 cv bs) (h : Src w0 w cv g K L) (hne : 0 < xs.length ∧ xs.length ≤ 1000)
    (hK : K < 1000000000000) :
    Calls Tryz.prog 20 #[.pointer (some ⟨g, 0, none⟩), .slice (some ⟨w.heap.size, 0, none⟩) xs.length xs.length] (w.alloc (.cells (iv xs).toArray 2)) (AmongPost xs fun w' => Src w0 w' cv g (K + 2) L) :=
  among_c w0 _ cv bs g K L _ xs hb (h.lit xs hne.2) hne.1 hK

theorem b10Long_c (w : World) (cv : Value) (bs : List UInt8) (hb : RdB w cv bs) :
    Calls Tryz.prog 5 #[cv] w fun e w' => e = .returned (.bool (decide (1048576 < bs.length))) ∧ w = w' := by
  have hln := hb.len
  go_enter Tryz.func5, Tryz.ntmps5
  go_wp2_with fail
  go_ret
  exact ⟨ret_bool (by simp; omega), rfl⟩

end Go.Proofs.YtdgmaodnkbgolaaGreat
end

section
/- Walks: operations on sets, and what the law on sets draws. -/
namespace Go.Proofs.YtdgmaodnkbgolaaGreat
set_option linter.unusedSimpArgs false
set_option linter.unusedVariables false
open Go.RowKit

def ifSets (a b : List Int) (r : List Int) : List Int := if IsSet a ∧ IsSet b then r else []

theorem keepM (a b : Bool) (W : World) : Calls Tryz.prog 76 #[.bool a, .bool b] W fun e w' => e = .returned (.bool (a && b)) ∧ W = w' := by
  cases a <;> cases b <;> (go_enter Tryz.func76, Tryz.ntmps76; go_wp2_with fail; go_ret; exact ⟨rfl, rfl⟩)
theorem MeetSets_c (va vb : Value) (xs ys : List Int) (w : World) (ha : RdI w va xs) (hb : RdI w vb ys) :
    Calls Tryz.prog 42 #[va, vb] w (MakesI w (ifSets xs ys (mee xs ys))) := by
  go_enter Tryz.func42, Tryz.ntmps42
  go_wp2_with fail
  refine (filtered_c _ (callFunc_go Tryz.func76 (by kernel_rfl) (by kernel_rfl)) (fun a b => a && b) keepM va vb xs ys w ha hb).mono ?_
  rintro e w1 ⟨v, rfl, h1⟩
  go_wp2_with fail
  go_ret
  exact ⟨_, rfl, h1⟩
end Go.Proofs.YtdgmaodnkbgolaaGreat
end

section
/- Walks: arrays by value. Walks: valid arrays, equal arrays. -/
namespace Go.Proofs.YtdgmaodnkbgolaaGreat
set_option linter.unusedSimpArgs false
set_option linter.unusedVariables false
open Go.RowKit


/-- an array as a value -/
def av (lv co : Int) (v : Value) : Value := .agg #[.int .i64 lv, .int .i64 co, v]

/-- a block that holds an array -/
def BoxA (w : World) (g : Nat) (lv co : Int) (v : Value) : Prop :=
  w.cell? ⟨g, 0, none⟩ = some (.int .i64 lv) ∧ w.cell? ⟨g, 1, none⟩ = some (.int .i64 co) ∧ w.cell? ⟨g, 2, none⟩ = some v
theorem cell_keep {w w' : World} (hb : Below w.heap.size w w') {p : Addr} {u : Value} (h : w.cell? p = some u) : w'.cell? p = some u := by
  rw [hb.cell (World.block_lt_of_cell? _ _ h)]; exact h
theorem BoxA.keep {w w' : World} {g : Nat} {lv co : Int} {v : Value} (h : BoxA w g lv co v) (hb : Below w.heap.size w w') : BoxA w' g lv co v :=
  ⟨cell_keep hb h.1, cell_keep hb h.2.1, cell_keep hb h.2.2⟩
end Go.Proofs.YtdgmaodnkbgolaaGreat
end

section
/- Walks: equal lists, equal lists of lists, equal arrays. -/
namespace Go.Proofs.YtdgmaodnkbgolaaGreat
set_option linter.unusedSimpArgs false
set_option linter.unusedVariables false
open Go.RowKit

set_option maxHeartbeats 1000000 in
set_option maxRecDepth 100000 in
theorem Equal_c (va vb : Value) (xs ys : List Int) (w : World) (ha : RdI w va xs) (hb : RdI w vb ys) :
    Calls Tryz.prog 60 #[va, vb] w (GivesB w (decide (xs = ys))) := by
  have hla := ha.len
  have hlb := hb.len
  have hia := ha.ix
  have hib := hb.ix
  have hma := ha.le
  by_cases hne : xs.length = ys.length
  · have f0 : ((xs.length : Int) != (ys.length : Int)) = false := ne_f (by omega)
    have hle : xs.length ≤ ys.length := by omega
    have Hne := Lib.hid hne; clear hne
    go_enter Tryz.func60, Tryz.ntmps60
    go_wp2_with fail
    go_loopw [5, 13] (fun _ i wr => ∃ k : Nat, k ≤ xs.length ∧ i = .int .i64 k ∧ Hid (∀ j, j < k → nth xs j = nth ys j) ∧ St w.heap.size w wr []) (fun _ i _ => xs.length - (intOf i).toNat)
    case atStart => exact ⟨0, by omega, rfl, fun j hj => by omega, St.refl w⟩
    case round =>
      obtain ⟨k, hk, rfl, hI, hS⟩ := hrel
      by_cases hlt : k < xs.length
      · have hqa := fun s : SS w.heap.size w [] => (s.st.oldI ha).cell k hlt
        have hqb := fun s : SS w.heap.size w [] => (s.st.oldI hb).cell k (by omega)
        have hk2 : k < ys.length := by omega
        by_cases h1 : nth xs k = nth ys k
        · have f1 := ne_f h1
          have H1 := Lib.hid h1; clear h1
          go_wp2_with fail
          have hne : Nonempty (SS _ _ _) := ⟨⟨_, hS⟩⟩
          refine wp_region_st (by kernel_rfl) (by kernel_rfl) hS ?_
          repeat (go_big_quiet_step (fail))
          refine wpQuiet_nil ?_
          rintro _ ⟨s2, rfl⟩
          have hS2 := s2.st
          generalize s2.w = w2 at hS2 ⊢
          go_wp2_with fail
          go_roundw
          case rel => exact ⟨k + 1, by omega, by go_num, fun j hj => by
            by_cases e : j = k
            · subst e; exact H1.out
            · exact hI.out j (by omega), hS2⟩
          case measure => simp [intOf]; omega
        · have f1 := ne_t h1
          have H1 := Lib.hid h1; clear h1
          go_wp2_with fail
          have hne : Nonempty (SS _ _ _) := ⟨⟨_, hS⟩⟩
          refine wp_region_st (by kernel_rfl) (by kernel_rfl) hS ?_
          repeat (go_big_quiet_step (fail))
          refine wpQuiet_nil ?_
          rintro _ ⟨s2, rfl⟩
          have hS2 := s2.st
          generalize s2.w = w2 at hS2 ⊢
          go_wp2_with fail
          go_ret
          exact ⟨ret_bool (by symm; rw [decide_eq_false_iff_not]; intro e; subst e; exact H1.out rfl), hS2⟩
      · go_wp2_with fail
        go_ret
        refine ⟨ret_bool ?_, hS⟩
        symm; rw [decide_eq_true_iff]
        apply List.ext_getElem Hne.out
        intro j h1 h2
        have := hI.out j (by omega)
        rwa [nth_eq h1, nth_eq h2] at this
  · have f0 : ((xs.length : Int) != (ys.length : Int)) = true := ne_t (by omega)
    have Hne := Lib.hid hne; clear hne
    go_enter Tryz.func60, Tryz.ntmps60
    go_wp2_with fail
    go_ret
    exact ⟨ret_bool (by symm; rw [decide_eq_false_iff_not]; intro e; exact Hne.out (by rw [e])), St.refl w⟩

set_option maxHeartbeats 1000000 in
set_option maxRecDepth 100000 in
theorem EqualFunc_c (va vb : Value) (us ws : List Value) (xs ys : List (List Int)) (w : World) (ha : RII w va us xs) (hb : RII w vb ws ys) :
    Calls Tryz.prog 87 #[va, vb, .func (.func 60) #[] #[]] w (GivesB w (decide (xs = ys))) := by
  have hla := ha.len
  have hlb := hb.len
  have hia := ha.ix
  have hib := hb.ix
  have hma := ha.le
  by_cases hne : xs.length = ys.length
  · have f0 : ((xs.length : Int) != (ys.length : Int)) = false := ne_f (by omega)
    have hle : xs.length ≤ ys.length := by omega
    have Hne := Lib.hid hne; clear hne
    go_enter Tryz.func87, Tryz.ntmps87
    go_wp2_with fail
    go_loopw [7, 8, 9, 17] (fun _ _ _ i wr => ∃ k : Nat, k ≤ xs.length ∧ i = .int .i64 k ∧ Hid (∀ j, j < k → xat xs j = xat ys j) ∧ St w.heap.size w wr []) (fun _ _ _ i _ => xs.length - (intOf i).toNat)
    case atStart => exact ⟨0, by omega, rfl, fun j hj => by omega, St.refl w⟩
    case round =>
      obtain ⟨k, hk, rfl, hI, hS⟩ := hrel
      by_cases hlt : k < xs.length
      · have hk2 : k < ys.length := by omega
        have hqa := (hS.oldII ha).cell k hlt
        have hqb := (hS.oldII hb).cell k hk2
        by_cases h1 : xat xs k = xat ys k
        · have f1 : decide (xat xs k = xat ys k) = true := decide_eq_true h1
          have H1 := Lib.hid h1; clear h1
          go_wp2_with fail
          refine (Equal_c _ _ _ _ wr ((hS.oldII ha).row k hlt) ((hS.oldII hb).row k hk2)).mono ?_
          rw [f1]
          rintro e w2 ⟨rfl, h2⟩
          have hS2 := hS.call0 h2
          go_wp2_with fail
          go_roundw
          case rel => exact ⟨k + 1, by omega, by go_num, fun j hj => by
            by_cases e : j = k
            · subst e; exact H1.out
            · exact hI.out j (by omega), hS2⟩
          case measure => simp [intOf]; omega
        · have f1 : decide (xat xs k = xat ys k) = false := decide_eq_false h1
          have H1 := Lib.hid h1; clear h1
          go_wp2_with fail
          refine (Equal_c _ _ _ _ wr ((hS.oldII ha).row k hlt) ((hS.oldII hb).row k hk2)).mono ?_
          rw [f1]
          rintro e w2 ⟨rfl, h2⟩
          have hS2 := hS.call0 h2
          go_wp2_with fail
          go_ret
          exact ⟨ret_bool (by symm; rw [decide_eq_false_iff_not]; intro e; subst e; exact H1.out rfl), hS2⟩
      · go_wp2_with fail
        go_ret
        refine ⟨ret_bool ?_, hS⟩
        symm; rw [decide_eq_true_iff]
        apply List.ext_getElem Hne.out
        intro j h1 h2
        have := hI.out j (by omega)
        rwa [xat_eq h1, xat_eq h2] at this
  · have f0 : ((xs.length : Int) != (ys.length : Int)) = true := ne_t (by omega)
    have Hne := Lib.hid hne; clear hne
    go_enter Tryz.func87, Tryz.ntmps87
    go_wp2_with fail
    go_ret
    exact ⟨ret_bool (by symm; rw [decide_eq_false_iff_not]; intro e; exact Hne.out (by rw [e])), St.refl w⟩

theorem areSame_c (va vb : Value) (us ws : List Value) (xs ys : List (List Int)) (w : World) (ha : RII w va us xs) (hb : RII w vb ws ys) :
    Calls Tryz.prog 53 #[va, vb] w (GivesB w (decide (xs = ys))) := by
  have H := Lib.hid (EqualFunc_c va vb us ws xs ys w ha hb)
  generalize hd : decide (xs = ys) = d at H ⊢
  clear hd
  go_enter Tryz.func53, Tryz.ntmps53
  go_wp2_with fail
  refine H.out.mono ?_
  rintro e w1 ⟨rfl, h⟩
  go_wp2_with fail
  go_ret
  exact ⟨rfl, h⟩

end Go.Proofs.YtdgmaodnkbgolaaGreat
end

section
/- Walks: valid designs of both sides, equal designs. -/
namespace Go.Proofs.YtdgmaodnkbgolaaGreat
set_option linter.unusedSimpArgs false
set_option linter.unusedVariables false
open Go.RowKit

/-- a design as a value -/
def dv (P : Int) (v : Value) : Value := .agg #[.int .i64 P, v]
def BoxD (w : World) (g : Nat) (P : Int) (v : Value) : Prop := w.cell? ⟨g, 0, none⟩ = some (.int .i64 P) ∧ w.cell? ⟨g, 1, none⟩ = some v
theorem BoxD.keep {w0 w : World} {g : Nat} {P : Int} {v : Value} (h : BoxD w0 g P v) (hb : Below w0.heap.size w0 w) : BoxD w g P v := by
  obtain ⟨h1, h2⟩ := h
  have hg : g < w0.heap.size := by
    rcases Nat.lt_or_ge g w0.heap.size with h | h
    · exact h
    · rw [World.cell?, Array.getElem?_eq_none h] at h1; cases h1
  exact ⟨by rw [hb.cell hg]; exact h1, by rw [hb.cell hg]; exact h2⟩
theorem isBlock_c (v : Value) (xs : List Int) (P : Int) (w : World) (hv : RdI w v xs) :
    Calls Tryz.prog 105 #[v, .int .i64 P] w fun e w' => e = .returned (.bool (blkB P xs)) ∧ w = w' := by
  have hln := hv.len
  by_cases h0 : 0 < xs.length
  · have H : Hid (blkB P xs = validSetB xs P) := by rw [Hid, blkB, decide_eq_true h0]; rfl
    go_enter Tryz.func105, Tryz.ntmps105
    go_wp2_with (go_at_call 122; refine (ValidSet_c _ _ _ _ hv).mono ?_; rintro e w1 ⟨rfl, rfl⟩)
    go_ret
    exact ⟨by rw [H.out]; rfl, rfl⟩
  · have H : Hid (blkB P xs = false) := by rw [Hid, blkB, decide_eq_false h0]; rfl
    go_enter Tryz.func105, Tryz.ntmps105
    go_wp2_with fail
    go_ret
    exact ⟨by rw [H.out]; rfl, rfl⟩
theorem areBlocks1_c (v : Value) (xs : List Int) (g : Nat) (P : Int) (w : World) (hv : RdI w v xs) (hb : w.cell? ⟨g, 0, none⟩ = some (.int .i64 P)) :
    Calls Tryz.prog 104 #[v, .pointer (some ⟨g, 0, none⟩)] w (GivesB w (!blkB P xs)) := by
  go_enter Tryz.func104, Tryz.ntmps104
  go_wp2_with fail
  refine (isBlock_c _ _ _ _ hv).mono ?_
  rintro e w1 ⟨rfl, rfl⟩
  go_wp2_with fail
  go_ret
  exact ⟨rfl, St.refl w⟩
theorem anyR_not {p : List Int → Bool} {A : List (List Int)} : (!anyR (fun b => !p b) A) = A.all p := by
  unfold anyR
  induction A with
  | nil => rfl
  | cons a r ih => simp only [List.any_cons, List.all_cons, Bool.not_or, ih, Bool.not_not]
set_option maxHeartbeats 1000000 in
theorem areBlocks_c (v : Value) (us : List Value) (A : List (List Int)) (P : Int) (w : World) (hv : RII w v us A) :
    Calls Tryz.prog 62 #[v, .int .i64 P] w (GivesB w (inB P 1 32 && A.all (blkB P))) := by
  have hS1 := (St.refl w).newbox 2 #[.int .i64 P]
  have hcf := callFunc_go Tryz.func104 (by kernel_rfl) (by kernel_rfl)
  have hb := hS1.bcell 0 rfl 0 rfl
  cases hp : inB P 1 32
  · go_enter Tryz.func62, Tryz.ntmps62
    go_wp2_with (go_at_call 48; refine (within_c _ _ _ _).mono ?_; rw [hp]; rintro e w1 ⟨rfl, rfl⟩)
    go_ret
    exact ⟨rfl, hS1.out⟩
  · have hmf : ∀ (fn : Fn) (first cap : Array Value) (w : World), (Instr.makeFunc fn first cap).run Tryz.prog w = .ok (.func fn first cap) w := fun _ _ _ _ => rfl
    have hcall := Lib.hid (ContainsFuncR_c 104 #[.pointer (some ⟨w.heap.size, 0, none⟩)] (fun b => !blkB P b) v us A _ (hS1.oldII hv) hcf (fun j W hW hj => areBlocks1_c _ _ w.heap.size P W ((hW.oldII (hS1.oldII hv)).row j hj) (by
      have h2 := hS1.call0 hW
      exact h2.bcell 0 rfl 0 rfl)))
    clear hcf
    go_enter Tryz.func62, Tryz.ntmps62
    go_wp2_with (first | (go_at_call 48; refine (within_c _ _ _ _).mono ?_; rw [hp]; rintro e w1 ⟨rfl, rfl⟩) | (go_at_call 103; refine hcall.out.mono ?_; rintro e w2 ⟨rfl, h2⟩; have hS2 := hS1.call0 h2))
    go_ret
    exact ⟨ret_bool (by rw [anyR_not]; rfl), hS2.out⟩
set_option maxHeartbeats 1000000 in
theorem ValidDesign_c (P : Int) (v : Value) (us : List Value) (A : List (List Int)) (w : World) (hv : RII w v us A) :
    Calls Tryz.prog 18 #[dv P v] w (GivesB w (dOk P A)) := by
  have hS1 := (St.refl w).newbox 28 #[.int .i64 P, v]
  have hb0 := hS1.bcell 0 rfl 0 rfl
  have hb1 := hS1.bcell 0 rfl 1 rfl
  have hln := hv.len
  unfold dv
  have hcall := fun W a => Lib.hid (areBlocks_c v us A P W a)
  have hsrt := fun W a => Lib.hid (IsSortedR_c v us A W a)
  cases hp : inB P 1 32 && A.all (blkB P)
  · rw [hp] at hcall
    have H : Hid (dOk P A = false) := by rw [Hid, dOk, hp]; rfl
    go_enter Tryz.func18, Tryz.ntmps18
    go_wp2_with (go_at_call 62; refine (hcall _ (hS1.oldII hv)).out.mono ?_; rintro e w2 ⟨rfl, h2⟩; have hS2 := hS1.call0 h2)
    go_ret
    exact ⟨ret_bool H.out.symm, hS2.out⟩
  · rw [hp] at hcall
    by_cases hl : A.length ≤ 128
    · have H : Hid (dOk P A = srtB A) := by rw [Hid, dOk, hp, decide_eq_true hl]; rfl
      go_enter Tryz.func18, Tryz.ntmps18
      go_wp2_with (first | (go_at_call 62; refine (hcall _ (hS1.oldII hv)).out.mono ?_; rintro e w2 ⟨rfl, h2⟩; have hS2 := hS1.call0 h2; have c1 := hS2.bcell 0 rfl 1 rfl) | (go_at_call 63; refine (hsrt _ (hS2.oldII hv)).out.mono ?_; rintro e w3 ⟨rfl, h3⟩; have hS3 := hS2.call0 h3))
      go_ret
      exact ⟨ret_bool H.out.symm, hS3.out⟩
    · have H : Hid (dOk P A = false) := by rw [Hid, dOk, hp, decide_eq_false hl]; rfl
      have hl' : 128 < A.length := by omega
      go_enter Tryz.func18, Tryz.ntmps18
      go_wp2_with (go_at_call 62; refine (hcall _ (hS1.oldII hv)).out.mono ?_; rintro e w2 ⟨rfl, h2⟩; have hS2 := hS1.call0 h2; have c1 := hS2.bcell 0 rfl 1 rfl)
      go_ret
      exact ⟨ret_bool H.out.symm, hS2.out⟩

end Go.Proofs.YtdgmaodnkbgolaaGreat
end

section
/- Walks: a design of sorted copies; complements. -/
namespace Go.Proofs.YtdgmaodnkbgolaaGreat
set_option linter.unusedSimpArgs false
set_option linter.unusedVariables false
open Go.RowKit
attribute [local go_sem ↓] Go.wp_at_zero Go.wp_at_succ

/-- it hands over a design of its own, and a code -/
def MakesD (w : World) (P : Int) (A : List (List Int)) (c : Int) (e : Ending) (w' : World) : Prop := ∃ v us, e = .returned (.tuple #[dv P v, .int .i64 c]) ∧ us.length = A.length ∧ St w.heap.size w w' (own2 v us A)
theorem MakesD.no {w w' : World} {L : List Ent} {c : Int} (h : St w.heap.size w w' L) : MakesD w 0 [] c (.returned (.tuple #[.agg #[.int .i64 0, .slice none 0 0], .int .i64 c])) w' :=
  ⟨_, [], rfl, rfl, h.out.newnil _⟩
set_option maxHeartbeats 1000000 in
theorem sorted_c (P : Int) (v : Value) (us : List Value) (A : List (List Int)) (w : World) (hv : RII w v us A) (hl : A.length ≤ 128) (hN : ∀ xs ∈ A, xs.length ≤ 1048576) :
    Calls Tryz.prog 36 #[.int .i64 P, v] w (MakesD w P (srtL A) 0) := by
  have hS0 := (St.refl w).newboxF 28 #[.int .i64 0, .slice none 0 0]
  have hln := hv.len
  have hc := Lib.hid (copyLists_c v us A _ (hS0.oldII hv) (by omega) hN)
  go_enter Tryz.func36, Tryz.ntmps36
  go_wp2_with fail
  refine hc.out.mono ?_
  clear hc
  rintro e w1 ⟨v1, us1, rfl, hl1, h1⟩
  have h2 := hS0.call h1
  obtain ⟨a1, c1, hv1⟩ := (h1.rd 0 (e := 48) (v := v1) (us := us1) rfl).sl.sh
  rw [hl1] at hv1
  subst hv1
  have hB := h2.newboxF 28 #[.int .i64 P, .slice a1 A.length c1]
  have b0 := hB.bcell 0 rfl 0 rfl
  have b1 := hB.bcell 0 rfl 1 rfl
  have h3 := hB.perm (L' := own2 (.slice a1 A.length c1) us1 A ++ [box 28 w.heap.size [.int .i64 0, .slice none 0 0], box 28 w1.heap.size [.int .i64 P, .slice a1 A.length c1]]) (by (try simp only [own2, List.cons_append, List.nil_append, List.append_nil]); classical exact List.perm_iff_count.2 (fun a => by simp only [List.cons_append, List.nil_append, List.append_nil, List.count_append, List.count_cons, List.count_nil] <;> omega))
  clear h1 h2 hB hS0
  go_wp2_with fail
  refine (SortRows_c h3 hl1 (by omega)).mono ?_
  rintro e w2 ⟨us2, rfl, hl2, h4⟩
  have h5 := h4.perm (L' := box 28 w.heap.size [.int .i64 0, .slice none 0 0] :: box 28 w1.heap.size [.int .i64 P, .slice a1 A.length c1] :: own2 (.slice a1 A.length c1) us2 (srtL A)) (by (try simp only [own2, List.cons_append, List.nil_append, List.append_nil]); classical exact List.perm_iff_count.2 (fun a => by simp only [List.cons_append, List.nil_append, List.append_nil, List.count_append, List.count_cons, List.count_nil] <;> omega))
  clear h3 h4 b0 b1
  have b0 := h5.bcell 1 rfl 0 rfl
  have b1 := h5.bcell 1 rfl 1 rfl
  have e0 := h5.bcell 0 rfl 0 rfl
  have e1 := h5.bcell 0 rfl 1 rfl
  have f0 := h5.bfree 0 rfl
  have h6 := (h5.bstore 0 rfl 0 (.int .i64 P)).bstore 0 rfl 1 (.slice a1 A.length c1)
  have d0 := h6.bcell 0 rfl 0 rfl
  have d1 := h6.bcell 0 rfl 1 rfl
  go_wp2_with fail
  refine bodyPost_ret (v := .tuple #[.agg #[.int .i64 P, .slice a1 A.length c1], .int .i64 0]) (by simp [results, Tryz.results36, go_sem, d0, d1]) rfl ?_
  exact ⟨_, us2, rfl, by rw [hl2, srtL_len], h6.sub ((List.sublist_cons_self _ _).trans (List.sublist_cons_self _ _))⟩

end Go.Proofs.YtdgmaodnkbgolaaGreat
end

section
/- Walks: whether a list holds a number. -/
namespace Go.Proofs.YtdgmaodnkbgolaaGreat
set_option linter.unusedSimpArgs false
set_option linter.unusedVariables false
open Go.RowKit

theorem anyP_eq (n : Int) (xs : List Int) : anyP (fun x => n == x) xs = decide (n ∈ xs) := by
  unfold anyP
  rw [Bool.eq_iff_iff, List.any_eq_true, decide_eq_true_iff]
  constructor
  · rintro ⟨x, hx, e⟩; rw [beq_iff_eq] at e; subst e; exact hx
  · intro h; exact ⟨n, h, by simp⟩

set_option maxHeartbeats 1000000 in
set_option maxRecDepth 100000 in
theorem Index_c (v : Value) (xs : List Int) (n : Int) (w : World) (hv : RdI w v xs) :
    Calls Tryz.prog 77 #[v, .int .i64 n] w fun e w' => e = .returned (.int .i64 (idxP (fun x => n == x) xs 0)) ∧ w = w' := by
  have hln := hv.len
  have hix := hv.ix
  have hm := hv.le
  go_enter Tryz.func77, Tryz.ntmps77
  go_wp2_with fail
  go_loopw [5, 8] (fun _ i wr => ∃ k : Nat, k ≤ xs.length ∧ i = .int .i64 k ∧ Hid (idxP (fun x => n == x) xs 0 = idxP (fun x => n == x) xs k) ∧ wr = w) (fun _ i _ => xs.length - (intOf i).toNat)
  case atStart => exact ⟨0, by omega, rfl, rfl, rfl⟩
  case round =>
    obtain ⟨k, hk, rfl, hI, rfl⟩ := hrel
    by_cases hlt : k < xs.length
    · have hc := hv.cell k hlt
      by_cases hp : n = nth xs k
      · have f1 := eq_t hp
        have Hp := Lib.hid (show (fun x => n == x) (nth xs k) = true by simpa using hp)
        clear hp
        go_wp2_with fail
        go_ret
        exact ⟨ret_i64 (by rw [hI.out, idxP_hit hlt Hp.out]), rfl⟩
      · have f1 := eq_f hp
        have Hp := Lib.hid (show (fun x => n == x) (nth xs k) = false by simpa using hp)
        clear hp
        go_wp2_with fail
        go_roundw
        case rel => exact ⟨k + 1, by omega, by go_num, by rw [Hid, hI.out, idxP_step hlt Hp.out], by first | rfl | trivial⟩
        case measure => simp [intOf]; omega
    · go_wp2_with fail
      go_ret
      exact ⟨ret_i64 (by rw [hI.out, idxP_end (by omega)]), rfl⟩
theorem Contains_c (v : Value) (xs : List Int) (n : Int) (w : World) (hv : RdI w v xs) :
    Calls Tryz.prog 45 #[v, .int .i64 n] w fun e w' => e = .returned (.bool (decide (n ∈ xs))) ∧ w = w' := by
  have H := Lib.hid (show decide (0 ≤ idxP (fun x => n == x) xs 0) = decide (n ∈ xs) by rw [idxP_any, anyP_eq])
  go_enter Tryz.func45, Tryz.ntmps45
  go_wp2_with fail
  refine (Index_c v xs n w hv).mono ?_
  rintro e w1 ⟨rfl, rfl⟩
  go_wp2_with fail
  go_ret
  exact ⟨ret_bool H.out, rfl⟩
set_option maxHeartbeats 1000000 in
set_option maxRecDepth 100000 in
theorem l00Has_c (v : Value) (xs : List Int) (n : Int) (w : World) (hv : RdI w v xs) :
    Calls Tryz.prog 114 #[v, .int .i64 n] w fun e w' => e = .returned (.bool (decide (n ∈ xs))) ∧ w = w' := by
  have hln := hv.len
  have hix := hv.ix
  have hm := hv.le
  go_enter Tryz.func114, Tryz.ntmps114
  go_wp2_with fail
  go_loopw [5] (fun i wr => ∃ k : Nat, k ≤ xs.length ∧ i = .int .i64 k ∧ Hid (n ∉ xs.take k) ∧ wr = w) (fun i _ => xs.length - (intOf i).toNat)
  case atStart => exact ⟨0, by omega, rfl, by simp [Hid], rfl⟩
  case round =>
    obtain ⟨k, hk, rfl, hI, rfl⟩ := hrel
    by_cases hlt : k < xs.length
    · have hc := hv.cell k hlt
      by_cases hp : nth xs k = n
      · have f1 := eq_t hp
        have Hp := Lib.hid (show decide (n ∈ xs) = true by rw [decide_eq_true_iff, ← hp]; exact nth_mem hlt)
        clear hp
        go_wp2_with fail
        go_ret
        exact ⟨ret_bool Hp.out.symm, rfl⟩
      · have f1 := eq_f hp
        have Hp := Lib.hid (show n ∉ xs.take (k + 1) by rw [take_nth hlt, List.mem_append, not_or]; exact ⟨hI.out, by simp; exact fun e => hp e.symm⟩)
        clear hp
        go_wp2_with fail
        go_roundw
        case rel => exact ⟨k + 1, by omega, by go_num, Hp, by first | rfl | trivial⟩
        case measure => simp [intOf]; omega
    · have Hn := Lib.hid (show decide (n ∈ xs) = false by rw [decide_eq_false_iff_not]; have := hI.out; rwa [List.take_of_length_le (by omega)] at this)
      go_wp2_with fail
      go_ret
      exact ⟨ret_bool Hn.out.symm, rfl⟩
end Go.Proofs.YtdgmaodnkbgolaaGreat
end

section
/- Walks: derived and residual designs. -/
namespace Go.Proofs.YtdgmaodnkbgolaaGreat
set_option linter.unusedSimpArgs false
set_option linter.unusedVariables false
open Go.RowKit
attribute [local go_sem ↓] Go.wp_at_zero Go.wp_at_succ

def meB (b S : List Int) : List Int := ifSets b S (mee b S)
end Go.Proofs.YtdgmaodnkbgolaaGreat
end

section
/- Plain: schedules of rounds of pairs: what a valid one is, opponents. -/
namespace Go.Proofs.YtdgmaodnkbgolaaGreat
set_option linter.unusedSimpArgs false
set_option linter.unusedVariables false

def gdP (n : Int) (p : List Int) : Bool := decide (p.length = 2) && decide (nth p 0 < nth p 1) && inB (nth p 0) 0 (n - 1) && inB (nth p 1) 0 (n - 1)
/-- whether a team plays in some of these pairs -/
def plB (q : List (List Int)) (x : Int) : Bool := q.any fun p => decide (x ∈ p)
/-- the pairs ahead of place k of round r -/
def seen (R : List (List (List Int))) (r k : Nat) : List (List Int) := (R.take r).flatten ++ (x3at R r).take k
section
variable {R : List (List (List Int))} {r k : Nat}
theorem seen_snoc (hk : k < (x3at R r).length) : seen R r (k + 1) = seen R r k ++ [xat (x3at R r) k] := by
  rw [seen, take_xat hk, ← List.append_assoc]; rfl
theorem seen_pre (hr : r < R.length) (hk : k ≤ (x3at R r).length) : R.flatten = seen R r k ++ ((x3at R r).drop k ++ (R.drop (r + 1)).flatten) := by
  rw [seen, List.append_assoc, ← List.append_assoc ((x3at R r).take k), List.take_append_drop, ← List.flatten_cons, ← drop_x3at hr, ← List.flatten_append, List.take_append_drop]
theorem x3at_mem (hr : r < R.length) : x3at R r ∈ R := by rw [x3at_eq hr]; exact List.getElem_mem hr
end
theorem mem_xat {A : List (List Int)} {p : List Int} (h : p ∈ A) : ∃ k, k < A.length ∧ xat A k = p := by
  obtain ⟨k, hk, e⟩ := List.getElem_of_mem h
  exact ⟨k, hk, by rw [xat_eq hk, e]⟩
/-- what is asked of a pair -/
def okAt (n : Int) (R : List (List (List Int))) (r k : Nat) : Bool :=
  gdP n (xat (x3at R r) k) && (decide (k = 0) || decide (cmpI (xat (x3at R r) (k - 1)) (xat (x3at R r) k) < 0)) &&
  !plB ((x3at R r).take k) (nth (xat (x3at R r) k) 0) && !plB ((x3at R r).take k) (nth (xat (x3at R r) k) 1) && !decide (xat (x3at R r) k ∈ seen R r k)
def vsB (n : Int) (R : List (List (List Int))) : Bool :=
  inB n 2 32 && ((List.range R.length).all fun r => (List.range (x3at R r).length).all fun k => okAt n R r k) &&
  ((List.range n.toNat).all fun a => (List.range n.toNat).all fun b => decide (b ≤ a) || decide ([(a : Int), (b : Int)] ∈ R.flatten))
structure VS (n : Nat) (R : List (List (List Int))) : Prop where
  n2 : 2 ≤ n
  n32 : n ≤ 32
  gd : ∀ q ∈ R, ∀ p ∈ q, gdP n p = true
  st : ∀ q ∈ R, ∀ k, k + 1 < q.length → cmpI (xat q k) (xat q (k + 1)) < 0
  dj : ∀ q ∈ R, ∀ k, k < q.length → ∀ j, j < k → ∀ x ∈ xat q j, x ∉ xat q k
  nd : R.flatten.Nodup
  al : ∀ a b : Nat, a < b → b < n → [(a : Int), (b : Int)] ∈ R.flatten
structure GdP (n : Int) (p : List Int) : Prop where
  eq : p = [nth p 0, nth p 1]
  lt : nth p 0 < nth p 1
  lo : 0 ≤ nth p 0
  hi : nth p 1 ≤ n - 1
theorem gdP_t {n : Int} {p : List Int} (h : gdP n p = true) : GdP n p := by
  simp only [gdP, Bool.and_eq_true, decide_eq_true_eq, inB] at h
  obtain ⟨⟨⟨h1, h2⟩, h3⟩, h4⟩ := h
  match p, h1 with
  | [a, b], _ => exact ⟨rfl, h2, h3.1, h4.2⟩
theorem plB_f {q : List (List Int)} {x : Int} : plB q x = false ↔ ∀ p ∈ q, x ∉ p := by simp [plB]
theorem mem_take_xat {q : List (List Int)} {k : Nat} {p : List Int} (h : p ∈ q.take k) : ∃ j, j < k ∧ j < q.length ∧ xat q j = p := by
  obtain ⟨j, hj, e⟩ := mem_xat h
  simp only [List.length_take] at hj
  refine ⟨j, by omega, by omega, ?_⟩
  rw [← e, xat_eq (by omega), xat_eq (by simp; omega), List.getElem_take]
theorem VS.ok {n : Nat} {R : List (List (List Int))} (h : VS n R) {r k : Nat} (hr : r < R.length) (hk : k < (x3at R r).length) : okAt n R r k = true := by
  have hq := x3at_mem hr
  have hp := xat_mem hk
  have hg := h.gd _ hq _ hp
  have hG := gdP_t hg
  have h1 : ∀ x ∈ xat (x3at R r) k, plB ((x3at R r).take k) x = false := fun x hx => plB_f.2 fun p hp' hx' => by
    obtain ⟨j, hj, hj2, rfl⟩ := mem_take_xat hp'
    exact h.dj _ hq k hk j hj x hx' hx
  have h2 : xat (x3at R r) k ∉ seen R r k := by
    have := h.nd
    rw [seen_pre hr (Nat.succ_le_of_lt hk), seen_snoc hk, List.append_assoc] at this
    have := (List.nodup_append.1 this).2.2
    intro hm
    exact this _ hm _ (by simp) rfl
  have e0 : nth (xat (x3at R r) k) 0 ∈ xat (x3at R r) k := by rw [hG.eq]; simp [nth]
  have e1 : nth (xat (x3at R r) k) 1 ∈ xat (x3at R r) k := by rw [hG.eq]; simp [nth]
  simp only [okAt, Bool.and_eq_true, hg, h1 _ e0, h1 _ e1, decide_eq_false h2, Bool.not_false, and_true, true_and, Bool.or_eq_true, decide_eq_true_eq]
  cases k with
  | zero => exact .inl rfl
  | succ k => exact .inr (h.st _ hq k hk)
theorem VS.t {n : Nat} {R : List (List (List Int))} (h : VS n R) : vsB n R = true := by
  have h1 := h.n2
  have h2 := h.n32
  simp only [vsB, Bool.and_eq_true, List.all_eq_true, List.mem_range, Bool.or_eq_true, decide_eq_true_eq]
  refine ⟨⟨inB_true (by omega), fun r hr k hk => h.ok hr hk⟩, fun a ha b hb => ?_⟩
  by_cases hab : b ≤ a
  · exact .inl hab
  · exact .inr (h.al a b (by omega) (by omega))
/-! ### opponents -/
section
variable {n : Nat} {R : List (List (List Int))}
end
end Go.Proofs.YtdgmaodnkbgolaaGreat
end

section
/- slices.Sort at []int64: a row that a call owns, sorted. -/
namespace Go.Proofs.YtdgmaodnkbgolaaGreat
set_option linter.unusedSimpArgs false
set_option linter.unusedVariables false
open Go.RowKit

def Tryz.mSort_ren : Go.Shelf.Ren := ⟨fun | 5 => 58 | 8 => 101 | 7 => 100 | 19 => 146 | 20 => 147 | 10 => 137 | 11 => 138 | 12 => 139 | 13 => 140 | 14 => 141 | 15 => 142 | 16 => 143 | 17 => 144 | 18 => 145 | 30 => 171 | 31 => 172 | 32 => 173 | 33 => 174 | 34 => 175 | 35 => 148 | 40 => 181 | n => n, fun | 23 => 48 | 25 => 2 | 3 => 3 | 32 => 129 | 22 => 48 | 0 => 0 | 44 => 159 | 46 => 93 | 4 => 4 | 36 => 151 | 35 => 150 | 41 => 156 | 5 => 5 | 9 => 9 | 53 => 169 | 57 => 173 | 63 => 177 | 64 => 178 | n => n, fun | n => n⟩
theorem Tryz.mSort : Go.Proofs.SlLaysM.n5 Tryz.prog Tryz.mSort_ren := {
  mixed := by kernel_rfl
  f5 := ⟨Tryz.f58.name, by decide, Tryz.func58.trans (congrArg some (by kernel_rfl))⟩
  f7 := ⟨Tryz.f100.name, by decide, Tryz.func100.trans (congrArg some (by kernel_rfl))⟩
  f8 := Tryz.func101.trans (congrArg some (by kernel_rfl))
  f10 := ⟨Tryz.f137.name, by decide, Tryz.func137.trans (congrArg some (by kernel_rfl))⟩
  f11 := ⟨Tryz.f138.name, by decide, Tryz.func138.trans (congrArg some (by kernel_rfl))⟩
  f12 := ⟨Tryz.f139.name, by decide, Tryz.func139.trans (congrArg some (by kernel_rfl))⟩
  f13 := ⟨Tryz.f140.name, by decide, Tryz.func140.trans (congrArg some (by kernel_rfl))⟩
  f14 := ⟨Tryz.f141.name, by decide, Tryz.func141.trans (congrArg some (by kernel_rfl))⟩
  f15 := ⟨Tryz.f142.name, by decide, Tryz.func142.trans (congrArg some (by kernel_rfl))⟩
  f16 := ⟨Tryz.f143.name, by decide, Tryz.func143.trans (congrArg some (by kernel_rfl))⟩
  f17 := ⟨Tryz.f144.name, by decide, Tryz.func144.trans (congrArg some (by kernel_rfl))⟩
  f18 := ⟨Tryz.f145.name, by decide, Tryz.func145.trans (congrArg some (by kernel_rfl))⟩
  f19 := Tryz.func146.trans (congrArg some (by kernel_rfl))
  f20 := Tryz.func147.trans (congrArg some (by kernel_rfl))
  f30 := ⟨Tryz.f171.name, by decide, Tryz.func171.trans (congrArg some (by kernel_rfl))⟩
  f31 := Tryz.func172.trans (congrArg some (by kernel_rfl))
  f32 := Tryz.func173.trans (congrArg some (by kernel_rfl))
  f33 := ⟨Tryz.f174.name, by decide, Tryz.func174.trans (congrArg some (by kernel_rfl))⟩
  f34 := ⟨Tryz.f175.name, by decide, Tryz.func175.trans (congrArg some (by kernel_rfl))⟩
  f35 := ⟨Tryz.f148.name, by decide, Tryz.func148.trans (congrArg some (by kernel_rfl))⟩
  f40 := ⟨Tryz.f181.name, by decide, Tryz.func181.trans (congrArg some (by kernel_rfl))⟩
  t0 := Tryz.underlying0
  a0 := Tryz.isAgg0
  z0 := Tryz.sizeOf0
  v0 := Tryz.zeroValue0
  t3 := Tryz.underlying3
  a3 := Tryz.isAgg3
  z3 := Tryz.sizeOf3
  v3 := Tryz.zeroValue3
  t4 := Tryz.underlying4
  a4 := Tryz.isAgg4
  z4 := Tryz.sizeOf4
  v4 := Tryz.zeroValue4
  t5 := Tryz.underlying5
  a5 := Tryz.isAgg5
  z5 := Tryz.sizeOf5
  v5 := Tryz.zeroValue5
  t9 := Tryz.underlying9
  a9 := Tryz.isAgg9
  z9 := Tryz.sizeOf9
  v9 := Tryz.zeroValue9
  t22 := Tryz.underlying48
  a22 := Tryz.isAgg48
  z22 := Tryz.sizeOf48
  v22 := Tryz.zeroValue48
  t23 := Tryz.underlying48
  a23 := Tryz.isAgg48
  z23 := Tryz.sizeOf48
  v23 := Tryz.zeroValue48
  t25 := Tryz.underlying2
  a25 := Tryz.isAgg2
  z25 := Tryz.sizeOf2
  v25 := Tryz.zeroValue2
  t32 := Tryz.underlying129
  a32 := Tryz.isAgg129
  z32 := Tryz.sizeOf129
  v32 := Tryz.zeroValue129
  t35 := Tryz.underlying150
  a35 := Tryz.isAgg150
  z35 := Tryz.sizeOf150
  v35 := Tryz.zeroValue150
  t36 := Tryz.underlying151
  a36 := Tryz.isAgg151
  z36 := Tryz.sizeOf151
  v36 := Tryz.zeroValue151
  t41 := Tryz.underlying156
  a41 := Tryz.isAgg156
  z41 := Tryz.sizeOf156
  v41 := Tryz.zeroValue156
  t44 := Tryz.underlying159
  a44 := Tryz.isAgg159
  z44 := Tryz.sizeOf159
  v44 := Tryz.zeroValue159
  t46 := Tryz.underlying93
  a46 := Tryz.isAgg93
  z46 := Tryz.sizeOf93
  v46 := Tryz.zeroValue93
  t53 := Tryz.underlying169
  a53 := Tryz.isAgg169
  z53 := Tryz.sizeOf169
  v53 := Tryz.zeroValue169
  t57 := Tryz.underlying173
  a57 := Tryz.isAgg173
  z57 := Tryz.sizeOf173
  v57 := Tryz.zeroValue173
  t63 := Tryz.underlying177
  a63 := Tryz.isAgg177
  z63 := Tryz.sizeOf177
  v63 := Tryz.zeroValue177
  t64 := Tryz.underlying178
  a64 := Tryz.isAgg178
  z64 := Tryz.sizeOf178
  v64 := Tryz.zeroValue178
  }

/-- in rising order -/
def srt (xs : List Int) : List Int := xs.mergeSort fun x y => decide (x ≤ y)
theorem srt_len (xs : List Int) : (srt xs).length = xs.length := List.length_mergeSort _
theorem Sort_c {B : Nat} {w0 w : World} {L : List Ent} (hS : St B w0 w L) (i : Nat) {v : Value} {xs : List Int} (hi : L[i]? = some (row 2 v (iv xs))) (hl : xs.length < 4611686018427387904) :
    Calls Tryz.prog 58 #[v] w fun e w' => e = .returned (.tuple #[]) ∧ St B w0 w' (L.set i (row 2 v (iv (srt xs)))) := by
  have hx := hS.ok _ (List.mem_of_getElem? hi)
  rcases hx with ⟨hp, _⟩ | ⟨_, hv, hu⟩ | ⟨_, g, cap, cur, hv, hB, hh, h1, h2, h3, h4⟩
  · simp [row] at hp
  · simp only [row] at hv hu
    have hx : xs = [] := by cases xs with
      | nil => rfl
      | cons a r => simp [iv] at hu
    subst hx
    subst hv
    have hc := AnyM.slices_Sort_int_none Tryz.mSort none 0 w
    refine Calls.mono hc ?_
    rintro e w' ⟨rfl, rfl⟩
    refine ⟨rfl, ?_⟩
    have : L.set i (row 2 (.slice none 0 0) (iv (srt []))) = L := by
      obtain ⟨hlt, heq⟩ := List.getElem?_eq_some_iff.1 hi
      have e : srt [] = [] := by simp [srt]
      rw [e, ← heq, List.set_getElem_self]
    rw [this]; exact hS
  · simp only [row] at hv h1 h4 hh
    rw [iv_len] at hv h1 h4
    have hblk : g < w.heap.size := (Array.getElem?_eq_some_iff.1 hh).1
    have hH : Go.Sort.Holds (Value.int .i64) w g 0 xs.toArray := holds_of_blockI hh h4
    have hc := AnyM.slices_Sort_int Tryz.mSort g 0 cap xs w hH hblk hl
    subst hv
    refine Calls.mono hc ?_
    rintro e w' ⟨rfl, n, os, rfl⟩
    refine ⟨rfl, ?_⟩
    have hlen : (srt xs).length = xs.length := srt_len xs
    refine hS.put i hi ?_ (row 2 (.slice (some ⟨g, 0, none⟩) xs.length cap) (iv (srt xs))) (.inr (.inr ⟨rfl, g, cap, _, ?_, hB, heap_sortedI _ hh, ?_, h2, ?_, ?_⟩)) (.inl rfl)
    · exact grownBy_sortedI _
    · simp [row, iv_len, hlen]
    · simp [row, iv_len, hlen]; omega
    · simp [Go.Sort.putCells, h3]
    · have := take_putCellsI cur (srt xs) (by omega)
      rw [hlen] at this
      have hlen' : (xs.mergeSort fun x y => decide (x ≤ y)).length = xs.length := hlen
      simpa [row, iv, srt, hlen'] using this
end Go.Proofs.YtdgmaodnkbgolaaGreat
end

section
/- Images of sets under permutations; ranks of permutations. In plain terms. -/
namespace Go.Proofs.YtdgmaodnkbgolaaGreat
set_option linter.unusedSimpArgs false
set_option linter.unusedVariables false
theorem incB_pw : ∀ {xs : List Int} {l n : Int}, incB l n xs = true → xs.Pairwise (· < ·)
  | [], _, _, _ => List.Pairwise.nil
  | x :: t, l, n, h => by
    unfold incB at h; split at h
    · simp at h
    · exact List.Pairwise.cons (fun y hy => (incB_gt h y hy).1) (incB_pw h)
/-! ### ranks -/
end Go.Proofs.YtdgmaodnkbgolaaGreat
end

section
/- Plain: the design of the pairs of a schedule, and its classes. -/
namespace Go.Proofs.YtdgmaodnkbgolaaGreat
set_option linter.unusedSimpArgs false
set_option linter.unusedVariables false
section
variable {n : Nat} {R : List (List (List Int))}
/-- the pairs, in order -/
def dsL (R : List (List (List Int))) : List (List Int) := srtL R.flatten
theorem VS.fgd (h : VS n R) {b : List Int} (hb : b ∈ dsL R) : GdP n b := by
  obtain ⟨q, hq, hbq⟩ := List.mem_flatten.1 ((srtL_perm _).mem_iff.1 hb)
  exact gdP_t (h.gd q hq b hbq)
theorem GdP.len {n : Int} {b : List Int} (h : GdP n b) : b.length = 2 := by rw [h.eq]; rfl
theorem VS.dnd (h : VS n R) : (dsL R).Nodup := (srtL_perm _).nodup_iff.2 h.nd
theorem VS.dst (h : VS n R) {i j : Nat} (hij : i < j) (hj : j < (dsL R).length) : cmpI (xat (dsL R) i) (xat (dsL R) j) < 0 := by
  have hp := List.pairwise_iff_getElem.1 (srtL_pw R.flatten) i j (by unfold dsL at hj; omega) hj hij
  have hle : cmpI (xat (dsL R) i) (xat (dsL R) j) ≤ 0 := by
    rw [xat_eq (show i < (dsL R).length by omega), xat_eq hj]
    exact of_decide_eq_true hp
  rcases Int.lt_or_eq_of_le hle with h1 | h1
  · exact h1
  · have e := cmpI_eq h1
    rw [xat_eq (show i < (dsL R).length by omega), xat_eq hj] at e
    exact absurd e (List.pairwise_iff_getElem.1 (List.nodup_iff_pairwise_ne.1 h.dnd) i j (by omega) hj hij)
theorem VS.dok (h : VS n R) (hl : R.flatten.length ≤ 128) : dOk n (dsL R) = true := by
  have h2 := h.n2
  have h3 := h.n32
  refine (DOk.mk' (by omega) (by omega) hl fun b hb => ?_).ok
  have hG := h.fgd ((srtL_perm _).mem_iff.2 hb)
  have a1 := hG.lt
  have a2 := hG.lo
  have a3 := hG.hi
  refine ⟨by rw [hG.len]; omega, ?_⟩
  rw [hG.eq]
  unfold incB
  rw [if_neg (by omega)]
  unfold incB
  rw [if_neg (by omega)]
  rfl
theorem VS.par (h : VS n R) {x y : Nat} (hxy : x < y) (hy : y < n) : parF (dsL R) x y = 1 := by
  rw [parF, dsL, cntD_perm (srtL_perm _), cntD, ← List.countP_eq_length_filter]
  rw [show List.countP (fun b => decide ((x : Int) ∈ b) && decide ((y : Int) ∈ b)) R.flatten = List.count [(x : Int), (y : Int)] R.flatten from ?_]
  · rw [List.Nodup.count h.nd, if_pos (h.al x y hxy hy)]; rfl
  · rw [List.count]
    refine List.countP_congr fun b hb => ?_
    have hG := h.fgd ((srtL_perm _).mem_iff.2 hb)
    have a1 := hG.lt
    have e := hG.eq
    constructor
    · intro hm
      simp only [Bool.and_eq_true, decide_eq_true_eq] at hm
      obtain ⟨h1, h2⟩ := hm
      rw [e] at h1 h2
      simp only [List.mem_cons, List.not_mem_nil, or_false] at h1 h2
      rw [beq_iff_eq, e, show nth b 0 = (x : Int) by omega, show nth b 1 = (y : Int) by omega]
    · intro hm
      rw [beq_iff_eq] at hm
      subst hm
      simp
theorem VS.prm (h : VS n R) : prmB n (dsL R) = true ∧ ∃ B r, prmV n (dsL R) = [(n : Int), B, r, 2, 1] := by
  have h2 := h.n2
  have hl : ∀ b ∈ dsL R, b.length = 2 := fun b hb => (h.fgd hb).len
  have hm : [((0 : Nat) : Int), ((1 : Nat) : Int)] ∈ dsL R := (srtL_perm _).mem_iff.2 (h.al 0 1 (by omega) (by omega))
  have h0 : 0 < (dsL R).length := List.length_pos_of_mem hm
  have hx : (xat (dsL R) 0).length = 2 := hl _ (xat_mem h0)
  have hp : ∀ c ∈ parL n (dsL R), c = 1 := fun c hc => by
    obtain ⟨l, hl, hcl⟩ := List.mem_flatten.1 hc
    obtain ⟨x, hx, rfl⟩ := List.mem_map.1 hl
    obtain ⟨t, ht, rfl⟩ := List.mem_map.1 hcl
    have := List.mem_range.1 ht
    exact h.par (by omega) (by omega)
  have hpl : 0 < (parL n (dsL R)).length := by
    have : parF (dsL R) 0 (0 + 1 + 0) ∈ parL n (dsL R) := List.mem_flatten.2 ⟨parR n (dsL R) 0, List.mem_map_of_mem (List.mem_range.2 (by omega)), List.mem_map_of_mem (f := fun t => parF (dsL R) 0 (0 + 1 + t)) (List.mem_range.2 (by omega))⟩
    exact List.length_pos_of_mem this
  have hn : nth (parL n (dsL R)) 0 = 1 := hp _ (by rw [nth_eq hpl]; exact List.getElem_mem hpl)
  have hb : prmB n (dsL R) = true := by
    simp only [prmB, Bool.and_eq_true, decide_eq_true_eq, List.all_eq_true]
    refine ⟨⟨⟨⟨h2, h0⟩, by rw [hx]; omega⟩, fun b hb => by rw [hl b hb, hx]; rfl⟩, fun c hc => by rw [hp c hc, hn]; rfl⟩
  exact ⟨hb, _, _, by unfold prmV; rw [if_pos hb, hx, hn]; rfl⟩
end
section
variable {n : Nat} {R : List (List (List Int))}
end
end Go.Proofs.YtdgmaodnkbgolaaGreat
end

section
/- Walks: pairs, and the schedule of the circle method, of the program. -/
namespace Go.Proofs.YtdgmaodnkbgolaaGreat
set_option linter.unusedSimpArgs false
set_option linter.unusedVariables false
open Go.RowKit
attribute [local go_sem ↓] Go.wp_at_zero Go.wp_at_succ
/-- behind the append of a row of its own, with more behind -/
theorem own2_snocL {B : Nat} {w0 w : World} {v v' : Value} {us : List Value} {xss : List (List Int)} {u : Value} {xs : List Int} {L2 : List Ent} (hl : us.length = xss.length)
    (h : St B w0 w ((own2 v us xss ++ L2 ++ [row 2 u (iv xs)]).set 0 (row 48 v' (us ++ [u])))) : St B w0 w (own2 v' (us ++ [u]) (xss ++ [xs]) ++ L2) := by
  rw [own2, rowsI_app hl]
  refine h.perm ?_
  show (row 48 v' (us ++ [u]) :: (rowsI us xss ++ L2 ++ [row 2 u (iv xs)])).Perm (row 48 v' (us ++ [u]) :: (rowsI us xss ++ [row 2 u (iv xs)] ++ L2))
  refine List.Perm.cons _ ?_
  rw [List.append_assoc, List.append_assoc]
  exact List.Perm.append_left _ List.perm_append_comm
/-- lists of lists of rows, and a code -/
def MkIII (w : World) (X : List (List (List Int))) (c : Int) (e : Ending) (w' : World) : Prop := ∃ v vs uss, e = .returned (.tuple #[v, .int .i64 c]) ∧ Fit3 vs uss X ∧ St w.heap.size w w' (own3 v vs uss X)
theorem MkIII.riii {w w' : World} {v : Value} {vs : List Value} {uss : List (List Value)} {X : List (List (List Int))} (hf : Fit3 vs uss X) (h : St w.heap.size w w' (own3 v vs uss X)) : RIII w' v vs uss X := St.riii (L2 := []) (by rw [List.append_nil]; exact h) hf
end Go.Proofs.YtdgmaodnkbgolaaGreat
end

section
/- Walks: binary search among rows, a class of blocks, a resolution, of the program. -/
namespace Go.Proofs.YtdgmaodnkbgolaaGreat
set_option linter.unusedSimpArgs false
set_option linter.unusedVariables false
open Go.RowKit
attribute [local go_sem ↓] Go.wp_at_zero Go.wp_at_succ
/-- which points are covered -/
structure CV (n : Nat) (T : List Int) (P : List Bool) : Prop where
  len : P.length = n
  el : ∀ x : Nat, x < n → bat P x = decide ((x : Int) ∈ T)
theorem CV.nil (n : Nat) : CV n [] (List.replicate n false) := ⟨by simp, fun x _ => by rw [bat_rep]; simp⟩
theorem CV.snoc {n : Nat} {T : List Int} {P : List Bool} (h : CV n T P) {a : Nat} (ha : a < n) : CV n (T ++ [(a : Int)]) (P.set a true) := by
  refine ⟨by simp [h.len], fun x hx => ?_⟩
  rw [bat_set (by rw [h.len]; exact ha), h.el x hx]
  by_cases e : a = x
  · subst e; simp
  · rw [if_neg e]
    have : ((x : Int) ∈ T ++ [(a : Int)]) ↔ (x : Int) ∈ T := by
      simp only [List.mem_append, List.mem_singleton]
      constructor
      · rintro (h | h)
        · exact h
        · omega
      · exact .inl
    simp only [this]
end Go.Proofs.YtdgmaodnkbgolaaGreat
end

section
/- Plain: affine planes of fields, orders of planes, classes of parallel lines, completed planes (by kernel check for the orders 2 to 5). -/
namespace Go.Proofs.YtdgmaodnkbgolaaGreat
set_option linter.unusedSimpArgs false
set_option linter.unusedVariables false

/-- a line that is not vertical -/
def lnS (q m b : Nat) : List Int := (List.range q).map fun x : Nat => (q : Int) * x + fsum (mkfP q) (mkfD q).toNat (fmul (mkfP q) (mkfD q).toNat (mkfL q) m x) b 1
def lnV (q m : Nat) : List Int := (List.range q).map fun x : Nat => (q : Int) * m + x
def apU (q : Nat) : List (List Int) := (List.range q).flatMap fun m => lnV q m :: (List.range q).map (lnS q m)
def apB (q : Nat) : List (List Int) := srtL (apU q)
/-- the order of a plane -/
def plO (v k : Int → Int) (V K : Int) : Nat → Int → Int
  | 0, _ => 0
  | f + 1, n => if v n ≤ V then (if v n = V ∧ k n = K then n else plO v k V K f (n + 1)) else 0
def afV (n : Int) : Int := n * n
def afK (n : Int) : Int := n
def ordP (v k : Int → Int) (P : Nat) (A : List (List Int)) : Int := if (dOk P A && prmB P A && decide (nth (prmV P A) 4 = 1)) = true then plO v k (nth (prmV P A) 0) (nth (prmV P A) 3) 5 2 else 0
/-- a line is put to those that it does not meet -/
def pcF (A : List (List Int)) (k : Nat) (c : List Int) : Bool := decide ((meB (xat A (nth c 0).toNat) (xat A k)).length = 0)
def pcS (A : List (List Int)) (C : List (List Int)) (k : Nat) : List (List Int) :=
  if idxR (pcF A k) C 0 < 0 then C ++ [[(k : Int)]] else C.set (idxR (pcF A k) C 0).toNat (xat C (idxR (pcF A k) C 0).toNat ++ [(k : Int)])
def pcK (A : List (List Int)) : Nat → List (List Int)
  | 0 => []
  | k + 1 => pcS A (pcK A k) k
def apD2 : List (List Int) := [[0, 1], [0, 2], [0, 3], [1, 2], [1, 3], [2, 3]]
def apD3 : List (List Int) := [[0, 1, 2], [0, 3, 6], [0, 4, 8], [0, 5, 7], [1, 3, 8], [1, 4, 7], [1, 5, 6], [2, 3, 7], [2, 4, 6], [2, 5, 8], [3, 4, 5], [6, 7, 8]]
def apD4 : List (List Int) := [[0, 1, 2, 3], [0, 4, 8, 12], [0, 5, 10, 15], [0, 6, 11, 13], [0, 7, 9, 14], [1, 4, 11, 14], [1, 5, 9, 13], [1, 6, 8, 15], [1, 7, 10, 12], [2, 4, 9, 15], [2, 5, 11, 12], [2, 6, 10, 14], [2, 7, 8, 13], [3, 4, 10, 13], [3, 5, 8, 14], [3, 6, 9, 12], [3, 7, 11, 15], [4, 5, 6, 7], [8, 9, 10, 11], [12, 13, 14, 15]]
def apD5 : List (List Int) := [[0, 1, 2, 3, 4], [0, 5, 10, 15, 20], [0, 6, 12, 18, 24], [0, 7, 14, 16, 23], [0, 8, 11, 19, 22], [0, 9, 13, 17, 21], [1, 5, 14, 18, 22], [1, 6, 11, 16, 21], [1, 7, 13, 19, 20], [1, 8, 10, 17, 24], [1, 9, 12, 15, 23], [2, 5, 13, 16, 24], [2, 6, 10, 19, 23], [2, 7, 12, 17, 22], [2, 8, 14, 15, 21], [2, 9, 11, 18, 20], [3, 5, 12, 19, 21], [3, 6, 14, 17, 20], [3, 7, 11, 15, 24], [3, 8, 13, 18, 23], [3, 9, 10, 16, 22], [4, 5, 11, 17, 23], [4, 6, 13, 15, 22], [4, 7, 10, 18, 21], [4, 8, 12, 16, 20], [4, 9, 14, 19, 24], [5, 6, 7, 8, 9], [10, 11, 12, 13, 14], [15, 16, 17, 18, 19], [20, 21, 22, 23, 24]]
def apD : Nat → List (List Int)
  | 2 => apD2
  | 3 => apD3
  | 4 => apD4
  | _ => apD5
set_option maxRecDepth 1000000
theorem ap_lit : ∀ q ∈ ([2, 3, 4, 5] : List Nat), mkOk q = true ∧ apB q = apD q := by decide +kernel
theorem ap_few : ∀ q ∈ [2, 3, 4, 5], (apU q).length ≤ 128 := by decide +kernel
end Go.Proofs.YtdgmaodnkbgolaaGreat
end

section
/- Plain: complete sets of orthogonal squares: lines, the plane of them. -/
namespace Go.Proofs.YtdgmaodnkbgolaaGreat
set_option linter.unusedSimpArgs false
set_option linter.unusedVariables false

theorem pairN_inj {n a b a' b' : Nat} (hb : b < n) (hb' : b' < n) (e : n * a + b = n * a' + b') : a = a' ∧ b = b' := by
  have h1 : (n * a + b) / n = a := by rw [Nat.mul_add_div (by omega), Nat.div_eq_of_lt hb]; omega
  have h2 : (n * a' + b') / n = a' := by rw [Nat.mul_add_div (by omega), Nat.div_eq_of_lt hb']; omega
  have h3 : a = a' := by rw [← h1, ← h2, e]
  subst h3
  exact ⟨rfl, by omega⟩
theorem pairN_lt {n a b : Nat} (ha : a < n) (hb : b < n) : n * a + b < n * n := by
  have h1 : n * a + n ≤ n * n := by rw [← Nat.mul_succ]; exact Nat.mul_le_mul_left _ (by omega)
  omega
theorem divN {n p : Nat} (h : p < n * n) : p / n < n ∧ p % n < n ∧ p = n * (p / n) + p % n := by
  have h0 : 0 < n := by
    rcases Nat.eq_zero_or_pos n with e | e
    · subst e; omega
    · exact e
  exact ⟨Nat.div_lt_of_lt_mul h, Nat.mod_lt _ h0, (Nat.div_add_mod p n).symm⟩
theorem len_injG {α β : Type} [DecidableEq β] {B : List α} {C : List β} (hB : B.Nodup) (f : α → β) (hf : ∀ b ∈ B, f b ∈ C) (hi : ∀ a ∈ B, ∀ b ∈ B, f a = f b → a = b) : B.length ≤ C.length := by
  have h1 : (B.map f).Nodup := by
    rw [List.nodup_iff_pairwise_ne, List.pairwise_map]
    rw [List.nodup_iff_pairwise_ne] at hB
    refine (List.Pairwise.and_mem.1 hB).imp ?_
    rintro a b ⟨ha, hb, hne⟩ e
    exact hne (hi a ha b hb e)
  have := h1.length_le_of_subset (l₂ := C) (fun x hx => by
    obtain ⟨a, ha, rfl⟩ := List.mem_map.1 hx
    exact hf a ha)
  rwa [List.length_map] at this
/-- n + 1 squares, any two of them orthogonal -/
structure Net (n : Nat) (Y : List (List (List Int))) : Prop where
  two : 2 ≤ n
  len : Y.length = n + 1
  sq : ∀ c, c < n + 1 → Sq0 n (x3at Y c)
  ort : ∀ c d, c < n + 1 → d < n + 1 → c ≠ d → Ort n (x3at Y c) (x3at Y d)
def nF (Y : List (List (List Int))) (n c p : Nat) : Nat := af (x3at Y c) (p / n) (p % n)
/-- the points of a symbol of a square, the first k of them -/
def lnK (Y : List (List (List Int))) (n c s k : Nat) : List Int := upF (fun x => nF Y n c x.toNat == s) 0 k
def lnN (Y : List (List (List Int))) (n c s : Nat) : List Int := lnK Y n c s (n * n)
/-- the lines of the first c squares -/
def ntU (Y : List (List (List Int))) (n c : Nat) : List (List Int) := (List.range c).flatMap fun c => (List.range n).map (lnN Y n c)
section
variable {n : Nat} {Y : List (List (List Int))}
theorem Net.lt (h : Net n Y) {c p : Nat} (hc : c < n + 1) (hp : p < n * n) : nF Y n c p < n := (af_eq (h.sq c hc) (divN hp).1 (divN hp).2.1).2
theorem Net.inj (h : Net n Y) {c d p q : Nat} (hc : c < n + 1) (hd : d < n + 1) (hcd : c ≠ d) (hp : p < n * n) (hq : q < n * n) (e1 : nF Y n c p = nF Y n c q) (e2 : nF Y n d p = nF Y n d q) : p = q := by
  obtain ⟨p1, p2, p3⟩ := divN hp
  obtain ⟨q1, q2, q3⟩ := divN hq
  have a1 := (af_eq (h.sq c hc) p1 p2).1
  have a2 := (af_eq (h.sq c hc) q1 q2).1
  have a3 := (af_eq (h.sq d hd) p1 p2).1
  have a4 := (af_eq (h.sq d hd) q1 q2).1
  unfold nF at e1 e2
  have := h.ort c d hc hd hcd _ _ _ _ p1 p2 q1 q2 (by rw [a1, a2, e1]) (by rw [a3, a4, e2])
  rw [p3, q3, this.1, this.2]
theorem Net.pt (h : Net n Y) {c d s t : Nat} (hc : c < n + 1) (hd : d < n + 1) (hcd : c ≠ d) (hs : s < n) (ht : t < n) : ∃ p, p < n * n ∧ nF Y n c p = s ∧ nF Y n d p = t := by
  have hb : Bij (n * n) fun p => n * nF Y n c p + nF Y n d p := ⟨fun p hp => pairN_lt (h.lt hc hp) (h.lt hd hp), fun p q hp hq e => by
    have := pairN_inj (h.lt hd hp) (h.lt hd hq) e
    exact h.inj hc hd hcd hp hq this.1 this.2⟩
  obtain ⟨p, hp, e⟩ := hb.onto (pairN_lt hs ht)
  have := pairN_inj (h.lt hd hp) ht e
  exact ⟨p, hp, this.1, this.2⟩
theorem mem_lnK {c s k p : Nat} : (p : Int) ∈ lnK Y n c s k ↔ p < k ∧ nF Y n c p = s := by
  unfold lnK
  rw [mem_upF, Int.toNat_natCast, beq_iff_eq]
  constructor
  · rintro ⟨_, h2, h3⟩; exact ⟨by omega, h3⟩
  · rintro ⟨h2, h3⟩; exact ⟨by omega, by omega, h3⟩
theorem lnK_nat {c s k : Nat} {z : Int} (h : z ∈ lnK Y n c s k) : ∃ p : Nat, z = p ∧ p < k ∧ nF Y n c p = s := by
  have h2 := h
  unfold lnK at h
  rw [mem_upF] at h
  obtain ⟨p, rfl⟩ := Int.eq_ofNat_of_zero_le (show 0 ≤ z by omega)
  exact ⟨p, rfl, mem_lnK.1 h2⟩
theorem lnK_inc (c s k : Nat) (h : k ≤ n * n) : incB (-1) ((n * n : Nat) : Int) (lnK Y n c s k) = true := incB_upF _ _ _ (by omega) (by omega)
theorem mem_lnN {c s p : Nat} : (p : Int) ∈ lnN Y n c s ↔ p < n * n ∧ nF Y n c p = s := mem_lnK
theorem lnN_nat {c s : Nat} {z : Int} (h : z ∈ lnN Y n c s) : ∃ p : Nat, z = p ∧ p < n * n ∧ nF Y n c p = s := lnK_nat h
theorem nodup_incB {m : Int} : ∀ {xs : List Int} {last : Int}, incB last m xs = true → xs.Nodup
  | [], _, _ => List.nodup_nil
  | x :: xs, last, h => by
    unfold incB at h
    split at h
    · cases h
    · refine List.nodup_cons.2 ⟨fun hx => ?_, nodup_incB h⟩
      have := incB_gt h x hx; omega
theorem lnN_nodup (c s : Nat) : (lnN Y n c s).Nodup := nodup_incB (lnK_inc c s (n * n) (Nat.le_refl _))
theorem Net.other (h : Net n Y) {c : Nat} (hc : c < n + 1) : ∃ d, d < n + 1 ∧ c ≠ d := by
  have := h.two
  by_cases e : c = 0
  · exact ⟨1, by omega, by omega⟩
  · exact ⟨0, by omega, e⟩
theorem Net.line (h : Net n Y) {c s : Nat} (hc : c < n + 1) (hs : s < n) : (lnN Y n c s).length = n := by
  obtain ⟨d, hd, hcd⟩ := h.other hc
  apply Nat.le_antisymm
  · have := len_injG (C := List.range n) (lnN_nodup (Y := Y) (n := n) c s) (fun z => nF Y n d z.toNat) (fun z hz => by
      obtain ⟨p, rfl, hp, _⟩ := lnN_nat hz
      rw [Int.toNat_natCast, List.mem_range]; exact h.lt hd hp) (fun a ha b hb e => by
      obtain ⟨p, rfl, hp, e1⟩ := lnN_nat ha
      obtain ⟨q, rfl, hq, e2⟩ := lnN_nat hb
      simp only [Int.toNat_natCast] at e
      rw [h.inj hc hd hcd hp hq (by rw [e1, e2]) e])
    rwa [List.length_range] at this
  · have := len_injG (B := List.range n) (C := lnN Y n c s) List.nodup_range (fun t => if ht : t < n then (((h.pt hc hd hcd hs ht).choose : Nat) : Int) else 0) (fun t ht => by
      rw [List.mem_range] at ht
      simp only [ht, dif_pos]
      obtain ⟨h1, h2, h3⟩ := (h.pt hc hd hcd hs ht).choose_spec
      exact mem_lnN.2 ⟨h1, h2⟩) (fun a ha b hb e => by
      rw [List.mem_range] at ha hb
      simp only [ha, hb, dif_pos] at e
      obtain ⟨_, _, h3⟩ := (h.pt hc hd hcd hs ha).choose_spec
      obtain ⟨_, _, h4⟩ := (h.pt hc hd hcd hs hb).choose_spec
      rw [← h3, ← h4]
      congr 1
      omega)
    rwa [List.length_range] at this
/-- two points are on one line -/
theorem Net.join (h : Net n Y) {x y : Nat} (hx : x < n * n) (hy : y < n * n) : ∃ c, c < n + 1 ∧ nF Y n c x = nF Y n c y := by
  by_cases e0 : nF Y n 0 x = nF Y n 0 y
  · exact ⟨0, by omega, e0⟩
  · have ht := h.two
    have hp : ∀ c, ∃ p, c < n → p < n * n ∧ nF Y n 0 p = nF Y n 0 y ∧ nF Y n (c + 1) p = nF Y n (c + 1) x := fun c => by
      by_cases hc : c < n
      · obtain ⟨p, h1, h2, h3⟩ := h.pt (c := 0) (d := c + 1) (by omega) (by omega) (by omega) (h.lt (c := 0) (by omega) hy) (h.lt (c := c + 1) (by omega) hx)
        exact ⟨p, fun _ => ⟨h1, h2, h3⟩⟩
      · exact ⟨0, fun q => absurd q hc⟩
    have hb : Bij n fun c => nF Y n 1 (hp c).choose := ⟨fun c hc => h.lt (by omega) ((hp c).choose_spec hc).1, fun c d hc hd e => by
      by_cases hcd : c = d
      · exact hcd
      · exfalso
        obtain ⟨c1, c2, c3⟩ := (hp c).choose_spec hc
        obtain ⟨d1, d2, d3⟩ := (hp d).choose_spec hd
        have e1 := h.inj (c := 0) (d := 1) (by omega) (by omega) (by omega) c1 d1 (by rw [c2, d2]) e
        rw [← e1] at d3
        have e2 := h.inj (c := c + 1) (d := d + 1) (by omega) (by omega) (by omega) c1 hx c3 d3
        rw [e2] at c2
        exact e0 c2⟩
    obtain ⟨c, hc, e⟩ := hb.onto (h.lt (c := 1) (by omega) hy)
    obtain ⟨c1, c2, c3⟩ := (hp c).choose_spec hc
    have e1 := h.inj (c := 0) (d := 1) (by omega) (by omega) (by omega) c1 hy c2 e
    rw [e1] at c3
    exact ⟨c + 1, by omega, c3.symm⟩
theorem ntU_mem {c : Nat} {b : List Int} : b ∈ ntU Y n c ↔ ∃ d s, d < c ∧ s < n ∧ b = lnN Y n d s := by
  unfold ntU
  rw [List.mem_flatMap]
  constructor
  · rintro ⟨d, hd, hb⟩
    obtain ⟨s, hs, rfl⟩ := List.mem_map.1 hb
    exact ⟨d, s, List.mem_range.1 hd, List.mem_range.1 hs, rfl⟩
  · rintro ⟨d, s, hd, hs, rfl⟩
    exact ⟨d, List.mem_range.2 hd, List.mem_map.2 ⟨s, List.mem_range.2 hs, rfl⟩⟩
theorem ntU_succ (Y : List (List (List Int))) (n c : Nat) : ntU Y n (c + 1) = ntU Y n c ++ (List.range n).map (lnN Y n c) := by
  unfold ntU; rw [List.range_succ, List.flatMap_append]; simp
theorem ntU_len (Y : List (List (List Int))) (n c : Nat) : (ntU Y n c).length = c * n := by
  induction c with
  | zero => simp [ntU]
  | succ c ih => rw [ntU_succ, List.length_append, ih, List.length_map, List.length_range, Nat.succ_mul]
theorem Net.uniq (h : Net n Y) {c c' s s' : Nat} (hc : c < n + 1) (hc' : c' < n + 1) (hs : s < n) (hs' : s' < n) (e : lnN Y n c s = lnN Y n c' s') : c = c' ∧ s = s' := by
  have ht := h.two
  by_cases hcc : c = c'
  · subst hcc
    obtain ⟨d, hd, hcd⟩ := h.other hc
    obtain ⟨p, p1, p2, _⟩ := h.pt hc hd hcd hs (show 0 < n by omega)
    have hm : (p : Int) ∈ lnN Y n c s := mem_lnN.2 ⟨p1, p2⟩
    rw [e, mem_lnN] at hm
    exact ⟨rfl, by rw [← p2, hm.2]⟩
  · exfalso
    obtain ⟨t, ht1, ht2⟩ : ∃ t, t < n ∧ t ≠ s' := by
      by_cases e2 : s' = 0
      · exact ⟨1, by omega, by omega⟩
      · exact ⟨0, by omega, fun q => e2 q.symm⟩
    obtain ⟨p, p1, p2, p3⟩ := h.pt hc hc' hcc hs ht1
    have hm : (p : Int) ∈ lnN Y n c s := mem_lnN.2 ⟨p1, p2⟩
    rw [e, mem_lnN, p3] at hm
    exact ht2 hm.2
theorem Net.nodup (h : Net n Y) : (ntU Y n (n + 1)).Nodup := by
  unfold ntU
  rw [List.nodup_iff_pairwise_ne, List.pairwise_flatMap]
  refine ⟨fun c hc => ?_, ?_⟩
  · rw [List.mem_range] at hc
    rw [List.pairwise_map]
    refine (List.Pairwise.and_mem.1 (List.pairwise_lt_range (n := n))).imp ?_
    rintro s t ⟨hs, ht, hlt⟩ e
    rw [List.mem_range] at hs ht
    have := (h.uniq hc hc hs ht e).2
    omega
  · refine (List.Pairwise.and_mem.1 (List.pairwise_lt_range (n := n + 1))).imp ?_
    rintro c d ⟨hc, hd, hlt⟩ x hx y hy e
    rw [List.mem_range] at hc hd
    obtain ⟨s, hs, rfl⟩ := List.mem_map.1 hx
    obtain ⟨t, ht, rfl⟩ := List.mem_map.1 hy
    rw [List.mem_range] at hs ht
    have := (h.uniq hc hd hs ht e).1
    omega
/-! ### the counts of its lines -/
theorem cntD_flat (p : List Int → Bool) (f : Nat → List (List Int)) : ∀ m : Nat, cntD p ((List.range m).flatMap f) = sN m fun i => cntD p (f i)
  | 0 => rfl
  | m + 1 => by
    rw [List.range_succ, List.flatMap_append, sN, ← cntD_flat p f m]
    simp only [cntD, List.flatMap_cons, List.flatMap_nil, List.append_nil, List.filter_append, List.length_append]
    omega
theorem sN_zeroB {b : Nat → Bool} : ∀ {m : Nat}, (∀ j, j < m → b j = false) → sN m (fun j => ind (b j)) = 0
  | 0, _ => rfl
  | m + 1, h => by
    have ih := sN_zeroB (b := b) (m := m) fun j hj => h j (by omega)
    rw [sN, ih, h m (by omega)]; rfl
theorem sN_oneB {b : Nat → Bool} : ∀ {m i : Nat}, i < m → b i = true → (∀ j, j < m → b j = true → j = i) → sN m (fun j => ind (b j)) = 1
  | 0, _, h, _, _ => by omega
  | m + 1, i, hi, hb, hu => by
    by_cases e : i = m
    · subst e
      rw [sN, sN_zeroB (b := b) (m := i) fun j hj => by
        cases q : b j
        · rfl
        · have := hu j (by omega) q; omega]
      rw [hb]; rfl
    · have ih := sN_oneB (b := b) (m := m) (i := i) (by omega) hb fun j hj q => hu j (by omega) q
      rw [sN, ih]
      cases q : b m
      · rfl
      · have := hu m (by omega) q; omega
theorem Net.rep (h : Net n Y) {x : Nat} (hx : x < n * n) : repF (srtL (ntU Y n (n + 1))) x = ((n + 1 : Nat) : Int) := by
  unfold repF
  rw [cntD_perm (srtL_perm _), ntU, cntD_flat, sN_congr (g := fun _ => 1) (fun c hc => by
    rw [cntD_sN]
    exact sN_oneB (i := nF Y n c x) (h.lt hc hx) (decide_eq_true (mem_lnN.2 ⟨hx, rfl⟩)) fun s _ hb => (mem_lnN.1 (of_decide_eq_true hb)).2.symm), sN_const]
  omega
theorem Net.par (h : Net n Y) {x y : Nat} (hxy : x < y) (hy : y < n * n) : parF (srtL (ntU Y n (n + 1))) x y = 1 := by
  have hx : x < n * n := by omega
  unfold parF
  rw [cntD_perm (srtL_perm _), ntU, cntD_flat, sN_congr (g := fun c => ind (nF Y n c x == nF Y n c y)) (fun c hc => by
    rw [cntD_sN]
    cases e : nF Y n c x == nF Y n c y
    · refine (sN_zeroB fun s _ => ?_)
      rw [Bool.eq_false_iff]
      intro hb
      rw [Bool.and_eq_true, decide_eq_true_eq, decide_eq_true_eq, mem_lnN, mem_lnN] at hb
      rw [beq_eq_false_iff_ne] at e
      exact e (by rw [hb.1.2, hb.2.2])
    · rw [beq_iff_eq] at e
      refine sN_oneB (i := nF Y n c x) (h.lt hc hx) ?_ fun s _ hb => ?_
      · rw [Bool.and_eq_true, decide_eq_true_eq, decide_eq_true_eq, mem_lnN, mem_lnN]
        exact ⟨⟨hx, rfl⟩, hy, e.symm⟩
      · rw [Bool.and_eq_true, decide_eq_true_eq, mem_lnN] at hb
        exact hb.1.2.symm)]
  obtain ⟨c, hc, e⟩ := h.join hx hy
  refine sN_oneB hc (beq_iff_eq.2 e) fun d hd q => ?_
  rw [beq_iff_eq] at q
  by_cases hcd : d = c
  · exact hcd
  · have := h.inj hd hc hcd hx hy q e; omega
/-- the plane of the squares -/
theorem Net.dok (h : Net n Y) (h5 : n ≤ 5) : dOk ((n * n : Nat) : Int) (srtL (ntU Y n (n + 1))) = true := by
  have ht := h.two
  have hnn : n * n ≤ 5 * 5 := Nat.mul_le_mul h5 h5
  have hn2 : 2 * 2 ≤ n * n := Nat.mul_le_mul ht ht
  refine (DOk.mk' (by omega) (by omega) ?_ fun b hb => ?_).ok
  · rw [ntU_len]
    have : (n + 1) * n ≤ 6 * 5 := Nat.mul_le_mul (by omega) h5
    omega
  · obtain ⟨c, s, hc, hs, rfl⟩ := ntU_mem.1 hb
    exact ⟨by rw [h.line hc hs]; omega, lnK_inc c s (n * n) (Nat.le_refl _)⟩
theorem Net.prm (h : Net n Y) : prmB (n * n) (srtL (ntU Y n (n + 1))) = true ∧ prmV (n * n) (srtL (ntU Y n (n + 1))) = [((n * n : Nat) : Int), (((n + 1) * n : Nat) : Int), ((n + 1 : Nat) : Int), (n : Int), 1] := by
  have ht := h.two
  have hn2 : 2 * 2 ≤ n * n := Nat.mul_le_mul ht ht
  have hl : (srtL (ntU Y n (n + 1))).length = (n + 1) * n := by rw [srtL_len, ntU_len]
  have := prm_of (P := n * n) (K := n) (R := ((n + 1 : Nat) : Int)) (L := 1) (A := srtL (ntU Y n (n + 1))) (by omega) (by rw [hl]; exact Nat.mul_pos (by omega) (by omega)) ht (fun b hb => by
    obtain ⟨c, s, hc, hs, rfl⟩ := ntU_mem.1 ((srtL_perm _).mem_iff.1 hb)
    exact h.line hc hs) (fun x hx => h.rep hx) (fun x y hxy hy => h.par hxy hy)
  rwa [hl] at this
theorem Net.ord (h : Net n Y) (h5 : n ≤ 5) : ordP afV afK (n * n) (srtL (ntU Y n (n + 1))) = n := by
  have ht := h.two
  unfold ordP
  rw [h.dok h5, h.prm.1, h.prm.2]
  have e : ∀ a b c d : Int, nth [a, b, c, d, 1] 4 = 1 ∧ nth [a, b, c, d, 1] 0 = a ∧ nth [a, b, c, d, 1] 3 = d := fun _ _ _ _ => ⟨rfl, rfl, rfl⟩
  rw [(e _ _ _ _).1, (e _ _ _ _).2.1, (e _ _ _ _).2.2]
  simp only [decide_true, Bool.and_self, if_true]
  obtain rfl | rfl | rfl | rfl : n = 2 ∨ n = 3 ∨ n = 4 ∨ n = 5 := by omega
  all_goals decide
end
end Go.Proofs.YtdgmaodnkbgolaaGreat
end
