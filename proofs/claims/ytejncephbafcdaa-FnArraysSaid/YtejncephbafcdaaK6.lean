/- The texts of this claim, run 6: Src2 Pm1 Pm3 Vs Set Pm6 SqB Ml1 Ml3 Fx Dig Fld5. -/
import Derived.Test.YtejncephbafcdaaK1
import Derived.Test.YtejncephbafcdaaK3
import Derived.Test.YtejncephbafcdaaK4
import Derived.Test.YtejncephbafcdaaK5
import Derived.Deep.RegionHeld3
import Derived.Deep.DrawnRows
section
/- The source of choices: what lies beside it. -/
namespace Go.Proofs.Ytejncephbafcdaa
set_option linter.unusedSimpArgs false
set_option linter.unusedVariables false
open Go.RowKit

theorem Src.call {w0 w w' : World} {cv : Value} {g K : Nat} {L L' : List Ent} (h : Src w0 w cv g K L) (h' : St w.heap.size w w' L') : Src w0 w' cv g K (L ++ L') := by
  obtain ⟨p, s, h0, h1, hS⟩ := h
  exact ⟨p, s, h0, h1, hS.call h'⟩
theorem Src.sub {w0 w : World} {cv : Value} {g K : Nat} {L L' : List Ent} (h : Src w0 w cv g K L) (h' : L'.Sublist L) : Src w0 w cv g K L' := by
  obtain ⟨p, s, h0, h1, hS⟩ := h
  exact ⟨p, s, h0, h1, hS.sub (h'.cons_cons _)⟩
theorem Src.rdI {w0 w : World} {cv : Value} {g K : Nat} {L : List Ent} (h : Src w0 w cv g K L) (i : Nat) {e : TypeId} {v : Value} {xs : List Int} (hi : L[i]? = some (row e v (iv xs))) : RdI w v xs := by
  obtain ⟨p, s, h0, h1, hS⟩ := h
  exact hS.rdI (i + 1) hi

theorem St.emp0 {w : World} : St w.heap.size w (w.alloc (.cells #[] 2)) [row 2 (.slice (some ⟨w.heap.size, 0, none⟩) 0 0) (iv [])] :=
  (St.refl w).new 2 #[] (by simp)

theorem Src.perm {w0 w : World} {cv : Value} {g K : Nat} {L L' : List Ent} (h : Src w0 w cv g K L) (h' : L.Perm L') : Src w0 w cv g K L' := by
  obtain ⟨p, s, h0, h1, hS⟩ := h
  exact ⟨p, s, h0, h1, hS.perm (h'.cons _)⟩
theorem Src.call0 {w0 w w' : World} {cv : Value} {g K : Nat} {L : List Ent} (h : Src w0 w cv g K L) (h' : St w.heap.size w w' []) : Src w0 w' cv g K L := by
  have := h.call h'; rwa [List.append_nil] at this
theorem Src.rd {w0 w : World} {cv : Value} {g K : Nat} {L : List Ent} (h : Src w0 w cv g K L) (i : Nat) {e : TypeId} {v : Value} {us : List Value} (hi : L[i]? = some (row e v us)) : Rd w v us := by
  obtain ⟨p, s, h0, h1, hS⟩ := h
  exact hS.rd (i + 1) hi
theorem Src.box {w0 w : World} {cv : Value} {g K : Nat} {L : List Ent} (h : Src w0 w cv g K L) (i : Nat) {e : TypeId} {gf : Nat} {us : List Value} (hi : L[i]? = some (Go.Proofs.Ytejncephbafcdaa.box e gf us)) (j : Nat) {u : Value} (hj : us[j]? = some u) : w.cell? ⟨gf, j, none⟩ = some u := by
  obtain ⟨p, s, h0, h1, hS⟩ := h
  exact hS.bcell (i + 1) hi j hj
theorem Src.bfree {w0 w : World} {cv : Value} {g K : Nat} {L : List Ent} (h : Src w0 w cv g K L) (i : Nat) {e : TypeId} {gf : Nat} {us : List Value} (hi : L[i]? = some (Go.Proofs.Ytejncephbafcdaa.box e gf us)) (j : Nat) : w.frozen? ⟨gf, j, none⟩ = false := by
  obtain ⟨p, s, h0, h1, hS⟩ := h
  exact hS.bfree (i + 1) hi j
theorem Src.bstore {w0 w : World} {cv : Value} {g K : Nat} {L : List Ent} (h : Src w0 w cv g K L) (i : Nat) {e : TypeId} {gf : Nat} {us : List Value} (hi : L[i]? = some (Go.Proofs.Ytejncephbafcdaa.box e gf us)) (j : Nat) (u : Value) :
    Src w0 (w.setCell ⟨gf, j, none⟩ u) cv g K (L.set i (Go.Proofs.Ytejncephbafcdaa.box e gf (us.set j u))) := by
  obtain ⟨p, s, h0, h1, hS⟩ := h
  exact ⟨p, s, h0, h1, hS.bstore (i + 1) hi j u⟩
/-- a new block behind a pointer, ahead of the others -/
theorem Src.newboxF {w0 w : World} {cv : Value} {g K : Nat} {L : List Ent} (h : Src w0 w cv g K L) (e : TypeId) (cs : Array Value) : Src w0 (w.alloc (.cells cs e)) cv g K (Go.Proofs.Ytejncephbafcdaa.box e w.heap.size cs.toList :: L) := by
  obtain ⟨p, s, h0, h1, hS⟩ := h
  exact ⟨p, s, h0, h1, (hS.newboxF e cs).perm (List.Perm.swap _ _ _)⟩
theorem Src.drew {w0 w : World} {cv : Value} {g K : Nat} {L : List Ent} (h : Src w0 w cv g K L) : Src w0 w.drew cv g K L := by
  obtain ⟨p, s, h0, h1, hS⟩ := h
  exact ⟨p, s, h0, h1, hS.drew⟩
/-- a new empty row of integers, ahead of the others -/
theorem Src.empI {w0 w : World} {cv : Value} {g K : Nat} {L : List Ent} (h : Src w0 w cv g K L) :
    Src w0 (w.alloc (.cells #[] 2)) cv g K (row 2 (.slice (some ⟨w.heap.size, 0, none⟩) 0 0) (iv []) :: L) :=
  (h.call St.emp0).perm List.perm_append_comm
theorem St.emp0II {w : World} : St w.heap.size w (w.alloc (.cells #[] 52)) [row 52 (.slice (some ⟨w.heap.size, 0, none⟩) 0 0) []] :=
  (St.refl w).new 52 #[] (by simp)
/-- a new empty row of rows, ahead of the others -/
theorem Src.empII {w0 w : World} {cv : Value} {g K : Nat} {L : List Ent} (h : Src w0 w cv g K L) :
    Src w0 (w.alloc (.cells #[] 52)) cv g K (row 52 (.slice (some ⟨w.heap.size, 0, none⟩) 0 0) [] :: L) :=
  (h.call St.emp0II).perm List.perm_append_comm

theorem at_cons {L : List Ent} {i : Nat} {x y : Ent} (h : L[i]? = some x) : (y :: L)[i + 1]? = some x := by
  rw [List.getElem?_cons_succ]; exact h
/-- the source, laid behind what there is -/
theorem l00FromS (w0 w : World) (cv : Value) (bs : List UInt8) (L : List Ent) (hb : RdB w0 cv bs) (hS : St w0.heap.size w0 w L) :
    Calls Try.prog 36 #[cv] w fun e w' => ∃ g, e = .returned (.pointer (some ⟨g, 0, none⟩)) ∧ Src w0 w' cv g 0 L :=
  (l00From_c w cv bs (hS.oldB hb)).mono fun e w' ⟨he, p, s, h0, h1, h2⟩ => ⟨_, he, p, s, h0, h1, (hS.call h2).perm List.perm_append_comm⟩
theorem Src.riiS {w0 w : World} {cv : Value} {g K : Nat} {L : List Ent} (h : Src w0 w cv g K L) {v : Value} {us : List Value} {A : List (List Int)} (hs : (own2 v us A).Sublist L) (hl : us.length = A.length) : RII w v us A := (h.st.sub hs).rii hl
end Go.Proofs.Ytejncephbafcdaa
end

section
/- Walks: valid permutations of both sides; permutations that the laws make. -/
namespace Go.Proofs.Ytejncephbafcdaa
set_option linter.unusedSimpArgs false
set_option linter.unusedVariables false
open Go.RowKit
attribute [local go_sem ↓] Go.wp_at_zero Go.wp_at_succ

set_option maxHeartbeats 2000000 in
set_option maxRecDepth 100000 in
theorem ValidPermutation_c (v : Value) (xs : List Int) (w : World) (hv : RdI w v xs) (hN : xs.length ≤ 1048576) : Calls Try.prog 100 #[v] w (GivesB w (pvB xs)) := by
  have hlx := hv.len
  have HP := Lib.hid (show IsP xs ↔ ∀ j, j < xs.length → nth (srt xs) j = j from isP_iff)
  have Hl := Lib.hid (srt_len xs)
  have HS := fun {B : Nat} {w0 w : World} {L : List Ent} (hS : St B w0 w L) (i : Nat) {v : Value} (hi : L[i]? = some (row 2 v (iv xs))) => Lib.hid (Sort_c hS i hi (by omega))
  generalize srt xs = ys at *
  go_enter Try.func100, Try.ntmps100
  go_wp2_with fail
  refine (Clone_c v xs w hv hN).mono ?_
  rintro e w1 ⟨u, rfl, h1⟩
  go_wp2_with fail
  refine (HS h1 0 rfl).out.mono ?_
  rintro e w2 ⟨rfl, hS⟩
  simp only [List.set_cons_zero] at hS
  have hln := (hS.rdI 0 rfl).len
  have hix := (hS.rdI 0 rfl).ix
  rw [Hl.out] at hln hix
  clear HS h1
  go_wp2_with fail
  go_loopw [4, 5, 12] (fun _ _ x wr => ∃ k : Nat, k ≤ xs.length ∧ x = .int .i64 k ∧ Hid (∀ j, j < k → nth ys j = j) ∧ St w.heap.size w wr [row 2 u (iv ys)]) (fun _ _ x _ => xs.length - (intOf x).toNat)
  case atStart => exact ⟨0, by omega, rfl, fun j hj => by omega, hS⟩
  case round =>
    clear hS
    obtain ⟨k, hk, rfl, hI, hS⟩ := hrel
    by_cases hlt : k < xs.length
    · have hc := (hS.rdI 0 rfl).cell k (by rw [Hl.out]; exact hlt)
      by_cases h1 : nth ys k = k
      · have e1 := ne_f h1
        have H1 := Lib.hid h1
        clear h1
        go_wp2_with fail
        go_roundw
        case rel => exact ⟨k + 1, by omega, by go_num, fun j hj => by
          by_cases e : j = k
          · subst e; exact H1.out
          · exact hI.out j (by omega), hS⟩
        case measure => simp [intOf]; omega
      · have e1 := ne_t h1
        have H1 := Lib.hid h1
        clear h1
        go_wp2_with fail
        go_ret
        exact ⟨ret_bool (pvB_no fun h => H1.out (HP.out.1 h.2 k hlt)).symm, hS.out⟩
    · go_wp2_with fail
      go_ret
      have hp : IsP xs := HP.out.2 fun j hj => hI.out j (by omega)
      refine ⟨ret_bool ?_, hS.out⟩
      by_cases h32 : xs.length ≤ 32
      · rw [pvB_yes h32 hp]; simp; omega
      · rw [pvB_no fun h => h32 h.1]; simp; omega

end Go.Proofs.Ytejncephbafcdaa
end

section
/- Walks: permutations that are made and drawn; composition, inverses. Walks: composition and inverses of permutations. -/
namespace Go.Proofs.Ytejncephbafcdaa
set_option linter.unusedSimpArgs false
set_option linter.unusedVariables false
open Go.RowKit
attribute [local go_sem ↓] Go.wp_at_zero Go.wp_at_succ


set_option maxHeartbeats 1000000 in
set_option maxRecDepth 100000 in
theorem l04One_c (n : Nat) (w : World) (hn : n ≤ 1000) : Calls Try.prog 122 #[.int .i64 n] w (MakesI w (iot n)) := by
  have hS0 : St w.heap.size w (w.alloc (.cells #[] 2)) [row 2 (.slice (some ⟨w.heap.size, 0, none⟩) 0 0) (iv [])] := (St.refl w).new 2 #[] (by simp)
  go_enter Try.func122, Try.ntmps122
  go_wp2_with fail
  go_loopw [3, 4] (fun o x wr => ∃ k : Nat, k ≤ n ∧ x = .int .i64 k ∧ St w.heap.size w wr [row 2 o (iv (iot k))]) (fun _ x _ => n - (intOf x).toNat)
  case atStart => exact ⟨0, by omega, rfl, hS0⟩
  case round =>
    obtain ⟨k, hk, rfl, hS⟩ := hrel
    have hkl := iot_len k
    by_cases hlt : k < n
    · go_wp2_with (at_builtin; refine appI hS 0 rfl (by omega) rfl _ _ rfl rfl _ rfl ?_; intro v2 w2 hS2)
      go_roundw
      case rel => exact ⟨k + 1, by omega, by go_num, by rw [iot_succ]; exact hS2⟩
      case measure => simp [intOf]; omega
    · obtain rfl : k = n := by omega
      go_wp2_with fail
      go_ret
      exact ⟨_, rfl, hS⟩
/-- a permutation of n numbers, and the source goes on -/
def PermS (w0 : World) (cv : Value) (g K n : Nat) (L : List Ent) (e : Ending) (w' : World) : Prop := ∃ v xs, e = .returned v ∧ xs.length = n ∧ IsP xs ∧ Src w0 w' cv g K (row 2 v (iv xs) :: L)
set_option maxHeartbeats 2000000 in
set_option maxRecDepth 100000 in
theorem l04DrawPerm_c (w0 w : World) (cv : Value) (bs : List UInt8) (g K : Nat) (L : List Ent) (n : Nat) (hb : RdB w0 cv bs) (h : Src w0 w cv g K L) (hK : K < 100000000000) (hn : n ≤ 1000) :
    Calls Try.prog 76 #[.pointer (some ⟨g, 0, none⟩), .int .i64 n] w (PermS w0 cv g (K + 2 * n) n L) := by
  go_enter Try.func76, Try.ntmps76
  go_wp2_with fail
  refine (l04One_c n w hn).mono ?_
  rintro e w1 ⟨u, rfl, h1⟩
  have h2 := (h.call h1).perm List.perm_append_comm
  simp only [List.cons_append, List.nil_append] at h2
  clear h h1
  go_wp2_with fail
  go_loopw [6, 7, 8] (fun x _ _ wr => ∃ (j : Nat) (xs : List Int), j ≤ n ∧ x = .int .i64 ((j : Int) - 1) ∧ Hid (xs.length = n) ∧ Hid (IsP xs) ∧ Src w0 wr cv g (K + 2 * (n - j)) (row 2 u (iv xs) :: L)) (fun x _ _ _ => (intOf x).toNat)
  case atStart => exact ⟨n, iot n, by omega, by go_num, iot_len n, iot_isP n, h2.mono (by omega)⟩
  case round =>
    clear h2
    obtain ⟨j, xs, hj, rfl, hl, hp, hs⟩ := hrel
    by_cases h2 : 2 ≤ j
    · go_wp2_with fail
      refine (pick_c w0 wr cv bs g _ _ _ hb hs (by omega)).mono ?_
      rintro e w2 ⟨x, x0, x1, rfl, h3⟩
      obtain ⟨y, rfl⟩ := Int.eq_ofNat_of_zero_le x0
      have hyj : y < j := by omega
      have hyk : y < n := by omega
      have hr := h3.rdI 0 rfl
      have hi1 := hr.ixe ((j : Int) - 1) (j - 1) (by omega) (by rw [hl.out]; omega)
      have hi2 := hr.ixe (y : Int) y rfl (by rw [hl.out]; omega)
      have hc1 := hr.cell (j - 1) (by rw [hl.out]; omega)
      have hc2 := hr.cell y (by rw [hl.out]; omega)
      have Hsw := Lib.hid (hp.out.swp (i := j - 1) (k := y) (by rw [hl.out]; omega) (by rw [hl.out]; omega))
      obtain ⟨pp, ss, s0, s1, hS⟩ := h3
      clear hr x1 x0 hs
      go_wp2_with (first
        | (refine stoI hS2 1 rfl y (by rw [List.length_set, hl.out]; exact hyk) rfl _ _ rfl rfl _ rfl ?_; intro w3 hS3)
        | (refine stoI hS 1 rfl (j - 1) (by rw [hl.out]; omega) rfl _ _ rfl rfl _ rfl ?_; intro w2 hS2))
      go_roundw
      case rel => exact ⟨j - 1, swp2 xs (j - 1) y, by omega, by go_num, by unfold Hid; rw [swp2_len]; exact hl.out, Hsw.out, pp, ss, s0, by omega, hS3⟩
      case measure => simp [intOf]; omega
    · go_wp2_with fail
      go_ret
      exact ⟨_, xs, rfl, hl.out, hp.out, hs.mono (by omega)⟩
end Go.Proofs.Ytejncephbafcdaa
end

section
/- Walks: ValidSet of the program. -/
namespace Go.Proofs.Ytejncephbafcdaa
set_option linter.unusedSimpArgs false
set_option linter.unusedVariables false
open Go.RowKit

def validSetB (xs : List Int) (n : Int) : Bool := incB (-1) n xs && inB n 0 32

theorem incB_drop {xs : List Int} {k : Nat} (hk : k < xs.length) (last n : Int) :
    incB last n (xs.drop k) = if nth xs k ≤ last ∨ n ≤ nth xs k then false else incB (nth xs k) n (xs.drop (k + 1)) := by
  rw [drop_nth hk]; rfl

set_option maxHeartbeats 1000000 in
theorem ValidSet_c (v : Value) (xs : List Int) (n : Int) (w : World) (hv : RdI w v xs) :
    Calls Try.prog 132 #[v, .int .i64 n] w fun e w' => e = .returned (.bool (validSetB xs n)) ∧ w = w' := by
  have hln := hv.len
  have hix := hv.ix
  have hcell := hv.cell
  have hm := hv.le
  go_enter Try.func132, Try.ntmps132
  go_wp2_with fail
  go_loop [5, 7, 10] (fun l x i => ∃ (k : Nat) (last : Int), k ≤ xs.length ∧ i = .int .i64 k ∧ l = .int .i64 last ∧ Hid (incB (-1) n xs = incB last n (xs.drop k))) (fun _ _ i => xs.length - (intOf i).toNat)
  case atStart => exact ⟨0, -1, by omega, rfl, rfl, rfl⟩
  case round =>
    obtain ⟨k, last, hk, rfl, rfl, hI⟩ := hrel
    by_cases hlt : k < xs.length
    · have hd := Lib.hid (incB_drop hlt last n)
      by_cases h1 : nth xs k ≤ last
      · go_wp2_with fail
        go_ret
        exact ⟨ret_bool (by rw [validSetB, hI.out, hd.out]; simp [h1]), rfl⟩
      · by_cases h2 : n ≤ nth xs k
        · go_wp2_with fail
          go_ret
          exact ⟨ret_bool (by rw [validSetB, hI.out, hd.out]; simp [h2]), rfl⟩
        · go_wp2_with fail
          go_round
          case rel => exact ⟨k + 1, nth xs k, by omega, by go_num, rfl, by rw [Hid, hI.out, hd.out]; simp [h1, h2]⟩
          case measure => simp [intOf]; omega
    · go_wp2_with (go_at_call 43; refine (within_c _ _ _ _).mono ?_; rintro e w' ⟨rfl, rfl⟩)
      go_ret
      exact ⟨ret_bool (by rw [validSetB, hI.out, List.drop_of_length_le (by omega)]; simp [incB]), rfl⟩
end Go.Proofs.Ytejncephbafcdaa
end

section
/- Walks: sets. -/
namespace Go.Proofs.Ytejncephbafcdaa
set_option linter.unusedSimpArgs false
set_option linter.unusedVariables false
open Go.RowKit
set_option maxHeartbeats 1000000 in
set_option maxRecDepth 100000 in
theorem b10Nums_c (va vb : Value) (xs ys : List Int) (w : World) (ha : RdI w va xs) (hb : RdI w vb ys) :
    Calls Try.prog 50 #[va, vb] w (GivesB w (decide (xs = ys))) := by
  have hla := ha.len
  have hlb := hb.len
  have hia := ha.ix
  have hib := hb.ix
  have hma := ha.le
  by_cases hne : xs.length = ys.length
  · have f0 : ((xs.length : Int) != (ys.length : Int)) = false := ne_f (by omega)
    have hle : xs.length ≤ ys.length := by omega
    have Hne := Lib.hid hne; clear hne
    go_enter Try.func50, Try.ntmps50
    go_wp2_with fail
    go_loopw [5] (fun i wr => ∃ k : Nat, k ≤ xs.length ∧ i = .int .i64 k ∧ Hid (∀ j, j < k → nth xs j = nth ys j) ∧ St w.heap.size w wr []) (fun i _ => xs.length - (intOf i).toNat)
    case atStart => exact ⟨0, by omega, rfl, fun j hj => by omega, St.refl w⟩
    case round =>
      obtain ⟨k, hk, rfl, hI, hS⟩ := hrel
      by_cases hlt : k < xs.length
      · have hqa := fun s : SS w.heap.size w [] => (s.st.oldI ha).cell k hlt
        have hqb := fun s : SS w.heap.size w [] => (s.st.oldI hb).cell k (by omega)
        have hk2 : k < ys.length := by omega
        by_cases h1 : nth xs k = nth ys k
        · have f1 := ne_f h1
          have H1 := Lib.hid h1; clear h1
          go_wp2_with fail
          have hne : Nonempty (SS _ _ _) := ⟨⟨_, hS⟩⟩
          refine wp_region_st (by kernel_rfl) (by kernel_rfl) hS ?_
          repeat (go_big_quiet_step (fail))
          refine wpQuiet_nil ?_
          rintro _ ⟨s2, rfl⟩
          have hS2 := s2.st
          generalize s2.w = w2 at hS2 ⊢
          go_wp2_with fail
          go_roundw
          case rel => exact ⟨k + 1, by omega, by go_num, fun j hj => by
            by_cases e : j = k
            · subst e; exact H1.out
            · exact hI.out j (by omega), hS2⟩
          case measure => simp [intOf]; omega
        · have f1 := ne_t h1
          have H1 := Lib.hid h1; clear h1
          go_wp2_with fail
          have hne : Nonempty (SS _ _ _) := ⟨⟨_, hS⟩⟩
          refine wp_region_st (by kernel_rfl) (by kernel_rfl) hS ?_
          repeat (go_big_quiet_step (fail))
          refine wpQuiet_nil ?_
          rintro _ ⟨s2, rfl⟩
          have hS2 := s2.st
          generalize s2.w = w2 at hS2 ⊢
          go_wp2_with fail
          go_ret
          exact ⟨ret_bool (by symm; rw [decide_eq_false_iff_not]; intro e; subst e; exact H1.out rfl), hS2⟩
      · go_wp2_with fail
        go_ret
        refine ⟨ret_bool ?_, hS⟩
        symm; rw [decide_eq_true_iff]
        apply List.ext_getElem Hne.out
        intro j h1 h2
        have := hI.out j (by omega)
        rwa [nth_eq h1, nth_eq h2] at this
  · have f0 : ((xs.length : Int) != (ys.length : Int)) = true := ne_t (by omega)
    have Hne := Lib.hid hne; clear hne
    go_enter Try.func50, Try.ntmps50
    go_wp2_with fail
    go_ret
    exact ⟨ret_bool (by symm; rw [decide_eq_false_iff_not]; intro e; exact Hne.out (by rw [e])), St.refl w⟩

end Go.Proofs.Ytejncephbafcdaa
end

section
/- Walks: the cycles of a permutation. Walks: SignOf; the law FnPermutations. Walks: CyclesOf, SignOf and OrderOfPermutation of any list, powers, permutations made of cycles, types. -/
namespace Go.Proofs.Ytejncephbafcdaa
set_option linter.unusedSimpArgs false
set_option linter.unusedVariables false
open Go.RowKit
attribute [local go_sem ↓] Go.wp_at_zero Go.wp_at_succ
/-- what is seen: all cycles that numbers below m lead, and the first j numbers of that of m -/
def Seen (xs : List Int) (m j : Nat) (s : List Bool) : Prop := s.length = xs.length ∧ ∀ y, y < xs.length → (bat s y = true ↔ y ∈ (cycs xs.length (pf xs) m).flatten ∨ ∃ i, i < j ∧ y = it (pf xs) i m)
theorem Seen.start (xs : List Int) : Seen xs 0 0 (List.replicate xs.length false) := ⟨by simp, fun y hy => by rw [bat_rep]; simp [cycs]⟩
theorem Seen.step {xs : List Int} {m j : Nat} {s : List Bool} (h : Seen xs m j s) (hp : IsP xs) (hm : m < xs.length) : Seen xs m (j + 1) (s.set (it (pf xs) j m) true) := by
  have hlt := it_lt hp.bij hm j
  refine ⟨by rw [List.length_set]; exact h.1, fun y hy => ?_⟩
  rw [bat_set (by rw [h.1]; exact hlt)]
  by_cases e : it (pf xs) j m = y
  · rw [if_pos e]; exact ⟨fun _ => .inr ⟨j, by omega, e.symm⟩, fun _ => rfl⟩
  · rw [if_neg e, h.2 y hy]
    constructor
    · rintro (h1 | ⟨i, hi, e2⟩)
      · exact .inl h1
      · exact .inr ⟨i, by omega, e2⟩
    · rintro (h1 | ⟨i, hi, e2⟩)
      · exact .inl h1
      · refine .inr ⟨i, ?_, e2⟩
        refine Nat.lt_of_le_of_ne (by omega) fun e3 => e ?_
        rw [e2, e3]
theorem Seen.no {xs : List Int} {m : Nat} {s : List Bool} (h : Seen xs m 0 s) (hp : IsP xs) (hm : m < xs.length) (hL : ¬ Lead (pf xs) m) : bat s m = true ∧ Seen xs (m + 1) 0 s := by
  have hs := fun hh => hL ((lead_seen hp.bij hm).2 hh)
  refine ⟨(h.2 m hm).2 (.inl (Classical.byContradiction hs)), h.1, fun y hy => ?_⟩
  rw [h.2 y hy, cycs, if_neg hL]; simp
theorem Seen.back {xs : List Int} {m : Nat} {s : List Bool} (h : Seen xs m (clen xs.length (pf xs) m) s) (hp : IsP xs) (hm : m < xs.length) (hL : Lead (pf xs) m) : bat s (it (pf xs) (clen xs.length (pf xs) m) m) = true ∧ Seen xs (m + 1) 0 s := by
  have hc := clen_ok hp.bij hm
  have hb := hc.back
  refine ⟨?_, h.1, fun y hy => ?_⟩
  · rw [hb]; exact (h.2 m hm).2 (.inr ⟨0, hc.pos, rfl⟩)
  · rw [h.2 y hy, cycs, if_pos hL]
    simp only [List.flatten_append, List.flatten_cons, List.flatten_nil, List.append_nil, List.mem_append]
    constructor
    · rintro (h1 | ⟨i, hi, rfl⟩)
      · exact .inl (.inl h1)
      · exact .inl (.inr ((mem_cycL hp.bij hm).2 ⟨i, rfl⟩))
    · rintro ((h1 | h1) | ⟨i, hi, _⟩)
      · exact .inl h1
      · unfold cycL at h1
        obtain ⟨i, hi, rfl⟩ := List.mem_map.1 h1
        exact .inr ⟨i, List.mem_range.1 hi, rfl⟩
      · omega
/-! ### the least common multiple, bounded -/
theorem sz_c (v : Value) (xs : List Int) (w : World) (hv : RdI w v xs) : Calls Try.prog 46 #[v] w fun e w' => e = .returned (.int .i64 xs.length) ∧ w = w' := by
  have hln := hv.len
  go_enter Try.func46, Try.ntmps46
  go_wp2_with fail
  go_ret
  exact ⟨rfl, rfl⟩
end Go.Proofs.Ytejncephbafcdaa
end

section
/- Walks: valid Latin squares, isotopes, of the program. Walks: isotopes of the program. -/
namespace Go.Proofs.Ytejncephbafcdaa
set_option linter.unusedSimpArgs false
set_option linter.unusedVariables false
open Go.RowKit
attribute [local go_sem ↓] Go.wp_at_zero Go.wp_at_succ


/-- a permutation of n numbers -/
noncomputable def pvN (n : Nat) (xs : List Int) : Bool := decide (xs.length = n) && pvB xs
set_option maxHeartbeats 2000000 in
set_option maxRecDepth 100000 in
theorem areP1_c (v : Value) (xs : List Int) (n : Nat) (g : Nat) (w : World) (hv : RdI w v xs) (hb : w.cell? ⟨g, 0, none⟩ = some (.int .i64 n)) (hN : xs.length ≤ 1048576) :
    Calls Try.prog 140 #[v, .pointer (some ⟨g, 0, none⟩)] w (GivesB w (!pvN n xs)) := by
  have hq : ∀ s : SS w.heap.size w [], s.w.cell? ⟨g, 0, none⟩ = some (.int .i64 n) := fun s => by rw [s.st.below.cell (World.block_lt_of_cell? _ _ hb)]; exact hb
  have HZ := fun s : SS w.heap.size w [] => Lib.hid (sz_c v xs s.w (s.st.oldI hv))
  have HV := fun s : SS w.heap.size w [] => Lib.hid (ValidPermutation_c v xs s.w (s.st.oldI hv) hN)
  have hS := St.refl w
  by_cases h : xs.length = n
  · have f1 : ((xs.length : Int) != (n : Int)) = false := ne_f (by omega)
    have He : Hid ((!pvN n xs) = !pvB xs) := Lib.hid (by rw [pvN, decide_eq_true h]; rfl)
    rw [He.out]
    generalize pvB xs = b at *
    clear h He
    go_enter Try.func140, Try.ntmps140
    go_wp2_with fail
    have hne : Nonempty (SS _ _ _) := ⟨⟨_, hS⟩⟩
    refine wp_region_st (by kernel_rfl) (by kernel_rfl) hS ?_
    repeat (go_big_quiet_step ((first | (go_at_call 46; exact st_quiet0 (HZ _).out) | (go_at_call 100; exact st_quiet (HV _).out))))
    refine wpQuiet_nil ?_
    rintro _ ⟨s2, rfl⟩
    have hS2 := s2.st
    generalize s2.w = w2 at hS2 ⊢
    go_wp2_with fail
    go_ret
    exact ⟨rfl, hS2⟩
  · have f1 : ((xs.length : Int) != (n : Int)) = true := ne_t (by omega)
    have He : Hid ((!pvN n xs) = true) := Lib.hid (by rw [pvN, decide_eq_false h]; rfl)
    rw [He.out]
    clear h He
    go_enter Try.func140, Try.ntmps140
    go_wp2_with fail
    have hne : Nonempty (SS _ _ _) := ⟨⟨_, hS⟩⟩
    refine wp_region_st (by kernel_rfl) (by kernel_rfl) hS ?_
    repeat (go_big_quiet_step ((first | (go_at_call 46; exact st_quiet0 (HZ _).out) | (go_at_call 100; exact st_quiet (HV _).out))))
    refine wpQuiet_nil ?_
    rintro _ ⟨s2, rfl⟩
    have hS2 := s2.st
    generalize s2.w = w2 at hS2 ⊢
    go_wp2_with fail
    go_ret
    exact ⟨rfl, hS2⟩
/-- all rows are permutations of n numbers -/
noncomputable def allP (n : Nat) (A : List (List Int)) : Bool := !anyR (fun r => !pvN n r) A
theorem allP_at {n : Nat} {A : List (List Int)} (h : allP n A = true) {x : Nat} (hx : x < A.length) : (xat A x).length = n ∧ pvB (xat A x) = true := by
  unfold allP anyR at h
  have h' : A.any (fun r => !pvN n r) = false := by simpa using h
  have := List.any_eq_false.1 h' _ (xat_mem hx)
  simpa [pvN] using this
theorem allP_of {n : Nat} {A : List (List Int)} (h : ∀ x, x < A.length → (xat A x).length = n ∧ pvB (xat A x) = true) : allP n A = true := by
  unfold allP anyR
  have : A.any (fun r => !pvN n r) = false := by
    rw [List.any_eq_false]
    intro r hr
    obtain ⟨x, hx, rfl⟩ := List.getElem_of_mem hr
    have := h x hx
    rw [xat_eq hx] at this
    simp [pvN, this]
  rw [this]; rfl
set_option maxHeartbeats 2000000 in
set_option maxRecDepth 100000 in
theorem arePermutations_c (n : Nat) (v : Value) (us : List Value) (A : List (List Int)) (w : World) (hv : RII w v us A) (hN : ∀ x, x < A.length → (xat A x).length ≤ 1048576) :
    Calls Try.prog 99 #[.int .i64 n, v] w (GivesB w (allP n A)) := by
  have hS1 := (St.refl w).newboxF 2 #[.int .i64 n]
  have hcf := callFunc_go Try.func140 (by kernel_rfl) (by kernel_rfl)
  have hmf : ∀ (fn : Fn) (first cap : Array Value) (w : World), (Instr.makeFunc fn first cap).run Try.prog w = .ok (.func fn first cap) w := fun _ _ _ _ => rfl
  have hcall := Lib.hid (ContainsFuncR_c 140 #[.pointer (some ⟨w.heap.size, 0, none⟩)] (fun r => !pvN n r) v us A _ (hS1.oldII hv) hcf (fun j W hW hj => areP1_c (vat us j) (xat A j) n w.heap.size W ((hW.oldII (hS1.oldII hv)).row j hj) (by
    rw [hW.below.cell (World.block_lt_of_cell? _ _ (hS1.bcell 0 rfl 0 rfl))]; exact hS1.bcell 0 rfl 0 rfl) (hN j hj)))
  clear hcf hN
  go_enter Try.func99, Try.ntmps99
  go_wp2_with fail
  refine hcall.out.mono ?_
  rintro e w1 ⟨rfl, h1⟩
  have hS2 := hS1.call0 h1
  go_wp2_with fail
  go_ret
  exact ⟨rfl, hS2.out⟩
theorem Lat.mk' {A : List (List Int)} (h1 : 1 ≤ A.length) (h2 : A.length ≤ 10) (ha : allP A.length A = true) (hc : ∀ y, y < A.length → pvB (colL A y) = true) : Lat A :=
  ⟨h1, h2, fun _ hx => (allP_at ha hx).1, fun _ hx => (pvB_t (allP_at ha hx).2).2, fun y hy => (pvB_t (hc y hy)).2⟩
theorem Lat.allP {A : List (List Int)} (h : Lat A) : allP A.length A = true := allP_of fun x hx => ⟨h.len x hx, pvB_yes (by rw [h.len x hx]; have := h.le; omega) (h.row x hx)⟩
theorem Lat.colP {A : List (List Int)} (h : Lat A) {y : Nat} (hy : y < A.length) : pvB (colL A y) = true := pvB_yes (by rw [colL_len]; have := h.le; omega) (h.col y hy)
theorem col_take {A : List (List Int)} {y k : Nat} (h : k < A.length) : (colL A y).take (k + 1) = (colL A y).take k ++ [at2 A k y] := by
  rw [take_nth (by rw [colL_len]; exact h), nth_colL h]
set_option maxHeartbeats 4000000 in
set_option maxRecDepth 100000 in
theorem ValidSquare_c (v : Value) (us : List Value) (A : List (List Int)) (w : World) (hv : RII w v us A) (hN : ∀ x, x < A.length → (xat A x).length ≤ 1048576) :
    Calls Try.prog 52 #[v] w (GivesB w (latB A)) := by
  have hln := hv.len
  have hix := hv.ix
  have HZ := fun W (h : RII W v us A) => Lib.hid (szII_c v us A W h)
  have HA := fun W (h : RII W v us A) => Lib.hid (arePermutations_c A.length v us A W h hN)
  by_cases hn : 1 ≤ (A.length : Int) ∧ (A.length : Int) ≤ 10
  · have i1 := inB_true hn
    cases ha : allP A.length A
    · have Hl := Lib.hid (latB_no (A := A) fun h => by rw [h.allP] at ha; cases ha)
      rw [ha] at HA
      clear ha
      go_enter Try.func52, Try.ntmps52
      go_wp2_with fail
      refine (HZ _ hv).out.mono ?_
      rintro e w1 ⟨rfl, rfl⟩
      go_wp2_with (first
        | (go_at_call 99; refine (HA _ hv).out.mono ?_; rintro e w3 ⟨rfl, h3⟩)
        | (go_at_call 43; refine (within_c _ _ _ _).mono ?_; rw [i1]; rintro e w2 ⟨rfl, rfl⟩))
      go_ret
      exact ⟨ret_bool Hl.out.symm, h3⟩
    · have hlt2 : A.length ≤ 10 := by omega
      have HL := Lib.hid (fun h => Lat.mk' (A := A) (by omega) hlt2 ha h)
      have Hc := fun y (hy : y < A.length) (h : pvB (colL A y) = false) => Lib.hid (latB_no (A := A) fun hl => by rw [hl.colP hy] at h; cases h)
      have Hrl := fun x (hx : x < A.length) => Lib.hid (allP_at ha hx).1
      rw [ha] at HA
      clear ha
      go_enter Try.func52, Try.ntmps52
      go_wp2_with fail
      refine (HZ _ hv).out.mono ?_
      rintro e w1 ⟨rfl, rfl⟩
      go_wp2_with (first
        | (go_at_call 99; refine (HA _ hv).out.mono ?_; rintro e w3 ⟨rfl, h3⟩)
        | (go_at_call 43; refine (within_c _ _ _ _).mono ?_; rw [i1]; rintro e w2 ⟨rfl, rfl⟩))
      go_loopw [4, 5, 6, 20, 25] (fun _ _ _ i _ wr => ∃ k : Nat, k ≤ A.length ∧ i = .int .i64 k ∧ Hid (∀ y, y < k → pvB (colL A y) = true) ∧ St w.heap.size w wr []) (fun _ _ _ i _ _ => A.length - (intOf i).toNat)
      case atStart => exact ⟨0, by omega, rfl, fun y hy => by omega, h3⟩
      case round =>
        clear h3
        obtain ⟨k, hk, rfl, hI, hS⟩ := hrel
        by_cases hlt : k < A.length
        · have hS1 := hS.emp
          have Hcl := Lib.hid (colL_len A k)
          have Hct := fun m (h : m < A.length) => Lib.hid (col_take (A := A) (y := k) h)
          have Htl := fun m => Lib.hid (show ((colL A k).take m).length < 4294967296 by rw [List.length_take, colL_len]; omega)
          have HV := fun W u (h : RdI W u (colL A k)) => Lib.hid (ValidPermutation_c u _ W h (by rw [colL_len]; omega))
          have Hck := Hc k hlt
          have Hta := Lib.hid (show (colL A k).take A.length = colL A k by rw [← Hcl.out, List.take_length])
          have Ht0 := Lib.hid (show (colL A k).take 0 = [] from rfl)
          have HI1 := Lib.hid (show pvB (colL A k) = true → ∀ y, y < k + 1 → pvB (colL A y) = true from fun h y hy => by
            by_cases e : y = k
            · rw [e]; exact h
            · exact hI.out y (by omega))
          generalize colL A k = C at *
          go_wp2_with fail
          go_loopw [5, 6, 25] (fun c _ j wr' => ∃ m : Nat, m ≤ A.length ∧ j = .int .i64 m ∧ St w.heap.size w wr' [row 2 c (iv (C.take m))]) (fun _ _ j _ => A.length - (intOf j).toNat)
          case atStart => exact ⟨0, by omega, rfl, by rw [Ht0.out]; exact hS1⟩
          case round =>
            clear hS hS1
            obtain ⟨m, hm, rfl, hS⟩ := hrel
            by_cases hml : m < A.length
            · have hR := hS.oldII hv
              have hcm := hR.cell m hml
              have hrl := (Hrl m hml).out
              have hxm := (hR.row m hml).ixe (k : Int) k rfl (by rw [hrl]; exact hlt)
              have hcx : wr.cell? (el (vat us m) k) = some (.int .i64 (at2 A m k)) := (hR.row m hml).cell k (by rw [hrl]; exact hlt)
              have Hst := Hct m hml
              have HtL := Htl m
              clear hR hrl
              generalize at2 A m k = z at *
              go_wp2_with (at_builtin; refine appI hS 0 rfl HtL.out rfl _ _ rfl rfl _ rfl ?_; intro v' w2 hS2)
              simp only [List.set_cons_zero] at hS2
              rw [← Hst.out] at hS2
              go_roundw
              case rel => exact ⟨m + 1, by omega, by go_num, hS2⟩
              case measure => simp [intOf]; omega
            · obtain rfl : m = A.length := by omega
              rw [Hta.out] at hS
              have hV := HV _ _ (hS.rdI 0 rfl)
              cases hp : pvB C
              · rw [hp] at hV
                have Hno := Hck hp
                clear hp
                go_wp2_with fail
                refine hV.out.mono ?_
                rintro e w4 ⟨rfl, h4⟩
                have hS4 := hS.call0 h4
                go_wp2_with fail
                go_ret
                exact ⟨ret_bool Hno.out.symm, hS4.out⟩
              · rw [hp] at hV
                have HI2 := Lib.hid (HI1.out hp)
                clear hp
                go_wp2_with fail
                refine hV.out.mono ?_
                rintro e w4 ⟨rfl, h4⟩
                have hS4 := hS.call0 h4
                go_wp2_with fail
                go_roundw
                case rel => exact ⟨k + 1, by omega, by go_num, HI2.out, hS4.out⟩
                case measure => simp [intOf]; omega
        · obtain rfl : k = A.length := by omega
          have Hy := Lib.hid (latB_yes (HL.out hI.out))
          go_wp2_with fail
          go_ret
          exact ⟨ret_bool Hy.out.symm, hS⟩
  · have i1 := inB_false hn
    have Hl := Lib.hid (latB_no (A := A) fun h => hn (by have := h.pos; have := h.le; omega))
    clear hn
    go_enter Try.func52, Try.ntmps52
    go_wp2_with fail
    refine (HZ _ hv).out.mono ?_
    rintro e w1 ⟨rfl, rfl⟩
    go_wp2_with (go_at_call 43; refine (within_c _ _ _ _).mono ?_; rw [i1]; rintro e w2 ⟨rfl, rfl⟩)
    go_ret
    exact ⟨ret_bool Hl.out.symm, St.refl _⟩


/-- a square and a code -/
def IIK (w : World) (A : List (List Int)) (c : Int) (e : Ending) (w' : World) : Prop := ∃ v us, e = .returned (.tuple #[v, .int .i64 c]) ∧ us.length = A.length ∧ St w.heap.size w w' (own2 v us A)
theorem IIK.no {w w' : World} {L : List Ent} {c : Int} (h : St w.heap.size w w' L) : IIK w [] c (.returned (.tuple #[.slice none 0 0, .int .i64 c])) w' := ⟨_, [], rfl, rfl, h.out.newnil _⟩
end Go.Proofs.Ytejncephbafcdaa
end

section
/- Walks: orthogonal squares and lists of them, of the program. -/
namespace Go.Proofs.Ytejncephbafcdaa
set_option linter.unusedSimpArgs false
set_option linter.unusedVariables false
open Go.RowKit
attribute [local go_sem ↓] Go.wp_at_zero Go.wp_at_succ

set_option maxHeartbeats 4000000 in
set_option maxRecDepth 100000 in
theorem superpose1_c (x y : Nat) (gn ga gb : Nat) (v v' : Value) (us us' : List Value) (n : Nat) (A B : List (List Int)) (w : World) (hn : w.cell? ⟨gn, 0, none⟩ = some (.int .i64 n)) (ha : w.cell? ⟨ga, 0, none⟩ = some v) (hb : w.cell? ⟨gb, 0, none⟩ = some v')
    (hv : RII w v us A) (hv' : RII w v' us' B) (hA : Sq0 n A) (hB : Sq0 n B) (hx : x < n) (hy : y < n) (hn2 : n ≤ 100) :
    Calls Try.prog 141 #[.int .i64 x, .int .i64 y, .pointer (some ⟨gn, 0, none⟩), .pointer (some ⟨ga, 0, none⟩), .pointer (some ⟨gb, 0, none⟩)] w (GivesI w ((ovF n A B x y : Nat) : Int)) := by
  have hxA : x < A.length := by rw [hA.len]; exact hx
  have hxB : x < B.length := by rw [hB.len]; exact hx
  have i1 := hv.ixe (x : Int) x rfl hxA
  have i2 := hv'.ixe (x : Int) x rfl hxB
  have i3 := (hv.row x hxA).ixe (y : Int) y rfl (by rw [hA.row x hx]; exact hy)
  have i4 := (hv'.row x hxB).ixe (y : Int) y rfl (by rw [hB.row x hx]; exact hy)
  have c1 := hv.cell x hxA
  have c2 := hv'.cell x hxB
  have eA := af_eq hA hx hy
  have eB := af_eq hB hx hy
  have c3 : w.cell? (el (vat us x) y) = some (.int .i64 (af A x y : Nat)) := by rw [← eA.1]; exact (hv.row x hxA).cell y (by rw [hA.row x hx]; exact hy)
  have c4 : w.cell? (el (vat us' x) y) = some (.int .i64 (af B x y : Nat)) := by rw [← eB.1]; exact (hv'.row x hxB).cell y (by rw [hB.row x hx]; exact hy)
  have hlt := ovF_lt hA hB hx hy
  have hN : n * n ≤ 10000 := Nat.mul_le_mul hn2 hn2
  have hO : ovF n A B x y = n * af A x y + af B x y := rfl
  generalize ovF n A B x y = o at *
  generalize af A x y = a at *
  generalize af B x y = b at *
  obtain ⟨P, hP⟩ : ∃ P, P = n * a := ⟨_, rfl⟩
  rw [← hP] at hO
  have q1 : (n : Int) * (a : Int) = (P : Int) := by rw [hP]; rfl
  have q2 : IntKind.i64.wrap (P : Int) = (P : Int) := IntWalk.i64_in _ (by omega)
  have q3 : (P : Int) + (b : Int) = (o : Int) := by omega
  have q4 : IntKind.i64.wrap (o : Int) = (o : Int) := IntWalk.i64_in _ (by omega)
  clear hA hB eA eB hO hP hv hv'
  go_enter Try.func141, Try.ntmps141
  go_wp2_with fail
  go_region_held3 (fun w' => w'.cell? ⟨gn, 0, none⟩ = some (.int .i64 n) ∧ w'.cell? ⟨ga, 0, none⟩ = some v ∧ w'.cell? ⟨gb, 0, none⟩ = some v' ∧ w'.cell? (el v x) = some (vat us x) ∧ w'.cell? (el v' x) = some (vat us' x) ∧ w'.cell? (el (vat us x) y) = some (.int .i64 (a : Int)) ∧ w'.cell? (el (vat us' x) y) = some (.int .i64 (b : Int))) (((try dsimp only); (repeat' apply And.intro); all_goals (repeat (first | assumption | exact cell_dr (by assumption) | refine cell_dr ?_ | refine cell_al ?_ | refine cell_sc (by assumption) ?_)))) (fail)
  go_wp2_with fail
  go_ret
  exact ⟨rfl, (St.refl w).drew⟩
set_option maxHeartbeats 4000000 in
set_option maxRecDepth 100000 in
theorem superpose_c (v v' : Value) (us us' : List Value) (n : Nat) (A B : List (List Int)) (w : World) (hv : RII w v us A) (hv' : RII w v' us' B) (hA : Sq0 n A) (hB : Sq0 n B) (hn2 : n ≤ 100) :
    Calls Try.prog 101 #[v, v'] w (MakesII w (ovL n A B)) := by
  obtain ⟨sa, ca, rfl⟩ := hv.1.sl.sh
  obtain ⟨sb, cb, rfl⟩ := hv'.1.sl.sh
  have hS1 := ((St.refl w).newboxF 26 #[.slice sa us.length ca]).newboxF 26 #[.slice sb us'.length cb]
  have hS2 := hS1.newboxF 2 #[.int .i64 n]
  simp only [World.size_alloc] at hS1 hS2
  have hcf := callFunc_go Try.func141 (by kernel_rfl) (by kernel_rfl)
  have hmf : ∀ (fn : Fn) (first cap : Array Value) (w : World), (Instr.makeFunc fn first cap).run Try.prog w = .ok (.func fn first cap) w := fun _ _ _ _ => rfl
  have HZ := Lib.hid (szII_c _ us A _ (hS1.oldII hv))
  rw [hA.len] at HZ
  have hcall := Lib.hid (filledSquare_c 141 #[.pointer (some ⟨w.heap.size + 1 + 1, 0, none⟩), .pointer (some ⟨w.heap.size, 0, none⟩), .pointer (some ⟨w.heap.size + 1, 0, none⟩)] (fun x y => ((ovF n A B x y : Nat) : Int)) n _ (by omega) hcf (fun x y W hW hx hy =>
    superpose1_c x y (w.heap.size + 1 + 1) w.heap.size (w.heap.size + 1) _ _ us us' n A B W
      (by rw [hW.below.cell (World.block_lt_of_cell? _ _ (hS2.bcell 0 rfl 0 rfl))]; exact hS2.bcell 0 rfl 0 rfl)
      (by rw [hW.below.cell (World.block_lt_of_cell? _ _ (hS2.bcell 2 rfl 0 rfl))]; exact hS2.bcell 2 rfl 0 rfl)
      (by rw [hW.below.cell (World.block_lt_of_cell? _ _ (hS2.bcell 1 rfl 0 rfl))]; exact hS2.bcell 1 rfl 0 rfl)
      ((hS2.oldII hv).keep hW.below) ((hS2.oldII hv').keep hW.below) hA hB hx hy hn2))
  clear hcf hA hB
  go_enter Try.func101, Try.ntmps101
  go_wp2_with fail
  refine HZ.out.mono ?_
  rintro e w1 ⟨rfl, rfl⟩
  go_wp2_with fail
  refine hcall.out.mono ?_
  rintro e w2 ⟨o, uo, rfl, hl, h2⟩
  have hS3 := hS2.call h2
  have Hl := Lib.hid hl
  clear hl h2
  go_wp2_with fail
  go_ret
  exact ⟨o, uo, rfl, Hl.out, hS3.sub (List.sublist_append_right _ _)⟩
set_option maxHeartbeats 8000000 in
set_option maxRecDepth 100000 in
theorem orthogonal_c (v v' : Value) (us us' : List Value) (A B : List (List Int)) (w : World) (hv : RII w v us A) (hv' : RII w v' us' B) (hA : Lat A) (hB : Lat B) :
    Calls Try.prog 53 #[v, v'] w (GivesB w (orB A B)) := by
  have hla := hv.len
  have hlb := hv'.len
  have hA10 := hA.le
  have hB10 := hB.le
  by_cases hne : A.length = B.length
  · have f1 : ((A.length : Int) != (B.length : Int)) = false := ne_f (by omega)
    have qA := hA.sq0
    have qB : Sq0 A.length B := by rw [hne]; exact hB.sq0
    have HS := fun W (a : RII W v us A) (b : RII W v' us' B) => Lib.hid (superpose_c v v' us us' A.length A B W a b qA qB (by omega))
    obtain ⟨n, hn⟩ : ∃ n, n = A.length := ⟨_, rfl⟩
    obtain ⟨N, hN⟩ : ∃ N, N = n * n := ⟨_, rfl⟩
    have hNle : N ≤ 100 := by rw [hN]; exact Nat.mul_le_mul (show n ≤ 10 by omega) (show n ≤ 10 by omega)
    have q1 : (A.length : Int) * (A.length : Int) = (N : Int) := by rw [hN, hn]; rfl
    have Hq := Lib.hid (And.intro qA qB)
    rw [← hn] at Hq HS
    have HfN := Lib.hid (fun x y (hx : x < n) (hy : y < n) => (show ovF n A B x y < N by rw [hN]; exact ovF_lt Hq.out.1 Hq.out.2 hx hy))
    have HY := Lib.hid (fun s (h : SnI n N (ovF n A B) n 0 s) => orB_yes hne (by rw [← hn]; exact h.ort Hq.out.1 Hq.out.2))
    have HNo := Lib.hid (fun x y s (h : SnI n N (ovF n A B) x y s) hx hy hb => orB_no (A := A) (B := B) fun hh => h.nort Hq.out.1 Hq.out.2 hx hy (HfN.out x y hx hy) hb (by rw [hn]; exact hh.2))
    have hnn : n ≤ 10 := by omega
    rw [← hne, ← hn] at hlb
    rw [← hne, ← hn] at f1
    rw [← hn] at hla q1
    clear qA qB hN hA10 hB10 hA hB hne hn
    go_enter Try.func53, Try.ntmps53
    go_wp2_with (at_make; refine mkO (St.refl w) rfl _ _ rfl _ _ N rfl rfl (by omega) ?_; intro sv w1 hS1; have hr := hS1.rdO 0 rfl; have hsx := hr.ixe; simp only [List.length_replicate] at hsx; clear hr)
    refine (HS _ (hS1.oldII hv) (hS1.oldII hv')).out.mono ?_
    rintro e w2 ⟨o, uo, rfl, hl, h2⟩
    have hS2 := hS1.call h2
    have hln := (h2.rii hl).len
    have hox := (h2.rii hl).ixe
    rw [ovL_len] at hln hl hox
    have Hl := Lib.hid hl
    clear hl h2 hS1
    go_wp2_with fail
    go_loopw [7, 9, 25, 31] (fun _ _ i _ wr => ∃ (k : Nat) (s : List Bool), k ≤ n ∧ i = .int .i64 k ∧ Hid (SnI n N (ovF n A B) k 0 s) ∧ St w.heap.size w wr (row 4 sv (bo s) :: own2 o uo (ovL n A B))) (fun _ _ i _ _ => n - (intOf i).toNat)
    case atStart => exact ⟨0, _, by omega, rfl, SnI.start, hS2⟩
    case round =>
      clear hS2
      obtain ⟨k, s, hk, rfl, hI, hS⟩ := hrel
      by_cases hlt : k < n
      · have hR := (hS.sub (L' := own2 o uo (ovL n A B)) (List.sublist_cons_self _ _)).rii (by rw [Hl.out, ovL_len])
        have ck := hR.cell k (by rw [ovL_len]; exact hlt)
        have hxk := hox (k : Int) k rfl hlt
        have hrow := hR.row k (by rw [ovL_len]; exact hlt)
        have hrl := hrow.len
        have hrx := hrow.ixe
        rw [ovL_row hlt] at hrl hrx
        clear hR hrow
        go_wp2_with fail
        clear ck hxk
        go_loopw [9, 31] (fun _ j wr' => ∃ (y : Nat) (s : List Bool), y ≤ n ∧ j = .int .i64 y ∧ Hid (SnI n N (ovF n A B) k y s) ∧ St w.heap.size w wr' (row 4 sv (bo s) :: own2 o uo (ovL n A B))) (fun _ j _ => n - (intOf j).toNat)
        case atStart => exact ⟨0, s, by omega, rfl, hI.out, hS⟩
        case round =>
          clear hI hS
          obtain ⟨y, s, hy, rfl, hI, hS⟩ := hrel
          by_cases hly : y < n
          · have hR := (hS.sub (L' := own2 o uo (ovL n A B)) (List.sublist_cons_self _ _)).rii (by rw [Hl.out, ovL_len])
            have cy := (hR.row k (by rw [ovL_len]; exact hlt)).cell y (by rw [ovL_row hlt]; exact hly)
            rw [ovL_at hlt hly] at cy
            have hxy := hrx (y : Int) y rfl hly
            have hfN := HfN.out k y hlt hly
            have hxs := hsx ((ovF n A B k y : Nat) : Int) (ovF n A B k y) rfl hfN
            have cs := (hS.rdO 0 rfl).cell (ovF n A B k y) (by rw [hI.out.len]; exact hfN)
            clear hR
            cases hb : bat s (ovF n A B k y)
            · have Hst := Lib.hid (hI.out.step hlt hly hfN hb)
              have Hsl := Lib.hid (show ovF n A B k y < s.length by rw [hI.out.len]; exact hfN)
              rw [hb] at cs
              clear hb
              generalize ovF n A B k y = o' at *
              go_wp2_with (refine stoO hS 0 rfl o' Hsl.out rfl _ _ rfl rfl true rfl ?_; intro w2' hS2)
              simp only [List.set_cons_zero] at hS2
              go_roundw
              case rel => exact ⟨y + 1, _, by omega, by go_num, Hst.out, hS2⟩
              case measure => simp [intOf]; omega
            · have Hno := Lib.hid (HNo.out _ _ _ hI.out hlt hly hb)
              rw [hb] at cs
              clear hb
              generalize ovF n A B k y = o' at *
              go_wp2_with fail
              go_ret
              exact ⟨ret_bool Hno.out.symm, hS.out⟩
          · obtain rfl : y = n := by omega
            have Hnx := Lib.hid hI.out.next
            go_wp2_with fail
            go_roundw
            case rel => exact ⟨k + 1, s, by omega, by go_num, Hnx.out, hS⟩
            case measure => simp [intOf]; omega
      · obtain rfl : k = n := by omega
        have Hy := Lib.hid (HY.out _ hI.out)
        go_wp2_with fail
        go_ret
        exact ⟨ret_bool Hy.out.symm, hS.out⟩
  · have f1 : ((A.length : Int) != (B.length : Int)) = true := ne_t (by omega)
    have H := Lib.hid (orB_no (A := A) (B := B) fun h => hne h.1)
    clear hne
    go_enter Try.func53, Try.ntmps53
    go_wp2_with fail
    go_ret
    exact ⟨ret_bool H.out.symm, St.refl w⟩
theorem und_elem_a3 : Try.prog.underlying 24 = some (.slice (Try.prog.elem 24)) := by kernel_rfl
theorem elem_size_a3 : (Try.prog.info? (Try.prog.elem 24)).map (·.size) = some 1 := by kernel_rfl
theorem rslIII_hi {w : World} {v : Value} {us : List Value} (h : Rd w v us) (hi : Nat) (h2 : hi ≤ us.length) (W : World) :
    (Instr.slice 24 v none (some (.int .i64 (hi : Int))) none).run Try.prog W = .ok (rsl v 0 hi) W := by
  obtain ⟨⟨a, cap, rfl, hc1, hc2, ha⟩, hcell⟩ := h
  obtain ⟨inf, hinf, hs⟩ := Option.map_eq_some_iff.1 elem_size_a3
  rw [run_slice_h W 24 a _ cap und_elem_a3 .i64 hi (by omega) (by omega)]
  simp [sizeOf, typeInfo, hinf, hs, rsl, Result.andThen]
theorem RIII.takeR {w : World} {v : Value} {vs : List Value} {uss : List (List Value)} {X : List (List (List Int))} (h : RIII w v vs uss X) {k : Nat} (hk : k ≤ X.length) : RIII w (rsl v 0 k) (vs.take k) (uss.take k) (X.take k) := by
  have h1 := rsl_Rd h.1 (Nat.zero_le k) (by rw [h.2.1]; exact hk)
  rw [List.drop_zero] at h1
  refine ⟨h1, by rw [List.length_take, List.length_take, h.2.1], fun j hj => ?_⟩
  rw [List.length_take] at hj
  have e1 : vat (vs.take k) j = vat vs j := by unfold vat; rw [List.getD_eq_getElem?_getD, List.getD_eq_getElem?_getD, List.getElem?_take, if_pos (by omega)]
  have e2 : vsat (uss.take k) j = vsat uss j := by unfold vsat; rw [List.getD_eq_getElem?_getD, List.getD_eq_getElem?_getD, List.getElem?_take, if_pos (by omega)]
  have e3 : x3at (X.take k) j = x3at X j := by unfold x3at; rw [List.getD_eq_getElem?_getD, List.getD_eq_getElem?_getD, List.getElem?_take, if_pos (by omega)]
  rw [e1, e2, e3]
  exact h.row j (by omega)
theorem szIII_c (v : Value) (vs : List Value) (uss : List (List Value)) (X : List (List (List Int))) (w : World) (hv : RIII w v vs uss X) :
    Calls Try.prog 42 #[v] w fun e w' => e = .returned (.int .i64 X.length) ∧ w = w' := by
  have hln := hv.len
  go_enter Try.func42, Try.ntmps42
  go_wp2_with fail
  go_ret
  exact ⟨rfl, rfl⟩
/-- rows of no more than 2^20 numbers -/
def Sml (X : List (List (List Int))) : Prop := ∀ k, k < X.length → ∀ x, x < (x3at X k).length → (xat (x3at X k) x).length ≤ 1048576
set_option maxHeartbeats 4000000 in
set_option maxRecDepth 100000 in
theorem ValidMols_c (v : Value) (vs : List Value) (uss : List (List Value)) (X : List (List (List Int))) (w : World) (hv : RIII w v vs uss X) (hN : Sml X) :
    Calls Try.prog 15 #[v] w (GivesB w (molB X)) := by
  have hln := hv.len
  have hix := hv.ixe
  have hle := hv.le
  have HZ := fun W a => Lib.hid (szIII_c v vs uss X W a)
  have Hv := Lib.hid hv
  clear hv
  go_enter Try.func15, Try.ntmps15
  go_wp2_with fail
  go_loopw [3, 4, 6, 9, 21] (fun _ _ _ i _ wr => ∃ k : Nat, k ≤ X.length ∧ i = .int .i64 k ∧ Hid (∀ j, j < k → Lat (x3at X j) ∧ ∀ i, i < j → orB (x3at X j) (x3at X i) = true) ∧ St w.heap.size w wr []) (fun _ _ _ i _ _ => X.length - (intOf i).toNat)
  case atStart => exact ⟨0, by omega, rfl, fun j hj => by omega, St.refl w⟩
  case round =>
    obtain ⟨k, hk, rfl, hI, hS⟩ := hrel
    by_cases hlt : k < X.length
    · have hR := hS.oldIII Hv.out
      have ck := hR.cell k hlt
      have hxk := hix (k : Int) k rfl hlt
      have HV := Lib.hid (ValidSquare_c (vat vs k) (vsat uss k) (x3at X k) wr (hR.row k hlt) (hN k hlt))
      cases hl : latB (x3at X k)
      · have Hno := Lib.hid (molB_no (X := X) fun h => by have := latB_yes (h.lat k hlt); rw [hl] at this; cases this)
        rw [hl] at HV
        clear hl hR
        go_wp2_with fail
        refine HV.out.mono ?_
        rintro e w2 ⟨rfl, h2⟩
        have hS2 := hS.call0 h2
        go_wp2_with fail
        go_ret
        exact ⟨ret_bool Hno.out.symm, hS2⟩
      · have Hlk := Lib.hid (latB_t hl)
        have Hsl := Lib.hid (rslIII_hi Hv.out.1 k (by rw [Hv.out.2.1]; omega))
        have Ht := fun W (a : RIII W v vs uss X) => Lib.hid (a.takeR (k := k) (by omega))
        have Htk := (Hv.out.takeR (k := k) (by omega))
        have htl := Htk.len
        have htx := Htk.ixe
        rw [List.length_take, Nat.min_eq_left hk] at htl htx
        rw [hl] at HV
        have hsl := Hsl.out
        clear hl hR Htk Hsl
        generalize hvt : rsl v 0 k = vt at *
        clear hvt
        go_wp2_with fail
        refine HV.out.mono ?_
        rintro e w2 ⟨rfl, h2⟩
        have hS2 := hS.call0 h2
        clear hS h2
        go_wp2_with fail
        clear ck hxk
        go_loopw [6, 21] (fun _ i wr' => ∃ m : Nat, m ≤ k ∧ i = .int .i64 m ∧ Hid (∀ i, i < m → orB (x3at X k) (x3at X i) = true) ∧ St w.heap.size w wr' []) (fun _ i _ => k - (intOf i).toNat)
        case atStart => exact ⟨0, by omega, rfl, fun j hj => by omega, hS2⟩
        case round =>
          clear hS2
          obtain ⟨m, hm, rfl, hJ, hS⟩ := hrel
          by_cases hlm : m < k
          · have hR := hS.oldIII Hv.out
            have cm : wr.cell? (el vt m) = some (vat vs m) := by
              have := (Ht _ hR).out.cell m (by rw [List.length_take]; omega)
              rw [this]; unfold vat
              rw [List.getD_eq_getElem?_getD, List.getD_eq_getElem?_getD, List.getElem?_take, if_pos hlm]
            have hxm := htx (m : Int) m rfl hlm
            have HO := Lib.hid (orthogonal_c (vat vs k) (vat vs m) (vsat uss k) (vsat uss m) (x3at X k) (x3at X m) wr (hR.row k hlt) (hR.row m (by omega)) Hlk.out (hI.out m hlm).1)
            cases ho : orB (x3at X k) (x3at X m)
            · have Hno := Lib.hid (molB_no (X := X) fun h => by have := h.ort k m hlm hlt; rw [ho] at this; cases this)
              rw [ho] at HO
              clear ho hR
              go_wp2_with fail
              refine HO.out.mono ?_
              rintro e w3 ⟨rfl, h3⟩
              have hS3 := hS.call0 h3
              go_wp2_with fail
              go_ret
              exact ⟨ret_bool Hno.out.symm, hS3⟩
            · have HJ := Lib.hid (show ∀ i, i < m + 1 → orB (x3at X k) (x3at X i) = true from fun i hi => by
                by_cases e : i = m
                · rw [e]; exact ho
                · exact hJ.out i (by omega))
              rw [ho] at HO
              clear ho hR
              go_wp2_with fail
              refine HO.out.mono ?_
              rintro e w3 ⟨rfl, h3⟩
              have hS3 := hS.call0 h3
              go_wp2_with fail
              go_roundw
              case rel => exact ⟨m + 1, by omega, by go_num, HJ.out, hS3⟩
              case measure => simp [intOf]; omega
          · obtain rfl : m = k := by omega
            have HI := Lib.hid (show ∀ j, j < m + 1 → Lat (x3at X j) ∧ ∀ i, i < j → orB (x3at X j) (x3at X i) = true from fun j hj => by
              by_cases e : j = m
              · rw [e]; exact ⟨Hlk.out, hJ.out⟩
              · exact hI.out j (by omega))
            go_wp2_with fail
            go_roundw
            case rel => exact ⟨m + 1, by omega, by go_num, HI.out, hS⟩
            case measure => simp [intOf]; omega
    · obtain rfl : k = X.length := by omega
      have H : Hid (inB (X.length : Int) 1 10 = molB X) := by
        unfold Hid
        by_cases h : 1 ≤ (X.length : Int) ∧ (X.length : Int) ≤ 10
        · rw [inB_true h, molB_yes ⟨by omega, by omega, fun k hk => (hI.out k hk).1, fun k i hi hk => (hI.out k hk).2 i hi⟩]
        · rw [inB_false h, molB_no fun hh => h (by have := hh.pos; have := hh.le; omega)]
      go_wp2_with (first
        | (go_at_call 43; refine (within_c _ _ _ _).mono ?_; rw [H.out]; rintro e w3 ⟨rfl, rfl⟩)
        | (go_at_call 42; refine (HZ _ (hS.oldIII Hv.out)).out.mono ?_; rintro e w2 ⟨rfl, rfl⟩))
      go_ret
      exact ⟨rfl, hS⟩
end Go.Proofs.Ytejncephbafcdaa
end

section
/- Walks: orthogonal squares and lists of them, of the reference. Walks: valid lists of orthogonal squares, of the reference. -/
namespace Go.Proofs.Ytejncephbafcdaa
set_option linter.unusedSimpArgs false
set_option linter.unusedVariables false
open Go.RowKit
attribute [local go_sem ↓] Go.wp_at_zero Go.wp_at_succ


/-- a square that is filled as far as place y of row x -/
structure FilQ (n : Nat) (f : Nat → Nat → Int) (x y : Nat) (S : List (List Int)) : Prop where
  sqr : Sqr n S
  at' : ∀ x' y', Bef n x y x' y' → at2 S x' y' = f x' y'
theorem FilQ.start {n : Nat} {f : Nat → Nat → Int} : FilQ n f 0 0 (sqF n fun _ _ => 0) := ⟨sqF_sqr _ _, fun _ _ h => by unfold Bef at h; omega⟩
theorem FilQ.step {n : Nat} {f : Nat → Nat → Int} {x y : Nat} {S : List (List Int)} (h : FilQ n f x y S) (hx : x < n) (hy : y < n) : FilQ n f x (y + 1) (putS S x y (f x y)) := by
  refine ⟨putS_sqr h.sqr hx _ _, fun x' y' hb => ?_⟩
  rw [at2_putS h.sqr hx hy]
  split
  · rename_i e; rw [← e.1, ← e.2]
  · rename_i e; exact h.at' x' y' (by unfold Bef at hb ⊢; omega)
theorem FilQ.next {n : Nat} {f : Nat → Nat → Int} {x : Nat} {S : List (List Int)} (h : FilQ n f x n S) : FilQ n f (x + 1) 0 S := ⟨h.sqr, fun x' y' hb => h.at' x' y' (by unfold Bef at hb ⊢; omega)⟩
theorem FilQ.done {n : Nat} {f : Nat → Nat → Int} {S : List (List Int)} (h : FilQ n f n 0 S) : S = sqF n f :=
  sq_ext h.sqr (sqF_sqr _ _) fun x y hx hy => by rw [h.at' x y ⟨hx, hy, .inl hx⟩, at2_sqF hx hy]
end Go.Proofs.Ytejncephbafcdaa
end

section
/- Walks: fields by value: the helpers of the exact laws. -/
namespace Go.Proofs.Ytejncephbafcdaa
set_option linter.unusedSimpArgs false
set_option linter.unusedVariables false
open Go.RowKit

/-- a field as a value -/
def fv (p d : Int) (v : Value) : Value := .agg #[.int .i64 p, .int .i64 d, v]
theorem RdI.shp' {w : World} {v : Value} {xs : List Int} (h : RdI w v xs) : ∃ a c, v = .slice a xs.length c := by
  obtain ⟨a, c, hv⟩ := h.sl.sh
  rw [iv_len] at hv
  exact ⟨a, c, hv⟩

theorem RII.shp' {w : World} {v : Value} {us : List Value} {xss : List (List Int)} (h : RII w v us xss) : ∃ a c, v = .slice a xss.length c := by
  obtain ⟨a, c, hv⟩ := h.1.sl.sh
  rw [h.2.1] at hv
  exact ⟨a, c, hv⟩
/-- it hands over a field of its own -/
def MakesF (w : World) (p d : Int) (xs : List Int) (e : Ending) (w' : World) : Prop := ∃ v, e = .returned (fv p d v) ∧ St w.heap.size w w' [row 2 v (iv xs)]

end Go.Proofs.Ytejncephbafcdaa
end

section
/- Walks: digits of numbers, bounded powers. Walks: bounded powers. -/
namespace Go.Proofs.Ytejncephbafcdaa
set_option linter.unusedSimpArgs false
set_option linter.unusedVariables false
open Go.RowKit


def dv (base : Int) : Nat → Int → Int
  | 0, n => n
  | j + 1, n => dv base j n / base
/-- the digits of a number, the lowest one first -/
def lows (base : Int) (m : Nat) (n : Int) : List Int := (List.range m).map fun (j : Nat) => dv base j n % base
def digs (base : Int) (m : Nat) (n : Int) : List Int := (lows base m n).reverse
theorem lows_len (base : Int) (m : Nat) (n : Int) : (lows base m n).length = m := by simp [lows]
theorem digs_len (base : Int) (m : Nat) (n : Int) : (digs base m n).length = m := by simp [digs, lows_len]
theorem dv_le {base n : Int} (hb : 2 ≤ base) (hn : 0 ≤ n) : ∀ j, 0 ≤ dv base j n ∧ dv base j n ≤ n
  | 0 => ⟨hn, Int.le_refl _⟩
  | j + 1 => by
    have := dv_le hb hn j
    have h1 : 0 ≤ dv base j n / base := Int.ediv_nonneg this.1 (by omega)
    have h2 : dv base j n / base ≤ dv base j n := Int.ediv_le_self _ this.1
    exact ⟨h1, by simp only [dv]; omega⟩

set_option maxHeartbeats 1000000 in
set_option maxRecDepth 100000 in
theorem l16Digits_c (n base : Int) (m : Nat) (w : World) (hn : 0 ≤ n) (hn2 : n ≤ 4611686018427387904) (hb : 2 ≤ base) (hb2 : base ≤ 1073741824) (hm : m ≤ 4096) :
    Calls Try.prog 135 #[.int .i64 n, .int .i64 base, .int .i64 m] w (MakesI w (digs base m n)) := by
  go_enter Try.func135, Try.ntmps135
  go_wp2_with (at_make; refine mkI (St.refl w) rfl _ _ rfl _ _ m rfl rfl (by omega) ?_; intro v1 w1 hS1)
  have hv1 := (hS1.rdI 0 (xs := List.replicate m 0) rfl)
  have hi1 := hv1.ixe
  simp only [List.length_replicate] at hi1
  clear hv1
  go_wp2_with fail
  go_loopw [0, 8] (fun nn i wr => ∃ k : Nat, k ≤ m ∧ i = .int .i64 ((m : Int) - 1 - k) ∧ nn = .int .i64 (dv base k n) ∧ St w.heap.size w wr [row 2 v1 (iv (List.replicate (m - k) 0 ++ (digs base m n).drop (m - k)))]) (fun _ i _ => (intOf i + 1).toNat)
  case atStart =>
    refine ⟨0, by omega, by congr 1; omega, rfl, ?_⟩
    have e : List.replicate (m - 0) 0 ++ (digs base m n).drop (m - 0) = List.replicate m 0 := by rw [List.drop_of_length_le (by rw [digs_len]; omega)]; simp
    rw [e]; exact hS1
  case round =>
    obtain ⟨k, hk, rfl, rfl, hS⟩ := hrel
    by_cases hlt : k < m
    · have hd := dv_le hb hn k
      have hd2 := dv_le hb hn (k + 1)
      obtain ⟨q, hq⟩ : ∃ q, q = dv base k n := ⟨_, rfl⟩
      have hq2 : dv base (k + 1) n = q / base := by rw [hq]; rfl
      have Hq := Lib.hid hq2
      rw [← hq] at hd ⊢
      rw [hq2] at hd2
      have Hqq := Lib.hid hq
      clear hq hq2
      have hmod := Int.emod_nonneg q (show base ≠ 0 by omega)
      have hmod2 := Int.emod_lt_of_pos q (show 0 < base by omega)
      have hixk := hi1 ((m : Int) - 1 - k) (m - 1 - k) (by omega) (by omega)
      go_wp2_with (refine stoI hS 0 rfl (m - 1 - k) (by simp [digs_len]; omega) rfl (.tmp 22) (.tmp 21) rfl rfl _ rfl ?_; intro w2 hS2)
      go_roundw
      case rel =>
        refine ⟨k + 1, by omega, by congr 1; push_cast; omega, by rw [Hq.out], ?_⟩
        have e : (List.replicate (m - k) 0 ++ (digs base m n).drop (m - k)).set (m - 1 - k) (q % base) = List.replicate (m - (k + 1)) 0 ++ (digs base m n).drop (m - (k + 1)) := by
          have h1 : nth (digs base m n) (m - (k + 1)) = q % base := by
            have : (digs base m n)[m - (k + 1)]? = some (q % base) := by
              unfold digs
              rw [List.getElem?_reverse (by rw [lows_len]; omega), lows_len, show m - 1 - (m - (k + 1)) = k by omega]
              simp [lows, hlt, Hqq.out]
            simp [nth, this]
          rw [List.set_append_left _ _ (by simp; omega), drop_nth (xs := digs base m n) (k := m - (k + 1)) (by rw [digs_len]; omega), h1]
          rw [show m - (k + 1) + 1 = m - k by omega, show m - 1 - k = m - (k + 1) by omega, show m - k = (m - (k + 1)) + 1 by omega, List.replicate_succ']
          rw [List.set_append_right _ _ (by simp)]
          simp
        rw [← e]; exact hS2
      case measure => simp [intOf]; omega
    · go_wp2_with fail
      go_ret
      have ek : k = m := by omega
      subst ek
      refine ⟨_, rfl, ?_⟩
      have e : List.replicate (k - k) 0 ++ (digs base k n).drop (k - k) = digs base k n := by simp
      rw [e] at hS; exact hS


set_option maxHeartbeats 1000000 in
set_option maxRecDepth 100000 in
theorem powerUpTo_c (base e lim : Int) (w : World) (hb : 2 ≤ base) (hb2 : base ≤ 1073741824) (hl : 0 ≤ lim) (hl2 : lim ≤ 1073741824) (he : 0 ≤ e) (he2 : e ≤ 9223372036854775807) :
    Calls Try.prog 86 #[.int .i64 base, .int .i64 e, .int .i64 lim] w fun r w' => r = .returned (.int .i64 (pu base lim e.toNat 1)) ∧ w = w' := by
  go_enter Try.func86, Try.ntmps86
  go_wp2_with fail
  go_loopw [1, 7] (fun ee pp wr => ∃ (k : Nat) (p : Int), ee = .int .i64 k ∧ (k : Int) ≤ e ∧ pp = .int .i64 p ∧ 1 ≤ p ∧ p ≤ 1152921504606846976 ∧ Hid (pu base lim e.toNat 1 = pu base lim k p) ∧ wr = w) (fun ee _ _ => (intOf ee).toNat)
  case atStart => exact ⟨e.toNat, 1, by congr 1; omega, by omega, rfl, by omega, by omega, rfl, rfl⟩
  case round =>
    obtain ⟨k, p, rfl, hk, rfl, hp, hp2, hI, rfl⟩ := hrel
    by_cases h1 : 0 < k
    · by_cases h2 : p ≤ lim
      · have hm1 : p * base ≤ 1073741824 * 1073741824 := Int.mul_le_mul (by omega) hb2 (by omega) (by omega)
        have hm0 : 1 ≤ p * base := by have := Int.mul_le_mul hp (show (1 : Int) ≤ base by omega) (by omega) (by omega); omega
        go_wp2_with fail
        go_roundw
        case rel =>
          refine ⟨k - 1, p * base, by congr 1; omega, by omega, rfl, hm0, by omega, ?_, by first | rfl | trivial⟩
          unfold Hid
          rw [hI.out, show k = (k - 1) + 1 by omega]
          simp only [pu, if_pos h2]
          rfl
        case measure => simp [intOf]; omega
      · go_wp2_with fail
        go_ret
        exact ⟨ret_i64 (by rw [hI.out, pu_big (by omega)]), rfl⟩
    · go_wp2_with fail
      go_ret
      obtain rfl : k = 0 := by omega
      exact ⟨ret_i64 (by rw [hI.out]; rfl), rfl⟩


end Go.Proofs.Ytejncephbafcdaa
end

section
/- Walks: powers, digits, numbers, remainders of polynomials. Walks: remainders of the reference, irreducible polynomials. Walks: irreducible polynomials. Walks: valid fields. Walks: valid fields of both sides. -/
namespace Go.Proofs.Ytejncephbafcdaa
set_option linter.unusedSimpArgs false
set_option linter.unusedVariables false
open Go.RowKit
theorem dv_succ' (base : Int) : ∀ (j : Nat) (n : Int), dv base (j + 1) n = dv base j (n / base)
  | 0, _ => rfl
  | j + 1, n => by
    show dv base (j + 1) n / base = dv base j (n / base) / base
    rw [dv_succ' base j n]
theorem lows_dgt (base : Int) : ∀ (m : Nat) (n : Int), lows base m n = dgt base m n
  | 0, _ => rfl
  | m + 1, n => by
    have ih := lows_dgt base m (n / base)
    unfold lows at ih ⊢
    rw [List.range_succ_eq_map, List.map_cons, List.map_map, dgt, ← ih]
    congr 1
    apply List.map_congr_left
    intro j _
    show dv base (j + 1) n % base = dv base j (n / base) % base
    rw [dv_succ']

theorem pow64 {p : Int} (h1 : 1 ≤ p) (h2 : p ≤ 64) : ∀ m : Nat, 1 ≤ p ^ m ∧ p ^ m ≤ 64 ^ m
  | 0 => by simp
  | m + 1 => by
    have := pow64 h1 h2 m
    rw [Int.pow_succ, Int.pow_succ]
    have a := Int.mul_le_mul this.2 h2 (by omega) (show (0 : Int) ≤ 64 ^ m by omega)
    have b := Int.mul_le_mul this.1 h1 (by omega) (by omega)
    omega
theorem pow64m {p : Int} (h1 : 1 ≤ p) (h2 : p ≤ 64) {m : Nat} (h : m ≤ 6) : p ^ m ≤ 68719476736 := by
  have h3 := (pow64 h1 h2 m).2
  have h4 : (64 : Int) ^ m ≤ 64 ^ 6 := by
    have : m = 0 ∨ m = 1 ∨ m = 2 ∨ m = 3 ∨ m = 4 ∨ m = 5 ∨ m = 6 := by omega
    rcases this with h | h | h | h | h | h | h <;> subst h <;> decide
  have : (64 : Int) ^ 6 = 68719476736 := by decide
  omega

set_option maxHeartbeats 1000000 in
set_option maxRecDepth 100000 in
theorem l03Power_c (p : Int) (k : Nat) (w : World) (h1 : 1 ≤ p) (h2 : p ≤ 64) (hk : k ≤ 6) : Calls Try.prog 177 #[.int .i64 p, .int .i64 k] w fun e w' => e = .returned (.int .i64 (p ^ k)) ∧ w = w' := by
  go_enter Try.func177, Try.ntmps177
  go_wp2_with fail
  go_loop [1, 5] (fun m o => ∃ (j : Nat) (x : Int), j ≤ k ∧ m = .int .i64 ((k - j : Nat) : Int) ∧ o = .int .i64 x ∧ 1 ≤ x ∧ x ≤ 68719476736 ∧ Hid (x = p ^ j)) (fun m _ => (intOf m).toNat)
  case atStart => exact ⟨0, 1, by omega, rfl, rfl, by omega, by omega, by simp [Hid]⟩
  case round =>
    obtain ⟨j, x, hj, rfl, rfl, x0, x1, hI⟩ := hrel
    by_cases hlt : j < k
    · have hb := pow64m h1 h2 (m := j + 1) (by omega)
      have hb0 := (pow64 h1 h2 (j + 1)).1
      have hs : p ^ (j + 1) = x * p := by rw [Int.pow_succ, hI.out]
      rw [hs] at hb hb0
      have Hs := Lib.hid hs; clear hs
      have hm : 0 < k - j := by omega
      go_wp2_with fail
      go_round
      case rel => exact ⟨j + 1, x * p, by omega, by congr 1; omega, rfl, hb0, hb, Hs.out.symm⟩
      case measure => simp [intOf]; omega
    · obtain rfl : j = k := by omega
      have hz : j - j = 0 := by omega
      have Hz := Lib.hid hz; clear hz
      rw [Hz.out]
      go_wp2_with fail
      go_ret
      exact ⟨ret_i64 hI.out, rfl⟩

set_option maxHeartbeats 1000000 in
set_option maxRecDepth 100000 in
theorem l03Digits_c (n base : Int) (m : Nat) (w : World) (hn : 0 ≤ n) (hn2 : n ≤ 4611686018427387904) (hb : 2 ≤ base) (hb2 : base ≤ 1073741824) (hm : m ≤ 4096) :
    Calls Try.prog 159 #[.int .i64 n, .int .i64 base, .int .i64 m] w (MakesI w (lows base m n)) := by
  have hS1 := (St.refl w).new 2 #[] (by simp)
  go_enter Try.func159, Try.ntmps159
  go_wp2_with fail
  go_loopw [0, 2, 7] (fun nn mm o wr => ∃ k : Nat, k ≤ m ∧ mm = .int .i64 ((m - k : Nat) : Int) ∧ nn = .int .i64 (dv base k n) ∧ St w.heap.size w wr [row 2 o (iv ((lows base m n).take k))]) (fun _ mm _ _ => (intOf mm).toNat)
  case atStart => exact ⟨0, by omega, rfl, rfl, hS1⟩
  case round =>
    obtain ⟨k, hk, rfl, rfl, hS⟩ := hrel
    by_cases hlt : k < m
    · have hd := dv_le hb hn k
      have hd2 := dv_le hb hn (k + 1)
      obtain ⟨q, hq⟩ : ∃ q, q = dv base k n := ⟨_, rfl⟩
      have hq2 : dv base (k + 1) n = q / base := by rw [hq]; rfl
      have Hq := Lib.hid hq2
      rw [← hq] at hd ⊢
      rw [hq2] at hd2
      have Hqq := Lib.hid hq
      clear hq hq2
      have hmod := Int.emod_nonneg q (show base ≠ 0 by omega)
      have hmod2 := Int.emod_lt_of_pos q (show 0 < base by omega)
      have fb : (base == 0) = false := eq_f (by omega)
      have hm0 : 0 < m - k := by omega
      go_wp2_with (at_builtin; refine appI hS 0 rfl (by simp [lows_len]; omega) rfl _ _ rfl rfl _ rfl ?_; intro v3 w3 hS3)
      go_roundw
      case rel =>
        refine ⟨k + 1, by omega, by congr 1; omega, by rw [Hq.out], ?_⟩
        have e : (lows base m n).take k ++ [q % base] = (lows base m n).take (k + 1) := by
          rw [take_nth (by rw [lows_len]; exact hlt)]
          have : nth (lows base m n) k = q % base := by simp [nth, lows, hlt, Hqq.out]
          rw [this]
        rw [← e]; exact hS3
      case measure => simp [intOf]; omega
    · obtain rfl : k = m := by omega
      have hz : k - k = 0 := by omega
      have Hz := Lib.hid hz; clear hz
      rw [Hz.out]
      go_wp2_with fail
      go_ret
      refine ⟨_, rfl, ?_⟩
      rw [List.take_of_length_le (by rw [lows_len]; omega)] at hS; exact hS

theorem numL_drop {p : Int} {xs : List Int} {m : Nat} (h : m < xs.length) : numL p (xs.drop m) = numL p (xs.drop (m + 1)) * p + nth xs m := by
  rw [drop_nth h]; rfl
theorem numL_mono {p : Int} (hp : 1 ≤ p) : ∀ {xs : List Int}, In p xs → ∀ m : Nat, 0 ≤ numL p (xs.drop m) ∧ numL p (xs.drop m) ≤ numL p xs
  | [], _, m => by simp [numL]
  | x :: r, h, 0 => ⟨numL_nonneg (by omega) (fun y hy => (h y hy).1), Int.le_refl _⟩
  | x :: r, h, m + 1 => by
    have ih := numL_mono hp (xs := r) (fun y hy => h y (by simp [hy])) m
    have hx := h x (by simp)
    have e : numL p (x :: r) = numL p r * p + x := rfl
    have h0 := numL_nonneg (base := p) (by omega) (xs := r) (fun y hy => (h y (by simp [hy])).1)
    have := Int.mul_le_mul_of_nonneg_left hp h0
    rw [List.drop_succ_cons, e]
    omega

set_option maxHeartbeats 1000000 in
set_option maxRecDepth 100000 in
theorem l03Number_c (v : Value) (xs : List Int) (p : Int) (w : World) (hv : RdI w v xs) (h1 : 1 ≤ p) (h2 : p ≤ 64) (hi : In p xs) (hb : p ^ xs.length ≤ 1099511627776) :
    Calls Try.prog 161 #[v, .int .i64 p] w fun e w' => e = .returned (.int .i64 (numL p xs)) ∧ w = w' := by
  have hln := hv.len
  have hix := hv.ix
  have hm := hv.le
  have hlt' := numL_lt h1 hi
  have Hi := Lib.hid hi
  clear hi
  go_enter Try.func161, Try.ntmps161
  go_wp2_with fail
  go_loop [5, 6] (fun o i => ∃ m : Nat, m ≤ xs.length ∧ i = .int .i64 ((m : Int) - 1) ∧ o = .int .i64 (numL p (xs.drop m))) (fun _ i => (intOf i + 1).toNat)
  case atStart => exact ⟨xs.length, by omega, rfl, by rw [List.drop_length]; rfl⟩
  case round =>
    obtain ⟨m, hm2, rfl, rfl⟩ := hrel
    cases m with
    | zero =>
      go_wp2_with fail
      go_ret
      exact ⟨rfl, rfl⟩
    | succ m =>
      have hc := hv.cell m (by omega)
      have hxm := hv.ixe (m : Int) m rfl (by omega)
      have e1 : Hid (((m + 1 : Nat) : Int) - 1 = m) := by unfold Hid; omega
      have hs := Lib.hid (numL_drop (p := p) (show m < xs.length by omega))
      have hb1 := numL_mono h1 Hi.out m
      have hb2 := numL_mono h1 Hi.out (m + 1)
      rw [hs.out] at hb1
      have hx := Hi.out _ (nth_mem (show m < xs.length by omega))
      obtain ⟨x0, x1⟩ := hx
      obtain ⟨a0, a1⟩ := hb1
      obtain ⟨c0, c1⟩ := hb2
      have hmul := Int.mul_nonneg c0 (show 0 ≤ p by omega)
      rw [e1.out]
      go_wp2_with fail
      go_round
      case rel => exact ⟨m, by omega, rfl, by rw [hs.out]⟩
      case measure => simp [intOf]

/-- a row cut behind its first cells -/
theorem St.cut {B : Nat} {w0 w : World} {L : List Ent} (h : St B w0 w L) (i : Nat) {e : TypeId} {v : Value} {us : List Value} (hi : L[i]? = some (row e v us)) (m : Nat) (hm : m ≤ us.length) :
    St B w0 w (L.set i (row e (rsl v 0 m) (us.take m))) := by
  have hx := h.ok _ (List.mem_of_getElem? hi)
  have hg : w.grownBy w (bk v) := ⟨rfl, rfl, rfl, Nat.le_refl _, fun _ _ _ => rfl⟩
  rcases hx with ⟨hp, _⟩ | ⟨_, hv, hu⟩ | ⟨_, g, cap, cur, hv, hB, hh, h1, h2, h3, h4⟩
  · simp [row] at hp
  · simp only [row] at hv hu
    subst hu; subst hv
    have hm0 : m = 0 := by simpa using hm
    subst hm0
    have e : rsl (.slice none 0 0) 0 0 = .slice none 0 0 := rfl
    rw [e, List.take_nil]
    have : L.set i (row ‹_› (.slice none 0 0) []) = L := by
      obtain ⟨hlt, heq⟩ := List.getElem?_eq_some_iff.1 hi
      rw [← heq, List.set_getElem_self]
    rw [this]; exact h
  · simp only [row] at hv h1 h4 hh
    have ev : rsl v 0 m = .slice (some ⟨g, 0, none⟩) m cap := by
      rw [hv]
      simp only [rsl, sliced, Nat.zero_mul, Option.map_some, Nat.sub_zero]
      split
      · rfl
      · simp [Addr.add]
    have hb : bk (rsl v 0 m) = bk v := by rw [ev, hv]; rfl
    refine h.put i hi hg (row e (rsl v 0 m) (us.take m)) (.inr (.inr ⟨rfl, g, cap, cur, ?_, hB, hh, ?_, h2, h3, ?_⟩)) (.inl hb)
    · simp only [row]; rw [ev, List.length_take, Nat.min_eq_left hm]
    · simp only [row]; rw [List.length_take]; omega
    · simp only [row]
      rw [List.length_take, Nat.min_eq_left hm, ← h4, List.take_take, Nat.min_eq_left hm]

theorem rsl_hi' {w : World} {v : Value} {xs : List Int} (h : RdI w v xs) (i : Int) (hi : Nat) (e : i = (hi : Int)) (h2 : hi ≤ xs.length) (W : World) :
    (Instr.slice 52 v none (some (.int .i64 i)) none).run Try.prog W = .ok (rsl v 0 hi) W := by
  subst e; exact rsl_hi h hi h2 W
def sliceLen : Value → Nat
  | .slice _ n _ => n
  | _ => 0
theorem sliceLen_sl {v : Value} {n : Nat} (h : IsSl v n) : sliceLen v = n := by obtain ⟨a, c, rfl, _⟩ := h; rfl

set_option maxHeartbeats 2000000 in
set_option maxRecDepth 100000 in
theorem l03Rest_c (v vb : Value) (xs ys : List Int) (p : Int) (w : World) (hv : RdI w v xs) (hb : RdI w vb ys) (p2 : 2 ≤ p) (p64 : p ≤ 64) (hx : In p xs) (hy : In p ys) (hxl : xs.length ≤ 4096) (hyl : ys.length ≤ 4096) (hy1 : 1 ≤ ys.length) :
    Calls Try.prog 162 #[v, vb, .int .i64 p] w (MakesI w (remL p xs ys)) := by
  have hlb := hb.len
  have hib := hb.ix
  have hcl := fun W h => Lib.hid (l00Own_c v xs W h (by omega))
  obtain ⟨deg, hdeg⟩ : ∃ d, ys.length = d + 1 := ⟨ys.length - 1, by omega⟩
  have Hdeg := Lib.hid hdeg
  have Hx := Lib.hid hx
  have Hy := Lib.hid hy
  have fp : (p == 0) = false := eq_f (by omega)
  rw [hdeg] at hlb hib
  have hd4 : deg ≤ 4095 := by omega
  clear hx hy hy1
  go_enter Try.func162, Try.ntmps162
  go_wp2_with fail
  refine (hcl _ hv).out.mono ?_
  rintro e w1 ⟨v1, rfl, hS⟩
  have hl1 := (hS.rdI 0 rfl).len
  clear hdeg
  go_wp2_with fail
  go_loopw [9, 10, 11, 12] (fun kk _ _ _ wr => ∃ (κ : Int) (cur : List Int), -1 ≤ κ ∧ κ ≤ (xs.length : Int) - 1 ∧ kk = .int .i64 κ ∧ Hid (cur.length = xs.length) ∧ Hid (In p cur) ∧ Hid (remN p ys deg (κ + 1 - deg).toNat cur = remN p ys deg (xs.length - deg) xs) ∧ St w.heap.size w wr [row 2 v1 (iv cur)]) (fun kk _ _ _ _ => (intOf kk + 1).toNat)
  case atStart => exact ⟨_, xs, by omega, by omega, rfl, rfl, Hx.out, by unfold Hid; congr 1; omega, hS⟩
  case round =>
    obtain ⟨κ, cur, k0, k1, rfl, hcl, hin, hI, hS⟩ := hrel
    by_cases hge : (deg : Int) ≤ κ
    · obtain ⟨k, rfl⟩ := Int.eq_ofNat_of_zero_le (show 0 ≤ κ by omega)
      have hr := hS.rdI 0 rfl
      have hdc : k < cur.length := by have := hcl.out; omega
      have hck := hr.cell k hdc
      have hxk := hr.ixe (k : Int) k rfl hdc
      obtain ⟨f, hf⟩ : ∃ f, f = nth cur k := ⟨_, rfl⟩
      rw [← hf] at hck
      have hfb := hin.out _ (nth_mem hdc)
      rw [← hf] at hfb
      obtain ⟨f0, f1⟩ := hfb
      have Hf := Lib.hid hf
      have hdc2 : k < xs.length := by have := hcl.out; omega
      have hdk : deg ≤ k := by omega
      clear hf hr
      go_wp2_with fail
      go_loopw [11, 12] (fun jj _ wx => ∃ j : Nat, j ≤ deg + 1 ∧ jj = .int .i64 j ∧ St w.heap.size w wx [row 2 v1 (iv (subT p cur ys (k - deg) f j))]) (fun jj _ _ => (deg + 1) - (intOf jj).toNat)
      case atStart => exact ⟨0, by omega, rfl, by rw [subT_0]; exact hS⟩
      case round =>
        obtain ⟨j, hj, rfl, hS⟩ := hrel
        have hr := hS.rdI 0 rfl
        by_cases hlt : j < deg + 1
        · have hcb := (hS.oldI hb).cell j (by rw [Hdeg.out]; exact hlt)
          have hat : k - deg + j < (subT p cur ys (k - deg) f j).length := by rw [subT_len]; omega
          have hca := hr.cell (k - deg + j) hat
          have hxa := hr.ixe ((k : Int) - deg + j) (k - deg + j) (by omega) hat
          have hxa2 := hr.ixe ((k : Int) - ((deg : Int) + 1) + 1 + j) (k - deg + j) (by omega) hat
          have hyb := Hy.out _ (nth_mem (show j < ys.length by rw [Hdeg.out]; exact hlt))
          have hab := (In.subT (by omega) hin.out (by' := ys) (k - deg) f j) _ (nth_mem hat)
          obtain ⟨y0, y1⟩ := hyb
          obtain ⟨a0, a1⟩ := hab
          have hstep := Lib.hid (subT_step (p := p) (rest := cur) (by' := ys) (s := k - deg) (f := f) (j := j) (by have := hcl.out; omega))
          generalize hA : nth (subT p cur ys (k - deg) f j) (k - deg + j) = A at hca a0 a1
          generalize hB : nth ys j = B at hcb y0 y1
          have HA := Lib.hid hA
          have HB := Lib.hid hB
          have m0 := Int.mul_nonneg f0 y0
          have m1 : f * B ≤ 64 * 64 := Int.mul_le_mul (by omega) (by omega) (by omega) (by omega)
          have n0 := Int.mul_nonneg (show 0 ≤ p - f by omega) y0
          have n1 : (p - f) * B ≤ 64 * 64 := Int.mul_le_mul (by omega) (by omega) (by omega) (by omega)
          have hmd : Hid ((A + (p - f) * B) % p = (A - f * B) % p) := by
            unfold Hid
            rw [Int.sub_mul, show A + (p * B - f * B) = (A - f * B) + p * B by omega, Int.add_mul_emod_self_left]
          have u1 := hS.unfrozen 0 rfl (j := k - deg + j) (by rw [iv_len]; exact hat)
          have hs1 := hS.store 0 rfl (j := k - deg + j) (by rw [iv_len]; exact hat) (.int .i64 ((A + (p - f) * B) % p))
          have hs2 := Lib.hid hs1.drew
          clear hA hB hat hs1
          go_wp2_with fail
          go_region
          all_goals
            go_wp2_with fail
            go_roundw
            case rel =>
              refine ⟨j + 1, by omega, by go_num, ?_⟩
              rw [← hstep.out, show cf (subT p cur ys (k - deg) f j) (k - deg + j) = A from HA.out, show cf ys j = B from HB.out, ← hmd.out]
              have h := hs2.out
              rw [iv_set] at h
              exact h
            case measure => simp [intOf]; omega
        · have hj2 : j = deg + 1 := by omega
          subst hj2
          have hst : Hid (remN p ys deg ((k : Int) + 1 - deg).toNat cur = remN p ys deg ((k : Int) - 1 + 1 - deg).toNat (subT p cur ys (k - deg) f (deg + 1))) := by
            unfold Hid
            rw [show ((k : Int) + 1 - deg).toNat = (k - deg) + 1 by omega, remN, show ((k : Int) - 1 + 1 - deg).toNat = k - deg by omega, show deg + (k - deg) = k by omega, Hf.out]
            try rfl
          have hin2 := Lib.hid (In.subT (p := p) (by omega) hin.out (by' := ys) (k - deg) f (deg + 1))
          have hcl2 : Hid ((subT p cur ys (k - deg) f (deg + 1)).length = xs.length) := by unfold Hid; rw [subT_len]; exact hcl.out
          go_wp2_with fail
          go_roundw
          case rel => exact ⟨(k : Int) - 1, _, by omega, by omega, rfl, hcl2, hin2, by unfold Hid; rw [← hst.out]; exact hI.out, hS⟩
          case measure => simp [intOf]
    · have e0 : Hid (cur = remN p ys deg (xs.length - deg) xs) := by
        unfold Hid
        have h := hI.out
        rw [show (κ + 1 - (deg : Int)).toNat = 0 by omega] at h
        exact h
      have Hcl := hcl
      go_wp2_with fail
      go_loopw [7] (fun o wx => ∃ m : Nat, m ≤ xs.length ∧ Hid (deg ≤ m ∨ m = xs.length) ∧ St w.heap.size w wx [row 2 o (iv (cur.take m))]) (fun o _ => sliceLen o)
      case atStart => exact ⟨xs.length, by omega, .inr rfl, by rw [List.take_of_length_le (by rw [Hcl.out]; omega)]; exact hS⟩
      case round =>
        obtain ⟨m, hm, hmd, hS⟩ := hrel
        have hr := hS.rdI 0 rfl
        have hlm : (cur.take m).length = m := by rw [List.length_take, Hcl.out]; omega
        have hln := hr.len
        rw [hlm] at hln
        have Hlm := Lib.hid hlm
        clear hlm
        by_cases hgt : deg + 1 ≤ m
        · have hsl := rsl_hi' hr ((m : Int) - 1) (m - 1) (by omega) (by rw [Hlm.out]; omega)
          have hcut := hS.cut 0 rfl (m - 1) (by rw [iv_len, Hlm.out]; omega)
          have hsz := sliceLen_sl hr.sl
          rw [iv_len, Hlm.out] at hsz
          have hsz2 := sliceLen_sl (hcut.rd 0 rfl).sl
          have e2 : (iv (cur.take m)).take (m - 1) = iv (cur.take (m - 1)) := by simp only [iv, ← List.map_take]; rw [List.take_take, Nat.min_eq_left (by omega)]
          rw [e2] at hcut hsz2
          rw [iv_len, List.length_take, Hcl.out] at hsz2
          have Hsz := Lib.hid hsz
          have Hsz2 := Lib.hid hsz2
          clear hr hsz hsz2 e2
          go_wp2_with fail
          go_roundw
          case rel => exact ⟨m - 1, by omega, .inl (by omega), hcut⟩
          case measure => rw [Hsz.out, Hsz2.out]; omega
        · clear hr
          go_wp2_with fail
          go_ret
          refine ⟨_, rfl, ?_⟩
          have e1 : cur.take m = remL p xs ys := by
            rw [remL, Hdeg.out, show deg + 1 - 1 = deg by omega, ← e0.out]
            rcases hmd.out with h | h
            · rw [show m = deg by omega]
            · rw [List.take_of_length_le (by rw [Hcl.out]; omega), List.take_of_length_le (by rw [Hcl.out]; omega)]
          rw [e1] at hS
          exact hS



/-- the polynomial that is tried -/
def tryP (p : Int) (d n : Nat) : List Int := lows p d n ++ [1]
theorem tryP_len (p : Int) (d n : Nat) : (tryP p d n).length = d + 1 := by simp [tryP, lows_len]
theorem tryP_in {p : Int} (hp : 2 ≤ p) (d n : Nat) : In p (tryP p d n) := by
  intro x hx
  rcases List.mem_append.1 hx with h | h
  · rw [lows_dgt] at h; exact dgt_in (by omega) _ _ x h
  · simp at h; subst h; omega
theorem irrB_iff {p : Int} {xs : List Int} : irrB p xs = true ↔ ∀ d n : Nat, 1 ≤ d → 2 * d ≤ xs.length - 1 → n < (p ^ d).toNat → zeroL (remL p xs (tryP p d n)) = false := by
  simp only [irrB, List.all_eq_true, List.mem_range, Bool.not_eq_true', tryP, lows_dgt]
  constructor
  · intro h d n hd hl hn
    have := h (d - 1) (by omega) n (by rw [show d - 1 + 1 = d by omega]; exact hn)
    rwa [show d - 1 + 1 = d by omega] at this
  · intro h i hi n hn
    exact h (i + 1) n (by omega) (by omega) hn
theorem irrB_no {p : Int} {xs : List Int} {d n : Nat} (hd : 1 ≤ d) (hl : 2 * d ≤ xs.length - 1) (hn : n < (p ^ d).toNat) (h : zeroL (remL p xs (tryP p d n)) = true) : irrB p xs = false := by
  cases hq : irrB p xs with
  | false => rfl
  | true => have := irrB_iff.1 hq d n hd hl hn; rw [h] at this; cases this
theorem remL_len {p : Int} {xs ys : List Int} : (remL p xs ys).length ≤ ys.length - 1 := by simp [remL]; omega
theorem pow_mono {p : Int} (hp : 1 ≤ p) {a b : Nat} (h : a ≤ b) : p ^ a ≤ p ^ b := by
  obtain ⟨k, rfl⟩ := Nat.exists_eq_add_of_le h
  rw [Int.pow_add]
  have h1 : ∀ m : Nat, 1 ≤ p ^ m := by
    intro m
    induction m with
    | zero => simp
    | succ m ih => rw [Int.pow_succ]; have := Int.mul_le_mul ih hp (by omega) (by omega); omega
  have := Int.mul_le_mul_of_nonneg_left (h1 k) (show 0 ≤ p ^ a by have := h1 a; omega)
  omega

set_option maxHeartbeats 4000000 in
set_option maxRecDepth 100000 in
theorem l03Irreducible_c (v : Value) (xs : List Int) (p : Int) (w : World) (hv : RdI w v xs) (p2 : 2 ≤ p) (p64 : p ≤ 64) (hx : In p xs) (hx1 : 1 ≤ xs.length) (hq : p ^ (xs.length - 1) ≤ 64) :
    Calls Try.prog 160 #[v, .int .i64 p] w (GivesB w (irrB p xs)) := by
  have hln := hv.len
  obtain ⟨D, hD⟩ : ∃ D, xs.length = D + 1 := ⟨xs.length - 1, by omega⟩
  have hD6 : D ≤ 6 := pow_small p2 (by rw [hD] at hq; exact hq)
  have HD := Lib.hid hD
  have Hx := Lib.hid hx
  have Hq := Lib.hid (show p ^ D ≤ 64 by rw [hD] at hq; exact hq)
  rw [hD] at hln
  clear hx hq hx1 hD
  go_enter Try.func160, Try.ntmps160
  go_wp2_with fail
  go_loopw [6, 7, 8, 9] (fun dd _ _ _ wr => ∃ d : Nat, 1 ≤ d ∧ dd = .int .i64 d ∧ d ≤ 10 ∧ Hid (∀ d' n : Nat, 1 ≤ d' → d' < d → n < (p ^ d').toNat → zeroL (remL p xs (tryP p d' n)) = false) ∧ St w.heap.size w wr []) (fun dd _ _ _ _ => 20 - (intOf dd).toNat)
  case atStart => exact ⟨1, by omega, rfl, by omega, fun d' n h1 h2 => by omega, St.refl _⟩
  case round =>
    obtain ⟨d, d1, rfl, d10, hI, hS⟩ := hrel
    by_cases hle : 2 * (d : Int) ≤ D
    · have hpd : p ^ d ≤ 64 := Int.le_trans (pow_mono (by omega) (show d ≤ D by omega)) Hq.out
      have hpd1 := (pow64 (p := p) (by omega) p64 d).1
      obtain ⟨K, hK⟩ := Int.eq_ofNat_of_zero_le (show 0 ≤ p ^ d by omega)
      have hK2 : K ≤ 64 := by omega
      have HK := Lib.hid hK
      have hpow : ∀ W, Hid (Calls Try.prog 177 #[.int .i64 p, .int .i64 d] W fun r w' => r = .returned (.int .i64 K) ∧ W = w') := fun W => by
        have := l03Power_c p d W (by omega) p64 (by omega)
        rw [hK] at this
        exact this
      clear hpd hpd1 hK
      go_wp2_with fail
      go_loopw [7, 8, 9] (fun nn _ _ wx => ∃ n : Nat, n ≤ K ∧ nn = .int .i64 n ∧ Hid (∀ m : Nat, m < n → zeroL (remL p xs (tryP p d m)) = false) ∧ St w.heap.size w wx []) (fun nn _ _ _ => K - (intOf nn).toNat)
      case atStart => exact ⟨0, by omega, rfl, fun m h => by omega, hS⟩
      case round =>
        obtain ⟨n, hn, rfl, hJ, hS⟩ := hrel
        by_cases hlt : n < K
        · have hdg := fun W => Lib.hid (l03Digits_c n p d W (by omega) (by omega) p2 (by omega) (by omega))
          go_wp2_with fail
          refine (hpow _).out.mono ?_
          rintro e w2 ⟨rfl, rfl⟩
          go_wp2_with fail
          refine (hdg _).out.mono ?_
          rintro e w2 ⟨v2, rfl, h2⟩
          have hS2 := hS.call h2
          simp only [List.nil_append] at hS2
          go_wp2_with (at_builtin; refine appI hS2 0 rfl (by rw [lows_len]; omega) rfl _ _ rfl rfl _ rfl ?_; intro v3 w3 hS3)
          have hr3 : RdI w3 v3 (tryP p d n) := hS3.rdI 0 rfl
          have hrem := Lib.hid (l03Rest_c v v3 xs (tryP p d n) p w3 (hS3.oldI hv) hr3 p2 p64 Hx.out (tryP_in p2 d n) (by rw [HD.out]; omega) (by rw [tryP_len]; omega) (by rw [tryP_len]; omega))
          clear hr3
          refine hrem.out.mono ?_
          rintro e w4 ⟨v4, rfl, h4⟩
          have hS4 := hS3.call0 h4.out
          have hr4 := h4.rdI 0 rfl
          have hin4 : In p (remL p xs (tryP p d n)) := In.remL (by omega) Hx.out
          have hlen4 : p ^ (remL p xs (tryP p d n)).length ≤ 1099511627776 := by
            have h9 := remL_len (p := p) (xs := xs) (ys := tryP p d n)
            rw [tryP_len] at h9
            have := pow_mono (p := p) (by omega) (show (remL p xs (tryP p d n)).length ≤ d by omega)
            rw [HK.out] at this; omega
          have hnum := Lib.hid (l03Number_c v4 _ p w4 hr4 (by omega) p64 hin4 hlen4)
          have hzz := Lib.hid (numL_zero (base := p) (by omega) hin4)
          clear hS2 hS3 hS hin4 hlen4
          go_wp2_with fail
          refine hnum.out.mono ?_
          rintro e w5 ⟨rfl, rfl⟩
          by_cases hz : numL p (remL p xs (tryP p d n)) = 0
          · have f0 := eq_t hz
            have Hz := Lib.hid (hzz.out.1 hz); clear hz
            go_wp2_with fail
            go_ret
            exact ⟨ret_bool (irrB_no d1 (by rw [HD.out]; omega) (by rw [HK.out]; omega) Hz.out).symm, hS4.out⟩
          · have f0 := eq_f hz
            have Hz : Hid (zeroL (remL p xs (tryP p d n)) = false) := by
              unfold Hid
              cases h9 : zeroL (remL p xs (tryP p d n)) with
              | false => rfl
              | true => exact absurd (hzz.out.2 h9) hz
            clear hz
            go_wp2_with fail
            go_roundw
            case rel => exact ⟨n + 1, by omega, by go_num, fun m hm => by
              by_cases e : m = n
              · subst e; exact Hz.out
              · exact hJ.out m (by omega), hS4.out⟩
            case measure => simp [intOf]; omega
        · obtain rfl : n = K := by omega
          go_wp2_with fail
          refine (hpow _).out.mono ?_
          rintro e w2 ⟨rfl, rfl⟩
          go_wp2_with fail
          go_roundw
          case rel => exact ⟨d + 1, by omega, by go_num, by omega, fun d' m h1 h2 hm => by
            by_cases e : d' = d
            · subst e; rw [HK.out, Int.toNat_natCast] at hm; exact hJ.out m hm
            · exact hI.out d' m h1 (by omega) hm, hS⟩
          case measure => simp [intOf]; omega
    · go_wp2_with fail
      go_ret
      exact ⟨ret_bool (irrB_iff.2 fun d' n h1 h2 h3 => hI.out d' n h1 (by rw [HD.out] at h2; omega) h3).symm, hS⟩


theorem lfac_no {q f d : Nat} (h : q % d ≠ 0) : lfac q (f + 1) d = lfac q f (d + 1) := by rw [lfac, if_neg h]
theorem lfac_yes {q f d : Nat} (h : q % d = 0) : lfac q f d = d := by
  cases f with
  | zero => rfl
  | succ f => rw [lfac, if_pos h]

set_option maxHeartbeats 2000000 in
set_option maxRecDepth 100000 in
theorem l03Split_c (q : Nat) (w : World) (q2 : 2 ≤ q) (q64 : q ≤ 64) : Calls Try.prog 158 #[.int .i64 q] w fun e w' => e = .returned (.tuple #[.int .i64 ((spl q).1 : Nat), .int .i64 ((spl q).2 : Nat)]) ∧ w = w' := by
  have hin : inB (q : Int) 2 64 = true := inB_true ⟨by omega, by omega⟩
  go_enter Try.func158, Try.ntmps158
  go_wp2_with (go_at_call 68; refine (l00In_c _ _ _ _).mono ?_; rintro e w3 ⟨rfl, rfl⟩)
  clear hin
  go_loop [4] (fun pp => ∃ k : Nat, 2 ≤ k ∧ k ≤ q ∧ pp = .int .i64 k ∧ Hid (lfac q 64 2 = lfac q (66 - k) k)) (fun pp => q - (intOf pp).toNat)
  case atStart => exact ⟨2, by omega, by omega, rfl, rfl⟩
  case round =>
    obtain ⟨k, k2, kq, rfl, hI⟩ := hrel
    have fk : ((k : Int) == 0) = false := eq_f (by omega)
    have hmn : (q : Int) % k = ((q % k : Nat) : Int) := by simp
    by_cases h : q % k = 0
    · have f0 : ((q : Int) % k != 0) = false := ne_f (by rw [hmn, h]; rfl)
      have HL := Lib.hid (show lfac q 64 2 = k by rw [hI.out, lfac_yes h])
      have H := Lib.hid h
      clear h hmn
      go_wp2_with fail
      clear f0
      go_loop [5, 6] (fun cc nn => ∃ n c f : Nat, n ≤ f ∧ n ≤ q ∧ 1 ≤ n ∧ c + n ≤ 200 ∧ cc = .int .i64 c ∧ nn = .int .i64 n ∧ Hid (plog k 64 q 0 = plog k f n c)) (fun _ nn => (intOf nn).toNat)
      case atStart => exact ⟨q, 0, 64, by omega, by omega, by omega, by omega, rfl, rfl, rfl⟩
      case round =>
        obtain ⟨n, c, f, nf, nq, n1, c1, rfl, rfl, hJ⟩ := hrel
        obtain ⟨f, rfl⟩ : ∃ g, f = g + 1 := ⟨f - 1, by omega⟩
        have hmn : (n : Int) % k = ((n % k : Nat) : Int) := by simp
        have hdn : (n : Int) / k = ((n / k : Nat) : Int) := by simp
        by_cases hn : 1 < n
        · by_cases h : n % k = 0
          · have f0 : ((n : Int) % k != 0) = false := ne_f (by rw [hmn, h]; rfl)
            have HP := Lib.hid (show plog k (f + 1) n c = plog k f (n / k) (c + 1) by rw [plog, if_pos hn, if_pos h])
            have hd1 : n / k < n := Nat.div_lt_self (by omega) (by omega)
            have hd2 : 1 ≤ n / k := by
              apply Nat.div_pos _ (by omega)
              exact Nat.le_of_dvd (by omega) (Nat.dvd_of_mod_eq_zero h)
            have q0 : 0 ≤ (n : Int) / k := by omega
            have Hdn := Lib.hid hdn
            have q1 : (n : Int) / k ≤ 64 := by omega
            clear h hmn hdn
            go_wp2_with fail
            go_round
            case rel => exact ⟨n / k, c + 1, f, by omega, by omega, hd2, by omega, by go_num, by rw [Hdn.out], by unfold Hid; rw [hJ.out, HP.out]⟩
            case measure => rw [Hdn.out]; simp [intOf]; omega
          · have f0 : ((n : Int) % k != 0) = true := ne_t (by rw [hmn]; omega)
            have HP := Lib.hid (show plog k (f + 1) n c = none by rw [plog, if_pos hn, if_neg h])
            clear h hmn hdn
            go_wp2_with fail
            go_ret2
            exact ⟨ret_2i (by rw [spl, HL.out, hJ.out, HP.out]; rfl) (by rw [spl, HL.out, hJ.out, HP.out]; rfl), rfl⟩
        · have HP := Lib.hid (show plog k (f + 1) n c = some c by rw [plog, if_neg hn])
          clear hmn hdn
          go_wp2_with fail
          go_ret2
          exact ⟨ret_2i (by rw [spl, HL.out, hJ.out, HP.out]) (by rw [spl, HL.out, hJ.out, HP.out]), rfl⟩
    · have f0 : ((q : Int) % k != 0) = true := ne_t (by rw [hmn]; omega)
      have hlt : k < q := by
        apply Nat.lt_of_le_of_ne kq; intro e; subst e; exact h (Nat.mod_self _)
      have HL := Lib.hid (show lfac q 64 2 = lfac q (66 - (k + 1)) (k + 1) by rw [hI.out, show 66 - k = (66 - (k + 1)) + 1 by omega, lfac_no h])
      clear h hmn
      go_wp2_with fail
      go_round
      case rel => exact ⟨k + 1, by omega, by omega, by go_num, HL⟩
      case measure => simp [intOf]; omega


/-- a field behind a pointer -/
def BoxF (w : World) (g : Nat) (p d : Int) (v : Value) : Prop :=
  w.cell? ⟨g, 0, none⟩ = some (.int .i64 p) ∧ w.cell? ⟨g, 1, none⟩ = some (.int .i64 d) ∧ w.cell? ⟨g, 2, none⟩ = some v
theorem cell_keepF {w w' : World} (hb : Below w.heap.size w w') {p : Addr} {u : Value} (h : w.cell? p = some u) : w'.cell? p = some u := by
  rw [hb.cell (World.block_lt_of_cell? _ _ h)]; exact h
theorem BoxF.keep {w w' : World} {g : Nat} {p d : Int} {v : Value} (h : BoxF w g p d v) (hb : Below w.heap.size w w') : BoxF w' g p d v :=
  ⟨cell_keepF hb h.1, cell_keepF hb h.2.1, cell_keepF hb h.2.2⟩
theorem St.oldF {w0 w : World} {L : List Ent} {g : Nat} {p d : Int} {v : Value} (h : St w0.heap.size w0 w L) (hr : BoxF w0 g p d v) : BoxF w g p d v := hr.keep h.below

end Go.Proofs.Ytejncephbafcdaa
end
