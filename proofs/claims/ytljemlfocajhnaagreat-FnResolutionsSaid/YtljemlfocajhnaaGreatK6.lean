/- The texts of this claim, run 6: PDes Cmp Src Src2 Drw Set2 Arr2 Same Ds2 Ds3 Has Ds4 Ds5 Sss PRR PPm. -/
import Derived.Test.YtljemlfocajhnaaGreatK1
import Derived.Test.YtljemlfocajhnaaGreatK2
import Derived.Test.YtljemlfocajhnaaGreatK4
import Derived.Test.YtljemlfocajhnaaGreatK5
import Derived.Deep.RegionHeld3
import Derived.Deep.DrawnRows
import Derived.Shelf.SlSortCmp.NoneTotal
section
/- Plain: lists in the order of lists, designs, their counts and parameters. -/
namespace Go.Proofs.YtljemlfocajhnaaGreat
set_option linter.unusedSimpArgs false
set_option linter.unusedVariables false

/-- lists compared place by place -/
def cmpI : List Int → List Int → Int
  | [], [] => 0
  | [], _ :: _ => -1
  | _ :: _, [] => 1
  | a :: r, b :: s => if a < b then -1 else if b < a then 1 else cmpI r s
theorem cmpI_neg : ∀ a b : List Int, cmpI b a = -cmpI a b
  | [], [] => rfl
  | [], _ :: _ => rfl
  | _ :: _, [] => rfl
  | a :: r, b :: s => by
    have ih := cmpI_neg r s
    rw [cmpI, cmpI]
    by_cases h1 : a < b
    · rw [if_neg (show ¬ b < a by omega), if_pos h1, if_pos h1]; rfl
    · by_cases h2 : b < a
      · rw [if_pos h2, if_neg h1, if_pos h2]
      · rw [if_neg h2, if_neg h1, if_neg h1, if_neg h2]; exact ih
theorem cmpI_eq : ∀ {a b : List Int}, cmpI a b = 0 → a = b
  | [], [], _ => rfl
  | [], _ :: _, h => by simp [cmpI] at h
  | _ :: _, [], h => by simp [cmpI] at h
  | a :: r, b :: s, h => by
    rw [cmpI] at h
    by_cases h1 : a < b
    · rw [if_pos h1] at h; omega
    · rw [if_neg h1] at h
      by_cases h2 : b < a
      · rw [if_pos h2] at h; omega
      · rw [if_neg h2] at h
        rw [cmpI_eq h, show a = b by omega]
theorem cmpI_trans : ∀ {a b c : List Int}, cmpI a b ≤ 0 → cmpI b c ≤ 0 → cmpI a c ≤ 0
  | [], _, [], _, _ => by simp [cmpI]
  | [], _, _ :: _, _, _ => by simp [cmpI]
  | _ :: _, [], _, h, _ => by simp [cmpI] at h
  | _ :: _, _ :: _, [], _, h => by simp [cmpI] at h
  | a :: r, b :: s, c :: t, h1, h2 => by
    rw [cmpI] at h1 h2 ⊢
    by_cases e1 : a < b
    · by_cases e2 : b < c
      · rw [if_pos (by omega)]; omega
      · rw [if_neg e2] at h2
        by_cases e3 : c < b
        · rw [if_pos e3] at h2; omega
        · rw [if_pos (by omega)]; omega
    · rw [if_neg e1] at h1
      by_cases e4 : b < a
      · rw [if_pos e4] at h1; omega
      · rw [if_neg e4] at h1
        by_cases e2 : b < c
        · rw [if_pos (by omega)]; omega
        · rw [if_neg e2] at h2
          by_cases e3 : c < b
          · rw [if_pos e3] at h2; omega
          · rw [if_neg e3] at h2
            rw [if_neg (by omega), if_neg (by omega)]
            exact cmpI_trans h1 h2
def leL (a b : List Int) : Bool := decide (cmpI a b ≤ 0)
theorem leL_trans (a b c : List Int) (h1 : leL a b = true) (h2 : leL b c = true) : leL a c = true :=
  decide_eq_true (cmpI_trans (of_decide_eq_true h1) (of_decide_eq_true h2))
theorem leL_total (a b : List Int) : (leL a b || leL b a) = true := by
  unfold leL
  have := cmpI_neg a b
  by_cases h : cmpI a b ≤ 0
  · simp [h]
  · simp [show cmpI b a ≤ 0 by omega]
theorem leL_anti {a b : List Int} (h1 : leL a b = true) (h2 : leL b a = true) : a = b := by
  have a1 := of_decide_eq_true h1
  have a2 := of_decide_eq_true h2
  have := cmpI_neg a b
  exact cmpI_eq (by omega)
/-- a list put into its place -/
def insL (b : List Int) : List (List Int) → List (List Int)
  | [] => [b]
  | a :: r => if leL b a = true then b :: a :: r else a :: insL b r
theorem insL_perm (b : List Int) : ∀ A : List (List Int), (insL b A).Perm (b :: A)
  | [] => .refl _
  | a :: r => by
    rw [insL]
    split
    · exact .refl _
    · exact ((insL_perm b r).cons a).trans (List.Perm.swap b a r)
theorem insL_pw (b : List Int) : ∀ {A : List (List Int)}, (A.Pairwise fun a b => leL a b = true) → (insL b A).Pairwise fun a b => leL a b = true
  | [], _ => by simp [insL]
  | a :: r, h => by
    obtain ⟨h1, h2⟩ := List.pairwise_cons.1 h
    rw [insL]
    split
    · rename_i hb
      refine List.pairwise_cons.2 ⟨fun x hx => ?_, h⟩
      rcases List.mem_cons.1 hx with rfl | hx
      · exact hb
      · exact leL_trans _ _ _ hb (h1 x hx)
    · rename_i hb
      refine List.pairwise_cons.2 ⟨fun x hx => ?_, insL_pw b h2⟩
      rcases List.mem_cons.1 ((insL_perm b r).mem_iff.1 hx) with rfl | hx
      · have := leL_total x a
        rw [Bool.or_eq_true] at this
        rcases this with h | h
        · exact absurd h hb
        · exact h
      · exact h1 x hx
/-- a list of lists in its order -/
def srtL (A : List (List Int)) : List (List Int) := A.foldr insL []
theorem srtL_perm : ∀ A : List (List Int), (srtL A).Perm A
  | [] => .refl _
  | a :: r => (insL_perm a (srtL r)).trans ((srtL_perm r).cons a)
theorem srtL_pw : ∀ A : List (List Int), (srtL A).Pairwise fun a b => leL a b = true
  | [] => List.Pairwise.nil
  | a :: r => insL_pw a (srtL_pw r)
theorem srtL_len (A : List (List Int)) : (srtL A).length = A.length := (srtL_perm A).length_eq
theorem perm_pw_eq : ∀ {a b : List (List Int)}, a.Perm b → (a.Pairwise fun x y => leL x y = true) → (b.Pairwise fun x y => leL x y = true) → a = b
  | [], b, h, _, _ => by rw [List.nil_perm.1 h]
  | x :: a, b, h, h1, h2 => by
    obtain ⟨h1x, h1r⟩ := List.pairwise_cons.1 h1
    cases b with
    | nil => exact absurd h.length_eq (by simp)
    | cons y b =>
      obtain ⟨h2y, h2r⟩ := List.pairwise_cons.1 h2
      have hxy : x = y := by
        have hx : x ∈ y :: b := h.mem_iff.1 (List.mem_cons_self ..)
        have hy : y ∈ x :: a := h.mem_iff.2 (List.mem_cons_self ..)
        rcases List.mem_cons.1 hx with e | hx
        · exact e
        · rcases List.mem_cons.1 hy with e | hy
          · exact e.symm
          · exact leL_anti (h1x y hy) (h2y x hx)
      subst hxy
      rw [perm_pw_eq ((List.perm_cons x).1 h) h1r h2r]
theorem srtL_eq {a b : List (List Int)} (h : a.Perm b) (hs : a.Pairwise fun x y => leL x y = true) : a = srtL b :=
  perm_pw_eq (h.trans (srtL_perm b).symm) hs (srtL_pw b)
/-- in order, place by place -/
def srtB : List (List Int) → Bool
  | [] => true
  | [_] => true
  | a :: b :: r => leL a b && srtB (b :: r)
theorem srtB_pw : ∀ {A : List (List Int)}, srtB A = true ↔ A.Pairwise fun a b => leL a b = true
  | [] => by simp [srtB]
  | [_] => by simp [srtB]
  | a :: b :: r => by
    rw [srtB, Bool.and_eq_true, srtB_pw (A := b :: r)]
    constructor
    · rintro ⟨h1, h2⟩
      refine List.pairwise_cons.2 ⟨fun x hx => ?_, h2⟩
      rcases List.mem_cons.1 hx with rfl | hx
      · exact h1
      · exact leL_trans _ _ _ h1 ((List.pairwise_cons.1 h2).1 x hx)
    · intro h
      obtain ⟨h1, h2⟩ := List.pairwise_cons.1 h
      exact ⟨h1 b (List.mem_cons_self ..), h2⟩
theorem srtB_srtL (A : List (List Int)) : srtB (srtL A) = true := srtB_pw.2 (srtL_pw A)
theorem srtB_drop : ∀ {A : List (List Int)} {k : Nat}, k + 1 < A.length → srtB (A.drop k) = (leL (xat A k) (xat A (k + 1)) && srtB (A.drop (k + 1))) := by
  intro A k h
  rw [drop_xat (show k < A.length by omega), drop_xat h, srtB]

/-- a block: some points, increasing -/
def blkB (P : Int) (b : List Int) : Bool := decide (0 < b.length) && validSetB b P
/-- a design -/
def dOk (P : Int) (A : List (List Int)) : Bool := inB P 1 32 && A.all (blkB P) && decide (A.length ≤ 128) && srtB A
structure DOk (P : Int) (A : List (List Int)) : Prop where
  pos : 1 ≤ P
  le : P ≤ 32
  len : A.length ≤ 128
  srt : srtB A = true
  ne : ∀ b ∈ A, 0 < b.length
  inc : ∀ b ∈ A, incB (-1) P b = true
theorem blkB_t {P : Int} {b : List Int} (h : blkB P b = true) : 0 < b.length ∧ incB (-1) P b = true := by
  simp only [blkB, validSetB, Bool.and_eq_true, decide_eq_true_eq] at h
  exact ⟨h.1, h.2.1⟩
theorem dOk_t {P : Int} {A : List (List Int)} (h : dOk P A = true) : DOk P A := by
  simp only [dOk, Bool.and_eq_true, decide_eq_true_eq, List.all_eq_true] at h
  obtain ⟨⟨⟨h1, h2⟩, h3⟩, h4⟩ := h
  have h5 : 1 ≤ P ∧ P ≤ 32 := by simpa [inB] using h1
  exact ⟨h5.1, h5.2, h3, h4, fun b hb => (blkB_t (h2 b hb)).1, fun b hb => (blkB_t (h2 b hb)).2⟩
theorem DOk.ok {P : Int} {A : List (List Int)} (h : DOk P A) : dOk P A = true := by
  have h1 := h.pos
  have h2 := h.le
  simp only [dOk, Bool.and_eq_true, decide_eq_true_eq, List.all_eq_true]
  refine ⟨⟨⟨by simp [inB]; omega, fun b hb => ?_⟩, h.len⟩, h.srt⟩
  simp only [blkB, validSetB, Bool.and_eq_true, decide_eq_true_eq]
  exact ⟨h.ne b hb, h.inc b hb, by simp [inB]; omega⟩
/-- blocks put in order are a design -/
theorem DOk.mk' {P : Int} {A : List (List Int)} (h1 : 1 ≤ P) (h2 : P ≤ 32) (h3 : A.length ≤ 128) (h4 : ∀ b ∈ A, 0 < b.length ∧ incB (-1) P b = true) : DOk P (srtL A) :=
  ⟨h1, h2, by rw [srtL_len]; exact h3, srtB_srtL A, fun b hb => (h4 b ((srtL_perm A).mem_iff.1 hb)).1, fun b hb => (h4 b ((srtL_perm A).mem_iff.1 hb)).2⟩
/-- the number of blocks with a property -/
def cntD (p : List Int → Bool) (A : List (List Int)) : Int := (A.filter p).length
theorem cntD_perm {p : List Int → Bool} {A B : List (List Int)} (h : A.Perm B) : cntD p A = cntD p B := by unfold cntD; rw [(h.filter p).length_eq]
theorem cntD_snoc (p : List Int → Bool) (A : List (List Int)) (b : List Int) : cntD p (A ++ [b]) = cntD p A + if p b = true then 1 else 0 := by
  unfold cntD; rw [List.filter_append]; by_cases h : p b = true <;> simp [h]
theorem cntD_bd (p : List Int → Bool) (A : List (List Int)) : 0 ≤ cntD p A ∧ cntD p A ≤ A.length := by
  unfold cntD; have := List.length_filter_le p A; omega
/-- in how many blocks a point is -/
def repF (A : List (List Int)) (x : Nat) : Int := cntD (fun b => decide ((x : Int) ∈ b)) A
def repL (P : Nat) (A : List (List Int)) : List Int := (List.range P).map (repF A)
/-- in how many blocks two points are -/
def parF (A : List (List Int)) (x y : Nat) : Int := cntD (fun b => decide ((x : Int) ∈ b) && decide ((y : Int) ∈ b)) A
def parR (P : Nat) (A : List (List Int)) (x : Nat) : List Int := (List.range (P - (x + 1))).map fun t => parF A x (x + 1 + t)
def parL (P : Nat) (A : List (List Int)) : List Int := ((List.range P).map (parR P A)).flatten
/-- the parameters: whether there are any, and what they are -/
def prmB (P : Nat) (A : List (List Int)) : Bool :=
  decide (2 ≤ P) && decide (0 < A.length) && decide (2 ≤ (xat A 0).length) && (A.all fun b => b.length == (xat A 0).length) && ((parL P A).all fun c => c == nth (parL P A) 0)
def prmV (P : Nat) (A : List (List Int)) : List Int :=
  if prmB P A = true then [(P : Int), (A.length : Int), nth (repL P A) 0, ((xat A 0).length : Int), nth (parL P A) 0] else [0, 0, 0, 0, 0]
end Go.Proofs.YtljemlfocajhnaaGreat
end

section
/- Comparison of lists: slices.Compare, the reference's CompareLists, slices.IsSortedFunc. -/
namespace Go.Proofs.YtljemlfocajhnaaGreat
set_option linter.unusedSimpArgs false
set_option linter.unusedVariables false
open Go.RowKit

theorem isNaNC_c (x : Int) (w : World) : Calls Tryz.prog 81 #[.int .i64 x] w fun e w' => e = .returned (.bool false) ∧ w = w' := by
  have h := ne_f (rfl : x = x)
  go_enter Tryz.func81, Tryz.ntmps81
  go_wp2_with fail
  go_ret
  exact ⟨rfl, rfl⟩
def cmp1 (x y : Int) : Int := if x < y then -1 else if y < x then 1 else 0
theorem cmpC_c (x y : Int) (w : World) : Calls Tryz.prog 49 #[.int .i64 x, .int .i64 y] w fun e w' => e = .returned (.int .i64 (cmp1 x y)) ∧ w = w' := by
  by_cases h1 : x < y
  · rw [cmp1, if_pos h1]
    go_enter Tryz.func49, Tryz.ntmps49
    go_wp2_with (go_at_call 81; refine (isNaNC_c _ _).mono ?_; rintro e w3 ⟨rfl, rfl⟩)
    go_ret
    exact ⟨rfl, rfl⟩
  · by_cases h2 : y < x
    · rw [cmp1, if_neg h1, if_pos h2]
      go_enter Tryz.func49, Tryz.ntmps49
      go_wp2_with (go_at_call 81; refine (isNaNC_c _ _).mono ?_; rintro e w3 ⟨rfl, rfl⟩)
      go_ret
      exact ⟨rfl, rfl⟩
    · rw [cmp1, if_neg h1, if_neg h2]
      go_enter Tryz.func49, Tryz.ntmps49
      go_wp2_with (go_at_call 81; refine (isNaNC_c _ _).mono ?_; rintro e w3 ⟨rfl, rfl⟩)
      go_ret
      exact ⟨rfl, rfl⟩
theorem cmpI_drop {xs ys : List Int} {k : Nat} (h1 : k < xs.length) (h2 : k < ys.length) : cmpI (xs.drop k) (ys.drop k) = if cmp1 (nth xs k) (nth ys k) ≠ 0 then cmp1 (nth xs k) (nth ys k) else cmpI (xs.drop (k + 1)) (ys.drop (k + 1)) := by
  rw [drop_nth h1, drop_nth h2, cmpI, cmp1]
  by_cases h : nth xs k < nth ys k
  · rw [if_pos h, if_pos h, if_pos (by omega)]
  · rw [if_neg h, if_neg h]
    by_cases h' : nth ys k < nth xs k
    · rw [if_pos h', if_pos h', if_pos (by omega)]
    · rw [if_neg h', if_neg h', if_neg (by omega)]
theorem cmpI_e1 {xs ys : List Int} {k : Nat} (h1 : k < xs.length) (h2 : ys.length ≤ k) : cmpI (xs.drop k) (ys.drop k) = 1 := by
  rw [drop_nth h1, List.drop_of_length_le h2]; rfl
theorem cmpI_e2 {xs ys : List Int} {k : Nat} (h1 : xs.length ≤ k) (h2 : k < ys.length) : cmpI (xs.drop k) (ys.drop k) = -1 := by
  rw [drop_nth h2, List.drop_of_length_le h1]; rfl
theorem cmpI_e3 {xs ys : List Int} {k : Nat} (h1 : xs.length ≤ k) (h2 : ys.length ≤ k) : cmpI (xs.drop k) (ys.drop k) = 0 := by
  rw [List.drop_of_length_le h2, List.drop_of_length_le h1]; rfl
set_option maxHeartbeats 1000000 in
set_option maxRecDepth 100000 in
theorem Compare_c (va vb : Value) (xs ys : List Int) (w : World) (ha : RdI w va xs) (hb : RdI w vb ys) :
    Calls Tryz.prog 25 #[va, vb] w fun e w' => e = .returned (.int .i64 (cmpI xs ys)) ∧ w = w' := by
  have hla := ha.len
  have hlb := hb.len
  have hia := ha.ix
  have hib := hb.ix
  have hca := ha.cell
  have hcb := hb.cell
  have hma := ha.le
  have hmb := hb.le
  go_enter Tryz.func25, Tryz.ntmps25
  go_wp2_with fail
  go_loop [5, 6, 7, 8, 11] (fun _ _ _ _ i => ∃ k : Nat, k ≤ xs.length ∧ k ≤ ys.length ∧ i = .int .i64 k ∧ Hid (cmpI (xs.drop k) (ys.drop k) = cmpI xs ys)) (fun _ _ _ _ i => xs.length - (intOf i).toNat)
  case atStart => exact ⟨0, by omega, by omega, rfl, rfl⟩
  case round =>
    obtain ⟨k, hk, hk2, rfl, hI⟩ := hrel
    by_cases k1 : k < xs.length
    · by_cases k2 : k < ys.length
      · have hd := cmpI_drop k1 k2
        by_cases hc : cmp1 (nth xs k) (nth ys k) = 0
        · rw [if_neg (by omega), hI.out] at hd
          have HD := Lib.hid hd
          have HC := Lib.hid hc
          clear hd hc
          go_wp2_with (go_at_call 49; refine (cmpC_c _ _ _).mono ?_; rw [HC.out]; rintro e w3 ⟨rfl, rfl⟩)
          go_round
          case rel => exact ⟨k + 1, by omega, by omega, by go_num, HD.out.symm⟩
          case measure => simp [intOf]; omega
        · rw [if_pos hc, hI.out] at hd
          have HD := Lib.hid hd
          clear hd
          go_wp2_with (go_at_call 49; refine (cmpC_c _ _ _).mono ?_; rintro e w3 ⟨rfl, rfl⟩)
          go_ret
          exact ⟨by rw [HD.out]; rfl, rfl⟩
      · have HD := Lib.hid (cmpI_e1 k1 (show ys.length ≤ k by omega))
        rw [hI.out] at HD
        go_wp2_with fail
        go_ret
        exact ⟨by rw [HD.out]; rfl, rfl⟩
    · by_cases k2 : k < ys.length
      · have HD := Lib.hid (cmpI_e2 (show xs.length ≤ k by omega) k2)
        rw [hI.out] at HD
        go_wp2_with fail
        go_ret
        exact ⟨by rw [HD.out]; rfl, rfl⟩
      · have HD := Lib.hid (cmpI_e3 (show xs.length ≤ k by omega) (show ys.length ≤ k by omega))
        rw [hI.out] at HD
        go_wp2_with fail
        go_ret
        exact ⟨by rw [HD.out]; rfl, rfl⟩

set_option maxHeartbeats 1000000 in
set_option maxRecDepth 100000 in
theorem sCompareLists_c (va vb : Value) (xs ys : List Int) (w : World) (ha : RdI w va xs) (hb : RdI w vb ys) :
    Calls Tryz.prog 60 #[va, vb] w (GivesI w (cmpI xs ys)) := by
  have hla := ha.len
  have hlb := hb.len
  have hia := ha.ix
  have hib := hb.ix
  have hma := ha.le
  have hmb := hb.le
  go_enter Tryz.func60, Tryz.ntmps60
  go_wp2_with fail
  go_loopw [5] (fun i wr => ∃ k : Nat, k ≤ xs.length ∧ k ≤ ys.length ∧ i = .int .i64 k ∧ Hid (cmpI (xs.drop k) (ys.drop k) = cmpI xs ys) ∧ St w.heap.size w wr []) (fun i _ => xs.length - (intOf i).toNat)
  case atStart => exact ⟨0, by omega, by omega, rfl, rfl, St.refl w⟩
  case round =>
    obtain ⟨k, hk, hk2, rfl, hI, hS⟩ := hrel
    by_cases k1 : k < xs.length
    · by_cases k2 : k < ys.length
      · have hd := cmpI_drop k1 k2
        rw [hI.out] at hd
        have hqa := fun s : SS w.heap.size w [] => (s.st.oldI ha).cell k k1
        have hqb := fun s : SS w.heap.size w [] => (s.st.oldI hb).cell k k2
        generalize nth xs k = x at *
        generalize nth ys k = y at *
        rcases Int.lt_trichotomy x y with h | h | h
        · have HD : Hid (cmpI xs ys = -1) := by rw [Hid, hd, if_pos (by rw [cmp1, if_pos h]; decide), cmp1, if_pos h]
          clear hd
          go_wp2_with fail
          have hne : Nonempty (SS _ _ _) := ⟨⟨_, hS⟩⟩
          refine wp_region_st (by kernel_rfl) (by kernel_rfl) hS ?_
          repeat (go_big_quiet_step (fail))
          refine wpQuiet_nil ?_
          rintro _ ⟨s2, rfl⟩
          have hS2 := s2.st
          generalize s2.w = w2 at hS2 ⊢
          go_wp2_with fail
          go_ret
          exact ⟨ret_i64 HD.out.symm, hS2⟩
        · subst h
          rw [if_neg (by simp [cmp1])] at hd
          have HD := Lib.hid hd
          clear hd
          have hirr : ¬ x < x := by omega
          go_wp2_with fail
          have hne : Nonempty (SS _ _ _) := ⟨⟨_, hS⟩⟩
          refine wp_region_st (by kernel_rfl) (by kernel_rfl) hS ?_
          repeat (go_big_quiet_step (fail))
          refine wpQuiet_nil ?_
          rintro _ ⟨s2, rfl⟩
          have hS2 := s2.st
          generalize s2.w = w2 at hS2 ⊢
          go_wp2_with fail
          have hne : Nonempty (SS _ _ _) := ⟨⟨_, hS2⟩⟩
          refine wp_region_st (by kernel_rfl) (by kernel_rfl) hS2 ?_
          repeat (go_big_quiet_step (fail))
          refine wpQuiet_nil ?_
          rintro _ ⟨s2, rfl⟩
          have hS3 := s2.st
          generalize s2.w = w3 at hS3 ⊢
          go_wp2_with fail
          go_roundw
          case rel => exact ⟨k + 1, by omega, by omega, by go_num, HD.out.symm, hS3⟩
          case measure => simp [intOf]; omega
        · have hn : ¬ x < y := by omega
          have HD : Hid (cmpI xs ys = 1) := by rw [Hid, hd, if_pos (by rw [cmp1, if_neg hn, if_pos h]; decide), cmp1, if_neg hn, if_pos h]
          clear hd
          go_wp2_with fail
          have hne : Nonempty (SS _ _ _) := ⟨⟨_, hS⟩⟩
          refine wp_region_st (by kernel_rfl) (by kernel_rfl) hS ?_
          repeat (go_big_quiet_step (fail))
          refine wpQuiet_nil ?_
          rintro _ ⟨s2, rfl⟩
          have hS2 := s2.st
          generalize s2.w = w2 at hS2 ⊢
          go_wp2_with fail
          have hne : Nonempty (SS _ _ _) := ⟨⟨_, hS2⟩⟩
          refine wp_region_st (by kernel_rfl) (by kernel_rfl) hS2 ?_
          repeat (go_big_quiet_step (fail))
          refine wpQuiet_nil ?_
          rintro _ ⟨s2, rfl⟩
          have hS3 := s2.st
          generalize s2.w = w3 at hS3 ⊢
          go_wp2_with fail
          go_ret
          exact ⟨ret_i64 HD.out.symm, hS3⟩
      · have HD := Lib.hid (cmpI_e1 k1 (show ys.length ≤ k by omega))
        rw [hI.out] at HD
        go_wp2_with fail
        go_ret
        exact ⟨ret_i64 HD.out.symm, hS⟩
    · by_cases k2 : k < ys.length
      · have HD := Lib.hid (cmpI_e2 (show xs.length ≤ k by omega) k2)
        rw [hI.out] at HD
        go_wp2_with fail
        go_ret
        exact ⟨ret_i64 HD.out.symm, hS⟩
      · have HD := Lib.hid (cmpI_e3 (show xs.length ≤ k by omega) (show ys.length ≤ k by omega))
        rw [hI.out] at HD
        go_wp2_with fail
        go_ret
        exact ⟨ret_i64 HD.out.symm, hS⟩
theorem srtB_no {A : List (List Int)} {k : Nat} (h : k + 1 < A.length) (hc : leL (xat A k) (xat A (k + 1)) = false) : srtB A = false := by
  cases hs : srtB A with
  | false => rfl
  | true =>
    have := List.pairwise_iff_getElem.1 (srtB_pw.1 hs) k (k + 1) (by omega) h (by omega)
    rw [xat_eq (show k < A.length by omega), xat_eq h, this] at hc
    cases hc
set_option maxHeartbeats 2000000 in
set_option maxRecDepth 100000 in
theorem IsSortedR_c (v : Value) (us : List Value) (A : List (List Int)) (w : World) (hv : RII w v us A) :
    Calls Tryz.prog 24 #[v, .func (.func 25) #[] #[]] w (GivesB w (srtB A)) := by
  have hcf : ∀ (args : Array Value) (W : World), (callFunc 25 args).run Tryz.prog W = .ok (.enter 25 args) W :=
    fun args W => callFunc_go (P := Tryz.prog) Tryz.func25 (by kernel_rfl) (by kernel_rfl) args W
  have hln := hv.len
  have hix := hv.ixe
  have hm := hv.le
  by_cases h0 : A.length = 0
  · have hA : Hid (srtB A = true) := by rw [List.eq_nil_of_length_eq_zero h0]; rfl
    go_enter Tryz.func24, Tryz.ntmps24
    go_wp2_with fail
    go_loopw [5] (fun i wr => i = .int .i64 (-1) ∧ St w.heap.size w wr []) (fun _ _ => 0)
    case atStart => exact ⟨by go_num, St.refl w⟩
    case round =>
      obtain ⟨rfl, hS⟩ := hrel
      go_wp2_with fail
      go_ret
      exact ⟨ret_bool hA.out.symm, hS⟩
  · go_enter Tryz.func24, Tryz.ntmps24
    go_wp2_with fail
    go_loopw [5] (fun i wr => ∃ k : Nat, k + 1 ≤ A.length ∧ i = .int .i64 k ∧ Hid (srtB (A.drop k) = true) ∧ St w.heap.size w wr []) (fun i _ => (intOf i).toNat)
    case atStart => exact ⟨A.length - 1, by omega, by go_num, by
      have : A.drop (A.length - 1) = [xat A (A.length - 1)] := by rw [drop_xat (show A.length - 1 < A.length by omega), List.drop_of_length_le (by omega)]
      rw [Hid, this]; rfl, St.refl w⟩
    case round =>
      obtain ⟨k, hk, rfl, hI, hS⟩ := hrel
      by_cases hk0 : 0 < k
      · obtain ⟨m, hmk⟩ : ∃ m, m + 1 = k := ⟨k - 1, by omega⟩
        have R1 := Lib.hid fun s : SS w.heap.size w [] => (s.st.oldII hv).row k (by omega)
        have R0 := Lib.hid fun s : SS w.heap.size w [] => (s.st.oldII hv).row m (by omega)
        have hq1 := fun s : SS w.heap.size w [] => (s.st.oldII hv).cell k (by omega)
        have hq0 := fun s : SS w.heap.size w [] => (s.st.oldII hv).cell m (by omega)
        have x1 := hix (k : Int) k rfl (by omega)
        have x0 := hix ((k : Int) - 1) m (by omega) (by omega)
        have hw : IntKind.i64.wrap ((k : Int) - 1) = ((k : Int) - 1) := IntWalk.i64_in _ (by omega)
        have Hmk := Lib.hid hmk
        have hd := srtB_drop (A := A) (k := m) (by omega)
        rw [hmk, hI.out, Bool.and_true] at hd
        have hno : leL (xat A m) (xat A k) = false → srtB A = false := fun h => srtB_no (k := m) (by omega) (by rw [hmk]; exact h)
        clear hmk
        cases hc : leL (xat A m) (xat A k)
        · have hlt : cmpI (xat A k) (xat A m) < 0 := by
            have := of_decide_eq_false hc
            have := cmpI_neg (xat A m) (xat A k); omega
          have HN := Lib.hid (hno hc)
          clear hd hc hno
          go_wp2_with fail
          have hne : Nonempty (SS _ _ _) := ⟨⟨_, hS⟩⟩
          refine wp_region_st (by kernel_rfl) (by kernel_rfl) hS ?_
          repeat (go_big_quiet_step ((go_at_call 25; exact st_quiet0 (Compare_c _ _ _ _ _ (R1.out _) (R0.out _)))))
          refine wpQuiet_nil ?_
          rintro _ ⟨s2, rfl⟩
          have hS2 := s2.st
          generalize s2.w = w2 at hS2 ⊢
          go_wp2_with fail
          go_ret
          exact ⟨ret_bool HN.out.symm, hS2⟩
        · have hlt : ¬ cmpI (xat A k) (xat A m) < 0 := by
            have := of_decide_eq_true hc
            have := cmpI_neg (xat A m) (xat A k); omega
          rw [hc] at hd
          have HD := Lib.hid hd
          clear hd hc hno
          go_wp2_with fail
          have hne : Nonempty (SS _ _ _) := ⟨⟨_, hS⟩⟩
          refine wp_region_st (by kernel_rfl) (by kernel_rfl) hS ?_
          repeat (go_big_quiet_step ((go_at_call 25; exact st_quiet0 (Compare_c _ _ _ _ _ (R1.out _) (R0.out _)))))
          refine wpQuiet_nil ?_
          rintro _ ⟨s2, rfl⟩
          have hS2 := s2.st
          generalize s2.w = w2 at hS2 ⊢
          go_wp2_with fail
          go_roundw
          case rel => exact ⟨m, by have := Hmk.out; omega, by rw [← Hmk.out]; go_num, HD, hS2⟩
          case measure => (have := Hmk.out; simp [intOf]; omega)
      · obtain rfl : k = 0 := by omega
        go_wp2_with fail
        go_ret
        exact ⟨ret_bool (by rw [← hI.out]; rfl), hS⟩
end Go.Proofs.YtljemlfocajhnaaGreat
end

section
/- The source of choices that the laws draw from. -/
namespace Go.Proofs.YtljemlfocajhnaaGreat
set_option linter.unusedSimpArgs false
set_option linter.unusedVariables false
open Go.RowKit

/-- the cells of some bytes -/
def bv (bs : List UInt8) : List Value := bs.map fun b => Value.int .u8 b.toNat
def RdB (w : World) (v : Value) (bs : List UInt8) : Prop := Rd w v (bv bs)
theorem bv_len (bs : List UInt8) : (bv bs).length = bs.length := by simp [bv]
def bnth (bs : List UInt8) (j : Nat) : Int := ((bs.getD j 0).toNat : Int)
theorem bnth_bd (bs : List UInt8) (j : Nat) : 0 ≤ bnth bs j ∧ bnth bs j ≤ 255 := by
  unfold bnth; have := (bs.getD j 0).toNat_lt; omega
theorem bv_get {bs : List UInt8} {j : Nat} (h : j < bs.length) : (bv bs).getD j undef = .int .u8 (bnth bs j) := by
  simp [bv, bnth, List.getD, List.getElem?_eq_getElem h]

theorem Tryz.und_bs : Tryz.prog.underlying 22 = some (.slice 5) := by kernel_rfl
theorem Tryz.size_b : (Tryz.prog.info? 5).map (·.size) = some 1 := by kernel_rfl

section
variable {w w' : World} {v : Value} {bs : List UInt8}
theorem RdB.le (h : RdB w v bs) : bs.length ≤ 9223372036854775807 := by have := h.sl.le; rwa [bv_len] at this
theorem RdB.len (h : RdB w v bs) (ty : TypeId) (W : World) : (Builtin.len_ #[22] ty #[v]).run Tryz.prog W = .ok (.int .i64 bs.length) W := by
  have := run_len_sl (P := Tryz.prog) h.sl 22 ty Tryz.und_bs W; rwa [bv_len] at this
theorem RdB.ix (h : RdB w v bs) (k : IntKind) (i : Int) (h0 : 0 ≤ i) (hi : i < bs.length) (W : World) :
    (Instr.indexAt 22 v (.int k i)).run Tryz.prog W = .ok (.pointer (some (el v i.toNat))) W :=
  run_ix_sl (P := Tryz.prog) h.sl 22 Tryz.und_bs Tryz.size_b k i h0 (by rw [bv_len]; exact hi) W
theorem RdB.cell (h : RdB w v bs) (j : Nat) (hj : j < bs.length) : w.cell? (el v j) = some (.int .u8 (bnth bs j)) := by
  rw [Rd.cell h (by rw [bv_len]; exact hj), bv_get hj]
theorem RdB.keep (h : RdB w v bs) (hb : Below w.heap.size w w') : RdB w' v bs := Rd.keep h hb
theorem RdB.sh (h : RdB w v bs) : ∃ a n c, v = .slice a n c := by obtain ⟨a, c, hv, _⟩ := h.sl; exact ⟨a, _, c, hv⟩
end
theorem St.oldB {w0 w : World} {L : List Ent} {v : Value} {bs : List UInt8} (h : St w0.heap.size w0 w L) (hr : RdB w0 v bs) : RdB w v bs := Rd.keep hr h.below

/-- the source lies at the head of what is owned, at most K bytes were drawn -/
def Src (w0 w : World) (cv : Value) (g : Nat) (K : Nat) (L : List Ent) : Prop :=
  ∃ p seed : Int, 0 ≤ p ∧ p ≤ K ∧ St w0.heap.size w0 w (box 59 g [cv, .int .i64 p, .int .u64 seed] :: L)

def AnInt (lo hi : Int) (R : World → Prop) (e : Ending) (w' : World) : Prop := ∃ x : Int, lo ≤ x ∧ x ≤ hi ∧ e = .returned (.int .i64 x) ∧ R w'

theorem Src.mono {w0 w : World} {cv : Value} {g K K' : Nat} {L : List Ent} (h : Src w0 w cv g K L) (hk : K ≤ K') : Src w0 w cv g K' L := by
  obtain ⟨p, s, h0, h1, h2⟩ := h; exact ⟨p, s, h0, by omega, h2⟩
theorem Src.st {w0 w : World} {cv : Value} {g K : Nat} {L : List Ent} (h : Src w0 w cv g K L) : St w0.heap.size w0 w L := by
  obtain ⟨p, s, h0, h1, h2⟩ := h; exact h2.sub (List.sublist_cons_self _ _)

theorem and255 (x : Int) : 0 ≤ wrap64 (bits BinOp.and IntKind.u64 (IntKind.u64.wrap x / 1099511627776) 255) ∧ wrap64 (bits BinOp.and IntKind.u64 (IntKind.u64.wrap x / 1099511627776) 255) ≤ 255 := by
  have h1 : 0 ≤ IntKind.u64.wrap x / 1099511627776 ∧ IntKind.u64.wrap x / 1099511627776 < 18446744073709551616 := by
    simp [IntKind.wrap, IntKind.bits, IntKind.signed]; omega
  rw [u64_and _ _ h1.1 h1.2 (by omega) (by omega)]
  have e255 : (255 : Int).toNat = 255 := rfl
  have h2 := Nat.and_le_right (n := (IntKind.u64.wrap x / 1099511627776).toNat) (m := (255 : Int).toNat)
  rw [e255] at h2 ⊢
  unfold wrap64
  omega

set_option maxHeartbeats 1000000 in
theorem next_c (w0 w : World) (cv : Value) (bs : List UInt8) (g K : Nat) (L : List Ent) (hb : RdB w0 cv bs) (h : Src w0 w cv g K L) (hK : K < 1099511627776) :
    Calls Tryz.prog 50 #[.pointer (some ⟨g, 0, none⟩)] w (AnInt 0 255 fun w' => Src w0 w' cv g (K + 1) L) := by
  obtain ⟨p, seed, h0, h1, hS⟩ := h
  obtain ⟨q, rfl⟩ := Int.eq_ofNat_of_zero_le h0
  have hc0 := hS.bcell 0 rfl 0 rfl
  have hc1 := hS.bcell 0 rfl 1 rfl
  have hc2 := hS.bcell 0 rfl 2 rfl
  have hf := hS.bfree 0 rfl
  have hbw := hS.oldB hb
  have hln := hb.len
  have hix := hb.ix
  have hcell := hbw.cell
  have hle := hb.le
  have hbd := bnth_bd bs q
  obtain ⟨hb0, hb1⟩ := hbd
  by_cases hlt : q < bs.length
  · have hlt' : q + 1 ≤ bs.length := hlt
    go_enter Tryz.func50, Tryz.ntmps50
    go_wp2_with fail
    go_quiet (fail)
    go_wp2_with fail
    go_quiet (fail)
    go_wp2_with fail
    refine abs_wp (((hS.drewN _).bstore 0 rfl 1 _).bstore 0 rfl 2 _) ?_
    intro w2 hS2
    clear hc0 hc1 hc2 hf
    have hc0 := hS2.bcell 0 rfl 0 rfl
    have hc1 := hS2.bcell 0 rfl 1 rfl
    go_quiet (fail)
    go_wp2_with fail
    go_ret
    exact ⟨_, hb0, hb1, rfl, _, _, by omega, by omega, hS2.drewN _⟩
  · have hlt' : ¬ q + 1 ≤ bs.length := by omega
    go_enter Tryz.func50, Tryz.ntmps50
    go_wp2_with fail
    go_quiet (fail)
    go_wp2_with fail
    refine abs_wp (((hS.drewN _).bstore 0 rfl 1 _).bstore 0 rfl 2 _) ?_
    intro w2 hS2
    clear hc0 hc1 hc2 hf
    have hc0 := hS2.bcell 0 rfl 0 rfl
    have hc1 := hS2.bcell 0 rfl 1 rfl
    have hc2 := hS2.bcell 0 rfl 2 rfl
    go_quiet (fail)
    go_wp2_with fail
    go_ret
    exact ⟨_, (and255 _).1, (and255 _).2, rfl, _, _, by omega, by omega, hS2.drewN _⟩

set_option maxHeartbeats 1000000 in
theorem pick_c (w0 w : World) (cv : Value) (bs : List UInt8) (g K : Nat) (L : List Ent) (n : Int) (hb : RdB w0 cv bs) (h : Src w0 w cv g K L) (hK : K < 1000000000000) :
    Calls Tryz.prog 26 #[.pointer (some ⟨g, 0, none⟩), .int .i64 n] w (AnInt 0 (max (n - 1) 0) fun w' => Src w0 w' cv g (K + 2) L) := by
  by_cases h1 : n ≤ 1
  · go_enter Tryz.func26, Tryz.ntmps26
    go_wp2_with fail
    go_ret
    exact ⟨0, by omega, by omega, rfl, h.mono (by omega)⟩
  · by_cases h2 : n ≤ 200
    · go_enter Tryz.func26, Tryz.ntmps26
      go_wp2_with fail
      refine (next_c w0 w cv bs g K L hb h (by omega)).mono ?_
      rintro e w1 ⟨x, hx0, hx1, rfl, h3⟩
      go_wp2_with fail
      go_ret
      have := Int.emod_nonneg x (show n ≠ 0 by omega)
      have := Int.emod_lt_of_pos x (show 0 < n by omega)
      exact ⟨_, by omega, by omega, rfl, h3.mono (by omega)⟩
    · go_enter Tryz.func26, Tryz.ntmps26
      go_wp2_with fail
      refine (next_c w0 w cv bs g K L hb h (by omega)).mono ?_
      rintro e w1 ⟨x, hx0, hx1, rfl, h3⟩
      go_wp2_with fail
      refine (next_c w0 w1 cv bs g (K + 1) L hb h3 (by omega)).mono ?_
      rintro e w2 ⟨y, hy0, hy1, rfl, h4⟩
      go_wp2_with fail
      go_ret
      have := Int.emod_nonneg (x * 256 + y) (show n ≠ 0 by omega)
      have := Int.emod_lt_of_pos (x * 256 + y) (show 0 < n by omega)
      exact ⟨_, by omega, by omega, rfl, h4.mono (by omega)⟩

def ABool (R : World → Prop) (e : Ending) (w' : World) : Prop := ∃ x : Bool, e = .returned (.bool x) ∧ R w'

theorem one_c (w0 w : World) (cv : Value) (bs : List UInt8) (g K : Nat) (L : List Ent) (n : Int) (hb : RdB w0 cv bs) (h : Src w0 w cv g K L) (hK : K < 1000000000000) :
    Calls Tryz.prog 56 #[.pointer (some ⟨g, 0, none⟩), .int .i64 n] w (ABool fun w' => Src w0 w' cv g (K + 2) L) := by
  go_enter Tryz.func56, Tryz.ntmps56
  go_wp2_with fail
  refine (pick_c w0 w cv bs g K L n hb h hK).mono ?_
  rintro e w1 ⟨x, hx0, hx1, rfl, h3⟩
  go_wp2_with fail
  go_ret
  exact ⟨_, rfl, h3⟩

/-- one of some numbers: whatever holds of all of them holds of it -/
def AmongPost (xs : List Int) (R : World → Prop) (e : Ending) (w' : World) : Prop := ∃ x ∈ xs, e = .returned (.int .i64 x) ∧ R w'

theorem among_c (w0 w : World) (cv : Value) (bs : List UInt8) (g K : Nat) (L : List Ent) (v : Value) (xs : List Int) (hb : RdB w0 cv bs) (h : Src w0 w cv g K (row 2 v (iv xs) :: L)) (hne : 0 < xs.length)
    (hK : K < 1000000000000) :
    Calls Tryz.prog 28 #[.pointer (some ⟨g, 0, none⟩), v] w (AmongPost xs fun w' => Src w0 w' cv g (K + 2) L) := by
  have hr : RdI w v xs := by obtain ⟨p, s, h0, h1, h2⟩ := h; exact h2.rdI 1 rfl
  have hln := hr.len
  have hix := hr.ix
  have hle := hr.le
  go_enter Tryz.func28, Tryz.ntmps28
  go_wp2_with fail
  refine (pick_c w0 w cv bs g K _ _ hb h hK).mono ?_
  rintro e w1 ⟨x, hx0, hx1, rfl, h3⟩
  obtain ⟨k, rfl⟩ := Int.eq_ofNat_of_zero_le hx0
  have hk : k < xs.length := by omega
  have hr1 : RdI w1 v xs := by obtain ⟨p, s, h0, h1, h2⟩ := h3; exact h2.rdI 1 rfl
  have hc := hr1.cell
  go_wp2_with fail
  go_ret
  obtain ⟨p, s, h0, h1, h2⟩ := h3
  exact ⟨nth xs k, nth_mem hk, rfl, p, s, h0, h1, h2.sub (List.Sublist.cons_cons _ (List.sublist_cons_self _ _))⟩

theorem l00From_c (w : World) (cv : Value) (bs : List UInt8) (hb : RdB w cv bs) :
    Calls Tryz.prog 10 #[cv] w fun e w' => e = .returned (.pointer (some ⟨w.heap.size, 0, none⟩)) ∧ Src w w' cv w.heap.size 0 [] := by
  obtain ⟨av, n, c, rfl⟩ := hb.sh
  go_enter Tryz.func10, Tryz.ntmps10
  go_wp2_with fail
  go_ret
  exact ⟨rfl, 0, 0, by omega, by omega, (St.refl w).newbox _ _⟩
end Go.Proofs.YtljemlfocajhnaaGreat
end

section
/- The source of choices: what lies beside it. -/
namespace Go.Proofs.YtljemlfocajhnaaGreat
set_option linter.unusedSimpArgs false
set_option linter.unusedVariables false
open Go.RowKit

theorem Src.call {w0 w w' : World} {cv : Value} {g K : Nat} {L L' : List Ent} (h : Src w0 w cv g K L) (h' : St w.heap.size w w' L') : Src w0 w' cv g K (L ++ L') := by
  obtain ⟨p, s, h0, h1, hS⟩ := h
  exact ⟨p, s, h0, h1, hS.call h'⟩
theorem Src.sub {w0 w : World} {cv : Value} {g K : Nat} {L L' : List Ent} (h : Src w0 w cv g K L) (h' : L'.Sublist L) : Src w0 w cv g K L' := by
  obtain ⟨p, s, h0, h1, hS⟩ := h
  exact ⟨p, s, h0, h1, hS.sub (h'.cons_cons _)⟩
theorem Src.rdI {w0 w : World} {cv : Value} {g K : Nat} {L : List Ent} (h : Src w0 w cv g K L) (i : Nat) {e : TypeId} {v : Value} {xs : List Int} (hi : L[i]? = some (row e v (iv xs))) : RdI w v xs := by
  obtain ⟨p, s, h0, h1, hS⟩ := h
  exact hS.rdI (i + 1) hi

theorem St.emp0 {w : World} : St w.heap.size w (w.alloc (.cells #[] 2)) [row 2 (.slice (some ⟨w.heap.size, 0, none⟩) 0 0) (iv [])] :=
  (St.refl w).new 2 #[] (by simp)

theorem Src.perm {w0 w : World} {cv : Value} {g K : Nat} {L L' : List Ent} (h : Src w0 w cv g K L) (h' : L.Perm L') : Src w0 w cv g K L' := by
  obtain ⟨p, s, h0, h1, hS⟩ := h
  exact ⟨p, s, h0, h1, hS.perm (h'.cons _)⟩
theorem Src.call0 {w0 w w' : World} {cv : Value} {g K : Nat} {L : List Ent} (h : Src w0 w cv g K L) (h' : St w.heap.size w w' []) : Src w0 w' cv g K L := by
  have := h.call h'; rwa [List.append_nil] at this
theorem Src.rd {w0 w : World} {cv : Value} {g K : Nat} {L : List Ent} (h : Src w0 w cv g K L) (i : Nat) {e : TypeId} {v : Value} {us : List Value} (hi : L[i]? = some (row e v us)) : Rd w v us := by
  obtain ⟨p, s, h0, h1, hS⟩ := h
  exact hS.rd (i + 1) hi
theorem Src.box {w0 w : World} {cv : Value} {g K : Nat} {L : List Ent} (h : Src w0 w cv g K L) (i : Nat) {e : TypeId} {gf : Nat} {us : List Value} (hi : L[i]? = some (Go.Proofs.YtljemlfocajhnaaGreat.box e gf us)) (j : Nat) {u : Value} (hj : us[j]? = some u) : w.cell? ⟨gf, j, none⟩ = some u := by
  obtain ⟨p, s, h0, h1, hS⟩ := h
  exact hS.bcell (i + 1) hi j hj
theorem Src.bfree {w0 w : World} {cv : Value} {g K : Nat} {L : List Ent} (h : Src w0 w cv g K L) (i : Nat) {e : TypeId} {gf : Nat} {us : List Value} (hi : L[i]? = some (Go.Proofs.YtljemlfocajhnaaGreat.box e gf us)) (j : Nat) : w.frozen? ⟨gf, j, none⟩ = false := by
  obtain ⟨p, s, h0, h1, hS⟩ := h
  exact hS.bfree (i + 1) hi j
theorem Src.bstore {w0 w : World} {cv : Value} {g K : Nat} {L : List Ent} (h : Src w0 w cv g K L) (i : Nat) {e : TypeId} {gf : Nat} {us : List Value} (hi : L[i]? = some (Go.Proofs.YtljemlfocajhnaaGreat.box e gf us)) (j : Nat) (u : Value) :
    Src w0 (w.setCell ⟨gf, j, none⟩ u) cv g K (L.set i (Go.Proofs.YtljemlfocajhnaaGreat.box e gf (us.set j u))) := by
  obtain ⟨p, s, h0, h1, hS⟩ := h
  exact ⟨p, s, h0, h1, hS.bstore (i + 1) hi j u⟩
/-- a new block behind a pointer, ahead of the others -/
theorem Src.newboxF {w0 w : World} {cv : Value} {g K : Nat} {L : List Ent} (h : Src w0 w cv g K L) (e : TypeId) (cs : Array Value) : Src w0 (w.alloc (.cells cs e)) cv g K (Go.Proofs.YtljemlfocajhnaaGreat.box e w.heap.size cs.toList :: L) := by
  obtain ⟨p, s, h0, h1, hS⟩ := h
  exact ⟨p, s, h0, h1, (hS.newboxF e cs).perm (List.Perm.swap _ _ _)⟩
theorem Src.drew {w0 w : World} {cv : Value} {g K : Nat} {L : List Ent} (h : Src w0 w cv g K L) : Src w0 w.drew cv g K L := by
  obtain ⟨p, s, h0, h1, hS⟩ := h
  exact ⟨p, s, h0, h1, hS.drew⟩
theorem St.emp0II {w : World} : St w.heap.size w (w.alloc (.cells #[] 46)) [row 46 (.slice (some ⟨w.heap.size, 0, none⟩) 0 0) []] :=
  (St.refl w).new 46 #[] (by simp)
/-- a new empty row of rows, ahead of the others -/
theorem Src.empII {w0 w : World} {cv : Value} {g K : Nat} {L : List Ent} (h : Src w0 w cv g K L) :
    Src w0 (w.alloc (.cells #[] 46)) cv g K (row 46 (.slice (some ⟨w.heap.size, 0, none⟩) 0 0) [] :: L) :=
  (h.call St.emp0II).perm List.perm_append_comm

theorem at_app {M L : List Ent} {i : Nat} {x : Ent} (h : L[i]? = some x) : (M ++ L)[M.length + i]? = some x := by
  rw [List.getElem?_append_right (by omega), Nat.add_sub_cancel_left]; exact h
theorem at_cons {L : List Ent} {i : Nat} {x y : Ent} (h : L[i]? = some x) : (y :: L)[i + 1]? = some x := by
  rw [List.getElem?_cons_succ]; exact h
theorem Src.boxlt {w0 w : World} {cv : Value} {g K : Nat} {L : List Ent} (h : Src w0 w cv g K L) (i : Nat) {e : TypeId} {gf : Nat} {us : List Value} (hi : L[i]? = some (Go.Proofs.YtljemlfocajhnaaGreat.box e gf us)) : gf < w.heap.size := by
  obtain ⟨p, s, h0, h1, hS⟩ := h
  exact (hS.blt (i + 1) hi).2
/-- the source, laid behind what there is -/
theorem l00FromS (w0 w : World) (cv : Value) (bs : List UInt8) (L : List Ent) (hb : RdB w0 cv bs) (hS : St w0.heap.size w0 w L) :
    Calls Tryz.prog 10 #[cv] w fun e w' => ∃ g, e = .returned (.pointer (some ⟨g, 0, none⟩)) ∧ Src w0 w' cv g 0 L :=
  (l00From_c w cv bs (hS.oldB hb)).mono fun e w' ⟨he, p, s, h0, h1, h2⟩ => ⟨_, he, p, s, h0, h1, (hS.call h2).perm List.perm_append_comm⟩
theorem Src.riiS {w0 w : World} {cv : Value} {g K : Nat} {L : List Ent} (h : Src w0 w cv g K L) {v : Value} {us : List Value} {A : List (List Int)} (hs : (own2 v us A).Sublist L) (hl : us.length = A.length) : RII w v us A := (h.st.sub hs).rii hl
end Go.Proofs.YtljemlfocajhnaaGreat
end

section
/- Walks: what the laws on numbers draw. -/
namespace Go.Proofs.YtljemlfocajhnaaGreat
set_option linter.unusedSimpArgs false
set_option linter.unusedVariables false
open Go.RowKit

theorem Src.lit {w0 w : World} {cv : Value} {g K : Nat} {L : List Ent} (h : Src w0 w cv g K L) (xs : List Int) (hm : xs.length ≤ 1000) :
    Src w0 (w.alloc (.cells (iv xs).toArray 2)) cv g K (row 2 (.slice (some ⟨w.heap.size, 0, none⟩) xs.length xs.length) (iv xs) :: L) := by
  obtain ⟨p, s, h0, h1, hS⟩ := h
  refine ⟨p, s, h0, h1, ?_⟩
  have h2 := hS.new 2 (iv xs).toArray (by simp [iv_len]; unfold maxLen; omega)
  simp only [List.size_toArray, iv_len] at h2
  refine h2.perm ?_
  refine List.Perm.trans (List.perm_append_comm) ?_
  simp only [List.cons_append, List.nil_append]
  exact List.Perm.swap _ _ _

/-- one of some numbers that are written out -/
theorem among_lit (xs : List Int) (w0 w : World) (cv : Value) (bs : List UInt8) (g K : Nat) (L : List Ent) (hb : RdB w0 cv bs) (h : Src w0 w cv g K L) (hne : 0 < xs.length ∧ xs.length ≤ 1000)
    (hK : K < 1000000000000) :
    Calls Tryz.prog 28 #[.pointer (some ⟨g, 0, none⟩), .slice (some ⟨w.heap.size, 0, none⟩) xs.length xs.length] (w.alloc (.cells (iv xs).toArray 2)) (AmongPost xs fun w' => Src w0 w' cv g (K + 2) L) :=
  among_c w0 _ cv bs g K L _ xs hb (h.lit xs hne.2) hne.1 hK

/-- some number, and the source goes on -/
def Some1 (R : World → Prop) (e : Ending) (w' : World) : Prop := ∃ x : Int, e = .returned (.int .i64 x) ∧ R w'
theorem b10Long_c (w : World) (cv : Value) (bs : List UInt8) (hb : RdB w cv bs) :
    Calls Tryz.prog 4 #[cv] w fun e w' => e = .returned (.bool (decide (1048576 < bs.length))) ∧ w = w' := by
  have hln := hb.len
  go_enter Tryz.func4, Tryz.ntmps4
  go_wp2_with fail
  go_ret
  exact ⟨ret_bool (by simp; omega), rfl⟩

end Go.Proofs.YtljemlfocajhnaaGreat
end

section
/- Walks: operations on sets, and what the law on sets draws. -/
namespace Go.Proofs.YtljemlfocajhnaaGreat
set_option linter.unusedSimpArgs false
set_option linter.unusedVariables false
open Go.RowKit

def ifSets (a b : List Int) (r : List Int) : List Int := if IsSet a ∧ IsSet b then r else []

set_option maxHeartbeats 2000000 in
set_option maxRecDepth 100000 in
theorem l00Rises_c (v : Value) (xs : List Int) (lo hi : Int) (w : World) (hv : RdI w v xs) :
    Calls Tryz.prog 85 #[v, .int .i64 lo, .int .i64 hi] w (GivesB w (incB (lo - 1) (hi + 1) xs)) := by
  have hln := hv.len
  have hix := hv.ix
  have hm := hv.le
  go_enter Tryz.func85, Tryz.ntmps85
  go_wp2_with fail
  go_loopw [7] (fun i wr => ∃ (k : Nat) (last : Int), k ≤ xs.length ∧ i = .int .i64 k ∧ Hid (incB (lo - 1) (hi + 1) xs = incB last (hi + 1) (xs.drop k)) ∧ Hid (k = 0 → last = lo - 1) ∧ Hid (0 < k → last = nth xs (k - 1)) ∧ lo - 1 ≤ last ∧ St w.heap.size w wr []) (fun i _ => xs.length - (intOf i).toNat)
  case atStart => exact ⟨0, lo - 1, by omega, rfl, rfl, fun _ => rfl, fun h => by omega, by omega, St.refl w⟩
  case round =>
    obtain ⟨k, last, hk, rfl, hI, hl0, hl1, hll, hS⟩ := hrel
    by_cases hlt : k < xs.length
    · have hd := Lib.hid (incB_drop hlt last (hi + 1))
      have hq := fun s : SS w.heap.size w [] => (s.st.oldI hv).cell k hlt
      by_cases h1 : lo ≤ nth xs k ∧ nth xs k ≤ hi
      · have i1 := inB_true h1
        obtain ⟨h1a, h1b⟩ := h1
        by_cases h0 : 0 < k
        · have Hl := Lib.hid (hl1.out h0)
          have hix1 := hv.ixe ((k : Int) - 1) (k - 1) (by omega) (by omega)
          have hq1 := fun s : SS w.heap.size w [] => (s.st.oldI hv).cell (k - 1) (by omega)
          by_cases h2 : nth xs k ≤ nth xs (k - 1)
          · go_wp2_with fail
            have hne : Nonempty (SS _ _ _) := ⟨⟨_, hS⟩⟩
            refine wp_region_st (by kernel_rfl) (by kernel_rfl) hS ?_
            repeat (go_big_quiet_step ((go_at_call 84; exact st_quiet0 (l00In_c _ _ _ _))))
            refine wpQuiet_nil ?_
            rintro _ ⟨s2, rfl⟩
            have hS2 := s2.st
            generalize s2.w = w2 at hS2 ⊢
            go_wp2_with fail
            go_ret
            exact ⟨ret_bool (by rw [hI.out, hd.out, Hl.out]; simp [h2]), hS2⟩
          · go_wp2_with fail
            have hne : Nonempty (SS _ _ _) := ⟨⟨_, hS⟩⟩
            refine wp_region_st (by kernel_rfl) (by kernel_rfl) hS ?_
            repeat (go_big_quiet_step ((go_at_call 84; exact st_quiet0 (l00In_c _ _ _ _))))
            refine wpQuiet_nil ?_
            rintro _ ⟨s2, rfl⟩
            have hS2 := s2.st
            generalize s2.w = w2 at hS2 ⊢
            go_wp2_with fail
            go_roundw
            case rel => exact ⟨k + 1, nth xs k, by omega, by go_num, by rw [Hid, hI.out, hd.out, Hl.out, if_neg (by omega)], fun h => by omega, fun _ => rfl, by omega, hS2⟩
            case measure => simp [intOf]; omega
        · have Hl := Lib.hid (hl0.out (by omega))
          go_wp2_with fail
          have hne : Nonempty (SS _ _ _) := ⟨⟨_, hS⟩⟩
          refine wp_region_st (by kernel_rfl) (by kernel_rfl) hS ?_
          repeat (go_big_quiet_step ((go_at_call 84; exact st_quiet0 (l00In_c _ _ _ _))))
          refine wpQuiet_nil ?_
          rintro _ ⟨s2, rfl⟩
          have hS2 := s2.st
          generalize s2.w = w2 at hS2 ⊢
          go_wp2_with fail
          go_roundw
          case rel => exact ⟨k + 1, nth xs k, by omega, by go_num, by rw [Hid, hI.out, hd.out, Hl.out, if_neg (by omega)], fun h => by omega, fun _ => rfl, by omega, hS2⟩
          case measure => simp [intOf]; omega
      · have i1 := inB_false h1
        have H1 := Lib.hid h1; clear h1
        go_wp2_with fail
        have hne : Nonempty (SS _ _ _) := ⟨⟨_, hS⟩⟩
        refine wp_region_st (by kernel_rfl) (by kernel_rfl) hS ?_
        repeat (go_big_quiet_step ((go_at_call 84; exact st_quiet0 (l00In_c _ _ _ _))))
        refine wpQuiet_nil ?_
        rintro _ ⟨s2, rfl⟩
        have hS2 := s2.st
        generalize s2.w = w2 at hS2 ⊢
        go_wp2_with fail
        go_ret
        exact ⟨ret_bool (by rw [hI.out, hd.out, if_pos (by have := H1.out; omega)]), hS2⟩
    · go_wp2_with fail
      go_ret
      exact ⟨ret_bool (by rw [hI.out, List.drop_of_length_le (by omega)]; simp [incB]), hS⟩

end Go.Proofs.YtljemlfocajhnaaGreat
end

section
/- Walks: arrays by value. Walks: valid arrays, equal arrays. -/
namespace Go.Proofs.YtljemlfocajhnaaGreat
set_option linter.unusedSimpArgs false
set_option linter.unusedVariables false
open Go.RowKit


/-- an array as a value -/
def av (lv co : Int) (v : Value) : Value := .agg #[.int .i64 lv, .int .i64 co, v]

/-- a block that holds an array -/
def BoxA (w : World) (g : Nat) (lv co : Int) (v : Value) : Prop :=
  w.cell? ⟨g, 0, none⟩ = some (.int .i64 lv) ∧ w.cell? ⟨g, 1, none⟩ = some (.int .i64 co) ∧ w.cell? ⟨g, 2, none⟩ = some v
theorem cell_keep {w w' : World} (hb : Below w.heap.size w w') {p : Addr} {u : Value} (h : w.cell? p = some u) : w'.cell? p = some u := by
  rw [hb.cell (World.block_lt_of_cell? _ _ h)]; exact h
theorem BoxA.keep {w w' : World} {g : Nat} {lv co : Int} {v : Value} (h : BoxA w g lv co v) (hb : Below w.heap.size w w') : BoxA w' g lv co v :=
  ⟨cell_keep hb h.1, cell_keep hb h.2.1, cell_keep hb h.2.2⟩
end Go.Proofs.YtljemlfocajhnaaGreat
end

section
/- Walks: equal lists, equal lists of lists, equal arrays. -/
namespace Go.Proofs.YtljemlfocajhnaaGreat
set_option linter.unusedSimpArgs false
set_option linter.unusedVariables false
open Go.RowKit

set_option maxHeartbeats 1000000 in
set_option maxRecDepth 100000 in
theorem l00Same_c (va vb : Value) (xs ys : List Int) (w : World) (ha : RdI w va xs) (hb : RdI w vb ys) :
    Calls Tryz.prog 53 #[va, vb] w (GivesB w (decide (xs = ys))) := by
  have hla := ha.len
  have hlb := hb.len
  have hia := ha.ix
  have hib := hb.ix
  have hma := ha.le
  by_cases hne : xs.length = ys.length
  · have f0 : ((xs.length : Int) != (ys.length : Int)) = false := ne_f (by omega)
    have hle : xs.length ≤ ys.length := by omega
    have Hne := Lib.hid hne; clear hne
    go_enter Tryz.func53, Tryz.ntmps53
    go_wp2_with fail
    go_loopw [5] (fun i wr => ∃ k : Nat, k ≤ xs.length ∧ i = .int .i64 k ∧ Hid (∀ j, j < k → nth xs j = nth ys j) ∧ St w.heap.size w wr []) (fun i _ => xs.length - (intOf i).toNat)
    case atStart => exact ⟨0, by omega, rfl, fun j hj => by omega, St.refl w⟩
    case round =>
      obtain ⟨k, hk, rfl, hI, hS⟩ := hrel
      by_cases hlt : k < xs.length
      · have hqa := fun s : SS w.heap.size w [] => (s.st.oldI ha).cell k hlt
        have hqb := fun s : SS w.heap.size w [] => (s.st.oldI hb).cell k (by omega)
        have hk2 : k < ys.length := by omega
        by_cases h1 : nth xs k = nth ys k
        · have f1 := ne_f h1
          have H1 := Lib.hid h1; clear h1
          go_wp2_with fail
          have hne : Nonempty (SS _ _ _) := ⟨⟨_, hS⟩⟩
          refine wp_region_st (by kernel_rfl) (by kernel_rfl) hS ?_
          repeat (go_big_quiet_step (fail))
          refine wpQuiet_nil ?_
          rintro _ ⟨s2, rfl⟩
          have hS2 := s2.st
          generalize s2.w = w2 at hS2 ⊢
          go_wp2_with fail
          go_roundw
          case rel => exact ⟨k + 1, by omega, by go_num, fun j hj => by
            by_cases e : j = k
            · subst e; exact H1.out
            · exact hI.out j (by omega), hS2⟩
          case measure => simp [intOf]; omega
        · have f1 := ne_t h1
          have H1 := Lib.hid h1; clear h1
          go_wp2_with fail
          have hne : Nonempty (SS _ _ _) := ⟨⟨_, hS⟩⟩
          refine wp_region_st (by kernel_rfl) (by kernel_rfl) hS ?_
          repeat (go_big_quiet_step (fail))
          refine wpQuiet_nil ?_
          rintro _ ⟨s2, rfl⟩
          have hS2 := s2.st
          generalize s2.w = w2 at hS2 ⊢
          go_wp2_with fail
          go_ret
          exact ⟨ret_bool (by symm; rw [decide_eq_false_iff_not]; intro e; subst e; exact H1.out rfl), hS2⟩
      · go_wp2_with fail
        go_ret
        refine ⟨ret_bool ?_, hS⟩
        symm; rw [decide_eq_true_iff]
        apply List.ext_getElem Hne.out
        intro j h1 h2
        have := hI.out j (by omega)
        rwa [nth_eq h1, nth_eq h2] at this
  · have f0 : ((xs.length : Int) != (ys.length : Int)) = true := ne_t (by omega)
    have Hne := Lib.hid hne; clear hne
    go_enter Tryz.func53, Tryz.ntmps53
    go_wp2_with fail
    go_ret
    exact ⟨ret_bool (by symm; rw [decide_eq_false_iff_not]; intro e; exact Hne.out (by rw [e])), St.refl w⟩

set_option maxHeartbeats 1000000 in
set_option maxRecDepth 100000 in
theorem Equal_c (va vb : Value) (xs ys : List Int) (w : World) (ha : RdI w va xs) (hb : RdI w vb ys) :
    Calls Tryz.prog 17 #[va, vb] w (GivesB w (decide (xs = ys))) := by
  have hla := ha.len
  have hlb := hb.len
  have hia := ha.ix
  have hib := hb.ix
  have hma := ha.le
  by_cases hne : xs.length = ys.length
  · have f0 : ((xs.length : Int) != (ys.length : Int)) = false := ne_f (by omega)
    have hle : xs.length ≤ ys.length := by omega
    have Hne := Lib.hid hne; clear hne
    go_enter Tryz.func17, Tryz.ntmps17
    go_wp2_with fail
    go_loopw [5, 13] (fun _ i wr => ∃ k : Nat, k ≤ xs.length ∧ i = .int .i64 k ∧ Hid (∀ j, j < k → nth xs j = nth ys j) ∧ St w.heap.size w wr []) (fun _ i _ => xs.length - (intOf i).toNat)
    case atStart => exact ⟨0, by omega, rfl, fun j hj => by omega, St.refl w⟩
    case round =>
      obtain ⟨k, hk, rfl, hI, hS⟩ := hrel
      by_cases hlt : k < xs.length
      · have hqa := fun s : SS w.heap.size w [] => (s.st.oldI ha).cell k hlt
        have hqb := fun s : SS w.heap.size w [] => (s.st.oldI hb).cell k (by omega)
        have hk2 : k < ys.length := by omega
        by_cases h1 : nth xs k = nth ys k
        · have f1 := ne_f h1
          have H1 := Lib.hid h1; clear h1
          go_wp2_with fail
          have hne : Nonempty (SS _ _ _) := ⟨⟨_, hS⟩⟩
          refine wp_region_st (by kernel_rfl) (by kernel_rfl) hS ?_
          repeat (go_big_quiet_step (fail))
          refine wpQuiet_nil ?_
          rintro _ ⟨s2, rfl⟩
          have hS2 := s2.st
          generalize s2.w = w2 at hS2 ⊢
          go_wp2_with fail
          go_roundw
          case rel => exact ⟨k + 1, by omega, by go_num, fun j hj => by
            by_cases e : j = k
            · subst e; exact H1.out
            · exact hI.out j (by omega), hS2⟩
          case measure => simp [intOf]; omega
        · have f1 := ne_t h1
          have H1 := Lib.hid h1; clear h1
          go_wp2_with fail
          have hne : Nonempty (SS _ _ _) := ⟨⟨_, hS⟩⟩
          refine wp_region_st (by kernel_rfl) (by kernel_rfl) hS ?_
          repeat (go_big_quiet_step (fail))
          refine wpQuiet_nil ?_
          rintro _ ⟨s2, rfl⟩
          have hS2 := s2.st
          generalize s2.w = w2 at hS2 ⊢
          go_wp2_with fail
          go_ret
          exact ⟨ret_bool (by symm; rw [decide_eq_false_iff_not]; intro e; subst e; exact H1.out rfl), hS2⟩
      · go_wp2_with fail
        go_ret
        refine ⟨ret_bool ?_, hS⟩
        symm; rw [decide_eq_true_iff]
        apply List.ext_getElem Hne.out
        intro j h1 h2
        have := hI.out j (by omega)
        rwa [nth_eq h1, nth_eq h2] at this
  · have f0 : ((xs.length : Int) != (ys.length : Int)) = true := ne_t (by omega)
    have Hne := Lib.hid hne; clear hne
    go_enter Tryz.func17, Tryz.ntmps17
    go_wp2_with fail
    go_ret
    exact ⟨ret_bool (by symm; rw [decide_eq_false_iff_not]; intro e; exact Hne.out (by rw [e])), St.refl w⟩

end Go.Proofs.YtljemlfocajhnaaGreat
end

section
/- Walks: valid designs of both sides, equal designs. -/
namespace Go.Proofs.YtljemlfocajhnaaGreat
set_option linter.unusedSimpArgs false
set_option linter.unusedVariables false
open Go.RowKit

/-- a design as a value -/
def dv (P : Int) (v : Value) : Value := .agg #[.int .i64 P, v]
def BoxD (w : World) (g : Nat) (P : Int) (v : Value) : Prop := w.cell? ⟨g, 0, none⟩ = some (.int .i64 P) ∧ w.cell? ⟨g, 1, none⟩ = some v
theorem BoxD.keep {w0 w : World} {g : Nat} {P : Int} {v : Value} (h : BoxD w0 g P v) (hb : Below w0.heap.size w0 w) : BoxD w g P v := by
  obtain ⟨h1, h2⟩ := h
  have hg : g < w0.heap.size := by
    rcases Nat.lt_or_ge g w0.heap.size with h | h
    · exact h
    · rw [World.cell?, Array.getElem?_eq_none h] at h1; cases h1
  exact ⟨by rw [hb.cell hg]; exact h1, by rw [hb.cell hg]; exact h2⟩
theorem St.oldBoxD {w0 w : World} {L : List Ent} {g : Nat} {P : Int} {v : Value} (h : St w0.heap.size w0 w L) (hr : BoxD w0 g P v) : BoxD w g P v := hr.keep h.below

theorem isBlock_c (v : Value) (xs : List Int) (P : Int) (w : World) (hv : RdI w v xs) :
    Calls Tryz.prog 48 #[v, .int .i64 P] w fun e w' => e = .returned (.bool (blkB P xs)) ∧ w = w' := by
  have hln := hv.len
  by_cases h0 : 0 < xs.length
  · have H : Hid (blkB P xs = validSetB xs P) := by rw [Hid, blkB, decide_eq_true h0]; rfl
    go_enter Tryz.func48, Tryz.ntmps48
    go_wp2_with (go_at_call 80; refine (ValidSet_c _ _ _ _ hv).mono ?_; rintro e w1 ⟨rfl, rfl⟩)
    go_ret
    exact ⟨by rw [H.out]; rfl, rfl⟩
  · have H : Hid (blkB P xs = false) := by rw [Hid, blkB, decide_eq_false h0]; rfl
    go_enter Tryz.func48, Tryz.ntmps48
    go_wp2_with fail
    go_ret
    exact ⟨by rw [H.out]; rfl, rfl⟩
theorem areBlocks1_c (v : Value) (xs : List Int) (g : Nat) (P : Int) (w : World) (hv : RdI w v xs) (hb : w.cell? ⟨g, 0, none⟩ = some (.int .i64 P)) :
    Calls Tryz.prog 47 #[v, .pointer (some ⟨g, 0, none⟩)] w (GivesB w (!blkB P xs)) := by
  go_enter Tryz.func47, Tryz.ntmps47
  go_wp2_with fail
  refine (isBlock_c _ _ _ _ hv).mono ?_
  rintro e w1 ⟨rfl, rfl⟩
  go_wp2_with fail
  go_ret
  exact ⟨rfl, St.refl w⟩
theorem anyR_not {p : List Int → Bool} {A : List (List Int)} : (!anyR (fun b => !p b) A) = A.all p := by
  unfold anyR
  induction A with
  | nil => rfl
  | cons a r ih => simp only [List.any_cons, List.all_cons, Bool.not_or, ih, Bool.not_not]
set_option maxHeartbeats 1000000 in
theorem areBlocks_c (v : Value) (us : List Value) (A : List (List Int)) (P : Int) (w : World) (hv : RII w v us A) :
    Calls Tryz.prog 23 #[v, .int .i64 P] w (GivesB w (inB P 1 32 && A.all (blkB P))) := by
  have hS1 := (St.refl w).newbox 2 #[.int .i64 P]
  have hcf := callFunc_go Tryz.func47 (by kernel_rfl) (by kernel_rfl)
  have hb := hS1.bcell 0 rfl 0 rfl
  cases hp : inB P 1 32
  · go_enter Tryz.func23, Tryz.ntmps23
    go_wp2_with (go_at_call 37; refine (within_c _ _ _ _).mono ?_; rw [hp]; rintro e w1 ⟨rfl, rfl⟩)
    go_ret
    exact ⟨rfl, hS1.out⟩
  · have hmf : ∀ (fn : Fn) (first cap : Array Value) (w : World), (Instr.makeFunc fn first cap).run Tryz.prog w = .ok (.func fn first cap) w := fun _ _ _ _ => rfl
    have hcall := Lib.hid (ContainsFuncR_c 47 #[.pointer (some ⟨w.heap.size, 0, none⟩)] (fun b => !blkB P b) v us A _ (hS1.oldII hv) hcf (fun j W hW hj => areBlocks1_c _ _ w.heap.size P W ((hW.oldII (hS1.oldII hv)).row j hj) (by
      have h2 := hS1.call0 hW
      exact h2.bcell 0 rfl 0 rfl)))
    clear hcf
    go_enter Tryz.func23, Tryz.ntmps23
    go_wp2_with (first | (go_at_call 37; refine (within_c _ _ _ _).mono ?_; rw [hp]; rintro e w1 ⟨rfl, rfl⟩) | (go_at_call 46; refine hcall.out.mono ?_; rintro e w2 ⟨rfl, h2⟩; have hS2 := hS1.call0 h2))
    go_ret
    exact ⟨ret_bool (by rw [anyR_not]; rfl), hS2.out⟩
set_option maxHeartbeats 1000000 in
theorem ValidDesign_c (P : Int) (v : Value) (us : List Value) (A : List (List Int)) (w : World) (hv : RII w v us A) :
    Calls Tryz.prog 9 #[dv P v] w (GivesB w (dOk P A)) := by
  have hS1 := (St.refl w).newbox 26 #[.int .i64 P, v]
  have hb0 := hS1.bcell 0 rfl 0 rfl
  have hb1 := hS1.bcell 0 rfl 1 rfl
  have hln := hv.len
  unfold dv
  have hcall := fun W a => Lib.hid (areBlocks_c v us A P W a)
  have hsrt := fun W a => Lib.hid (IsSortedR_c v us A W a)
  cases hp : inB P 1 32 && A.all (blkB P)
  · rw [hp] at hcall
    have H : Hid (dOk P A = false) := by rw [Hid, dOk, hp]; rfl
    go_enter Tryz.func9, Tryz.ntmps9
    go_wp2_with (go_at_call 23; refine (hcall _ (hS1.oldII hv)).out.mono ?_; rintro e w2 ⟨rfl, h2⟩; have hS2 := hS1.call0 h2)
    go_ret
    exact ⟨ret_bool H.out.symm, hS2.out⟩
  · rw [hp] at hcall
    by_cases hl : A.length ≤ 128
    · have H : Hid (dOk P A = srtB A) := by rw [Hid, dOk, hp, decide_eq_true hl]; rfl
      go_enter Tryz.func9, Tryz.ntmps9
      go_wp2_with (first | (go_at_call 23; refine (hcall _ (hS1.oldII hv)).out.mono ?_; rintro e w2 ⟨rfl, h2⟩; have hS2 := hS1.call0 h2; have c1 := hS2.bcell 0 rfl 1 rfl) | (go_at_call 24; refine (hsrt _ (hS2.oldII hv)).out.mono ?_; rintro e w3 ⟨rfl, h3⟩; have hS3 := hS2.call0 h3))
      go_ret
      exact ⟨ret_bool H.out.symm, hS3.out⟩
    · have H : Hid (dOk P A = false) := by rw [Hid, dOk, hp, decide_eq_false hl]; rfl
      have hl' : 128 < A.length := by omega
      go_enter Tryz.func9, Tryz.ntmps9
      go_wp2_with (go_at_call 23; refine (hcall _ (hS1.oldII hv)).out.mono ?_; rintro e w2 ⟨rfl, h2⟩; have hS2 := hS1.call0 h2; have c1 := hS2.bcell 0 rfl 1 rfl)
      go_ret
      exact ⟨ret_bool H.out.symm, hS2.out⟩

end Go.Proofs.YtljemlfocajhnaaGreat
end

section
/- Walks: a design of sorted copies; complements. -/
namespace Go.Proofs.YtljemlfocajhnaaGreat
set_option linter.unusedSimpArgs false
set_option linter.unusedVariables false
open Go.RowKit
attribute [local go_sem ↓] Go.wp_at_zero Go.wp_at_succ

/-- it hands over a design of its own, and a code -/
def MakesD (w : World) (P : Int) (A : List (List Int)) (c : Int) (e : Ending) (w' : World) : Prop := ∃ v us, e = .returned (.tuple #[dv P v, .int .i64 c]) ∧ us.length = A.length ∧ St w.heap.size w w' (own2 v us A)
theorem MakesD.no {w w' : World} {L : List Ent} {c : Int} (h : St w.heap.size w w' L) : MakesD w 0 [] c (.returned (.tuple #[.agg #[.int .i64 0, .slice none 0 0], .int .i64 c])) w' :=
  ⟨_, [], rfl, rfl, h.out.newnil _⟩
end Go.Proofs.YtljemlfocajhnaaGreat
end

section
/- Walks: whether a list holds a number. -/
namespace Go.Proofs.YtljemlfocajhnaaGreat
set_option linter.unusedSimpArgs false
set_option linter.unusedVariables false
open Go.RowKit

theorem anyP_eq (n : Int) (xs : List Int) : anyP (fun x => n == x) xs = decide (n ∈ xs) := by
  unfold anyP
  rw [Bool.eq_iff_iff, List.any_eq_true, decide_eq_true_iff]
  constructor
  · rintro ⟨x, hx, e⟩; rw [beq_iff_eq] at e; subst e; exact hx
  · intro h; exact ⟨n, h, by simp⟩

set_option maxHeartbeats 1000000 in
set_option maxRecDepth 100000 in
theorem Index_c (v : Value) (xs : List Int) (n : Int) (w : World) (hv : RdI w v xs) :
    Calls Tryz.prog 103 #[v, .int .i64 n] w fun e w' => e = .returned (.int .i64 (idxP (fun x => n == x) xs 0)) ∧ w = w' := by
  have hln := hv.len
  have hix := hv.ix
  have hm := hv.le
  go_enter Tryz.func103, Tryz.ntmps103
  go_wp2_with fail
  go_loopw [5, 8] (fun _ i wr => ∃ k : Nat, k ≤ xs.length ∧ i = .int .i64 k ∧ Hid (idxP (fun x => n == x) xs 0 = idxP (fun x => n == x) xs k) ∧ wr = w) (fun _ i _ => xs.length - (intOf i).toNat)
  case atStart => exact ⟨0, by omega, rfl, rfl, rfl⟩
  case round =>
    obtain ⟨k, hk, rfl, hI, rfl⟩ := hrel
    by_cases hlt : k < xs.length
    · have hc := hv.cell k hlt
      by_cases hp : n = nth xs k
      · have f1 := eq_t hp
        have Hp := Lib.hid (show (fun x => n == x) (nth xs k) = true by simpa using hp)
        clear hp
        go_wp2_with fail
        go_ret
        exact ⟨ret_i64 (by rw [hI.out, idxP_hit hlt Hp.out]), rfl⟩
      · have f1 := eq_f hp
        have Hp := Lib.hid (show (fun x => n == x) (nth xs k) = false by simpa using hp)
        clear hp
        go_wp2_with fail
        go_roundw
        case rel => exact ⟨k + 1, by omega, by go_num, by rw [Hid, hI.out, idxP_step hlt Hp.out], by first | rfl | trivial⟩
        case measure => simp [intOf]; omega
    · go_wp2_with fail
      go_ret
      exact ⟨ret_i64 (by rw [hI.out, idxP_end (by omega)]), rfl⟩
theorem Contains_c (v : Value) (xs : List Int) (n : Int) (w : World) (hv : RdI w v xs) :
    Calls Tryz.prog 93 #[v, .int .i64 n] w fun e w' => e = .returned (.bool (decide (n ∈ xs))) ∧ w = w' := by
  have H := Lib.hid (show decide (0 ≤ idxP (fun x => n == x) xs 0) = decide (n ∈ xs) by rw [idxP_any, anyP_eq])
  go_enter Tryz.func93, Tryz.ntmps93
  go_wp2_with fail
  refine (Index_c v xs n w hv).mono ?_
  rintro e w1 ⟨rfl, rfl⟩
  go_wp2_with fail
  go_ret
  exact ⟨ret_bool H.out, rfl⟩
end Go.Proofs.YtljemlfocajhnaaGreat
end

section
/- Walks: complements, derived and residual designs. -/
namespace Go.Proofs.YtljemlfocajhnaaGreat
set_option linter.unusedSimpArgs false
set_option linter.unusedVariables false
open Go.RowKit
attribute [local go_sem ↓] Go.wp_at_zero Go.wp_at_succ
/-- the complements of blocks -/
def cplB (P : Nat) (b : List Int) : List Int := ifSets (idn P) b (min' (idn P) b)
def cplL (P : Nat) (A : List (List Int)) : List (List Int) := A.map (cplB P)
end Go.Proofs.YtljemlfocajhnaaGreat
end

section
/- Walks: derived and residual designs. -/
namespace Go.Proofs.YtljemlfocajhnaaGreat
set_option linter.unusedSimpArgs false
set_option linter.unusedVariables false
open Go.RowKit
attribute [local go_sem ↓] Go.wp_at_zero Go.wp_at_succ

/-- the places in a set of the points of a block -/
def plc (S : List Int) (x : Int) : Int := idxP (fun y => x == y) S 0
def meB (b S : List Int) : List Int := ifSets b S (mee b S)
def rsB (b S : List Int) : List Int := (meB b S).map (plc S)
/-- blocks but one, on a set of points -/
def resR (A : List (List Int)) (blk : Int) (S : List Int) : Nat → List (List Int)
  | 0 => []
  | j + 1 => if (j : Int) = blk then resR A blk S j else resR A blk S j ++ [rsB (xat A j) S]
end Go.Proofs.YtljemlfocajhnaaGreat
end

section
/- Slices of slices of slices of integers: what they read as, what a call owns, and the law's functions on them. -/
namespace Go.Proofs.YtljemlfocajhnaaGreat
set_option linter.unusedSimpArgs false
set_option linter.unusedVariables false
open Go.RowKit

def x3at (X : List (List (List Int))) (k : Nat) : List (List Int) := X.getD k []
theorem x3at_eq {X : List (List (List Int))} {k : Nat} (h : k < X.length) : x3at X k = X[k] := by simp [x3at, h]
theorem drop_x3at {X : List (List (List Int))} {k : Nat} (hk : k < X.length) : X.drop k = x3at X k :: X.drop (k + 1) := by
  rw [List.drop_eq_getElem_cons hk, x3at_eq hk]
theorem take_x3at {X : List (List (List Int))} {k : Nat} (hk : k < X.length) : X.take (k + 1) = X.take k ++ [x3at X k] := by
  rw [List.take_succ_eq_append_getElem hk, x3at_eq hk]
theorem x3at_set {X : List (List (List Int))} {j k : Nat} {x : List (List Int)} (h : j < X.length) : x3at (X.set j x) k = if j = k then x else x3at X k := by
  unfold x3at
  rw [List.getD_eq_getElem?_getD, List.getElem?_set]
  split
  · rename_i e; subst e; simp [h]
  · simp [List.getD_eq_getElem?_getD]
/-- what is read -/
def RIII (w : World) (v : Value) (vs : List Value) (uss : List (List Value)) (X : List (List (List Int))) : Prop :=
  Rd w v vs ∧ vs.length = X.length ∧ ∀ k, k < X.length → RII w (vat vs k) (vsat uss k) (x3at X k)
section
variable {w w' : World} {v : Value} {vs : List Value} {uss : List (List Value)} {X : List (List (List Int))}
theorem RIII.le (h : RIII w v vs uss X) : X.length ≤ 9223372036854775807 := by have := h.1.sl.le; rwa [h.2.1] at this
theorem RIII.len (h : RIII w v vs uss X) (ty : TypeId) (W : World) : (Builtin.len_ #[63] ty #[v]).run Tryz.prog W = .ok (.int .i64 X.length) W := by
  have := run_len_sl (P := Tryz.prog) h.1.sl 63 ty Tryz.und_isss W; rwa [h.2.1] at this
theorem RIII.ix (h : RIII w v vs uss X) (k : IntKind) (i : Int) (h0 : 0 ≤ i) (hi : i < X.length) (W : World) :
    (Instr.indexAt 63 v (.int k i)).run Tryz.prog W = .ok (.pointer (some (el v i.toNat))) W :=
  run_ix_sl (P := Tryz.prog) h.1.sl 63 Tryz.und_isss Tryz.size_iss k i h0 (by rw [h.2.1]; exact hi) W
theorem RIII.ixe (h : RIII w v vs uss X) (i : Int) (j : Nat) (hij : i = (j : Int)) (hj : j < X.length) (W : World) :
    (Instr.indexAt 63 v (.int .i64 i)).run Tryz.prog W = .ok (.pointer (some (el v j))) W := by
  have := h.ix .i64 i (by omega) (by omega) W
  rwa [hij, Int.toNat_natCast, ← hij] at this
theorem RIII.cell (h : RIII w v vs uss X) (j : Nat) (hj : j < X.length) : w.cell? (el v j) = some (vat vs j) := Rd.cell h.1 (by rw [h.2.1]; exact hj)
theorem RIII.row (h : RIII w v vs uss X) (j : Nat) (hj : j < X.length) : RII w (vat vs j) (vsat uss j) (x3at X j) := h.2.2 j hj
theorem RIII.keep (h : RIII w v vs uss X) (hb : Below w.heap.size w w') : RIII w' v vs uss X := ⟨h.1.keep hb, h.2.1, fun j hj => (h.2.2 j hj).keep hb⟩
end
theorem St.oldIII {w0 w : World} {L : List Ent} {v : Value} {vs : List Value} {uss : List (List Value)} {X : List (List (List Int))} (h : St w0.heap.size w0 w L) (hr : RIII w0 v vs uss X) : RIII w v vs uss X := hr.keep h.below

/-! ### what is owned -/
def rows3 : List Value → List (List Value) → List (List (List Int)) → List Ent
  | v :: vs, u :: uss, x :: X => own2 v u x ++ rows3 vs uss X
  | _, _, _ => []
def own3 (v : Value) (vs : List Value) (uss : List (List Value)) (X : List (List (List Int))) : List Ent := row 24 v vs :: rows3 vs uss X
theorem rows3_out : ∀ {vs : List Value} {uss : List (List Value)} {X : List (List (List Int))} {j : Nat}, vs.length = X.length → uss.length = X.length → j < X.length →
    (rows3 vs uss X).Perm (own2 (vat vs j) (vsat uss j) (x3at X j) ++ rows3 (vs.eraseIdx j) (uss.eraseIdx j) (X.eraseIdx j))
  | v :: vs, u :: uss, x :: X, 0, _, _, _ => List.Perm.refl _
  | v :: vs, u :: uss, x :: X, j + 1, h1, h2, h3 => by
    have ih := rows3_out (vs := vs) (uss := uss) (X := X) (j := j) (by simpa using h1) (by simpa using h2) (by simpa using h3)
    exact (ih.append_left (own2 v u x)).trans (List.perm_append_comm_assoc _ _ _)
  | [], _, x :: X, _, h, _, _ => by simp at h
  | _ :: _, [], x :: X, _, _, h, _ => by simp at h
  | _, _, [], _, _, _, h => by simp at h
theorem rows3_app : ∀ {vs : List Value} {uss : List (List Value)} {X : List (List (List Int))} (v : Value) (u : List Value) (x : List (List Int)), vs.length = X.length → uss.length = X.length → rows3 (vs ++ [v]) (uss ++ [u]) (X ++ [x]) = rows3 vs uss X ++ own2 v u x
  | [], [], [], v, u, x, _, _ => by simp [rows3]
  | a :: vs, b :: uss, c :: X, v, u, x, h1, h2 => by
    have := rows3_app (vs := vs) (uss := uss) (X := X) v u x (by simpa using h1) (by simpa using h2)
    simp only [List.cons_append, rows3, this, List.append_assoc]
  | [], _ :: _, [], _, _, _, _, h => by simp at h
  | _ :: _, _, [], _, _, _, h, _ => by simp at h
  | [], _, _ :: _, _, _, _, h, _ => by simp at h
  | _ :: _, [], _ :: _, _, _, _, _, h => by simp at h
section
variable {v : Value} {vs : List Value} {uss : List (List Value)} {X : List (List (List Int))} {L2 : List Ent} {j : Nat}
theorem own3_out (h1 : vs.length = X.length) (h2 : uss.length = X.length) (hj : j < X.length) :
    (own3 v vs uss X ++ L2).Perm (own2 (vat vs j) (vsat uss j) (x3at X j) ++ (row 24 v vs :: (rows3 (vs.eraseIdx j) (uss.eraseIdx j) (X.eraseIdx j) ++ L2))) := by
  unfold own3
  rw [List.cons_append]
  refine (List.Perm.cons _ ((rows3_out h1 h2 hj).append_right L2)).trans ?_
  rw [List.append_assoc]
  exact (List.perm_middle).symm
end
/-- the lengths fit -/
def Fit3 (vs : List Value) (uss : List (List Value)) (X : List (List (List Int))) : Prop := vs.length = X.length ∧ uss.length = X.length ∧ ∀ k, k < X.length → (vsat uss k).length = (x3at X k).length
theorem St.riii {B : Nat} {w0 w : World} {v : Value} {vs : List Value} {uss : List (List Value)} {X : List (List (List Int))} {L2 : List Ent} (h : St B w0 w (own3 v vs uss X ++ L2)) (hf : Fit3 vs uss X) : RIII w v vs uss X :=
  ⟨(h.sub (List.sublist_append_left _ _)).rd 0 rfl, hf.1, fun k hk => ((h.perm (own3_out hf.1 hf.2.1 hk)).sub (List.sublist_append_left _ _)).rii (hf.2.2 k hk)⟩
theorem Fit3.set {vs : List Value} {uss : List (List Value)} {X : List (List (List Int))} (h : Fit3 vs uss X) {j : Nat} (hj : j < X.length) {x : List (List Int)} (hx : x.length = (x3at X j).length) : Fit3 vs uss (X.set j x) :=
  ⟨by simpa using h.1, by simpa using h.2.1, fun k hk => by
    rw [x3at_set hj]
    simp only [List.length_set] at hk
    by_cases e : j = k
    · rw [if_pos e, hx]; subst e; exact h.2.2 j hj
    · rw [if_neg e]; exact h.2.2 k hk⟩

/-! ### the law's functions -/
end Go.Proofs.YtljemlfocajhnaaGreat
end

section
/- Plain: schedules of rounds of pairs: what a valid one is, opponents. -/
namespace Go.Proofs.YtljemlfocajhnaaGreat
set_option linter.unusedSimpArgs false
set_option linter.unusedVariables false

def gdP (n : Int) (p : List Int) : Bool := decide (p.length = 2) && decide (nth p 0 < nth p 1) && inB (nth p 0) 0 (n - 1) && inB (nth p 1) 0 (n - 1)
/-- whether a team plays in some of these pairs -/
def plB (q : List (List Int)) (x : Int) : Bool := q.any fun p => decide (x ∈ p)
/-- the pairs ahead of place k of round r -/
def seen (R : List (List (List Int))) (r k : Nat) : List (List Int) := (R.take r).flatten ++ (x3at R r).take k
section
variable {R : List (List (List Int))} {r k : Nat}
theorem seen_00 : seen R 0 0 = [] := by simp [seen]
theorem seen_snoc (hk : k < (x3at R r).length) : seen R r (k + 1) = seen R r k ++ [xat (x3at R r) k] := by
  rw [seen, take_xat hk, ← List.append_assoc]; rfl
theorem seen_next (hr : r < R.length) : seen R (r + 1) 0 = seen R r (x3at R r).length := by
  rw [seen, take_x3at hr]; simp [seen]
theorem seen_end : seen R R.length 0 = R.flatten := by simp [seen]
theorem seen_ind {P : List (List Int) → Prop} (h0 : P []) (hs : ∀ r k, r < R.length → k < (x3at R r).length → P (seen R r k) → P (seen R r k ++ [xat (x3at R r) k])) : P R.flatten := by
  have h : ∀ r, r ≤ R.length → P (seen R r 0) := by
    intro r
    induction r with
    | zero => intro _; rw [seen_00]; exact h0
    | succ r ih =>
      intro hr
      have h1 : ∀ k, k ≤ (x3at R r).length → P (seen R r k) := by
        intro k
        induction k with
        | zero => intro _; exact ih (by omega)
        | succ k ih2 => intro hk; rw [seen_snoc (by omega)]; exact hs r k (by omega) (by omega) (ih2 (by omega))
      rw [seen_next (by omega)]
      exact h1 _ (Nat.le_refl _)
  rw [← seen_end]
  exact h _ (Nat.le_refl _)
theorem seen_pre (hr : r < R.length) (hk : k ≤ (x3at R r).length) : R.flatten = seen R r k ++ ((x3at R r).drop k ++ (R.drop (r + 1)).flatten) := by
  rw [seen, List.append_assoc, ← List.append_assoc ((x3at R r).take k), List.take_append_drop, ← List.flatten_cons, ← drop_x3at hr, ← List.flatten_append, List.take_append_drop]
theorem x3at_mem (hr : r < R.length) : x3at R r ∈ R := by rw [x3at_eq hr]; exact List.getElem_mem hr
theorem mem_x3at {q : List (List Int)} (h : q ∈ R) : ∃ r, r < R.length ∧ x3at R r = q := by
  obtain ⟨r, hr, e⟩ := List.getElem_of_mem h
  exact ⟨r, hr, by rw [x3at_eq hr, e]⟩
end
theorem mem_xat {A : List (List Int)} {p : List Int} (h : p ∈ A) : ∃ k, k < A.length ∧ xat A k = p := by
  obtain ⟨k, hk, e⟩ := List.getElem_of_mem h
  exact ⟨k, hk, by rw [xat_eq hk, e]⟩
/-- what is asked of a pair -/
def okAt (n : Int) (R : List (List (List Int))) (r k : Nat) : Bool :=
  gdP n (xat (x3at R r) k) && (decide (k = 0) || decide (cmpI (xat (x3at R r) (k - 1)) (xat (x3at R r) k) < 0)) &&
  !plB ((x3at R r).take k) (nth (xat (x3at R r) k) 0) && !plB ((x3at R r).take k) (nth (xat (x3at R r) k) 1) && !decide (xat (x3at R r) k ∈ seen R r k)
def vsB (n : Int) (R : List (List (List Int))) : Bool :=
  inB n 2 32 && ((List.range R.length).all fun r => (List.range (x3at R r).length).all fun k => okAt n R r k) &&
  ((List.range n.toNat).all fun a => (List.range n.toNat).all fun b => decide (b ≤ a) || decide ([(a : Int), (b : Int)] ∈ R.flatten))
structure VS (n : Nat) (R : List (List (List Int))) : Prop where
  n2 : 2 ≤ n
  n32 : n ≤ 32
  gd : ∀ q ∈ R, ∀ p ∈ q, gdP n p = true
  st : ∀ q ∈ R, ∀ k, k + 1 < q.length → cmpI (xat q k) (xat q (k + 1)) < 0
  dj : ∀ q ∈ R, ∀ k, k < q.length → ∀ j, j < k → ∀ x ∈ xat q j, x ∉ xat q k
  nd : R.flatten.Nodup
  al : ∀ a b : Nat, a < b → b < n → [(a : Int), (b : Int)] ∈ R.flatten
structure GdP (n : Int) (p : List Int) : Prop where
  eq : p = [nth p 0, nth p 1]
  lt : nth p 0 < nth p 1
  lo : 0 ≤ nth p 0
  hi : nth p 1 ≤ n - 1
theorem gdP_t {n : Int} {p : List Int} (h : gdP n p = true) : GdP n p := by
  simp only [gdP, Bool.and_eq_true, decide_eq_true_eq, inB] at h
  obtain ⟨⟨⟨h1, h2⟩, h3⟩, h4⟩ := h
  match p, h1 with
  | [a, b], _ => exact ⟨rfl, h2, h3.1, h4.2⟩
theorem plB_f {q : List (List Int)} {x : Int} : plB q x = false ↔ ∀ p ∈ q, x ∉ p := by simp [plB]
theorem mem_take_xat {q : List (List Int)} {k : Nat} {p : List Int} (h : p ∈ q.take k) : ∃ j, j < k ∧ j < q.length ∧ xat q j = p := by
  obtain ⟨j, hj, e⟩ := mem_xat h
  simp only [List.length_take] at hj
  refine ⟨j, by omega, by omega, ?_⟩
  rw [← e, xat_eq (by omega), xat_eq (by simp; omega), List.getElem_take]
theorem xat_take_mem {q : List (List Int)} {k j : Nat} (h1 : j < k) (h2 : j < q.length) : xat q j ∈ q.take k := by
  rw [xat_eq h2, List.mem_take_iff_getElem]
  exact ⟨j, by omega, rfl⟩
theorem VS.ok {n : Nat} {R : List (List (List Int))} (h : VS n R) {r k : Nat} (hr : r < R.length) (hk : k < (x3at R r).length) : okAt n R r k = true := by
  have hq := x3at_mem hr
  have hp := xat_mem hk
  have hg := h.gd _ hq _ hp
  have hG := gdP_t hg
  have h1 : ∀ x ∈ xat (x3at R r) k, plB ((x3at R r).take k) x = false := fun x hx => plB_f.2 fun p hp' hx' => by
    obtain ⟨j, hj, hj2, rfl⟩ := mem_take_xat hp'
    exact h.dj _ hq k hk j hj x hx' hx
  have h2 : xat (x3at R r) k ∉ seen R r k := by
    have := h.nd
    rw [seen_pre hr (Nat.succ_le_of_lt hk), seen_snoc hk, List.append_assoc] at this
    have := (List.nodup_append.1 this).2.2
    intro hm
    exact this _ hm _ (by simp) rfl
  have e0 : nth (xat (x3at R r) k) 0 ∈ xat (x3at R r) k := by rw [hG.eq]; simp [nth]
  have e1 : nth (xat (x3at R r) k) 1 ∈ xat (x3at R r) k := by rw [hG.eq]; simp [nth]
  simp only [okAt, Bool.and_eq_true, hg, h1 _ e0, h1 _ e1, decide_eq_false h2, Bool.not_false, and_true, true_and, Bool.or_eq_true, decide_eq_true_eq]
  cases k with
  | zero => exact .inl rfl
  | succ k => exact .inr (h.st _ hq k hk)
theorem VS.t {n : Nat} {R : List (List (List Int))} (h : VS n R) : vsB n R = true := by
  have h1 := h.n2
  have h2 := h.n32
  simp only [vsB, Bool.and_eq_true, List.all_eq_true, List.mem_range, Bool.or_eq_true, decide_eq_true_eq]
  refine ⟨⟨inB_true (by omega), fun r hr k hk => h.ok hr hk⟩, fun a ha b hb => ?_⟩
  by_cases hab : b ≤ a
  · exact .inl hab
  · exact .inr (h.al a b (by omega) (by omega))
theorem VS.of {n : Int} {R : List (List (List Int))} (h : vsB n R = true) : ∃ m : Nat, n = m ∧ VS m R := by
  simp only [vsB, Bool.and_eq_true, List.all_eq_true, List.mem_range, Bool.or_eq_true, decide_eq_true_eq] at h
  obtain ⟨⟨h1, h2⟩, h3⟩ := h
  have h1 : 2 ≤ n ∧ n ≤ 32 := by simpa [inB] using h1
  obtain ⟨m, rfl⟩ := Int.eq_ofNat_of_zero_le (show 0 ≤ n by omega)
  have hh : ∀ r, r < R.length → ∀ k, k < (x3at R r).length → gdP m (xat (x3at R r) k) = true ∧ (k = 0 ∨ cmpI (xat (x3at R r) (k - 1)) (xat (x3at R r) k) < 0) ∧
      (∀ j, j < k → ∀ x ∈ xat (x3at R r) j, x ∉ xat (x3at R r) k) ∧ xat (x3at R r) k ∉ seen R r k := by
    intro r hr k hk
    have := h2 r hr k hk
    simp only [okAt, Bool.and_eq_true, Bool.or_eq_true, decide_eq_true_eq, Bool.not_eq_true', decide_eq_false_iff_not] at this
    obtain ⟨⟨⟨⟨a1, a2⟩, a3⟩, a4⟩, a5⟩ := this
    refine ⟨a1, a2, fun j hj x hx hx' => ?_, a5⟩
    have hG := gdP_t a1
    have hm := xat_take_mem hj (show j < (x3at R r).length by omega)
    rw [hG.eq] at hx'
    simp only [List.mem_cons, List.not_mem_nil, or_false] at hx'
    rcases hx' with e | e
    · exact plB_f.1 a3 _ hm (e ▸ hx)
    · exact plB_f.1 a4 _ hm (e ▸ hx)
  refine ⟨m, rfl, by omega, by omega, fun q hq p hp => ?_, fun q hq k hk => ?_, fun q hq k hk => ?_, ?_, fun a b hab hb => ?_⟩
  · obtain ⟨r, hr, rfl⟩ := mem_x3at hq
    obtain ⟨k, hk, rfl⟩ := mem_xat hp
    exact (hh r hr k hk).1
  · obtain ⟨r, hr, rfl⟩ := mem_x3at hq
    have := (hh r hr (k + 1) hk).2.1
    rcases this with h | h
    · omega
    · exact h
  · obtain ⟨r, hr, rfl⟩ := mem_x3at hq
    exact (hh r hr k hk).2.2.1
  · refine seen_ind List.nodup_nil fun r k hr hk ih => ?_
    refine List.nodup_append.2 ⟨ih, by simp, fun a ha b hb e => ?_⟩
    rw [List.mem_singleton.1 hb] at e
    exact (hh r hr k hk).2.2.2 (e ▸ ha)
  · rcases h3 a (by simp; omega) b (by simp; omega) with h | h
    · omega
    · exact h

/-! ### opponents -/
def prL (a b : Int) : List Int := if b < a then [b, a] else [a, b]
section
variable {n : Nat} {R : List (List (List Int))}
end
end Go.Proofs.YtljemlfocajhnaaGreat
end

section
/- Permutations as lists, in plain terms. -/
namespace Go.Proofs.YtljemlfocajhnaaGreat
set_option linter.unusedSimpArgs false
set_option linter.unusedVariables false
/-- a list that holds each number below its length once -/
structure IsP (xs : List Int) : Prop where
  lt : ∀ j, j < xs.length → 0 ≤ nth xs j ∧ nth xs j < xs.length
  inj : ∀ i j, i < xs.length → j < xs.length → nth xs i = nth xs j → i = j
open Classical in
/-- a valid permutation -/
noncomputable def pvB (xs : List Int) : Bool := decide (xs.length ≤ 32 ∧ IsP xs)
theorem pvB_t {xs : List Int} (h : pvB xs = true) : xs.length ≤ 32 ∧ IsP xs := by simpa [pvB] using h
theorem pvB_yes {xs : List Int} (h : xs.length ≤ 32) (hp : IsP xs) : pvB xs = true := by simp [pvB, h, hp]
/-- a permutation as a function -/
def pf (xs : List Int) (j : Nat) : Nat := (nth xs j).toNat
theorem nth_pf {xs : List Int} (h : IsP xs) {j : Nat} (hj : j < xs.length) : nth xs j = (pf xs j : Int) := by
  have := (h.lt j hj).1; unfold pf; omega
theorem IsP.bij {xs : List Int} (h : IsP xs) : Bij xs.length (pf xs) where
  lt j hj := by have := h.lt j hj; unfold pf; omega
  inj i j hi hj e := h.inj i j hi hj (by rw [nth_pf h hi, nth_pf h hj, e])
theorem IsP.pf_lt {xs : List Int} (h : IsP xs) {j : Nat} (hj : j < xs.length) : pf xs j < xs.length := h.bij.lt j hj
theorem IsP.nodup {xs : List Int} (h : IsP xs) : xs.Nodup := by
  rw [List.nodup_iff_pairwise_ne, List.pairwise_iff_getElem]
  intro a b ha hb hab e
  have := h.inj a b ha hb (by rw [nth_eq ha, nth_eq hb, e])
  omega
theorem nth_ext {xs ys : List Int} (hl : xs.length = ys.length) (h : ∀ j, j < xs.length → nth xs j = nth ys j) : xs = ys := by
  apply List.ext_getElem hl
  intro j h1 h2
  have := h j h1
  rwa [nth_eq h1, nth_eq h2] at this
/-- the identity -/
def iot (n : Nat) : List Int := (List.range n).map fun k : Nat => (k : Int)
theorem iot_len (n : Nat) : (iot n).length = n := by simp [iot]
theorem nth_iot {n j : Nat} (h : j < n) : nth (iot n) j = j := by simp [iot, nth, h]
theorem iot_isP (n : Nat) : IsP (iot n) where
  lt j hj := by rw [iot_len] at hj ⊢; rw [nth_iot hj]; omega
  inj i j hi hj e := by rw [iot_len] at hi hj; rw [nth_iot hi, nth_iot hj] at e; omega
theorem iot_succ (n : Nat) : iot (n + 1) = iot n ++ [(n : Int)] := by simp [iot, List.range_succ]
theorem mem_iot {n : Nat} {x : Int} : x ∈ iot n ↔ 0 ≤ x ∧ x < n := by
  unfold iot; rw [List.mem_map]
  constructor
  · rintro ⟨k, hk, rfl⟩; have := List.mem_range.1 hk; omega
  · intro h; exact ⟨x.toNat, List.mem_range.2 (by omega), by omega⟩
theorem IsP.perm {xs : List Int} (h : IsP xs) : xs.Perm (iot xs.length) := by
  refine (List.perm_ext_iff_of_nodup h.nodup (iot_isP _).nodup).2 fun x => ?_
  rw [mem_iot]
  constructor
  · intro hx
    obtain ⟨j, hj, rfl⟩ := List.getElem_of_mem hx
    have := h.lt j hj; rwa [nth_eq hj] at this
  · intro hx
    obtain ⟨j, hj, e⟩ := h.bij.onto (y := x.toNat) (by omega)
    have := nth_pf h hj
    rw [e] at this
    have hm := nth_mem hj
    rw [this] at hm
    rwa [Int.toNat_of_nonneg hx.1] at hm
/-- lists in rising order with the same numbers are the same -/
theorem sorted_eq {a b : List Int} (h : a.Perm b) (ha : a.Pairwise (· ≤ ·)) (hb : b.Pairwise (· ≤ ·)) : a = b :=
  h.eq_of_pairwise (fun x y _ _ h1 h2 => by omega) ha hb
theorem msort_sorted (xs : List Int) : (xs.mergeSort fun x y => decide (x ≤ y)).Pairwise (· ≤ ·) := by
  have := List.pairwise_mergeSort (le := fun x y : Int => decide (x ≤ y)) (fun a b c h1 h2 => by simp at *; omega) (fun a b => by simp; omega) xs
  exact this.imp fun h => by simpa using h
/-! ### exchanges -/
theorem nth_set {xs : List Int} {i j : Nat} {x : Int} (h : i < xs.length) : nth (xs.set i x) j = if i = j then x else nth xs j := by
  unfold nth
  rw [List.getD_eq_getElem?_getD, List.getElem?_set]
  split
  · rename_i e; subst e; simp [h]
  · simp
def swp2 (xs : List Int) (i k : Nat) : List Int := (xs.set i (nth xs k)).set k (nth xs i)
theorem swp2_len (xs : List Int) (i k : Nat) : (swp2 xs i k).length = xs.length := by simp [swp2]
/-- the place from which an exchange takes place j -/
def pl2 (i k j : Nat) : Nat := if j = k then i else if j = i then k else j
theorem pl2_lt {n i k j : Nat} (hi : i < n) (hk : k < n) (hj : j < n) : pl2 i k j < n := by
  unfold pl2
  by_cases e : j = k
  · rw [if_pos e]; exact hi
  · rw [if_neg e]
    by_cases e2 : j = i
    · rw [if_pos e2]; exact hk
    · rw [if_neg e2]; exact hj
theorem pl2_pl2 (i k j : Nat) : pl2 i k (pl2 i k j) = j := by
  unfold pl2
  by_cases e : j = k
  · rw [if_pos e]
    by_cases e2 : i = k
    · rw [if_pos e2]; omega
    · rw [if_neg e2, if_pos rfl]; omega
  · rw [if_neg e]
    by_cases e2 : j = i
    · rw [if_pos e2, if_pos rfl]; omega
    · rw [if_neg e2, if_neg e, if_neg e2]
theorem nth_swp2 {xs : List Int} {i k : Nat} (hi : i < xs.length) (hk : k < xs.length) (j : Nat) : nth (swp2 xs i k) j = nth xs (pl2 i k j) := by
  unfold swp2 pl2
  rw [nth_set (by simpa using hk)]
  by_cases e : k = j
  · rw [if_pos e, if_pos e.symm]
  · rw [if_neg e, nth_set hi, if_neg (fun h : j = k => e h.symm)]
    by_cases e2 : i = j
    · rw [if_pos e2, if_pos e2.symm]
    · rw [if_neg e2, if_neg (fun h : j = i => e2 h.symm)]
theorem IsP.swp {xs : List Int} (h : IsP xs) {i k : Nat} (hi : i < xs.length) (hk : k < xs.length) : IsP (swp2 xs i k) where
  lt j hj := by
    rw [swp2_len] at hj ⊢
    rw [nth_swp2 hi hk]
    exact h.lt _ (pl2_lt hi hk hj)
  inj a b ha hb e := by
    rw [swp2_len] at ha hb
    rw [nth_swp2 hi hk, nth_swp2 hi hk] at e
    have := h.inj _ _ (pl2_lt hi hk ha) (pl2_lt hi hk hb) e
    rw [← pl2_pl2 i k a, this, pl2_pl2]
/-! ### composition, inverse -/
/-- first xs, then ys -/
def cmpL (xs ys : List Int) : List Int := (List.range xs.length).map fun j => nth ys (pf xs j)
theorem nth_cmpL {xs ys : List Int} {j : Nat} (hj : j < xs.length) : nth (cmpL xs ys) j = nth ys (pf xs j) := by simp [cmpL, nth, hj]
theorem pf_cmpL {xs ys : List Int} {j : Nat} (hj : j < xs.length) : pf (cmpL xs ys) j = pf ys (pf xs j) := by unfold pf; rw [nth_cmpL hj]; rfl
/-- place j of the first k is written at the number that stands there -/
def invQ (xs : List Int) : Nat → List Int
  | 0 => List.replicate xs.length 0
  | k + 1 => (invQ xs k).set (pf xs k) k
def invL (xs : List Int) : List Int := invQ xs xs.length
theorem invQ_len (xs : List Int) : ∀ k, (invQ xs k).length = xs.length
  | 0 => by simp [invQ]
  | k + 1 => by rw [invQ, List.length_set, invQ_len xs k]
theorem nth_invQ {xs : List Int} (h : IsP xs) : ∀ k, k ≤ xs.length → ∀ j, j < k → nth (invQ xs k) (pf xs j) = j
  | 0, _, j, hj => by omega
  | k + 1, hk, j, hj => by
    rw [invQ, nth_set (by rw [invQ_len]; exact h.pf_lt (by omega))]
    by_cases e : k = j
    · subst e; rw [if_pos rfl]
    · rw [if_neg (fun e2 => e (h.bij.inj k j (by omega) (by omega) e2)), nth_invQ h k (by omega) j (by omega)]
theorem invL_len (xs : List Int) : (invL xs).length = xs.length := invQ_len xs _
theorem nth_invL {xs : List Int} (h : IsP xs) {j : Nat} (hj : j < xs.length) : nth (invL xs) (pf xs j) = j := nth_invQ h _ (Nat.le_refl _) j hj
theorem IsP.inv {xs : List Int} (h : IsP xs) : IsP (invL xs) := by
  have key : ∀ y, y < xs.length → ∃ j, j < xs.length ∧ pf xs j = y := fun y hy => h.bij.onto hy
  refine ⟨fun y hy => ?_, fun a b ha hb e => ?_⟩
  · rw [invL_len] at hy ⊢
    obtain ⟨j, hj, rfl⟩ := key y hy
    rw [nth_invL h hj]; omega
  · rw [invL_len] at ha hb
    obtain ⟨i, hi, rfl⟩ := key a ha
    obtain ⟨j, hj, rfl⟩ := key b hb
    rw [nth_invL h hi, nth_invL h hj] at e
    have : i = j := by omega
    rw [this]
/-! ### signs -/
end Go.Proofs.YtljemlfocajhnaaGreat
end
