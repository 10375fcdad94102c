/- The texts of this claim, run 6: PDes Cmp Ds0 Ds1 Src Set Src2 Drw Set2 Arr2 Ds2 Ds3 Has Ds4 Ds5. -/
import Derived.Test.YtdlmohigkkdegaaGreatK1
import Derived.Test.YtdlmohigkkdegaaGreatK4
import Derived.Test.YtdlmohigkkdegaaGreatK5
import Derived.Deep.RegionHeld3
import Derived.Deep.DrawnRows
import Derived.Shelf.SlSortCmp.NoneTotal
section
/- Plain: lists in the order of lists, designs, their counts and parameters. -/
namespace Go.Proofs.YtdlmohigkkdegaaGreat
set_option linter.unusedSimpArgs false
set_option linter.unusedVariables false

/-- lists compared place by place -/
def cmpI : List Int → List Int → Int
  | [], [] => 0
  | [], _ :: _ => -1
  | _ :: _, [] => 1
  | a :: r, b :: s => if a < b then -1 else if b < a then 1 else cmpI r s
theorem cmpI_self : ∀ a : List Int, cmpI a a = 0
  | [] => rfl
  | a :: r => by rw [cmpI, if_neg (by omega), if_neg (by omega)]; exact cmpI_self r
theorem cmpI_neg : ∀ a b : List Int, cmpI b a = -cmpI a b
  | [], [] => rfl
  | [], _ :: _ => rfl
  | _ :: _, [] => rfl
  | a :: r, b :: s => by
    have ih := cmpI_neg r s
    rw [cmpI, cmpI]
    by_cases h1 : a < b
    · rw [if_neg (show ¬ b < a by omega), if_pos h1, if_pos h1]; rfl
    · by_cases h2 : b < a
      · rw [if_pos h2, if_neg h1, if_pos h2]
      · rw [if_neg h2, if_neg h1, if_neg h1, if_neg h2]; exact ih
theorem cmpI_eq : ∀ {a b : List Int}, cmpI a b = 0 → a = b
  | [], [], _ => rfl
  | [], _ :: _, h => by simp [cmpI] at h
  | _ :: _, [], h => by simp [cmpI] at h
  | a :: r, b :: s, h => by
    rw [cmpI] at h
    by_cases h1 : a < b
    · rw [if_pos h1] at h; omega
    · rw [if_neg h1] at h
      by_cases h2 : b < a
      · rw [if_pos h2] at h; omega
      · rw [if_neg h2] at h
        rw [cmpI_eq h, show a = b by omega]
theorem cmpI_trans : ∀ {a b c : List Int}, cmpI a b ≤ 0 → cmpI b c ≤ 0 → cmpI a c ≤ 0
  | [], _, [], _, _ => by simp [cmpI]
  | [], _, _ :: _, _, _ => by simp [cmpI]
  | _ :: _, [], _, h, _ => by simp [cmpI] at h
  | _ :: _, _ :: _, [], _, h => by simp [cmpI] at h
  | a :: r, b :: s, c :: t, h1, h2 => by
    rw [cmpI] at h1 h2 ⊢
    by_cases e1 : a < b
    · by_cases e2 : b < c
      · rw [if_pos (by omega)]; omega
      · rw [if_neg e2] at h2
        by_cases e3 : c < b
        · rw [if_pos e3] at h2; omega
        · rw [if_pos (by omega)]; omega
    · rw [if_neg e1] at h1
      by_cases e4 : b < a
      · rw [if_pos e4] at h1; omega
      · rw [if_neg e4] at h1
        by_cases e2 : b < c
        · rw [if_pos (by omega)]; omega
        · rw [if_neg e2] at h2
          by_cases e3 : c < b
          · rw [if_pos e3] at h2; omega
          · rw [if_neg e3] at h2
            rw [if_neg (by omega), if_neg (by omega)]
            exact cmpI_trans h1 h2
def leL (a b : List Int) : Bool := decide (cmpI a b ≤ 0)
theorem leL_trans (a b c : List Int) (h1 : leL a b = true) (h2 : leL b c = true) : leL a c = true :=
  decide_eq_true (cmpI_trans (of_decide_eq_true h1) (of_decide_eq_true h2))
theorem leL_total (a b : List Int) : (leL a b || leL b a) = true := by
  unfold leL
  have := cmpI_neg a b
  by_cases h : cmpI a b ≤ 0
  · simp [h]
  · simp [show cmpI b a ≤ 0 by omega]
theorem leL_anti {a b : List Int} (h1 : leL a b = true) (h2 : leL b a = true) : a = b := by
  have a1 := of_decide_eq_true h1
  have a2 := of_decide_eq_true h2
  have := cmpI_neg a b
  exact cmpI_eq (by omega)
/-- a list put into its place -/
def insL (b : List Int) : List (List Int) → List (List Int)
  | [] => [b]
  | a :: r => if leL b a = true then b :: a :: r else a :: insL b r
theorem insL_perm (b : List Int) : ∀ A : List (List Int), (insL b A).Perm (b :: A)
  | [] => .refl _
  | a :: r => by
    rw [insL]
    split
    · exact .refl _
    · exact ((insL_perm b r).cons a).trans (List.Perm.swap b a r)
theorem insL_pw (b : List Int) : ∀ {A : List (List Int)}, (A.Pairwise fun a b => leL a b = true) → (insL b A).Pairwise fun a b => leL a b = true
  | [], _ => by simp [insL]
  | a :: r, h => by
    obtain ⟨h1, h2⟩ := List.pairwise_cons.1 h
    rw [insL]
    split
    · rename_i hb
      refine List.pairwise_cons.2 ⟨fun x hx => ?_, h⟩
      rcases List.mem_cons.1 hx with rfl | hx
      · exact hb
      · exact leL_trans _ _ _ hb (h1 x hx)
    · rename_i hb
      refine List.pairwise_cons.2 ⟨fun x hx => ?_, insL_pw b h2⟩
      rcases List.mem_cons.1 ((insL_perm b r).mem_iff.1 hx) with rfl | hx
      · have := leL_total x a
        rw [Bool.or_eq_true] at this
        rcases this with h | h
        · exact absurd h hb
        · exact h
      · exact h1 x hx
/-- a list of lists in its order -/
def srtL (A : List (List Int)) : List (List Int) := A.foldr insL []
theorem srtL_perm : ∀ A : List (List Int), (srtL A).Perm A
  | [] => .refl _
  | a :: r => (insL_perm a (srtL r)).trans ((srtL_perm r).cons a)
theorem srtL_pw : ∀ A : List (List Int), (srtL A).Pairwise fun a b => leL a b = true
  | [] => List.Pairwise.nil
  | a :: r => insL_pw a (srtL_pw r)
theorem srtL_len (A : List (List Int)) : (srtL A).length = A.length := (srtL_perm A).length_eq
theorem perm_pw_eq : ∀ {a b : List (List Int)}, a.Perm b → (a.Pairwise fun x y => leL x y = true) → (b.Pairwise fun x y => leL x y = true) → a = b
  | [], b, h, _, _ => by rw [List.nil_perm.1 h]
  | x :: a, b, h, h1, h2 => by
    obtain ⟨h1x, h1r⟩ := List.pairwise_cons.1 h1
    cases b with
    | nil => exact absurd h.length_eq (by simp)
    | cons y b =>
      obtain ⟨h2y, h2r⟩ := List.pairwise_cons.1 h2
      have hxy : x = y := by
        have hx : x ∈ y :: b := h.mem_iff.1 (List.mem_cons_self ..)
        have hy : y ∈ x :: a := h.mem_iff.2 (List.mem_cons_self ..)
        rcases List.mem_cons.1 hx with e | hx
        · exact e
        · rcases List.mem_cons.1 hy with e | hy
          · exact e.symm
          · exact leL_anti (h1x y hy) (h2y x hx)
      subst hxy
      rw [perm_pw_eq ((List.perm_cons x).1 h) h1r h2r]
theorem srtL_eq {a b : List (List Int)} (h : a.Perm b) (hs : a.Pairwise fun x y => leL x y = true) : a = srtL b :=
  perm_pw_eq (h.trans (srtL_perm b).symm) hs (srtL_pw b)
/-- in order, place by place -/
def srtB : List (List Int) → Bool
  | [] => true
  | [_] => true
  | a :: b :: r => leL a b && srtB (b :: r)
theorem srtB_pw : ∀ {A : List (List Int)}, srtB A = true ↔ A.Pairwise fun a b => leL a b = true
  | [] => by simp [srtB]
  | [_] => by simp [srtB]
  | a :: b :: r => by
    rw [srtB, Bool.and_eq_true, srtB_pw (A := b :: r)]
    constructor
    · rintro ⟨h1, h2⟩
      refine List.pairwise_cons.2 ⟨fun x hx => ?_, h2⟩
      rcases List.mem_cons.1 hx with rfl | hx
      · exact h1
      · exact leL_trans _ _ _ h1 ((List.pairwise_cons.1 h2).1 x hx)
    · intro h
      obtain ⟨h1, h2⟩ := List.pairwise_cons.1 h
      exact ⟨h1 b (List.mem_cons_self ..), h2⟩
theorem srtB_drop : ∀ {A : List (List Int)} {k : Nat}, k + 1 < A.length → srtB (A.drop k) = (leL (xat A k) (xat A (k + 1)) && srtB (A.drop (k + 1))) := by
  intro A k h
  rw [drop_xat (show k < A.length by omega), drop_xat h, srtB]

/-- a block: some points, increasing -/
def blkB (P : Int) (b : List Int) : Bool := decide (0 < b.length) && validSetB b P
/-- a design -/
def dOk (P : Int) (A : List (List Int)) : Bool := inB P 1 32 && A.all (blkB P) && decide (A.length ≤ 128) && srtB A
structure DOk (P : Int) (A : List (List Int)) : Prop where
  pos : 1 ≤ P
  le : P ≤ 32
  len : A.length ≤ 128
  srt : srtB A = true
  ne : ∀ b ∈ A, 0 < b.length
  inc : ∀ b ∈ A, incB (-1) P b = true
theorem blkB_t {P : Int} {b : List Int} (h : blkB P b = true) : 0 < b.length ∧ incB (-1) P b = true := by
  simp only [blkB, validSetB, Bool.and_eq_true, decide_eq_true_eq] at h
  exact ⟨h.1, h.2.1⟩
theorem dOk_t {P : Int} {A : List (List Int)} (h : dOk P A = true) : DOk P A := by
  simp only [dOk, Bool.and_eq_true, decide_eq_true_eq, List.all_eq_true] at h
  obtain ⟨⟨⟨h1, h2⟩, h3⟩, h4⟩ := h
  have h5 : 1 ≤ P ∧ P ≤ 32 := by simpa [inB] using h1
  exact ⟨h5.1, h5.2, h3, h4, fun b hb => (blkB_t (h2 b hb)).1, fun b hb => (blkB_t (h2 b hb)).2⟩
theorem DOk.ok {P : Int} {A : List (List Int)} (h : DOk P A) : dOk P A = true := by
  have h1 := h.pos
  have h2 := h.le
  simp only [dOk, Bool.and_eq_true, decide_eq_true_eq, List.all_eq_true]
  refine ⟨⟨⟨by simp [inB]; omega, fun b hb => ?_⟩, h.len⟩, h.srt⟩
  simp only [blkB, validSetB, Bool.and_eq_true, decide_eq_true_eq]
  exact ⟨h.ne b hb, h.inc b hb, by simp [inB]; omega⟩
/-- the number of blocks with a property -/
def cntD (p : List Int → Bool) (A : List (List Int)) : Int := (A.filter p).length
theorem cntD_snoc (p : List Int → Bool) (A : List (List Int)) (b : List Int) : cntD p (A ++ [b]) = cntD p A + if p b = true then 1 else 0 := by
  unfold cntD; rw [List.filter_append]; by_cases h : p b = true <;> simp [h]
theorem cntD_bd (p : List Int → Bool) (A : List (List Int)) : 0 ≤ cntD p A ∧ cntD p A ≤ A.length := by
  unfold cntD; have := List.length_filter_le p A; omega
/-- in how many blocks a point is -/
def repF (A : List (List Int)) (x : Nat) : Int := cntD (fun b => decide ((x : Int) ∈ b)) A
def repL (P : Nat) (A : List (List Int)) : List Int := (List.range P).map (repF A)
/-- in how many blocks two points are -/
def parF (A : List (List Int)) (x y : Nat) : Int := cntD (fun b => decide ((x : Int) ∈ b) && decide ((y : Int) ∈ b)) A
def parR (P : Nat) (A : List (List Int)) (x : Nat) : List Int := (List.range (P - (x + 1))).map fun t => parF A x (x + 1 + t)
def parL (P : Nat) (A : List (List Int)) : List Int := ((List.range P).map (parR P A)).flatten
/-- the parameters: whether there are any, and what they are -/
def prmB (P : Nat) (A : List (List Int)) : Bool :=
  decide (2 ≤ P) && decide (0 < A.length) && decide (2 ≤ (xat A 0).length) && (A.all fun b => b.length == (xat A 0).length) && ((parL P A).all fun c => c == nth (parL P A) 0)
def prmV (P : Nat) (A : List (List Int)) : List Int :=
  if prmB P A = true then [(P : Int), (A.length : Int), nth (repL P A) 0, ((xat A 0).length : Int), nth (parL P A) 0] else [0, 0, 0, 0, 0]
end Go.Proofs.YtdlmohigkkdegaaGreat
end

section
/- Comparison of lists: slices.Compare, the reference's CompareLists, slices.IsSortedFunc. -/
namespace Go.Proofs.YtdlmohigkkdegaaGreat
set_option linter.unusedSimpArgs false
set_option linter.unusedVariables false
open Go.RowKit

theorem isNaNC_c (x : Int) (w : World) : Calls Tryz.prog 232 #[.int .i64 x] w fun e w' => e = .returned (.bool false) ∧ w = w' := by
  have h := ne_f (rfl : x = x)
  go_enter Tryz.func232, Tryz.ntmps232
  go_wp2_with fail
  go_ret
  exact ⟨rfl, rfl⟩
def cmp1 (x y : Int) : Int := if x < y then -1 else if y < x then 1 else 0
theorem cmpC_c (x y : Int) (w : World) : Calls Tryz.prog 174 #[.int .i64 x, .int .i64 y] w fun e w' => e = .returned (.int .i64 (cmp1 x y)) ∧ w = w' := by
  by_cases h1 : x < y
  · rw [cmp1, if_pos h1]
    go_enter Tryz.func174, Tryz.ntmps174
    go_wp2_with (go_at_call 232; refine (isNaNC_c _ _).mono ?_; rintro e w3 ⟨rfl, rfl⟩)
    go_ret
    exact ⟨rfl, rfl⟩
  · by_cases h2 : y < x
    · rw [cmp1, if_neg h1, if_pos h2]
      go_enter Tryz.func174, Tryz.ntmps174
      go_wp2_with (go_at_call 232; refine (isNaNC_c _ _).mono ?_; rintro e w3 ⟨rfl, rfl⟩)
      go_ret
      exact ⟨rfl, rfl⟩
    · rw [cmp1, if_neg h1, if_neg h2]
      go_enter Tryz.func174, Tryz.ntmps174
      go_wp2_with (go_at_call 232; refine (isNaNC_c _ _).mono ?_; rintro e w3 ⟨rfl, rfl⟩)
      go_ret
      exact ⟨rfl, rfl⟩
theorem cmpI_drop {xs ys : List Int} {k : Nat} (h1 : k < xs.length) (h2 : k < ys.length) : cmpI (xs.drop k) (ys.drop k) = if cmp1 (nth xs k) (nth ys k) ≠ 0 then cmp1 (nth xs k) (nth ys k) else cmpI (xs.drop (k + 1)) (ys.drop (k + 1)) := by
  rw [drop_nth h1, drop_nth h2, cmpI, cmp1]
  by_cases h : nth xs k < nth ys k
  · rw [if_pos h, if_pos h, if_pos (by omega)]
  · rw [if_neg h, if_neg h]
    by_cases h' : nth ys k < nth xs k
    · rw [if_pos h', if_pos h', if_pos (by omega)]
    · rw [if_neg h', if_neg h', if_neg (by omega)]
theorem cmpI_e1 {xs ys : List Int} {k : Nat} (h1 : k < xs.length) (h2 : ys.length ≤ k) : cmpI (xs.drop k) (ys.drop k) = 1 := by
  rw [drop_nth h1, List.drop_of_length_le h2]; rfl
theorem cmpI_e2 {xs ys : List Int} {k : Nat} (h1 : xs.length ≤ k) (h2 : k < ys.length) : cmpI (xs.drop k) (ys.drop k) = -1 := by
  rw [drop_nth h2, List.drop_of_length_le h1]; rfl
theorem cmpI_e3 {xs ys : List Int} {k : Nat} (h1 : xs.length ≤ k) (h2 : ys.length ≤ k) : cmpI (xs.drop k) (ys.drop k) = 0 := by
  rw [List.drop_of_length_le h2, List.drop_of_length_le h1]; rfl
set_option maxHeartbeats 1000000 in
set_option maxRecDepth 100000 in
theorem Compare_c (va vb : Value) (xs ys : List Int) (w : World) (ha : RdI w va xs) (hb : RdI w vb ys) :
    Calls Tryz.prog 119 #[va, vb] w fun e w' => e = .returned (.int .i64 (cmpI xs ys)) ∧ w = w' := by
  have hla := ha.len
  have hlb := hb.len
  have hia := ha.ix
  have hib := hb.ix
  have hca := ha.cell
  have hcb := hb.cell
  have hma := ha.le
  have hmb := hb.le
  go_enter Tryz.func119, Tryz.ntmps119
  go_wp2_with fail
  go_loop [5, 6, 7, 8, 11] (fun _ _ _ _ i => ∃ k : Nat, k ≤ xs.length ∧ k ≤ ys.length ∧ i = .int .i64 k ∧ Hid (cmpI (xs.drop k) (ys.drop k) = cmpI xs ys)) (fun _ _ _ _ i => xs.length - (intOf i).toNat)
  case atStart => exact ⟨0, by omega, by omega, rfl, rfl⟩
  case round =>
    obtain ⟨k, hk, hk2, rfl, hI⟩ := hrel
    by_cases k1 : k < xs.length
    · by_cases k2 : k < ys.length
      · have hd := cmpI_drop k1 k2
        by_cases hc : cmp1 (nth xs k) (nth ys k) = 0
        · rw [if_neg (by omega), hI.out] at hd
          have HD := Lib.hid hd
          have HC := Lib.hid hc
          clear hd hc
          go_wp2_with (go_at_call 174; refine (cmpC_c _ _ _).mono ?_; rw [HC.out]; rintro e w3 ⟨rfl, rfl⟩)
          go_round
          case rel => exact ⟨k + 1, by omega, by omega, by go_num, HD.out.symm⟩
          case measure => simp [intOf]; omega
        · rw [if_pos hc, hI.out] at hd
          have HD := Lib.hid hd
          clear hd
          go_wp2_with (go_at_call 174; refine (cmpC_c _ _ _).mono ?_; rintro e w3 ⟨rfl, rfl⟩)
          go_ret
          exact ⟨by rw [HD.out]; rfl, rfl⟩
      · have HD := Lib.hid (cmpI_e1 k1 (show ys.length ≤ k by omega))
        rw [hI.out] at HD
        go_wp2_with fail
        go_ret
        exact ⟨by rw [HD.out]; rfl, rfl⟩
    · by_cases k2 : k < ys.length
      · have HD := Lib.hid (cmpI_e2 (show xs.length ≤ k by omega) k2)
        rw [hI.out] at HD
        go_wp2_with fail
        go_ret
        exact ⟨by rw [HD.out]; rfl, rfl⟩
      · have HD := Lib.hid (cmpI_e3 (show xs.length ≤ k by omega) (show ys.length ≤ k by omega))
        rw [hI.out] at HD
        go_wp2_with fail
        go_ret
        exact ⟨by rw [HD.out]; rfl, rfl⟩

theorem srtB_no {A : List (List Int)} {k : Nat} (h : k + 1 < A.length) (hc : leL (xat A k) (xat A (k + 1)) = false) : srtB A = false := by
  cases hs : srtB A with
  | false => rfl
  | true =>
    have := List.pairwise_iff_getElem.1 (srtB_pw.1 hs) k (k + 1) (by omega) h (by omega)
    rw [xat_eq (show k < A.length by omega), xat_eq h, this] at hc
    cases hc
set_option maxHeartbeats 2000000 in
set_option maxRecDepth 100000 in
theorem IsSortedR_c (v : Value) (us : List Value) (A : List (List Int)) (w : World) (hv : RII w v us A) :
    Calls Tryz.prog 121 #[v, .func (.func 119) #[] #[]] w (GivesB w (srtB A)) := by
  have hcf : ∀ (args : Array Value) (W : World), (callFunc 119 args).run Tryz.prog W = .ok (.enter 119 args) W :=
    fun args W => callFunc_go (P := Tryz.prog) Tryz.func119 (by kernel_rfl) (by kernel_rfl) args W
  have hln := hv.len
  have hix := hv.ixe
  have hm := hv.le
  by_cases h0 : A.length = 0
  · have hA : Hid (srtB A = true) := by rw [List.eq_nil_of_length_eq_zero h0]; rfl
    go_enter Tryz.func121, Tryz.ntmps121
    go_wp2_with fail
    go_loopw [5] (fun i wr => i = .int .i64 (-1) ∧ St w.heap.size w wr []) (fun _ _ => 0)
    case atStart => exact ⟨by go_num, St.refl w⟩
    case round =>
      obtain ⟨rfl, hS⟩ := hrel
      go_wp2_with fail
      go_ret
      exact ⟨ret_bool hA.out.symm, hS⟩
  · go_enter Tryz.func121, Tryz.ntmps121
    go_wp2_with fail
    go_loopw [5] (fun i wr => ∃ k : Nat, k + 1 ≤ A.length ∧ i = .int .i64 k ∧ Hid (srtB (A.drop k) = true) ∧ St w.heap.size w wr []) (fun i _ => (intOf i).toNat)
    case atStart => exact ⟨A.length - 1, by omega, by go_num, by
      have : A.drop (A.length - 1) = [xat A (A.length - 1)] := by rw [drop_xat (show A.length - 1 < A.length by omega), List.drop_of_length_le (by omega)]
      rw [Hid, this]; rfl, St.refl w⟩
    case round =>
      obtain ⟨k, hk, rfl, hI, hS⟩ := hrel
      by_cases hk0 : 0 < k
      · obtain ⟨m, hmk⟩ : ∃ m, m + 1 = k := ⟨k - 1, by omega⟩
        have R1 := Lib.hid fun s : SS w.heap.size w [] => (s.st.oldII hv).row k (by omega)
        have R0 := Lib.hid fun s : SS w.heap.size w [] => (s.st.oldII hv).row m (by omega)
        have hq1 := fun s : SS w.heap.size w [] => (s.st.oldII hv).cell k (by omega)
        have hq0 := fun s : SS w.heap.size w [] => (s.st.oldII hv).cell m (by omega)
        have x1 := hix (k : Int) k rfl (by omega)
        have x0 := hix ((k : Int) - 1) m (by omega) (by omega)
        have hw : IntKind.i64.wrap ((k : Int) - 1) = ((k : Int) - 1) := IntWalk.i64_in _ (by omega)
        have Hmk := Lib.hid hmk
        have hd := srtB_drop (A := A) (k := m) (by omega)
        rw [hmk, hI.out, Bool.and_true] at hd
        have hno : leL (xat A m) (xat A k) = false → srtB A = false := fun h => srtB_no (k := m) (by omega) (by rw [hmk]; exact h)
        clear hmk
        cases hc : leL (xat A m) (xat A k)
        · have hlt : cmpI (xat A k) (xat A m) < 0 := by
            have := of_decide_eq_false hc
            have := cmpI_neg (xat A m) (xat A k); omega
          have HN := Lib.hid (hno hc)
          clear hd hc hno
          go_wp2_with fail
          have hne : Nonempty (SS _ _ _) := ⟨⟨_, hS⟩⟩
          refine wp_region_st (by kernel_rfl) (by kernel_rfl) hS ?_
          repeat (go_big_quiet_step ((go_at_call 119; exact st_quiet0 (Compare_c _ _ _ _ _ (R1.out _) (R0.out _)))))
          refine wpQuiet_nil ?_
          rintro _ ⟨s2, rfl⟩
          have hS2 := s2.st
          generalize s2.w = w2 at hS2 ⊢
          go_wp2_with fail
          go_ret
          exact ⟨ret_bool HN.out.symm, hS2⟩
        · have hlt : ¬ cmpI (xat A k) (xat A m) < 0 := by
            have := of_decide_eq_true hc
            have := cmpI_neg (xat A m) (xat A k); omega
          rw [hc] at hd
          have HD := Lib.hid hd
          clear hd hc hno
          go_wp2_with fail
          have hne : Nonempty (SS _ _ _) := ⟨⟨_, hS⟩⟩
          refine wp_region_st (by kernel_rfl) (by kernel_rfl) hS ?_
          repeat (go_big_quiet_step ((go_at_call 119; exact st_quiet0 (Compare_c _ _ _ _ _ (R1.out _) (R0.out _)))))
          refine wpQuiet_nil ?_
          rintro _ ⟨s2, rfl⟩
          have hS2 := s2.st
          generalize s2.w = w2 at hS2 ⊢
          go_wp2_with fail
          go_roundw
          case rel => exact ⟨m, by have := Hmk.out; omega, by rw [← Hmk.out]; go_num, HD, hS2⟩
          case measure => (have := Hmk.out; simp [intOf]; omega)
      · obtain rfl : k = 0 := by omega
        go_wp2_with fail
        go_ret
        exact ⟨ret_bool (by rw [← hI.out]; rfl), hS⟩
end Go.Proofs.YtdlmohigkkdegaaGreat
end

section
/- slices.SortFunc at [][]int64 with slices.Compare: rows that a call owns, put in order; slices.IsSortedFunc. -/
namespace Go.Proofs.YtdlmohigkkdegaaGreat
set_option linter.unusedSimpArgs false
set_option linter.unusedVariables false
open Go.RowKit
attribute [local go_sem ↓] Go.wp_at_zero Go.wp_at_succ

def Tryz.mSortR_ren : Go.Shelf.Ren := ⟨fun | 6 => 118 | 15 => 125 | 14 => 173 | 28 => 186 | 29 => 187 | 20 => 224 | 21 => 225 | 22 => 226 | 23 => 227 | 24 => 228 | 25 => 229 | 26 => 230 | 27 => 231 | 46 => 249 | 47 => 234 | 48 => 235 | 49 => 250 | 50 => 251 | 57 => 254 | n => n, fun | 22 => 25 | 24 => 32 | 25 => 121 | 3 => 3 | 39 => 127 | 0 => 0 | 53 => 167 | 55 => 114 | 4 => 4 | 46 => 160 | 45 => 159 | 50 => 164 | 5 => 5 | 9 => 9 | 66 => 186 | 70 => 190 | 76 => 198 | 77 => 199 | n => n, fun | n => n⟩
theorem Tryz.mSortR : Go.Proofs.SlLaysF.n6 Tryz.prog Tryz.mSortR_ren := {
  mixed := by kernel_rfl
  f6 := ⟨Tryz.f118.name, by decide, Tryz.func118.trans (congrArg some (by kernel_rfl))⟩
  f14 := ⟨Tryz.f173.name, by decide, Tryz.func173.trans (congrArg some (by kernel_rfl))⟩
  f15 := Tryz.func125.trans (congrArg some (by kernel_rfl))
  f20 := ⟨Tryz.f224.name, by decide, Tryz.func224.trans (congrArg some (by kernel_rfl))⟩
  f21 := ⟨Tryz.f225.name, by decide, Tryz.func225.trans (congrArg some (by kernel_rfl))⟩
  f22 := ⟨Tryz.f226.name, by decide, Tryz.func226.trans (congrArg some (by kernel_rfl))⟩
  f23 := ⟨Tryz.f227.name, by decide, Tryz.func227.trans (congrArg some (by kernel_rfl))⟩
  f24 := ⟨Tryz.f228.name, by decide, Tryz.func228.trans (congrArg some (by kernel_rfl))⟩
  f25 := ⟨Tryz.f229.name, by decide, Tryz.func229.trans (congrArg some (by kernel_rfl))⟩
  f26 := ⟨Tryz.f230.name, by decide, Tryz.func230.trans (congrArg some (by kernel_rfl))⟩
  f27 := ⟨Tryz.f231.name, by decide, Tryz.func231.trans (congrArg some (by kernel_rfl))⟩
  f28 := Tryz.func186.trans (congrArg some (by kernel_rfl))
  f29 := Tryz.func187.trans (congrArg some (by kernel_rfl))
  f46 := ⟨Tryz.f249.name, by decide, Tryz.func249.trans (congrArg some (by kernel_rfl))⟩
  f47 := Tryz.func234.trans (congrArg some (by kernel_rfl))
  f48 := Tryz.func235.trans (congrArg some (by kernel_rfl))
  f49 := ⟨Tryz.f250.name, by decide, Tryz.func250.trans (congrArg some (by kernel_rfl))⟩
  f50 := ⟨Tryz.f251.name, by decide, Tryz.func251.trans (congrArg some (by kernel_rfl))⟩
  f57 := ⟨Tryz.f254.name, by decide, Tryz.func254.trans (congrArg some (by kernel_rfl))⟩
  t0 := Tryz.underlying0
  a0 := Tryz.isAgg0
  z0 := Tryz.sizeOf0
  v0 := Tryz.zeroValue0
  t3 := Tryz.underlying3
  a3 := Tryz.isAgg3
  z3 := Tryz.sizeOf3
  v3 := Tryz.zeroValue3
  t4 := Tryz.underlying4
  a4 := Tryz.isAgg4
  z4 := Tryz.sizeOf4
  v4 := Tryz.zeroValue4
  t5 := Tryz.underlying5
  a5 := Tryz.isAgg5
  z5 := Tryz.sizeOf5
  v5 := Tryz.zeroValue5
  t9 := Tryz.underlying9
  a9 := Tryz.isAgg9
  z9 := Tryz.sizeOf9
  v9 := Tryz.zeroValue9
  t22 := Tryz.underlying25
  a22 := Tryz.isAgg25
  z22 := Tryz.sizeOf25
  v22 := Tryz.zeroValue25
  a24 := Tryz.isAgg32
  z24 := Tryz.sizeOf32
  t25 := Tryz.underlying121
  a25 := Tryz.isAgg121
  z25 := Tryz.sizeOf121
  v25 := Tryz.zeroValue121
  t39 := Tryz.underlying127
  a39 := Tryz.isAgg127
  z39 := Tryz.sizeOf127
  v39 := Tryz.zeroValue127
  t45 := Tryz.underlying159
  a45 := Tryz.isAgg159
  z45 := Tryz.sizeOf159
  v45 := Tryz.zeroValue159
  t46 := Tryz.underlying160
  a46 := Tryz.isAgg160
  z46 := Tryz.sizeOf160
  v46 := Tryz.zeroValue160
  t50 := Tryz.underlying164
  a50 := Tryz.isAgg164
  z50 := Tryz.sizeOf164
  v50 := Tryz.zeroValue164
  t53 := Tryz.underlying167
  a53 := Tryz.isAgg167
  z53 := Tryz.sizeOf167
  v53 := Tryz.zeroValue167
  t55 := Tryz.underlying114
  a55 := Tryz.isAgg114
  z55 := Tryz.sizeOf114
  v55 := Tryz.zeroValue114
  t66 := Tryz.underlying186
  a66 := Tryz.isAgg186
  z66 := Tryz.sizeOf186
  v66 := Tryz.zeroValue186
  t70 := Tryz.underlying190
  a70 := Tryz.isAgg190
  z70 := Tryz.sizeOf190
  v70 := Tryz.zeroValue190
  t76 := Tryz.underlying198
  a76 := Tryz.isAgg198
  z76 := Tryz.sizeOf198
  v76 := Tryz.zeroValue198
  t77 := Tryz.underlying199
  a77 := Tryz.isAgg199
  z77 := Tryz.sizeOf199
  v77 := Tryz.zeroValue199
}

/-! ### a row of any kind -/
theorem holds_of_blockE {α : Type} [Inhabited α] (enc : α → Value) {w : World} {g : Nat} {cur : Array Value} {e : TypeId} {ss : List α} (hb : w.heap[g]? = some (.cells cur e (0, 0))) (ht : cur.toList.take ss.length = ss.map enc) : Go.Sort.Holds enc w g 0 ss.toArray := by
  intro j hj
  have hj' : j < ss.length := by simpa using hj
  refine ⟨?_, by simp [World.frozen?, hb]⟩
  have h1 : (cur.toList.take ss.length)[j]? = (ss.map enc)[j]? := by rw [ht]
  rw [List.getElem?_take_of_lt hj'] at h1
  simp only [World.cell?, hb, Nat.zero_add]
  simp only [Option.isSome_none, Bool.false_eq_true, if_false]
  rw [← Array.getElem?_toList, h1]
  simp [hj']
theorem heap_sortedE {α : Type} [Inhabited α] (enc : α → Value) {w : World} {g n : Nat} {os : Array Obj} {cur : Array Value} {e : TypeId} {fr : Nat × Nat} (d : Array α) (hb : w.heap[g]? = some (.cells cur e fr)) :
    (Go.Sort.grow (Go.Sort.putRow enc (Go.Sort.ahead w n) g 0 d) os).heap[g]? = some (.cells (Go.Sort.putCells enc 0 d cur) e fr) := by
  have hg : g < w.heap.size := (Array.getElem?_eq_some_iff.1 hb).1
  rw [Go.Sort.heap_grow_old _ _ (by simpa using hg)]
  simp [Go.Sort.putRow, Go.Sort.mapBlock, Go.Sort.ahead, Array.getElem?_modify, hb, Go.Sort.onCells]
theorem grownBy_sortedE {α : Type} [Inhabited α] (enc : α → Value) {w : World} {g n : Nat} {os : Array Obj} (d : Array α) : w.grownBy (Go.Sort.grow (Go.Sort.putRow enc (Go.Sort.ahead w n) g 0 d) os) (some g) := by
  refine ⟨rfl, rfl, rfl, by simp, fun k hk hne => ?_⟩
  rw [Go.Sort.heap_grow_old _ _ (by simpa using hk)]
  have : g ≠ k := fun e => hne (by rw [e])
  simp [Go.Sort.putRow, Go.Sort.mapBlock, Go.Sort.ahead, Array.getElem?_modify, this]
theorem take_putCellsE {α : Type} [Inhabited α] (enc : α → Value) (cur : Array Value) (d : Array α) (h : d.size ≤ cur.size) : (Go.Sort.putCells enc 0 d cur).toList.take d.size = d.toList.map enc := by
  apply List.ext_getElem?
  intro j
  by_cases hj : j < d.size
  · rw [List.getElem?_take_of_lt hj, Array.getElem?_toList]
    simp [Go.Sort.putCells, hj, show j < cur.size by omega]
  · rw [List.getElem?_take_eq_none (by omega), List.getElem?_eq_none (by simp; omega)]

end Go.Proofs.YtdlmohigkkdegaaGreat
end

section
/- slices.SortFunc at [][]int64 with slices.Compare: the rows of an owned list of rows are put in order. -/
namespace Go.Proofs.YtdlmohigkkdegaaGreat
set_option linter.unusedSimpArgs false
set_option linter.unusedVariables false
open Go.RowKit

theorem callR_cmp : ∀ (args : Array Value) (W : World), (callFunc 119 args).run Tryz.prog W = .ok (.enter 119 args) W :=
  fun args W => callFunc_go (P := Tryz.prog) Tryz.func119 (by kernel_rfl) (by kernel_rfl) args W
def cfR (A : List (List Int)) (x y : Fin A.length) : Int := cmpI (xat A x) (xat A y)
theorem swoR (A : List (List Int)) : Go.Sort.SWO (Go.Proofs.ltOf (cfR A)) where
  irrefl x := by simp [Go.Proofs.ltOf, cfR, cmpI_self]
  trans x y z h1 h2 := by
    have a1 := of_decide_eq_true h1
    have a2 := of_decide_eq_true h2
    refine decide_eq_true ?_
    unfold cfR at *
    have h3 := cmpI_trans (a := xat A x) (b := xat A y) (c := xat A z) (by omega) (by omega)
    rcases Int.lt_or_le (cmpI (xat A x) (xat A z)) 0 with h | h
    · exact h
    · have h4 := cmpI_eq (a := xat A x) (b := xat A z) (by omega)
      rw [h4] at a1
      have := cmpI_neg (xat A y) (xat A z)
      omega
  ntrans x y z h1 h2 := by
    have a1 := of_decide_eq_false h1
    have a2 := of_decide_eq_false h2
    refine decide_eq_false ?_
    unfold cfR at *
    have n1 := cmpI_neg (xat A x) (xat A y)
    have n2 := cmpI_neg (xat A y) (xat A z)
    have n3 := cmpI_neg (xat A x) (xat A z)
    have h3 := cmpI_trans (a := xat A z) (b := xat A y) (c := xat A x) (by omega) (by omega)
    omega
theorem fin_map {α : Type} (us : List α) (d : α) {n : Nat} (h : us.length = n) : (List.finRange n).map (fun k : Fin n => us.getD k d) = us := by
  subst h
  apply List.ext_getElem
  · simp
  · intro i h1 h2
    simp at h1 ⊢
theorem rows_fin {us : List Value} {A : List (List Int)} (h : us.length = A.length) : rowsI us A = (List.finRange A.length).map fun k : Fin A.length => row 2 (vat us k) (iv (xat A k)) := by
  apply List.ext_getElem
  · simp [rowsI, h]
  · intro i h1 h2
    simp [rowsI, h] at h1
    simp [rowsI, vat, xat, h, h1]
set_option maxHeartbeats 1000000 in
theorem SortRows_c {B : Nat} {w0 w : World} {L : List Ent} {v : Value} {us : List Value} {A : List (List Int)} (hS : St B w0 w (own2 v us A ++ L)) (hl : us.length = A.length) (hlen : A.length < 100000) :
    Calls Tryz.prog 118 #[v, .func (.func 119) #[] #[]] w fun e w' => ∃ us' : List Value, e = .returned (.tuple #[]) ∧ us'.length = A.length ∧ St B w0 w' (own2 v us' (srtL A) ++ L) := by
  have hi : (own2 v us A ++ L)[0]? = some (row 32 v us) := rfl
  by_cases h0 : A = []
  · subst h0
    have hu : us = [] := by simpa using hl
    subst hu
    obtain ⟨a, c, hv⟩ := (hS.rd 0 hi).sl.sh
    subst hv
    refine Calls.mono (Go.Proofs.AnyF.slices_SortFunc_none (P := Tryz.prog) (ρ := Tryz.mSortR_ren) { Tryz.mSortR with } a c (.func (.func 119) #[] #[]) w) ?_
    rintro e w' ⟨rfl, rfl⟩
    exact ⟨[], rfl, rfl, hS⟩
  · have hpos : 0 < A.length := by cases A with
      | nil => exact absurd rfl h0
      | cons _ _ => simp
    haveI : Inhabited (Fin A.length) := ⟨⟨0, hpos⟩⟩
    have hrow : ∀ {W : World} {u : List Value}, St B w0 W (row 32 v u :: (rowsI us A ++ L)) → ∀ k : Fin A.length, RdI W (vat us k) (xat A k) := by
      intro W u h k
      refine h.rdI (k + 1) (e := 2) ?_
      rw [List.getElem?_cons_succ, List.getElem?_append_left (by rw [rowsI_len hl]; exact k.isLt)]
      exact rowsI_get hl k.isLt
    have hok := hS.ok _ (List.mem_of_getElem? hi)
    rcases hok with ⟨hp, _⟩ | ⟨_, hv, hu⟩ | ⟨_, g, cap, cur, hv, hB, hh, h1, h2, h3, h4⟩
    · simp [row] at hp
    · simp only [row] at hu
      rw [hu] at hl; simp at hl; omega
    · simp only [row] at hv h1 h4 hh
      subst hv
      have hblk : g < w.heap.size := (Array.getElem?_eq_some_iff.1 hh).1
      have hOne : Go.Proofs.OneCell (fun k : Fin A.length => vat us k) := fun k => (hrow hS k).sl.one
      have hd : (List.finRange A.length).toArray.size = us.length := by simp [hl]
      have hH : Go.Sort.Holds (fun k : Fin A.length => vat us k) w g 0 (List.finRange A.length).toArray := holds_of_blockE _ hh (by
        rw [List.length_finRange]
        exact (by rw [← hl]; exact h4 : cur.toList.take A.length = us).trans (fin_map us undef hl).symm)
      have putAll : ∀ (m : Nat) (os : Array Obj) (dk : Array (Fin A.length)), dk.size = us.length → St B w0 (Go.Proofs.sortWorld (fun k : Fin A.length => vat us k) w g 0 m dk os) (row 32 (.slice (some ⟨g, 0, none⟩) us.length cap) (dk.toList.map fun k : Fin A.length => vat us k) :: (rowsI us A ++ L)) := by
        intro m os dk hs
        have := hS.put 0 hi (w' := Go.Proofs.sortWorld (fun k : Fin A.length => vat us k) w g 0 m dk os) ?_ (row 32 (.slice (some ⟨g, 0, none⟩) us.length cap) (dk.toList.map fun k : Fin A.length => vat us k)) (.inr (.inr ⟨rfl, g, cap, _, ?_, hB, heap_sortedE (fun k : Fin A.length => vat us k) _ hh, ?_, h2, ?_, ?_⟩)) (.inl rfl)
        · exact this
        · exact grownBy_sortedE (fun k : Fin A.length => vat us k) dk
        · simp [row, hs]
        · simp [row, hs]; exact h1
        · simp [Go.Sort.putCells, h3]
        · have := take_putCellsE (fun k : Fin A.length => vat us k) cur dk (by omega)
          rw [hs] at this
          simpa [row, hs] using this
      have hcmp : Go.Proofs.CmpLays1 Tryz.prog 119 #[] (fun k : Fin A.length => vat us k) (cfR A) g 0 (List.finRange A.length).toArray.size w := by
        refine Go.Proofs.CmpReads.lays fun m os dk hs x y => ?_
        have hp := putAll m os dk (by rw [hs, hd])
        refine (Compare_c _ _ _ _ _ (hrow hp x) (hrow hp y)).mono ?_
        rintro e w' ⟨rfl, rfl⟩
        exact ⟨rfl, 0, rfl⟩
      have hc := Go.Proofs.Any.slices_SortFunc (P := Tryz.prog) (ρ := Tryz.mSortR_ren) Tryz.mSortR (fun k : Fin A.length => vat us k) hOne (cfR A) (swoR A) 119 #[] g 0 cap (List.finRange A.length).toArray w callR_cmp hcmp hH hblk (by rw [hd]; omega)
      rw [hd] at hc
      refine Calls.mono hc ?_
      rintro e w' ⟨rfl, d', n, os, hperm, hso, rfl⟩
      have hds : d'.size = us.length := by have := hperm.1; omega
      have hpm : d'.toList.Perm (List.finRange A.length) := by
        have := hperm.2.2
        rw [show d'.extract 0 us.length = d' by rw [← hds]; simp, show (List.finRange A.length).toArray.extract 0 us.length = (List.finRange A.length).toArray by rw [← hd]; simp only [Array.extract_size]] at this
        simpa using this
      have hA : (d'.toList.map fun k : Fin A.length => xat A k) = srtL A := by
        refine srtL_eq ?_ ?_
        · have := hpm.map fun k : Fin A.length => xat A k
          rwa [show (List.finRange A.length).map (fun k : Fin A.length => xat A k) = A from fin_map A [] rfl] at this
        · rw [List.pairwise_map, List.pairwise_iff_getElem]
          intro i j hi' hj' hij
          have := hso i j (by omega) hij (by rw [← hds]; simpa using hj')
          have := of_decide_eq_false this
          unfold cfR at this
          have e1 : d'[i]! = d'.toList[i] := by simp at hi'; simp [hi']
          have e2 : d'[j]! = d'.toList[j] := by simp at hj'; simp [hj']
          rw [e1, e2] at this
          have := cmpI_neg (xat A d'.toList[j]) (xat A d'.toList[i])
          exact decide_eq_true (by omega)
      have hp := putAll n os d' hds
      refine ⟨d'.toList.map fun k : Fin A.length => vat us k, rfl, by simp [hds, hl], ?_⟩
      rw [← hA]
      refine hp.perm ?_
      unfold own2
      refine List.Perm.cons _ (List.Perm.append_right _ ?_)
      rw [rows_fin hl]
      refine (hpm.map _).symm.trans (.of_eq ?_)
      unfold rowsI
      rw [List.zipWith_map, List.zipWith_self]
end Go.Proofs.YtdlmohigkkdegaaGreat
end

section
/- The source of choices that the laws draw from. -/
namespace Go.Proofs.YtdlmohigkkdegaaGreat
set_option linter.unusedSimpArgs false
set_option linter.unusedVariables false
open Go.RowKit

/-- the cells of some bytes -/
def bv (bs : List UInt8) : List Value := bs.map fun b => Value.int .u8 b.toNat
def RdB (w : World) (v : Value) (bs : List UInt8) : Prop := Rd w v (bv bs)
theorem bv_len (bs : List UInt8) : (bv bs).length = bs.length := by simp [bv]
def bnth (bs : List UInt8) (j : Nat) : Int := ((bs.getD j 0).toNat : Int)
theorem bnth_bd (bs : List UInt8) (j : Nat) : 0 ≤ bnth bs j ∧ bnth bs j ≤ 255 := by
  unfold bnth; have := (bs.getD j 0).toNat_lt; omega
theorem bv_get {bs : List UInt8} {j : Nat} (h : j < bs.length) : (bv bs).getD j undef = .int .u8 (bnth bs j) := by
  simp [bv, bnth, List.getD, List.getElem?_eq_getElem h]

theorem Tryz.und_bs : Tryz.prog.underlying 22 = some (.slice 5) := by kernel_rfl
theorem Tryz.size_b : (Tryz.prog.info? 5).map (·.size) = some 1 := by kernel_rfl

section
variable {w w' : World} {v : Value} {bs : List UInt8}
theorem RdB.le (h : RdB w v bs) : bs.length ≤ 9223372036854775807 := by have := h.sl.le; rwa [bv_len] at this
theorem RdB.len (h : RdB w v bs) (ty : TypeId) (W : World) : (Builtin.len_ #[22] ty #[v]).run Tryz.prog W = .ok (.int .i64 bs.length) W := by
  have := run_len_sl (P := Tryz.prog) h.sl 22 ty Tryz.und_bs W; rwa [bv_len] at this
theorem RdB.ix (h : RdB w v bs) (k : IntKind) (i : Int) (h0 : 0 ≤ i) (hi : i < bs.length) (W : World) :
    (Instr.indexAt 22 v (.int k i)).run Tryz.prog W = .ok (.pointer (some (el v i.toNat))) W :=
  run_ix_sl (P := Tryz.prog) h.sl 22 Tryz.und_bs Tryz.size_b k i h0 (by rw [bv_len]; exact hi) W
theorem RdB.cell (h : RdB w v bs) (j : Nat) (hj : j < bs.length) : w.cell? (el v j) = some (.int .u8 (bnth bs j)) := by
  rw [Rd.cell h (by rw [bv_len]; exact hj), bv_get hj]
theorem RdB.keep (h : RdB w v bs) (hb : Below w.heap.size w w') : RdB w' v bs := Rd.keep h hb
theorem RdB.sh (h : RdB w v bs) : ∃ a n c, v = .slice a n c := by obtain ⟨a, c, hv, _⟩ := h.sl; exact ⟨a, _, c, hv⟩
end
theorem St.oldB {w0 w : World} {L : List Ent} {v : Value} {bs : List UInt8} (h : St w0.heap.size w0 w L) (hr : RdB w0 v bs) : RdB w v bs := Rd.keep hr h.below

/-- the source lies at the head of what is owned, at most K bytes were drawn -/
def Src (w0 w : World) (cv : Value) (g : Nat) (K : Nat) (L : List Ent) : Prop :=
  ∃ p seed : Int, 0 ≤ p ∧ p ≤ K ∧ St w0.heap.size w0 w (box 116 g [cv, .int .i64 p, .int .u64 seed] :: L)

def AnInt (lo hi : Int) (R : World → Prop) (e : Ending) (w' : World) : Prop := ∃ x : Int, lo ≤ x ∧ x ≤ hi ∧ e = .returned (.int .i64 x) ∧ R w'

theorem Src.mono {w0 w : World} {cv : Value} {g K K' : Nat} {L : List Ent} (h : Src w0 w cv g K L) (hk : K ≤ K') : Src w0 w cv g K' L := by
  obtain ⟨p, s, h0, h1, h2⟩ := h; exact ⟨p, s, h0, by omega, h2⟩
theorem Src.st {w0 w : World} {cv : Value} {g K : Nat} {L : List Ent} (h : Src w0 w cv g K L) : St w0.heap.size w0 w L := by
  obtain ⟨p, s, h0, h1, h2⟩ := h; exact h2.sub (List.sublist_cons_self _ _)

theorem and255 (x : Int) : 0 ≤ wrap64 (bits BinOp.and IntKind.u64 (IntKind.u64.wrap x / 1099511627776) 255) ∧ wrap64 (bits BinOp.and IntKind.u64 (IntKind.u64.wrap x / 1099511627776) 255) ≤ 255 := by
  have h1 : 0 ≤ IntKind.u64.wrap x / 1099511627776 ∧ IntKind.u64.wrap x / 1099511627776 < 18446744073709551616 := by
    simp [IntKind.wrap, IntKind.bits, IntKind.signed]; omega
  rw [u64_and _ _ h1.1 h1.2 (by omega) (by omega)]
  have e255 : (255 : Int).toNat = 255 := rfl
  have h2 := Nat.and_le_right (n := (IntKind.u64.wrap x / 1099511627776).toNat) (m := (255 : Int).toNat)
  rw [e255] at h2 ⊢
  unfold wrap64
  omega

set_option maxHeartbeats 1000000 in
theorem next_c (w0 w : World) (cv : Value) (bs : List UInt8) (g K : Nat) (L : List Ent) (hb : RdB w0 cv bs) (h : Src w0 w cv g K L) (hK : K < 1099511627776) :
    Calls Tryz.prog 163 #[.pointer (some ⟨g, 0, none⟩)] w (AnInt 0 255 fun w' => Src w0 w' cv g (K + 1) L) := by
  obtain ⟨p, seed, h0, h1, hS⟩ := h
  obtain ⟨q, rfl⟩ := Int.eq_ofNat_of_zero_le h0
  have hc0 := hS.bcell 0 rfl 0 rfl
  have hc1 := hS.bcell 0 rfl 1 rfl
  have hc2 := hS.bcell 0 rfl 2 rfl
  have hf := hS.bfree 0 rfl
  have hbw := hS.oldB hb
  have hln := hb.len
  have hix := hb.ix
  have hcell := hbw.cell
  have hle := hb.le
  have hbd := bnth_bd bs q
  obtain ⟨hb0, hb1⟩ := hbd
  by_cases hlt : q < bs.length
  · have hlt' : q + 1 ≤ bs.length := hlt
    go_enter Tryz.func163, Tryz.ntmps163
    go_wp2_with fail
    go_quiet (fail)
    go_wp2_with fail
    go_quiet (fail)
    go_wp2_with fail
    refine abs_wp (((hS.drewN _).bstore 0 rfl 1 _).bstore 0 rfl 2 _) ?_
    intro w2 hS2
    clear hc0 hc1 hc2 hf
    have hc0 := hS2.bcell 0 rfl 0 rfl
    have hc1 := hS2.bcell 0 rfl 1 rfl
    go_quiet (fail)
    go_wp2_with fail
    go_ret
    exact ⟨_, hb0, hb1, rfl, _, _, by omega, by omega, hS2.drewN _⟩
  · have hlt' : ¬ q + 1 ≤ bs.length := by omega
    go_enter Tryz.func163, Tryz.ntmps163
    go_wp2_with fail
    go_quiet (fail)
    go_wp2_with fail
    refine abs_wp (((hS.drewN _).bstore 0 rfl 1 _).bstore 0 rfl 2 _) ?_
    intro w2 hS2
    clear hc0 hc1 hc2 hf
    have hc0 := hS2.bcell 0 rfl 0 rfl
    have hc1 := hS2.bcell 0 rfl 1 rfl
    have hc2 := hS2.bcell 0 rfl 2 rfl
    go_quiet (fail)
    go_wp2_with fail
    go_ret
    exact ⟨_, (and255 _).1, (and255 _).2, rfl, _, _, by omega, by omega, hS2.drewN _⟩

set_option maxHeartbeats 1000000 in
theorem pick_c (w0 w : World) (cv : Value) (bs : List UInt8) (g K : Nat) (L : List Ent) (n : Int) (hb : RdB w0 cv bs) (h : Src w0 w cv g K L) (hK : K < 1000000000000) :
    Calls Tryz.prog 97 #[.pointer (some ⟨g, 0, none⟩), .int .i64 n] w (AnInt 0 (max (n - 1) 0) fun w' => Src w0 w' cv g (K + 2) L) := by
  by_cases h1 : n ≤ 1
  · go_enter Tryz.func97, Tryz.ntmps97
    go_wp2_with fail
    go_ret
    exact ⟨0, by omega, by omega, rfl, h.mono (by omega)⟩
  · by_cases h2 : n ≤ 200
    · go_enter Tryz.func97, Tryz.ntmps97
      go_wp2_with fail
      refine (next_c w0 w cv bs g K L hb h (by omega)).mono ?_
      rintro e w1 ⟨x, hx0, hx1, rfl, h3⟩
      go_wp2_with fail
      go_ret
      have := Int.emod_nonneg x (show n ≠ 0 by omega)
      have := Int.emod_lt_of_pos x (show 0 < n by omega)
      exact ⟨_, by omega, by omega, rfl, h3.mono (by omega)⟩
    · go_enter Tryz.func97, Tryz.ntmps97
      go_wp2_with fail
      refine (next_c w0 w cv bs g K L hb h (by omega)).mono ?_
      rintro e w1 ⟨x, hx0, hx1, rfl, h3⟩
      go_wp2_with fail
      refine (next_c w0 w1 cv bs g (K + 1) L hb h3 (by omega)).mono ?_
      rintro e w2 ⟨y, hy0, hy1, rfl, h4⟩
      go_wp2_with fail
      go_ret
      have := Int.emod_nonneg (x * 256 + y) (show n ≠ 0 by omega)
      have := Int.emod_lt_of_pos (x * 256 + y) (show 0 < n by omega)
      exact ⟨_, by omega, by omega, rfl, h4.mono (by omega)⟩

theorem l00From_c (w : World) (cv : Value) (bs : List UInt8) (hb : RdB w cv bs) :
    Calls Tryz.prog 43 #[cv] w fun e w' => e = .returned (.pointer (some ⟨w.heap.size, 0, none⟩)) ∧ Src w w' cv w.heap.size 0 [] := by
  obtain ⟨av, n, c, rfl⟩ := hb.sh
  go_enter Tryz.func43, Tryz.ntmps43
  go_wp2_with fail
  go_ret
  exact ⟨rfl, 0, 0, by omega, by omega, (St.refl w).newbox _ _⟩
end Go.Proofs.YtdlmohigkkdegaaGreat
end

section
/- Walks: sets. -/
namespace Go.Proofs.YtdlmohigkkdegaaGreat
set_option linter.unusedSimpArgs false
set_option linter.unusedVariables false
open Go.RowKit

theorem validSetB_32 (xs : List Int) : validSetB xs 32 = incB (-1) 32 xs := by simp [validSetB, inB]

/-- the first place of a number from place k on, or -1 -/
def idxF (x : Int) (xs : List Int) (k : Nat) : Int := match (xs.drop k).findIdx? (x == ·) with | some j => (k + j : Nat) | none => -1

set_option maxHeartbeats 1000000 in
theorem IndexS_c (v : Value) (xs : List Int) (x : Int) (w : World) (hv : RdI w v xs) :
    Calls Tryz.prog 127 #[v, .int .i64 x] w fun e w' => e = .returned (.int .i64 (idxF x xs 0)) ∧ w = w' := by
  have hln := hv.len
  have hix := hv.ix
  have hcell := hv.cell
  have hm := hv.le
  go_enter Tryz.func127, Tryz.ntmps127
  go_wp2_with fail
  go_loop [5, 8] (fun _ i => ∃ k : Nat, k ≤ xs.length ∧ i = .int .i64 k ∧ Hid (idxF x xs 0 = idxF x xs k)) (fun _ i => xs.length - (intOf i).toNat)
  case atStart => exact ⟨0, by omega, rfl, rfl⟩
  case round =>
    obtain ⟨k, hk, rfl, hI⟩ := hrel
    by_cases hlt : k < xs.length
    · by_cases h1 : x = nth xs k
      · have f1 := eq_t h1
        have H1 := Lib.hid h1; clear h1
        go_wp2_with fail
        go_ret
        refine ⟨ret_i64 ?_, rfl⟩
        rw [hI.out, idxF, drop_nth hlt, List.findIdx?_cons, f1]; simp
      · have f1 := eq_f h1
        have H1 := Lib.hid h1; clear h1
        go_wp2_with fail
        go_round
        case rel =>
          refine ⟨k + 1, by omega, by go_num, ?_⟩
          rw [Hid, hI.out, idxF, drop_nth hlt, List.findIdx?_cons, f1]
          simp only [idxF]
          cases (xs.drop (k + 1)).findIdx? (x == ·) <;> simp <;> omega
        case measure => simp [intOf]; omega
    · go_wp2_with fail
      go_ret
      exact ⟨ret_i64 (by rw [hI.out, idxF, List.drop_of_length_le (by omega)]; rfl), rfl⟩

theorem idxF_ge {x : Int} {xs : List Int} : decide (0 ≤ idxF x xs 0) = xs.contains x := by
  unfold idxF
  rw [List.drop_zero]
  cases h : xs.findIdx? (x == ·) with
  | none =>
    have hn : xs.contains x = false := by
      rw [Bool.eq_false_iff]; intro hc
      rw [List.contains_iff_mem] at hc
      have := List.findIdx?_eq_none_iff.1 h x hc
      simp at this
    rw [hn]; simp
  | some j =>
    have hy : xs.contains x = true := by
      rw [List.contains_iff_mem]
      obtain ⟨hj, hp, _⟩ := List.findIdx?_eq_some_iff_getElem.1 h
      have : x = xs[j] := by simpa using hp
      rw [this]; exact List.getElem_mem hj
    rw [hy]; simp

theorem ContainsS_c (v : Value) (xs : List Int) (x : Int) (w : World) (hv : RdI w v xs) :
    Calls Tryz.prog 62 #[v, .int .i64 x] w fun e w' => e = .returned (.bool (decide (x ∈ xs))) ∧ w = w' := by
  go_enter Tryz.func62, Tryz.ntmps62
  go_wp2_with fail
  refine (IndexS_c v xs x w hv).mono ?_
  rintro e w1 ⟨rfl, rfl⟩
  go_wp2_with fail
  go_ret
  exact ⟨ret_bool (by rw [← ce]; exact idxF_ge), rfl⟩

set_option maxHeartbeats 1000000 in
set_option maxRecDepth 100000 in
theorem b10Nums_c (va vb : Value) (xs ys : List Int) (w : World) (ha : RdI w va xs) (hb : RdI w vb ys) :
    Calls Tryz.prog 11 #[va, vb] w (GivesB w (decide (xs = ys))) := by
  have hla := ha.len
  have hlb := hb.len
  have hia := ha.ix
  have hib := hb.ix
  have hma := ha.le
  by_cases hne : xs.length = ys.length
  · have f0 : ((xs.length : Int) != (ys.length : Int)) = false := ne_f (by omega)
    have hle : xs.length ≤ ys.length := by omega
    have Hne := Lib.hid hne; clear hne
    go_enter Tryz.func11, Tryz.ntmps11
    go_wp2_with fail
    go_loopw [5] (fun i wr => ∃ k : Nat, k ≤ xs.length ∧ i = .int .i64 k ∧ Hid (∀ j, j < k → nth xs j = nth ys j) ∧ St w.heap.size w wr []) (fun i _ => xs.length - (intOf i).toNat)
    case atStart => exact ⟨0, by omega, rfl, fun j hj => by omega, St.refl w⟩
    case round =>
      obtain ⟨k, hk, rfl, hI, hS⟩ := hrel
      by_cases hlt : k < xs.length
      · have hqa := fun s : SS w.heap.size w [] => (s.st.oldI ha).cell k hlt
        have hqb := fun s : SS w.heap.size w [] => (s.st.oldI hb).cell k (by omega)
        have hk2 : k < ys.length := by omega
        by_cases h1 : nth xs k = nth ys k
        · have f1 := ne_f h1
          have H1 := Lib.hid h1; clear h1
          go_wp2_with fail
          have hne : Nonempty (SS _ _ _) := ⟨⟨_, hS⟩⟩
          refine wp_region_st (by kernel_rfl) (by kernel_rfl) hS ?_
          repeat (go_big_quiet_step (fail))
          refine wpQuiet_nil ?_
          rintro _ ⟨s2, rfl⟩
          have hS2 := s2.st
          generalize s2.w = w2 at hS2 ⊢
          go_wp2_with fail
          go_roundw
          case rel => exact ⟨k + 1, by omega, by go_num, fun j hj => by
            by_cases e : j = k
            · subst e; exact H1.out
            · exact hI.out j (by omega), hS2⟩
          case measure => simp [intOf]; omega
        · have f1 := ne_t h1
          have H1 := Lib.hid h1; clear h1
          go_wp2_with fail
          have hne : Nonempty (SS _ _ _) := ⟨⟨_, hS⟩⟩
          refine wp_region_st (by kernel_rfl) (by kernel_rfl) hS ?_
          repeat (go_big_quiet_step (fail))
          refine wpQuiet_nil ?_
          rintro _ ⟨s2, rfl⟩
          have hS2 := s2.st
          generalize s2.w = w2 at hS2 ⊢
          go_wp2_with fail
          go_ret
          exact ⟨ret_bool (by symm; rw [decide_eq_false_iff_not]; intro e; subst e; exact H1.out rfl), hS2⟩
      · go_wp2_with fail
        go_ret
        refine ⟨ret_bool ?_, hS⟩
        symm; rw [decide_eq_true_iff]
        apply List.ext_getElem Hne.out
        intro j h1 h2
        have := hI.out j (by omega)
        rwa [nth_eq h1, nth_eq h2] at this
  · have f0 : ((xs.length : Int) != (ys.length : Int)) = true := ne_t (by omega)
    have Hne := Lib.hid hne; clear hne
    go_enter Tryz.func11, Tryz.ntmps11
    go_wp2_with fail
    go_ret
    exact ⟨ret_bool (by symm; rw [decide_eq_false_iff_not]; intro e; exact Hne.out (by rw [e])), St.refl w⟩

set_option maxHeartbeats 2000000 in
set_option maxRecDepth 100000 in
theorem filtered_c (K : FuncId) (hcf : ∀ (args : Array Value) (W : World), (callFunc K args).run Tryz.prog W = .ok (.enter K args) W) (f : Bool → Bool → Bool) (hK : ∀ (a b : Bool) (W : World), Calls Tryz.prog K #[.bool a, .bool b] W fun e w' => e = .returned (.bool (f a b)) ∧ W = w')
    (va vb : Value) (xs ys : List Int) (w : World) (ha : RdI w va xs) (hb : RdI w vb ys) :
    Calls Tryz.prog 122 #[va, vb, .func (.func K) #[] #[]] w (MakesI w (filtR f xs ys)) := by
  have HK := Lib.hid hK
  clear hK
  have vx := validSetB_32 xs
  have vy := validSetB_32 ys
  by_cases h1 : IsSet xs
  · have h1' : incB (-1) 32 xs = true := h1
    by_cases h2 : IsSet ys
    · have h2' : incB (-1) 32 ys = true := h2
      have Hg := Lib.hid (show filtR f xs ys = [] ++ upF (fun x => f (xs.contains x) (ys.contains x)) 0 32 by rw [filtR, if_pos ⟨h1, h2⟩]; rfl)
      go_enter Tryz.func122, Tryz.ntmps122
      go_wp2_with fail
      refine (ValidSet_c va xs 32 w ha).mono ?_
      rw [vx, h1']
      rintro e w1 ⟨rfl, rfl⟩
      go_wp2_with fail
      refine (ValidSet_c vb ys 32 w hb).mono ?_
      rw [vy, h2']
      rintro e w1 ⟨rfl, rfl⟩
      clear vx vy h1' h2'
      go_wp2_with fail
      go_loopw [7, 8] (fun v i wr => ∃ (k : Nat) (zs : List Int), k ≤ 32 ∧ zs.length ≤ k ∧ i = .int .i64 k ∧ Hid (filtR f xs ys = zs ++ upF (fun x => f (xs.contains x) (ys.contains x)) k (32 - k)) ∧
          St w.heap.size w wr [row 2 v (iv zs)]) (fun _ i _ => 32 - (intOf i).toNat)
      case atStart => exact ⟨0, [], by omega, by simp, rfl, Hg, (St.refl w).emp⟩
      case round =>
        obtain ⟨k, zs, hk, hz, rfl, hI, hS⟩ := hrel
        by_cases hlt : k < 32
        · go_wp2_with fail
          refine (ContainsS_c va xs k wr (hS.oldI ha)).mono ?_
          rintro e w2 ⟨rfl, rfl⟩
          go_wp2_with fail
          refine (ContainsS_c vb ys k wr (hS.oldI hb)).mono ?_
          rintro e w2 ⟨rfl, rfl⟩
          go_wp2_with fail
          refine (HK.out _ _ _).mono ?_
          rintro e w2 ⟨rfl, rfl⟩
          have hstep : upF (fun x => f (xs.contains x) (ys.contains x)) k (32 - k) = if f (xs.contains (k : Int)) (ys.contains (k : Int)) then (k : Int) :: upF (fun x => f (xs.contains x) (ys.contains x)) (k + 1) (32 - (k + 1)) else upF (fun x => f (xs.contains x) (ys.contains x)) (k + 1) (32 - (k + 1)) := by
            rw [show 32 - k = (32 - (k + 1)) + 1 by omega]; rfl
          rw [ce, ce] at hstep
          have Hs := Lib.hid hstep
          clear hstep
          by_cases hf : f (decide ((k : Int) ∈ xs)) (decide ((k : Int) ∈ ys)) = true
          · rw [hf]
            have Hf := Lib.hid hf; clear hf
            go_wp2_with (at_builtin; refine appI hS 0 rfl (by omega) rfl _ _ rfl rfl _ rfl ?_; intro v' w2 hS2)
            go_roundw
            case rel => exact ⟨k + 1, zs ++ [(k : Int)], by omega, by simp; omega, by go_num, by rw [Hid, hI.out, Hs.out, if_pos Hf.out]; simp, hS2⟩
            case measure => simp [intOf]; omega
          · have hf' : f (decide ((k : Int) ∈ xs)) (decide ((k : Int) ∈ ys)) = false := by simpa using hf
            rw [hf']
            have Hf := Lib.hid hf'; clear hf hf'
            go_wp2_with fail
            go_roundw
            case rel => exact ⟨k + 1, zs, by omega, by omega, by go_num, by rw [Hid, hI.out, Hs.out, Hf.out, if_neg (by simp)], hS⟩
            case measure => simp [intOf]; omega
        · go_wp2_with fail
          go_ret
          refine ⟨_, rfl, ?_⟩
          rw [hI.out, show 32 - k = 0 by omega]
          simp only [upF, List.append_nil]
          exact hS
    · have h2' : incB (-1) 32 ys = false := by simpa [IsSet] using h2
      go_enter Tryz.func122, Tryz.ntmps122
      go_wp2_with fail
      refine (ValidSet_c va xs 32 w ha).mono ?_
      rw [vx, h1']
      rintro e w1 ⟨rfl, rfl⟩
      go_wp2_with fail
      refine (ValidSet_c vb ys 32 w hb).mono ?_
      rw [vy, h2']
      rintro e w1 ⟨rfl, rfl⟩
      go_wp2_with fail
      go_ret
      exact ⟨_, rfl, by rw [filtR, if_neg (fun h => h2 h.2)]; exact (St.refl w).emp⟩
  · have h1' : incB (-1) 32 xs = false := by simpa [IsSet] using h1
    go_enter Tryz.func122, Tryz.ntmps122
    go_wp2_with fail
    refine (ValidSet_c va xs 32 w ha).mono ?_
    rw [vx, h1']
    rintro e w1 ⟨rfl, rfl⟩
    go_wp2_with fail
    go_ret
    exact ⟨_, rfl, by rw [filtR, if_neg (fun h => h1 h.1)]; exact (St.refl w).emp⟩
end Go.Proofs.YtdlmohigkkdegaaGreat
end

section
/- The source of choices: what lies beside it. -/
namespace Go.Proofs.YtdlmohigkkdegaaGreat
set_option linter.unusedSimpArgs false
set_option linter.unusedVariables false
open Go.RowKit

theorem Src.call {w0 w w' : World} {cv : Value} {g K : Nat} {L L' : List Ent} (h : Src w0 w cv g K L) (h' : St w.heap.size w w' L') : Src w0 w' cv g K (L ++ L') := by
  obtain ⟨p, s, h0, h1, hS⟩ := h
  exact ⟨p, s, h0, h1, hS.call h'⟩
theorem Src.sub {w0 w : World} {cv : Value} {g K : Nat} {L L' : List Ent} (h : Src w0 w cv g K L) (h' : L'.Sublist L) : Src w0 w cv g K L' := by
  obtain ⟨p, s, h0, h1, hS⟩ := h
  exact ⟨p, s, h0, h1, hS.sub (h'.cons_cons _)⟩
theorem Src.rdI {w0 w : World} {cv : Value} {g K : Nat} {L : List Ent} (h : Src w0 w cv g K L) (i : Nat) {e : TypeId} {v : Value} {xs : List Int} (hi : L[i]? = some (row e v (iv xs))) : RdI w v xs := by
  obtain ⟨p, s, h0, h1, hS⟩ := h
  exact hS.rdI (i + 1) hi

theorem Src.perm {w0 w : World} {cv : Value} {g K : Nat} {L L' : List Ent} (h : Src w0 w cv g K L) (h' : L.Perm L') : Src w0 w cv g K L' := by
  obtain ⟨p, s, h0, h1, hS⟩ := h
  exact ⟨p, s, h0, h1, hS.perm (h'.cons _)⟩
theorem Src.call0 {w0 w w' : World} {cv : Value} {g K : Nat} {L : List Ent} (h : Src w0 w cv g K L) (h' : St w.heap.size w w' []) : Src w0 w' cv g K L := by
  have := h.call h'; rwa [List.append_nil] at this
theorem Src.rd {w0 w : World} {cv : Value} {g K : Nat} {L : List Ent} (h : Src w0 w cv g K L) (i : Nat) {e : TypeId} {v : Value} {us : List Value} (hi : L[i]? = some (row e v us)) : Rd w v us := by
  obtain ⟨p, s, h0, h1, hS⟩ := h
  exact hS.rd (i + 1) hi
theorem Src.box {w0 w : World} {cv : Value} {g K : Nat} {L : List Ent} (h : Src w0 w cv g K L) (i : Nat) {e : TypeId} {gf : Nat} {us : List Value} (hi : L[i]? = some (Go.Proofs.YtdlmohigkkdegaaGreat.box e gf us)) (j : Nat) {u : Value} (hj : us[j]? = some u) : w.cell? ⟨gf, j, none⟩ = some u := by
  obtain ⟨p, s, h0, h1, hS⟩ := h
  exact hS.bcell (i + 1) hi j hj
theorem Src.bfree {w0 w : World} {cv : Value} {g K : Nat} {L : List Ent} (h : Src w0 w cv g K L) (i : Nat) {e : TypeId} {gf : Nat} {us : List Value} (hi : L[i]? = some (Go.Proofs.YtdlmohigkkdegaaGreat.box e gf us)) (j : Nat) : w.frozen? ⟨gf, j, none⟩ = false := by
  obtain ⟨p, s, h0, h1, hS⟩ := h
  exact hS.bfree (i + 1) hi j
theorem Src.bstore {w0 w : World} {cv : Value} {g K : Nat} {L : List Ent} (h : Src w0 w cv g K L) (i : Nat) {e : TypeId} {gf : Nat} {us : List Value} (hi : L[i]? = some (Go.Proofs.YtdlmohigkkdegaaGreat.box e gf us)) (j : Nat) (u : Value) :
    Src w0 (w.setCell ⟨gf, j, none⟩ u) cv g K (L.set i (Go.Proofs.YtdlmohigkkdegaaGreat.box e gf (us.set j u))) := by
  obtain ⟨p, s, h0, h1, hS⟩ := h
  exact ⟨p, s, h0, h1, hS.bstore (i + 1) hi j u⟩
/-- a new block behind a pointer, ahead of the others -/
theorem Src.newboxF {w0 w : World} {cv : Value} {g K : Nat} {L : List Ent} (h : Src w0 w cv g K L) (e : TypeId) (cs : Array Value) : Src w0 (w.alloc (.cells cs e)) cv g K (Go.Proofs.YtdlmohigkkdegaaGreat.box e w.heap.size cs.toList :: L) := by
  obtain ⟨p, s, h0, h1, hS⟩ := h
  exact ⟨p, s, h0, h1, (hS.newboxF e cs).perm (List.Perm.swap _ _ _)⟩
theorem Src.drew {w0 w : World} {cv : Value} {g K : Nat} {L : List Ent} (h : Src w0 w cv g K L) : Src w0 w.drew cv g K L := by
  obtain ⟨p, s, h0, h1, hS⟩ := h
  exact ⟨p, s, h0, h1, hS.drew⟩
theorem at_app {M L : List Ent} {i : Nat} {x : Ent} (h : L[i]? = some x) : (M ++ L)[M.length + i]? = some x := by
  rw [List.getElem?_append_right (by omega), Nat.add_sub_cancel_left]; exact h
theorem at_cons {L : List Ent} {i : Nat} {x y : Ent} (h : L[i]? = some x) : (y :: L)[i + 1]? = some x := by
  rw [List.getElem?_cons_succ]; exact h
end Go.Proofs.YtdlmohigkkdegaaGreat
end

section
/- Walks: what the laws on numbers draw. -/
namespace Go.Proofs.YtdlmohigkkdegaaGreat
set_option linter.unusedSimpArgs false
set_option linter.unusedVariables false
open Go.RowKit
theorem b10Long_c (w : World) (cv : Value) (bs : List UInt8) (hb : RdB w cv bs) :
    Calls Tryz.prog 6 #[cv] w fun e w' => e = .returned (.bool (decide (1048576 < bs.length))) ∧ w = w' := by
  have hln := hb.len
  go_enter Tryz.func6, Tryz.ntmps6
  go_wp2_with fail
  go_ret
  exact ⟨ret_bool (by simp; omega), rfl⟩

end Go.Proofs.YtdlmohigkkdegaaGreat
end

section
/- Walks: operations on sets, and what the law on sets draws. -/
namespace Go.Proofs.YtdlmohigkkdegaaGreat
set_option linter.unusedSimpArgs false
set_option linter.unusedVariables false
open Go.RowKit

def ifSets (a b : List Int) (r : List Int) : List Int := if IsSet a ∧ IsSet b then r else []

theorem keepM (a b : Bool) (W : World) : Calls Tryz.prog 123 #[.bool a, .bool b] W fun e w' => e = .returned (.bool (a && b)) ∧ W = w' := by
  cases a <;> cases b <;> (go_enter Tryz.func123, Tryz.ntmps123; go_wp2_with fail; go_ret; exact ⟨rfl, rfl⟩)
theorem keepN (a b : Bool) (W : World) : Calls Tryz.prog 190 #[.bool a, .bool b] W fun e w' => e = .returned (.bool (a && !b)) ∧ W = w' := by
  cases a <;> cases b <;> (go_enter Tryz.func190, Tryz.ntmps190; go_wp2_with fail; go_ret; exact ⟨rfl, rfl⟩)

theorem MeetSets_c (va vb : Value) (xs ys : List Int) (w : World) (ha : RdI w va xs) (hb : RdI w vb ys) :
    Calls Tryz.prog 53 #[va, vb] w (MakesI w (ifSets xs ys (mee xs ys))) := by
  go_enter Tryz.func53, Tryz.ntmps53
  go_wp2_with fail
  refine (filtered_c _ (callFunc_go Tryz.func123 (by kernel_rfl) (by kernel_rfl)) (fun a b => a && b) keepM va vb xs ys w ha hb).mono ?_
  rintro e w1 ⟨v, rfl, h1⟩
  go_wp2_with fail
  go_ret
  exact ⟨_, rfl, h1⟩
theorem MinusSets_c (va vb : Value) (xs ys : List Int) (w : World) (ha : RdI w va xs) (hb : RdI w vb ys) :
    Calls Tryz.prog 129 #[va, vb] w (MakesI w (ifSets xs ys (min' xs ys))) := by
  go_enter Tryz.func129, Tryz.ntmps129
  go_wp2_with fail
  refine (filtered_c _ (callFunc_go Tryz.func190 (by kernel_rfl) (by kernel_rfl)) (fun a b => a && !b) keepN va vb xs ys w ha hb).mono ?_
  rintro e w1 ⟨v, rfl, h1⟩
  go_wp2_with fail
  go_ret
  exact ⟨_, rfl, h1⟩

end Go.Proofs.YtdlmohigkkdegaaGreat
end

section
/- Walks: arrays by value. Walks: valid arrays, equal arrays. -/
namespace Go.Proofs.YtdlmohigkkdegaaGreat
set_option linter.unusedSimpArgs false
set_option linter.unusedVariables false
open Go.RowKit


/-- an array as a value -/
def av (lv co : Int) (v : Value) : Value := .agg #[.int .i64 lv, .int .i64 co, v]

/-- a block that holds an array -/
def BoxA (w : World) (g : Nat) (lv co : Int) (v : Value) : Prop :=
  w.cell? ⟨g, 0, none⟩ = some (.int .i64 lv) ∧ w.cell? ⟨g, 1, none⟩ = some (.int .i64 co) ∧ w.cell? ⟨g, 2, none⟩ = some v
theorem cell_keep {w w' : World} (hb : Below w.heap.size w w') {p : Addr} {u : Value} (h : w.cell? p = some u) : w'.cell? p = some u := by
  rw [hb.cell (World.block_lt_of_cell? _ _ h)]; exact h
theorem BoxA.keep {w w' : World} {g : Nat} {lv co : Int} {v : Value} (h : BoxA w g lv co v) (hb : Below w.heap.size w w') : BoxA w' g lv co v :=
  ⟨cell_keep hb h.1, cell_keep hb h.2.1, cell_keep hb h.2.2⟩
end Go.Proofs.YtdlmohigkkdegaaGreat
end

section
/- Walks: valid designs of both sides, equal designs. -/
namespace Go.Proofs.YtdlmohigkkdegaaGreat
set_option linter.unusedSimpArgs false
set_option linter.unusedVariables false
open Go.RowKit

/-- a design as a value -/
def dv (P : Int) (v : Value) : Value := .agg #[.int .i64 P, v]
def BoxD (w : World) (g : Nat) (P : Int) (v : Value) : Prop := w.cell? ⟨g, 0, none⟩ = some (.int .i64 P) ∧ w.cell? ⟨g, 1, none⟩ = some v
theorem BoxD.keep {w0 w : World} {g : Nat} {P : Int} {v : Value} (h : BoxD w0 g P v) (hb : Below w0.heap.size w0 w) : BoxD w g P v := by
  obtain ⟨h1, h2⟩ := h
  have hg : g < w0.heap.size := by
    rcases Nat.lt_or_ge g w0.heap.size with h | h
    · exact h
    · rw [World.cell?, Array.getElem?_eq_none h] at h1; cases h1
  exact ⟨by rw [hb.cell hg]; exact h1, by rw [hb.cell hg]; exact h2⟩
theorem isBlock_c (v : Value) (xs : List Int) (P : Int) (w : World) (hv : RdI w v xs) :
    Calls Tryz.prog 176 #[v, .int .i64 P] w fun e w' => e = .returned (.bool (blkB P xs)) ∧ w = w' := by
  have hln := hv.len
  by_cases h0 : 0 < xs.length
  · have H : Hid (blkB P xs = validSetB xs P) := by rw [Hid, blkB, decide_eq_true h0]; rfl
    go_enter Tryz.func176, Tryz.ntmps176
    go_wp2_with (go_at_call 70; refine (ValidSet_c _ _ _ _ hv).mono ?_; rintro e w1 ⟨rfl, rfl⟩)
    go_ret
    exact ⟨by rw [H.out]; rfl, rfl⟩
  · have H : Hid (blkB P xs = false) := by rw [Hid, blkB, decide_eq_false h0]; rfl
    go_enter Tryz.func176, Tryz.ntmps176
    go_wp2_with fail
    go_ret
    exact ⟨by rw [H.out]; rfl, rfl⟩
theorem areBlocks1_c (v : Value) (xs : List Int) (g : Nat) (P : Int) (w : World) (hv : RdI w v xs) (hb : w.cell? ⟨g, 0, none⟩ = some (.int .i64 P)) :
    Calls Tryz.prog 175 #[v, .pointer (some ⟨g, 0, none⟩)] w (GivesB w (!blkB P xs)) := by
  go_enter Tryz.func175, Tryz.ntmps175
  go_wp2_with fail
  refine (isBlock_c _ _ _ _ hv).mono ?_
  rintro e w1 ⟨rfl, rfl⟩
  go_wp2_with fail
  go_ret
  exact ⟨rfl, St.refl w⟩
theorem anyR_not {p : List Int → Bool} {A : List (List Int)} : (!anyR (fun b => !p b) A) = A.all p := by
  unfold anyR
  induction A with
  | nil => rfl
  | cons a r ih => simp only [List.any_cons, List.all_cons, Bool.not_or, ih, Bool.not_not]
set_option maxHeartbeats 1000000 in
theorem areBlocks_c (v : Value) (us : List Value) (A : List (List Int)) (P : Int) (w : World) (hv : RII w v us A) :
    Calls Tryz.prog 120 #[v, .int .i64 P] w (GivesB w (inB P 1 32 && A.all (blkB P))) := by
  have hS1 := (St.refl w).newbox 2 #[.int .i64 P]
  have hcf := callFunc_go Tryz.func175 (by kernel_rfl) (by kernel_rfl)
  have hb := hS1.bcell 0 rfl 0 rfl
  cases hp : inB P 1 32
  · go_enter Tryz.func120, Tryz.ntmps120
    go_wp2_with (go_at_call 59; refine (within_c _ _ _ _).mono ?_; rw [hp]; rintro e w1 ⟨rfl, rfl⟩)
    go_ret
    exact ⟨rfl, hS1.out⟩
  · have hmf : ∀ (fn : Fn) (first cap : Array Value) (w : World), (Instr.makeFunc fn first cap).run Tryz.prog w = .ok (.func fn first cap) w := fun _ _ _ _ => rfl
    have hcall := Lib.hid (ContainsFuncR_c 175 #[.pointer (some ⟨w.heap.size, 0, none⟩)] (fun b => !blkB P b) v us A _ (hS1.oldII hv) hcf (fun j W hW hj => areBlocks1_c _ _ w.heap.size P W ((hW.oldII (hS1.oldII hv)).row j hj) (by
      have h2 := hS1.call0 hW
      exact h2.bcell 0 rfl 0 rfl)))
    clear hcf
    go_enter Tryz.func120, Tryz.ntmps120
    go_wp2_with (first | (go_at_call 59; refine (within_c _ _ _ _).mono ?_; rw [hp]; rintro e w1 ⟨rfl, rfl⟩) | (go_at_call 71; refine hcall.out.mono ?_; rintro e w2 ⟨rfl, h2⟩; have hS2 := hS1.call0 h2))
    go_ret
    exact ⟨ret_bool (by rw [anyR_not]; rfl), hS2.out⟩
set_option maxHeartbeats 1000000 in
theorem ValidDesign_c (P : Int) (v : Value) (us : List Value) (A : List (List Int)) (w : World) (hv : RII w v us A) :
    Calls Tryz.prog 52 #[dv P v] w (GivesB w (dOk P A)) := by
  have hS1 := (St.refl w).newbox 27 #[.int .i64 P, v]
  have hb0 := hS1.bcell 0 rfl 0 rfl
  have hb1 := hS1.bcell 0 rfl 1 rfl
  have hln := hv.len
  unfold dv
  have hcall := fun W a => Lib.hid (areBlocks_c v us A P W a)
  have hsrt := fun W a => Lib.hid (IsSortedR_c v us A W a)
  cases hp : inB P 1 32 && A.all (blkB P)
  · rw [hp] at hcall
    have H : Hid (dOk P A = false) := by rw [Hid, dOk, hp]; rfl
    go_enter Tryz.func52, Tryz.ntmps52
    go_wp2_with (go_at_call 120; refine (hcall _ (hS1.oldII hv)).out.mono ?_; rintro e w2 ⟨rfl, h2⟩; have hS2 := hS1.call0 h2)
    go_ret
    exact ⟨ret_bool H.out.symm, hS2.out⟩
  · rw [hp] at hcall
    by_cases hl : A.length ≤ 128
    · have H : Hid (dOk P A = srtB A) := by rw [Hid, dOk, hp, decide_eq_true hl]; rfl
      go_enter Tryz.func52, Tryz.ntmps52
      go_wp2_with (first | (go_at_call 120; refine (hcall _ (hS1.oldII hv)).out.mono ?_; rintro e w2 ⟨rfl, h2⟩; have hS2 := hS1.call0 h2; have c1 := hS2.bcell 0 rfl 1 rfl) | (go_at_call 121; refine (hsrt _ (hS2.oldII hv)).out.mono ?_; rintro e w3 ⟨rfl, h3⟩; have hS3 := hS2.call0 h3))
      go_ret
      exact ⟨ret_bool H.out.symm, hS3.out⟩
    · have H : Hid (dOk P A = false) := by rw [Hid, dOk, hp, decide_eq_false hl]; rfl
      have hl' : 128 < A.length := by omega
      go_enter Tryz.func52, Tryz.ntmps52
      go_wp2_with (go_at_call 120; refine (hcall _ (hS1.oldII hv)).out.mono ?_; rintro e w2 ⟨rfl, h2⟩; have hS2 := hS1.call0 h2; have c1 := hS2.bcell 0 rfl 1 rfl)
      go_ret
      exact ⟨ret_bool H.out.symm, hS2.out⟩

end Go.Proofs.YtdlmohigkkdegaaGreat
end

section
/- Walks: a design of sorted copies; complements. -/
namespace Go.Proofs.YtdlmohigkkdegaaGreat
set_option linter.unusedSimpArgs false
set_option linter.unusedVariables false
open Go.RowKit
attribute [local go_sem ↓] Go.wp_at_zero Go.wp_at_succ

/-- it hands over a design of its own, and a code -/
def MakesD (w : World) (P : Int) (A : List (List Int)) (c : Int) (e : Ending) (w' : World) : Prop := ∃ v us, e = .returned (.tuple #[dv P v, .int .i64 c]) ∧ us.length = A.length ∧ St w.heap.size w w' (own2 v us A)
theorem MakesD.no {w w' : World} {L : List Ent} {c : Int} (h : St w.heap.size w w' L) : MakesD w 0 [] c (.returned (.tuple #[.agg #[.int .i64 0, .slice none 0 0], .int .i64 c])) w' :=
  ⟨_, [], rfl, rfl, h.out.newnil _⟩
set_option maxHeartbeats 1000000 in
theorem sorted_c (P : Int) (v : Value) (us : List Value) (A : List (List Int)) (w : World) (hv : RII w v us A) (hl : A.length ≤ 128) (hN : ∀ xs ∈ A, xs.length ≤ 1048576) :
    Calls Tryz.prog 48 #[.int .i64 P, v] w (MakesD w P (srtL A) 0) := by
  have hS0 := (St.refl w).newboxF 27 #[.int .i64 0, .slice none 0 0]
  have hln := hv.len
  have hc := Lib.hid (copyLists_c v us A _ (hS0.oldII hv) (by omega) hN)
  go_enter Tryz.func48, Tryz.ntmps48
  go_wp2_with fail
  refine hc.out.mono ?_
  clear hc
  rintro e w1 ⟨v1, us1, rfl, hl1, h1⟩
  have h2 := hS0.call h1
  obtain ⟨a1, c1, hv1⟩ := (h1.rd 0 (e := 32) (v := v1) (us := us1) rfl).sl.sh
  rw [hl1] at hv1
  subst hv1
  have hB := h2.newboxF 27 #[.int .i64 P, .slice a1 A.length c1]
  have b0 := hB.bcell 0 rfl 0 rfl
  have b1 := hB.bcell 0 rfl 1 rfl
  have h3 := hB.perm (L' := own2 (.slice a1 A.length c1) us1 A ++ [box 27 w.heap.size [.int .i64 0, .slice none 0 0], box 27 w1.heap.size [.int .i64 P, .slice a1 A.length c1]]) (by (try simp only [own2, List.cons_append, List.nil_append, List.append_nil]); classical exact List.perm_iff_count.2 (fun a => by simp only [List.cons_append, List.nil_append, List.append_nil, List.count_append, List.count_cons, List.count_nil] <;> omega))
  clear h1 h2 hB hS0
  go_wp2_with fail
  refine (SortRows_c h3 hl1 (by omega)).mono ?_
  rintro e w2 ⟨us2, rfl, hl2, h4⟩
  have h5 := h4.perm (L' := box 27 w.heap.size [.int .i64 0, .slice none 0 0] :: box 27 w1.heap.size [.int .i64 P, .slice a1 A.length c1] :: own2 (.slice a1 A.length c1) us2 (srtL A)) (by (try simp only [own2, List.cons_append, List.nil_append, List.append_nil]); classical exact List.perm_iff_count.2 (fun a => by simp only [List.cons_append, List.nil_append, List.append_nil, List.count_append, List.count_cons, List.count_nil] <;> omega))
  clear h3 h4 b0 b1
  have b0 := h5.bcell 1 rfl 0 rfl
  have b1 := h5.bcell 1 rfl 1 rfl
  have e0 := h5.bcell 0 rfl 0 rfl
  have e1 := h5.bcell 0 rfl 1 rfl
  have f0 := h5.bfree 0 rfl
  have h6 := (h5.bstore 0 rfl 0 (.int .i64 P)).bstore 0 rfl 1 (.slice a1 A.length c1)
  have d0 := h6.bcell 0 rfl 0 rfl
  have d1 := h6.bcell 0 rfl 1 rfl
  go_wp2_with fail
  refine bodyPost_ret (v := .tuple #[.agg #[.int .i64 P, .slice a1 A.length c1], .int .i64 0]) (by simp [results, Tryz.results48, go_sem, d0, d1]) rfl ?_
  exact ⟨_, us2, rfl, by rw [hl2, srtL_len], h6.sub ((List.sublist_cons_self _ _).trans (List.sublist_cons_self _ _))⟩

/-- what hasBlock answers -/
def hbC (P : Int) (A : List (List Int)) (k : Int) : Int := if dOk P A = true then (if inB k 0 (A.length - 1) = true then 0 else 2) else 1
theorem hasBlock_c (P : Int) (v : Value) (us : List Value) (A : List (List Int)) (k : Int) (w : World) (hv : RII w v us A) :
    Calls Tryz.prog 63 #[dv P v, .int .i64 k] w (GivesI w (hbC P A k)) := by
  obtain ⟨a, c, hsh⟩ := hv.1.sl.sh
  rw [hv.2.1] at hsh
  subst hsh
  have hS1 := (St.refl w).newbox 27 #[.int .i64 P, .slice a A.length c]
  have b0 := hS1.bcell 0 rfl 0 rfl
  have b1 := hS1.bcell 0 rfl 1 rfl
  have K1 := fun W h => Lib.hid (ValidDesign_c P (.slice a A.length c) us A W h)
  unfold dv at K1 ⊢
  cases hok : dOk P A
  · have H : Hid (hbC P A k = 1) := by rw [Hid, hbC, if_neg (by rw [hok]; decide)]
    rw [hok] at K1
    go_enter Tryz.func63, Tryz.ntmps63
    go_wp2_with (go_at_call 52; refine (K1 _ (hS1.oldII hv)).out.mono ?_; rintro e w2 ⟨rfl, h2⟩; have hS2 := hS1.call0 h2)
    go_ret
    exact ⟨ret_i64 H.out.symm, hS2.out⟩
  · rw [hok] at K1
    have hdl := (dOk_t hok).len
    have hw : IntKind.i64.wrap ((A.length : Int) - 1) = (A.length : Int) - 1 := IntWalk.i64_in _ (by omega)
    cases hb : inB k 0 (A.length - 1)
    · have H : Hid (hbC P A k = 2) := by rw [Hid, hbC, if_pos hok, if_neg (by rw [hb]; decide)]
      go_enter Tryz.func63, Tryz.ntmps63
      go_wp2_with (first | (go_at_call 52; refine (K1 _ (hS1.oldII hv)).out.mono ?_; rintro e w2 ⟨rfl, h2⟩; have hS2 := hS1.call0 h2; have c1 := hS2.bcell 0 rfl 1 rfl) | (go_at_call 84; refine (szII_c _ us A _ (hS2.oldII hv)).mono ?_; rintro e w3 ⟨rfl, rfl⟩) | (go_at_call 59; refine (within_c _ _ _ _).mono ?_; rw [hb]; rintro e w4 ⟨rfl, rfl⟩))
      go_ret
      exact ⟨ret_i64 H.out.symm, hS2.out⟩
    · have H : Hid (hbC P A k = 0) := by rw [Hid, hbC, if_pos hok, if_pos hb]
      go_enter Tryz.func63, Tryz.ntmps63
      go_wp2_with (first | (go_at_call 52; refine (K1 _ (hS1.oldII hv)).out.mono ?_; rintro e w2 ⟨rfl, h2⟩; have hS2 := hS1.call0 h2; have c1 := hS2.bcell 0 rfl 1 rfl) | (go_at_call 84; refine (szII_c _ us A _ (hS2.oldII hv)).mono ?_; rintro e w3 ⟨rfl, rfl⟩) | (go_at_call 59; refine (within_c _ _ _ _).mono ?_; rw [hb]; rintro e w4 ⟨rfl, rfl⟩))
      go_ret
      exact ⟨ret_i64 H.out.symm, hS2.out⟩
theorem allPoints_c (n : Nat) (w : World) (hn : n ≤ 1048576) : Calls Tryz.prog 130 #[.int .i64 n] w (MakesI w (idn n)) := by
  go_enter Tryz.func130, Tryz.ntmps130
  go_wp2_with fail
  refine (identity_c n w hn).mono ?_
  rintro e w1 ⟨v, rfl, h1⟩
  go_wp2_with fail
  go_ret
  exact ⟨v, rfl, h1⟩
end Go.Proofs.YtdlmohigkkdegaaGreat
end

section
/- Walks: whether a list holds a number. -/
namespace Go.Proofs.YtdlmohigkkdegaaGreat
set_option linter.unusedSimpArgs false
set_option linter.unusedVariables false
open Go.RowKit

theorem anyP_eq (n : Int) (xs : List Int) : anyP (fun x => n == x) xs = decide (n ∈ xs) := by
  unfold anyP
  rw [Bool.eq_iff_iff, List.any_eq_true, decide_eq_true_iff]
  constructor
  · rintro ⟨x, hx, e⟩; rw [beq_iff_eq] at e; subst e; exact hx
  · intro h; exact ⟨n, h, by simp⟩

set_option maxHeartbeats 1000000 in
set_option maxRecDepth 100000 in
theorem Index_c (v : Value) (xs : List Int) (n : Int) (w : World) (hv : RdI w v xs) :
    Calls Tryz.prog 127 #[v, .int .i64 n] w fun e w' => e = .returned (.int .i64 (idxP (fun x => n == x) xs 0)) ∧ w = w' := by
  have hln := hv.len
  have hix := hv.ix
  have hm := hv.le
  go_enter Tryz.func127, Tryz.ntmps127
  go_wp2_with fail
  go_loopw [5, 8] (fun _ i wr => ∃ k : Nat, k ≤ xs.length ∧ i = .int .i64 k ∧ Hid (idxP (fun x => n == x) xs 0 = idxP (fun x => n == x) xs k) ∧ wr = w) (fun _ i _ => xs.length - (intOf i).toNat)
  case atStart => exact ⟨0, by omega, rfl, rfl, rfl⟩
  case round =>
    obtain ⟨k, hk, rfl, hI, rfl⟩ := hrel
    by_cases hlt : k < xs.length
    · have hc := hv.cell k hlt
      by_cases hp : n = nth xs k
      · have f1 := eq_t hp
        have Hp := Lib.hid (show (fun x => n == x) (nth xs k) = true by simpa using hp)
        clear hp
        go_wp2_with fail
        go_ret
        exact ⟨ret_i64 (by rw [hI.out, idxP_hit hlt Hp.out]), rfl⟩
      · have f1 := eq_f hp
        have Hp := Lib.hid (show (fun x => n == x) (nth xs k) = false by simpa using hp)
        clear hp
        go_wp2_with fail
        go_roundw
        case rel => exact ⟨k + 1, by omega, by go_num, by rw [Hid, hI.out, idxP_step hlt Hp.out], by first | rfl | trivial⟩
        case measure => simp [intOf]; omega
    · go_wp2_with fail
      go_ret
      exact ⟨ret_i64 (by rw [hI.out, idxP_end (by omega)]), rfl⟩
theorem Contains_c (v : Value) (xs : List Int) (n : Int) (w : World) (hv : RdI w v xs) :
    Calls Tryz.prog 62 #[v, .int .i64 n] w fun e w' => e = .returned (.bool (decide (n ∈ xs))) ∧ w = w' := by
  have H := Lib.hid (show decide (0 ≤ idxP (fun x => n == x) xs 0) = decide (n ∈ xs) by rw [idxP_any, anyP_eq])
  go_enter Tryz.func62, Tryz.ntmps62
  go_wp2_with fail
  refine (Index_c v xs n w hv).mono ?_
  rintro e w1 ⟨rfl, rfl⟩
  go_wp2_with fail
  go_ret
  exact ⟨ret_bool H.out, rfl⟩
end Go.Proofs.YtdlmohigkkdegaaGreat
end

section
/- Walks: complements, derived and residual designs. -/
namespace Go.Proofs.YtdlmohigkkdegaaGreat
set_option linter.unusedSimpArgs false
set_option linter.unusedVariables false
open Go.RowKit
attribute [local go_sem ↓] Go.wp_at_zero Go.wp_at_succ

theorem St.nilrow2 {B : Nat} {w0 w : World} {L : List Ent} (h : St B w0 w L) (e : TypeId) : St B w0 w (L ++ [row e (.slice none 0 0) []]) :=
  h.add ⟨rfl, rfl, rfl, Nat.le_refl _, fun _ _ _ => rfl⟩ _ (.inr (.inl ⟨rfl, rfl, rfl⟩)) (fun k hk => by simp [bk, row] at hk)
theorem upF_len (f : Int → Bool) : ∀ k lo, (upF f lo k).length ≤ k
  | 0, _ => Nat.le_refl _
  | k + 1, lo => by
    rw [upF]
    split
    · simpa using upF_len f k (lo + 1)
    · exact Nat.le_succ_of_le (upF_len f k (lo + 1))
theorem ifSets_len {a b r : List Int} (h : r.length ≤ 32) : (ifSets a b r).length ≤ 32 := by
  unfold ifSets; split
  · exact h
  · simp
/-- the complements of blocks -/
def cplB (P : Nat) (b : List Int) : List Int := ifSets (idn P) b (min' (idn P) b)
theorem cplB_len (P : Nat) (b : List Int) : (cplB P b).length ≤ 32 := ifSets_len (upF_len _ _ _)
end Go.Proofs.YtdlmohigkkdegaaGreat
end

section
/- Walks: derived and residual designs. -/
namespace Go.Proofs.YtdlmohigkkdegaaGreat
set_option linter.unusedSimpArgs false
set_option linter.unusedVariables false
open Go.RowKit
attribute [local go_sem ↓] Go.wp_at_zero Go.wp_at_succ

/-- the places in a set of the points of a block -/
def plc (S : List Int) (x : Int) : Int := idxP (fun y => x == y) S 0
def meB (b S : List Int) : List Int := ifSets b S (mee b S)
def rsB (b S : List Int) : List Int := (meB b S).map (plc S)
theorem meB_len (b S : List Int) : (meB b S).length ≤ 32 := ifSets_len (upF_len _ _ _)
/-- blocks but one, on a set of points -/
def resR (A : List (List Int)) (blk : Int) (S : List Int) : Nat → List (List Int)
  | 0 => []
  | j + 1 => if (j : Int) = blk then resR A blk S j else resR A blk S j ++ [rsB (xat A j) S]
theorem resR_len (A : List (List Int)) (blk : Int) (S : List Int) : ∀ j, (resR A blk S j).length ≤ j
  | 0 => Nat.le_refl _
  | j + 1 => by
    have := resR_len A blk S j
    rw [resR]
    split
    · omega
    · simp; omega
theorem resR_rows (A : List (List Int)) (blk : Int) (S : List Int) : ∀ j, ∀ r ∈ resR A blk S j, r.length ≤ 32
  | 0, r, h => by cases h
  | j + 1, r, h => by
    rw [resR] at h
    split at h
    · exact resR_rows A blk S j r h
    · rcases List.mem_append.1 h with h | h
      · exact resR_rows A blk S j r h
      · obtain rfl := List.mem_singleton.1 h
        rw [rsB, List.length_map]; exact meB_len _ _
set_option maxHeartbeats 4000000 in
set_option maxRecDepth 100000 in
theorem restricted_c (P : Int) (v : Value) (us : List Value) (A : List (List Int)) (blk : Int) (vs : Value) (S : List Int) (w : World) (hv : RII w v us A) (hs : RdI w vs S) (hA : A.length ≤ 128)
    (hne : ∀ j, j < A.length → (j : Int) ≠ blk → rsB (xat A j) S ≠ []) (hS0 : S ≠ []) (hSl : S.length ≤ 1000) :
    Calls Tryz.prog 128 #[dv P v, .int .i64 blk, vs] w (MakesD w S.length (srtL (resR A blk S A.length)) 0) := by
  obtain ⟨a, c, hsh⟩ := hv.1.sl.sh
  rw [hv.2.1] at hsh
  subst hsh
  have hS1 := ((St.refl w).newboxF 27 #[.int .i64 P, .slice a A.length c]).newboxF 27 #[.int .i64 0, .slice none 0 0]
  simp only [World.size_alloc] at hS1
  have b0 := hS1.bcell 1 rfl 0 rfl
  have b1 := hS1.bcell 1 rfl 1 rfl
  have hix := hv.ix
  have hls := hs.len
  have Hne := Lib.hid hne
  have HS0 := Lib.hid (show 0 < S.length from by cases S with | nil => exact absurd rfl hS0 | cons _ _ => simp)
  have hS2 := (hS1.nilrow2 32).perm (L' := [box 27 (w.heap.size + 1) [.int .i64 0, .slice none 0 0], box 27 w.heap.size [.int .i64 P, .slice a A.length c], row 32 (.slice none 0 0) []]) (by (try simp only [own2, List.cons_append, List.nil_append, List.append_nil]); classical exact List.perm_iff_count.2 (fun a => by simp only [List.cons_append, List.nil_append, List.append_nil, List.count_append, List.count_cons, List.count_nil] <;> omega))
  clear hne hS0 hS1
  unfold dv
  go_enter Tryz.func128, Tryz.ntmps128
  go_wp2_with fail
  go_loopw [8, 9, 10, 11, 13, 17] (fun o _ _ _ _ i wr => ∃ (k : Nat) (us' : List Value), k ≤ A.length ∧ i = .int .i64 k ∧ Hid (us'.length = (resR A blk S k).length) ∧ St w.heap.size w wr (box 27 (w.heap.size + 1) [.int .i64 0, .slice none 0 0] :: box 27 w.heap.size [.int .i64 P, .slice a A.length c] :: own2 o us' (resR A blk S k))) (fun _ _ _ _ _ i _ => A.length - (intOf i).toNat)
  case atStart => exact ⟨0, [], by omega, rfl, rfl, hS2⟩
  case round =>
    clear hS2 b0 b1
    obtain ⟨k, us', hk, rfl, hl, hS⟩ := hrel
    by_cases hlt : k < A.length
    · have hc := (hS.oldII hv).cell k hlt
      by_cases hkb : (k : Int) = blk
      · have f := eq_t hkb
        have Hk := Lib.hid (show resR A blk S (k + 1) = resR A blk S k by rw [resR, if_pos hkb])
        clear hkb
        go_wp2_with fail
        go_roundw
        case rel => exact ⟨k + 1, us', by omega, by go_num, by rw [Hk.out]; exact hl, by rw [Hk.out]; exact hS⟩
        case measure => simp [intOf]; omega
      · have f := eq_f hkb
        have Hk := Lib.hid (show resR A blk S (k + 1) = resR A blk S k ++ [rsB (xat A k) S] by rw [resR, if_neg hkb])
        have hMne := Hne.out k hlt hkb
        have hlk := Lib.hid (resR_len A blk S k)
        have hM32 := meB_len (xat A k) S
        have hMl : 0 < (meB (xat A k) S).length := by
          unfold rsB at hMne
          cases hm : meB (xat A k) S with
          | nil => rw [hm] at hMne; exact absurd rfl hMne
          | cons _ _ => simp
        have hcall := Lib.hid (MeetSets_c _ _ _ _ _ ((hS.oldII hv).row k hlt) (hS.oldI hs))
        rw [show ifSets (xat A k) S (mee (xat A k) S) = meB (xat A k) S from rfl] at hcall
        rw [rsB] at Hk
        generalize meB (xat A k) S = M at *
        have hS3 := hS.nilrow2 2
        clear hkb hMne
        go_wp2_with fail
        refine hcall.out.mono ?_
        clear hcall
        rintro e w5 ⟨vM, rfl, h5⟩
        have hS5 := (hS3.call h5).perm (L' := row 2 (.slice none 0 0) [] :: row 2 vM (iv M) :: box 27 (w.heap.size + 1) [.int .i64 0, .slice none 0 0] :: box 27 w.heap.size [.int .i64 P, .slice a A.length c] :: own2 u8 us' (resR A blk S k)) (by (try simp only [own2, List.cons_append, List.nil_append, List.append_nil]); classical exact List.perm_iff_count.2 (fun a => by simp only [List.cons_append, List.nil_append, List.append_nil, List.count_append, List.count_cons, List.count_nil] <;> omega))
        have hlM := (hS5.rdI 1 rfl).len
        have hiM := (hS5.rdI 1 rfl).ix
        clear hS hS3 h5 hc
        go_wp2_with fail
        go_loopw [11, 13, 29] (fun r _ i wx => ∃ t : Nat, t ≤ M.length ∧ i = .int .i64 t ∧ St w.heap.size w wx (row 2 r (iv ((M.take t).map (plc S))) :: row 2 vM (iv M) :: box 27 (w.heap.size + 1) [.int .i64 0, .slice none 0 0] :: box 27 w.heap.size [.int .i64 P, .slice a A.length c] :: own2 u8 us' (resR A blk S k))) (fun _ _ i _ => M.length - (intOf i).toNat)
        case atStart => exact ⟨0, by omega, rfl, hS5⟩
        case round =>
          clear hS5
          obtain ⟨t, ht, rfl, hS⟩ := hrel
          by_cases htl : t < M.length
          · have cM := (hS.rdI 1 rfl).cell t htl
            have rS := Lib.hid (hS.oldI hs)
            have hml : ((M.take t).map (plc S)).length < 4294967296 := by simp; omega
            have hnx : Hid ((M.take t).map (plc S) ++ [idxP (fun y => nth M t == y) S 0] = (M.take (t + 1)).map (plc S)) := by
              rw [Hid, List.take_add_one, List.map_append, nth_eq htl, List.getElem?_eq_getElem htl]; rfl
            have hml := Lib.hid hml
            go_wp2_with (first | (go_at_call 127; refine (Index_c _ _ _ _ rS.out).mono ?_; rintro e w6 ⟨rfl, rfl⟩) | (at_builtin; refine appI hS 0 rfl hml.out rfl _ _ rfl rfl _ rfl ?_; intro v8 w8 hS8))
            simp only [List.set_cons_zero] at hS8
            rw [hnx.out] at hS8
            go_roundw
            case rel => exact ⟨t + 1, by omega, by go_num, hS8⟩
            case measure => simp [intOf]; omega
          · obtain rfl : t = M.length := by omega
            rw [List.take_length] at hS
            obtain ⟨ua, uc, hle⟩ := (hS.rdI 0 rfl).sl.sh
            rw [iv_len, List.length_map] at hle
            subst hle
            have hul := Lib.hid (show us'.length < 4294967296 by rw [hl.out]; have := hlk.out; omega)
            have f9 : (((M.map (plc S)).length : Int) == 0) = false := eq_f (by rw [List.length_map]; omega)
            go_wp2_with (at_builtin; refine appII hS 4 rfl hul.out rfl _ _ rfl rfl _ rfl rfl ?_; intro v8 w8 hS8)
            simp only [List.set_cons_succ] at hS8
            go_roundw
            case rel =>
              refine ⟨k + 1, us' ++ [.slice ua M.length uc], by omega, by go_num, by rw [Hid, Hk.out]; simp [hl.out], ?_⟩
              rw [Hk.out, own2, rowsI_app hl.out]
              have h9 := hS8.sub (L' := row 2 (.slice ua M.length uc) (iv (M.map (plc S))) :: box 27 (w.heap.size + 1) [.int .i64 0, .slice none 0 0] :: box 27 w.heap.size [.int .i64 P, .slice a A.length c] :: row 32 v8 (us' ++ [.slice ua M.length uc]) :: rowsI us' (resR A blk S k)) ((List.sublist_cons_self _ _).cons_cons _)
              exact h9.perm (by (try simp only [own2, List.cons_append, List.nil_append, List.append_nil]); classical exact List.perm_iff_count.2 (fun a => by simp only [List.cons_append, List.nil_append, List.append_nil, List.count_append, List.count_cons, List.count_nil] <;> omega))
            case measure => simp [intOf]; omega
    · obtain rfl : k = A.length := by omega
      have ro := (hS.sub ((List.sublist_cons_self _ _).trans (List.sublist_cons_self _ _))).rii hl.out
      have hRl := resR_len A blk S A.length
      have hrr := resR_rows A blk S A.length
      generalize resR A blk S A.length = R at *
      have hsrt := Lib.hid (sorted_c S.length u8 us' R _ ro (by omega) (fun xs hx => by have := hrr xs hx; omega))
      have rS := Lib.hid (hS.oldI hs)
      have f9 : ((S.length : Int) == 0) = false := eq_f (by have := HS0.out; omega)
      clear ro hrr
      go_wp2_with (first | (go_at_call 51; refine (size_c _ _ _ rS.out).mono ?_; rintro e w6 ⟨rfl, rfl⟩))
      refine hsrt.out.mono ?_
      rintro e w5 ⟨v5, us5, rfl, hl5, h5⟩
      obtain ⟨ua, uc, hv5⟩ := (h5.rd 0 (e := 32) (v := v5) (us := us5) rfl).sl.sh
      rw [hl5, srtL_len] at hv5
      subst hv5
      have hB5 := hS.call h5
      have c0 := hB5.bcell 0 rfl 0 rfl
      have c1 := hB5.bcell 0 rfl 1 rfl
      have f0 := hB5.bfree 0 rfl
      have h6 := (hB5.bstore 0 rfl 0 (.int .i64 S.length)).bstore 0 rfl 1 (.slice ua R.length uc)
      have d0 := h6.bcell 0 rfl 0 rfl
      have d1 := h6.bcell 0 rfl 1 rfl
      clear hsrt hS h5
      unfold dv
      go_wp2_with fail
      refine bodyPost_ret (v := .tuple #[.agg #[.int .i64 S.length, .slice ua R.length uc], .int .i64 0]) (by simp [results, Tryz.results128, go_sem, d0, d1]) rfl ?_
      exact ⟨_, us5, rfl, hl5, h6.sub (L' := own2 (.slice ua R.length uc) us5 (srtL R)) (((List.sublist_append_right (own2 u8 us' R) _).trans (List.sublist_cons_self _ _)).trans (List.sublist_cons_self _ _))⟩
end Go.Proofs.YtdlmohigkkdegaaGreat
end
