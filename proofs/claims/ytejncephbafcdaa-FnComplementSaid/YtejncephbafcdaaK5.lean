/- The texts of this claim, run 5: Has Ds4 Ds5 Ds6 PPm Srt PIm Sss Sq PLat Ds7 Ds8. -/
import Derived.Test.YtejncephbafcdaaK1
import Derived.Test.YtejncephbafcdaaK2
import Derived.Test.YtejncephbafcdaaK3
import Derived.Test.YtejncephbafcdaaK4
import Derived.Deep.RegionHeld3
import Derived.Deep.DrawnRows
import Derived.Shelf.SortM.Plain
import Derived.Shelf.SortM.SortNone
import Derived.Sort.OwnSortedInts
section
/- Walks: whether a list holds a number. -/
namespace Go.Proofs.Ytejncephbafcdaa
set_option linter.unusedSimpArgs false
set_option linter.unusedVariables false
open Go.RowKit
set_option maxHeartbeats 1000000 in
set_option maxRecDepth 100000 in
theorem Index_c (v : Value) (xs : List Int) (n : Int) (w : World) (hv : RdI w v xs) :
    Calls Try.prog 115 #[v, .int .i64 n] w fun e w' => e = .returned (.int .i64 (idxP (fun x => n == x) xs 0)) ∧ w = w' := by
  have hln := hv.len
  have hix := hv.ix
  have hm := hv.le
  go_enter Try.func115, Try.ntmps115
  go_wp2_with fail
  go_loopw [5, 8] (fun _ i wr => ∃ k : Nat, k ≤ xs.length ∧ i = .int .i64 k ∧ Hid (idxP (fun x => n == x) xs 0 = idxP (fun x => n == x) xs k) ∧ wr = w) (fun _ i _ => xs.length - (intOf i).toNat)
  case atStart => exact ⟨0, by omega, rfl, rfl, rfl⟩
  case round =>
    obtain ⟨k, hk, rfl, hI, rfl⟩ := hrel
    by_cases hlt : k < xs.length
    · have hc := hv.cell k hlt
      by_cases hp : n = nth xs k
      · have f1 := eq_t hp
        have Hp := Lib.hid (show (fun x => n == x) (nth xs k) = true by simpa using hp)
        clear hp
        go_wp2_with fail
        go_ret
        exact ⟨ret_i64 (by rw [hI.out, idxP_hit hlt Hp.out]), rfl⟩
      · have f1 := eq_f hp
        have Hp := Lib.hid (show (fun x => n == x) (nth xs k) = false by simpa using hp)
        clear hp
        go_wp2_with fail
        go_roundw
        case rel => exact ⟨k + 1, by omega, by go_num, by rw [Hid, hI.out, idxP_step hlt Hp.out], by first | rfl | trivial⟩
        case measure => simp [intOf]; omega
    · go_wp2_with fail
      go_ret
      exact ⟨ret_i64 (by rw [hI.out, idxP_end (by omega)]), rfl⟩
set_option maxHeartbeats 1000000 in
set_option maxRecDepth 100000 in
theorem l00Has_c (v : Value) (xs : List Int) (n : Int) (w : World) (hv : RdI w v xs) :
    Calls Try.prog 69 #[v, .int .i64 n] w fun e w' => e = .returned (.bool (decide (n ∈ xs))) ∧ w = w' := by
  have hln := hv.len
  have hix := hv.ix
  have hm := hv.le
  go_enter Try.func69, Try.ntmps69
  go_wp2_with fail
  go_loopw [5] (fun i wr => ∃ k : Nat, k ≤ xs.length ∧ i = .int .i64 k ∧ Hid (n ∉ xs.take k) ∧ wr = w) (fun i _ => xs.length - (intOf i).toNat)
  case atStart => exact ⟨0, by omega, rfl, by simp [Hid], rfl⟩
  case round =>
    obtain ⟨k, hk, rfl, hI, rfl⟩ := hrel
    by_cases hlt : k < xs.length
    · have hc := hv.cell k hlt
      by_cases hp : nth xs k = n
      · have f1 := eq_t hp
        have Hp := Lib.hid (show decide (n ∈ xs) = true by rw [decide_eq_true_iff, ← hp]; exact nth_mem hlt)
        clear hp
        go_wp2_with fail
        go_ret
        exact ⟨ret_bool Hp.out.symm, rfl⟩
      · have f1 := eq_f hp
        have Hp := Lib.hid (show n ∉ xs.take (k + 1) by rw [take_nth hlt, List.mem_append, not_or]; exact ⟨hI.out, by simp; exact fun e => hp e.symm⟩)
        clear hp
        go_wp2_with fail
        go_roundw
        case rel => exact ⟨k + 1, by omega, by go_num, Hp, by first | rfl | trivial⟩
        case measure => simp [intOf]; omega
    · have Hn := Lib.hid (show decide (n ∈ xs) = false by rw [decide_eq_false_iff_not]; have := hI.out; rwa [List.take_of_length_le (by omega)] at this)
      go_wp2_with fail
      go_ret
      exact ⟨ret_bool Hn.out.symm, rfl⟩
end Go.Proofs.Ytejncephbafcdaa
end

section
/- Walks: complements, derived and residual designs. -/
namespace Go.Proofs.Ytejncephbafcdaa
set_option linter.unusedSimpArgs false
set_option linter.unusedVariables false
open Go.RowKit
attribute [local go_sem ↓] Go.wp_at_zero Go.wp_at_succ

theorem St.nilrow2 {B : Nat} {w0 w : World} {L : List Ent} (h : St B w0 w L) (e : TypeId) : St B w0 w (L ++ [row e (.slice none 0 0) []]) :=
  h.add ⟨rfl, rfl, rfl, Nat.le_refl _, fun _ _ _ => rfl⟩ _ (.inr (.inl ⟨rfl, rfl, rfl⟩)) (fun k hk => by simp [bk, row] at hk)
theorem upF_len (f : Int → Bool) : ∀ k lo, (upF f lo k).length ≤ k
  | 0, _ => Nat.le_refl _
  | k + 1, lo => by
    rw [upF]
    split
    · simpa using upF_len f k (lo + 1)
    · exact Nat.le_succ_of_le (upF_len f k (lo + 1))
theorem ifSets_len {a b r : List Int} (h : r.length ≤ 32) : (ifSets a b r).length ≤ 32 := by
  unfold ifSets; split
  · exact h
  · simp
/-- the complements of blocks -/
def cplB (P : Nat) (b : List Int) : List Int := ifSets (idn P) b (min' (idn P) b)
def cplL (P : Nat) (A : List (List Int)) : List (List Int) := A.map (cplB P)
theorem cplL_take {P : Nat} {A : List (List Int)} {k : Nat} (h : k < A.length) : cplL P (A.take (k + 1)) = cplL P (A.take k) ++ [cplB P (xat A k)] := by
  rw [cplL, take_xat h, List.map_append]; rfl
theorem cplB_len (P : Nat) (b : List Int) : (cplB P b).length ≤ 32 := ifSets_len (upF_len _ _ _)
set_option maxHeartbeats 2000000 in
set_option maxRecDepth 100000 in
theorem ComplementDesign_c (P : Nat) (v : Value) (us : List Value) (A : List (List Int)) (w : World) (hv : RII w v us A) (hok : dOk P A = true) (hfull : ∀ b ∈ A, b.length ≠ P) :
    Calls Try.prog 19 #[dv P v] w (MakesD w P (srtL (cplL P A)) 0) := by
  obtain ⟨a, c, hsh⟩ := hv.1.sl.sh
  rw [hv.2.1] at hsh
  subst hsh
  have hS1 := ((St.refl w).newboxF 41 #[.int .i64 P, .slice a A.length c]).newboxF 41 #[.int .i64 0, .slice none 0 0]
  simp only [World.size_alloc] at hS1
  have b0 := hS1.bcell 1 rfl 0 rfl
  have b1 := hS1.bcell 1 rfl 1 rfl
  have K1 := Lib.hid (ValidDesign_c P (.slice a A.length c) us A _ (hS1.oldII hv))
  have hD := dOk_t hok
  have hDl := hD.len
  have hP := hD.le
  rw [hok] at K1
  have hix := hv.ix
  unfold dv at K1 ⊢
  have Hfull := Lib.hid hfull
  clear hD hfull hok
  go_enter Try.func19, Try.ntmps19
  go_wp2_with fail
  refine K1.out.mono ?_
  clear K1
  rintro e w2 ⟨rfl, h2⟩
  have hS2 := hS1.call0 h2
  have b0' := hS2.bcell 1 rfl 0 rfl
  have b1' := hS2.bcell 1 rfl 1 rfl
  have hS3 := (hS2.nilrow2 52).perm (L' := [row 52 (.slice none 0 0) [], box 41 (w.heap.size + 1) [.int .i64 0, .slice none 0 0], box 41 w.heap.size [.int .i64 P, .slice a A.length c]]) (by (try simp only [own2, List.cons_append, List.nil_append, List.append_nil]); classical exact List.perm_iff_count.2 (fun a => by simp only [List.cons_append, List.nil_append, List.append_nil, List.count_append, List.count_cons, List.count_nil] <;> omega))
  clear h2 b0 b1 hS1 hS2
  go_wp2_with fail
  go_loopw [4, 6, 14] (fun o _ i wr => ∃ (k : Nat) (us' : List Value), k ≤ A.length ∧ i = .int .i64 k ∧ Hid (us'.length = (cplL P (A.take k)).length) ∧ St w.heap.size w wr (own2 o us' (cplL P (A.take k)) ++ [box 41 (w.heap.size + 1) [.int .i64 0, .slice none 0 0], box 41 w.heap.size [.int .i64 P, .slice a A.length c]])) (fun _ _ i _ => A.length - (intOf i).toNat)
  case atStart => exact ⟨0, [], by omega, rfl, rfl, hS3⟩
  case round =>
    clear hS3 b0' b1'
    obtain ⟨k, us', hk, rfl, hl, hS⟩ := hrel
    have hB := hS.perm (L' := [box 41 (w.heap.size + 1) [.int .i64 0, .slice none 0 0], box 41 w.heap.size [.int .i64 P, .slice a A.length c]] ++ own2 u4 us' (cplL P (A.take k))) List.perm_append_comm
    by_cases hlt : k < A.length
    · have hc := (hS.oldII hv).cell k hlt
      have hr := Lib.hid fun s : SS w.heap.size w ([box 41 (w.heap.size + 1) [.int .i64 0, .slice none 0 0], box 41 w.heap.size [.int .i64 P, .slice a A.length c]] ++ own2 u4 us' (cplL P (A.take k))) => (s.st.oldII hv).row k hlt
      have q0 := fun s : SS w.heap.size w ([box 41 (w.heap.size + 1) [.int .i64 0, .slice none 0 0], box 41 w.heap.size [.int .i64 P, .slice a A.length c]] ++ own2 u4 us' (cplL P (A.take k))) => s.st.bcell 1 rfl 0 rfl
      have hf := eq_f (fun e : ((xat A k).length : Int) = (P : Int) => Hfull.out _ (xat_mem hlt) (by omega))
      have Hk := Lib.hid (cplL_take (P := P) hlt)
      have hlk : Hid ((cplL P (A.take k)).length = k) := by unfold Hid cplL; rw [List.length_map, List.length_take]; omega
      have q1 := hB.bcell 1 rfl 0 rfl
      have hB3 := hB.drew
      have hr := Lib.hid ((hB3.oldII hv).row k hlt)
      go_wp2_with fail
      go_region_held3 (fun w' => w'.cell? ⟨w.heap.size, 0, none⟩ = some (.int .i64 P)) (go_keep) (first | (go_at_call 46; refine (size_c _ _ _ hr.out).mono ?_; rintro e w3 ⟨rfl, rfl⟩))
      have c0 := hB3.bcell 1 rfl 0 rfl
      clear hS hc q0 q1
      go_wp2_with fail
      refine (allPoints_c P _ (by omega)).mono ?_
      rintro e w4 ⟨v4, rfl, h4⟩
      have hB4 := hB3.call h4
      have r4 := Lib.hid ((h4.rdI 0 rfl))
      have rk := Lib.hid ((hB4.oldII hv).row k hlt)
      clear hB hB3 h4 c0
      go_wp2_with fail
      refine (MinusSets_c _ _ _ _ _ r4.out rk.out).mono ?_
      rintro e w5 ⟨v5, rfl, h5⟩
      have hsl := (h5.rdI (xs := cplB P (xat A k)) 0 rfl).sl
      have hone := Lib.hid hsl.one
      obtain ⟨ua, uc, hle⟩ := hsl.sh
      rw [iv_len] at hle
      subst hle
      have hB5 := (hB4.call h5).perm (L' := own2 u4 us' (cplL P (A.take k)) ++ [row 2 (.slice ua (cplB P (xat A k)).length uc) (iv (cplB P (xat A k))), box 41 (w.heap.size + 1) [.int .i64 0, .slice none 0 0], box 41 w.heap.size [.int .i64 P, .slice a A.length c], row 2 v4 (iv (idn P))]) (by
        rw [show ifSets (idn P) (xat A k) (min' (idn P) (xat A k)) = cplB P (xat A k) from rfl]
        exact (by (try simp only [own2, List.cons_append, List.nil_append, List.append_nil]); classical exact List.perm_iff_count.2 (fun a => by simp only [List.cons_append, List.nil_append, List.append_nil, List.count_append, List.count_cons, List.count_nil] <;> omega)))
      clear hsl hB4 h5
      go_wp2_with (at_builtin; refine appII hB5 0 rfl (by rw [hl.out, hlk.out]; omega) rfl _ _ rfl rfl _ hone.out rfl ?_; intro v6 w6 hS6)
      go_roundw
      case rel =>
        refine ⟨k + 1, us' ++ [.slice ua (cplB P (xat A k)).length uc], by omega, by go_num, by rw [Hid, Hk.out]; simp [hl.out], ?_⟩
        rw [Hk.out, own2, rowsI_app hl.out]
        rw [show (own2 u4 us' (cplL P (A.take k)) ++ [row 2 (.slice ua (cplB P (xat A k)).length uc) (iv (cplB P (xat A k))), box 41 (w.heap.size + 1) [.int .i64 0, .slice none 0 0], box 41 w.heap.size [.int .i64 P, .slice a A.length c], row 2 v4 (iv (idn P))]).set 0 (row 52 v6 (us' ++ [.slice ua (cplB P (xat A k)).length uc])) = row 52 v6 (us' ++ [.slice ua (cplB P (xat A k)).length uc]) :: (rowsI us' (cplL P (A.take k)) ++ [row 2 (.slice ua (cplB P (xat A k)).length uc) (iv (cplB P (xat A k))), box 41 (w.heap.size + 1) [.int .i64 0, .slice none 0 0], box 41 w.heap.size [.int .i64 P, .slice a A.length c], row 2 v4 (iv (idn P))]) from rfl] at hS6
        have h7 := hS6.sub (L' := row 52 v6 (us' ++ [.slice ua (cplB P (xat A k)).length uc]) :: (rowsI us' (cplL P (A.take k)) ++ [row 2 (.slice ua (cplB P (xat A k)).length uc) (iv (cplB P (xat A k))), box 41 (w.heap.size + 1) [.int .i64 0, .slice none 0 0], box 41 w.heap.size [.int .i64 P, .slice a A.length c]])) ((List.Sublist.append (List.Sublist.refl _) ((((List.sublist_cons_self _ _).cons_cons _).cons_cons _).cons_cons _)).cons_cons _)
        exact h7.perm (by (try simp only [own2, List.cons_append, List.nil_append, List.append_nil]); classical exact List.perm_iff_count.2 (fun a => by simp only [List.cons_append, List.nil_append, List.append_nil, List.count_append, List.count_cons, List.count_nil] <;> omega))
      case measure => simp [intOf]; omega
    · obtain rfl : k = A.length := by omega
      rw [List.take_length] at hS hl hB
      have hll : (cplL P A).length = A.length := by simp [cplL]
      have hRo := hS.sub (List.sublist_append_left _ _)
      have ro := hRo.rii hl.out
      have hs := Lib.hid (sorted_c P u4 us' (cplL P A) _ ro (by omega) (fun xs hx => by
        obtain ⟨b, hb, rfl⟩ := List.mem_map.1 hx
        have := cplB_len P b; omega))
      have b0 := hB.bcell 1 rfl 0 rfl
      clear ro hRo hS
      go_wp2_with fail
      refine hs.out.mono ?_
      rintro e w5 ⟨v5, us5, rfl, hl5, h5⟩
      obtain ⟨ua, uc, hv5⟩ := (h5.rd 0 (e := 52) (v := v5) (us := us5) rfl).sl.sh
      rw [hl5, srtL_len, hll] at hv5
      subst hv5
      have hB5 := hB.call h5
      have c0 := hB5.bcell 0 rfl 0 rfl
      have c1 := hB5.bcell 0 rfl 1 rfl
      have f0 := hB5.bfree 0 rfl
      have h6 := (hB5.bstore 0 rfl 0 (.int .i64 P)).bstore 0 rfl 1 (.slice ua A.length uc)
      have d0 := h6.bcell 0 rfl 0 rfl
      have d1 := h6.bcell 0 rfl 1 rfl
      clear hs hB h5
      unfold dv
      go_wp2_with fail
      refine bodyPost_ret (v := .tuple #[.agg #[.int .i64 P, .slice ua A.length uc], .int .i64 0]) (by simp [results, Try.results19, go_sem, d0, d1]) rfl ?_
      exact ⟨_, us5, rfl, hl5, h6.sub (L' := own2 (.slice ua A.length uc) us5 (srtL (cplL P A))) (((List.sublist_append_right (own2 u4 us' (cplL P A)) _).trans (List.sublist_cons_self _ _)).trans (List.sublist_cons_self _ _))⟩
end Go.Proofs.Ytejncephbafcdaa
end

section
/- Walks: derived and residual designs. -/
namespace Go.Proofs.Ytejncephbafcdaa
set_option linter.unusedSimpArgs false
set_option linter.unusedVariables false
open Go.RowKit
attribute [local go_sem ↓] Go.wp_at_zero Go.wp_at_succ

/-- the places in a set of the points of a block -/
def plc (S : List Int) (x : Int) : Int := idxP (fun y => x == y) S 0
def meB (b S : List Int) : List Int := ifSets b S (mee b S)
def rsB (b S : List Int) : List Int := (meB b S).map (plc S)
theorem meB_len (b S : List Int) : (meB b S).length ≤ 32 := ifSets_len (upF_len _ _ _)
/-- blocks but one, on a set of points -/
def resR (A : List (List Int)) (blk : Int) (S : List Int) : Nat → List (List Int)
  | 0 => []
  | j + 1 => if (j : Int) = blk then resR A blk S j else resR A blk S j ++ [rsB (xat A j) S]
theorem resR_len (A : List (List Int)) (blk : Int) (S : List Int) : ∀ j, (resR A blk S j).length ≤ j
  | 0 => Nat.le_refl _
  | j + 1 => by
    have := resR_len A blk S j
    rw [resR]
    split
    · omega
    · simp; omega
theorem resR_rows (A : List (List Int)) (blk : Int) (S : List Int) : ∀ j, ∀ r ∈ resR A blk S j, r.length ≤ 32
  | 0, r, h => by cases h
  | j + 1, r, h => by
    rw [resR] at h
    split at h
    · exact resR_rows A blk S j r h
    · rcases List.mem_append.1 h with h | h
      · exact resR_rows A blk S j r h
      · obtain rfl := List.mem_singleton.1 h
        rw [rsB, List.length_map]; exact meB_len _ _
set_option maxHeartbeats 4000000 in
set_option maxRecDepth 100000 in
theorem restricted_c (P : Int) (v : Value) (us : List Value) (A : List (List Int)) (blk : Int) (vs : Value) (S : List Int) (w : World) (hv : RII w v us A) (hs : RdI w vs S) (hA : A.length ≤ 128)
    (hne : ∀ j, j < A.length → (j : Int) ≠ blk → rsB (xat A j) S ≠ []) (hS0 : S ≠ []) (hSl : S.length ≤ 1000) :
    Calls Try.prog 64 #[dv P v, .int .i64 blk, vs] w (MakesD w S.length (srtL (resR A blk S A.length)) 0) := by
  obtain ⟨a, c, hsh⟩ := hv.1.sl.sh
  rw [hv.2.1] at hsh
  subst hsh
  have hS1 := ((St.refl w).newboxF 41 #[.int .i64 P, .slice a A.length c]).newboxF 41 #[.int .i64 0, .slice none 0 0]
  simp only [World.size_alloc] at hS1
  have b0 := hS1.bcell 1 rfl 0 rfl
  have b1 := hS1.bcell 1 rfl 1 rfl
  have hix := hv.ix
  have hls := hs.len
  have Hne := Lib.hid hne
  have HS0 := Lib.hid (show 0 < S.length from by cases S with | nil => exact absurd rfl hS0 | cons _ _ => simp)
  have hS2 := (hS1.nilrow2 52).perm (L' := [box 41 (w.heap.size + 1) [.int .i64 0, .slice none 0 0], box 41 w.heap.size [.int .i64 P, .slice a A.length c], row 52 (.slice none 0 0) []]) (by (try simp only [own2, List.cons_append, List.nil_append, List.append_nil]); classical exact List.perm_iff_count.2 (fun a => by simp only [List.cons_append, List.nil_append, List.append_nil, List.count_append, List.count_cons, List.count_nil] <;> omega))
  clear hne hS0 hS1
  unfold dv
  go_enter Try.func64, Try.ntmps64
  go_wp2_with fail
  go_loopw [8, 9, 10, 11, 13, 17] (fun o _ _ _ _ i wr => ∃ (k : Nat) (us' : List Value), k ≤ A.length ∧ i = .int .i64 k ∧ Hid (us'.length = (resR A blk S k).length) ∧ St w.heap.size w wr (box 41 (w.heap.size + 1) [.int .i64 0, .slice none 0 0] :: box 41 w.heap.size [.int .i64 P, .slice a A.length c] :: own2 o us' (resR A blk S k))) (fun _ _ _ _ _ i _ => A.length - (intOf i).toNat)
  case atStart => exact ⟨0, [], by omega, rfl, rfl, hS2⟩
  case round =>
    clear hS2 b0 b1
    obtain ⟨k, us', hk, rfl, hl, hS⟩ := hrel
    by_cases hlt : k < A.length
    · have hc := (hS.oldII hv).cell k hlt
      by_cases hkb : (k : Int) = blk
      · have f := eq_t hkb
        have Hk := Lib.hid (show resR A blk S (k + 1) = resR A blk S k by rw [resR, if_pos hkb])
        clear hkb
        go_wp2_with fail
        go_roundw
        case rel => exact ⟨k + 1, us', by omega, by go_num, by rw [Hk.out]; exact hl, by rw [Hk.out]; exact hS⟩
        case measure => simp [intOf]; omega
      · have f := eq_f hkb
        have Hk := Lib.hid (show resR A blk S (k + 1) = resR A blk S k ++ [rsB (xat A k) S] by rw [resR, if_neg hkb])
        have hMne := Hne.out k hlt hkb
        have hlk := Lib.hid (resR_len A blk S k)
        have hM32 := meB_len (xat A k) S
        have hMl : 0 < (meB (xat A k) S).length := by
          unfold rsB at hMne
          cases hm : meB (xat A k) S with
          | nil => rw [hm] at hMne; exact absurd rfl hMne
          | cons _ _ => simp
        have hcall := Lib.hid (MeetSets_c _ _ _ _ _ ((hS.oldII hv).row k hlt) (hS.oldI hs))
        rw [show ifSets (xat A k) S (mee (xat A k) S) = meB (xat A k) S from rfl] at hcall
        rw [rsB] at Hk
        generalize meB (xat A k) S = M at *
        have hS3 := hS.nilrow2 2
        clear hkb hMne
        go_wp2_with fail
        refine hcall.out.mono ?_
        clear hcall
        rintro e w5 ⟨vM, rfl, h5⟩
        have hS5 := (hS3.call h5).perm (L' := row 2 (.slice none 0 0) [] :: row 2 vM (iv M) :: box 41 (w.heap.size + 1) [.int .i64 0, .slice none 0 0] :: box 41 w.heap.size [.int .i64 P, .slice a A.length c] :: own2 u8 us' (resR A blk S k)) (by (try simp only [own2, List.cons_append, List.nil_append, List.append_nil]); classical exact List.perm_iff_count.2 (fun a => by simp only [List.cons_append, List.nil_append, List.append_nil, List.count_append, List.count_cons, List.count_nil] <;> omega))
        have hlM := (hS5.rdI 1 rfl).len
        have hiM := (hS5.rdI 1 rfl).ix
        clear hS hS3 h5 hc
        go_wp2_with fail
        go_loopw [11, 13, 29] (fun r _ i wx => ∃ t : Nat, t ≤ M.length ∧ i = .int .i64 t ∧ St w.heap.size w wx (row 2 r (iv ((M.take t).map (plc S))) :: row 2 vM (iv M) :: box 41 (w.heap.size + 1) [.int .i64 0, .slice none 0 0] :: box 41 w.heap.size [.int .i64 P, .slice a A.length c] :: own2 u8 us' (resR A blk S k))) (fun _ _ i _ => M.length - (intOf i).toNat)
        case atStart => exact ⟨0, by omega, rfl, hS5⟩
        case round =>
          clear hS5
          obtain ⟨t, ht, rfl, hS⟩ := hrel
          by_cases htl : t < M.length
          · have cM := (hS.rdI 1 rfl).cell t htl
            have rS := Lib.hid (hS.oldI hs)
            have hml : ((M.take t).map (plc S)).length < 4294967296 := by simp; omega
            have hnx : Hid ((M.take t).map (plc S) ++ [idxP (fun y => nth M t == y) S 0] = (M.take (t + 1)).map (plc S)) := by
              rw [Hid, List.take_add_one, List.map_append, nth_eq htl, List.getElem?_eq_getElem htl]; rfl
            have hml := Lib.hid hml
            go_wp2_with (first | (go_at_call 115; refine (Index_c _ _ _ _ rS.out).mono ?_; rintro e w6 ⟨rfl, rfl⟩) | (at_builtin; refine appI hS 0 rfl hml.out rfl _ _ rfl rfl _ rfl ?_; intro v8 w8 hS8))
            simp only [List.set_cons_zero] at hS8
            rw [hnx.out] at hS8
            go_roundw
            case rel => exact ⟨t + 1, by omega, by go_num, hS8⟩
            case measure => simp [intOf]; omega
          · obtain rfl : t = M.length := by omega
            rw [List.take_length] at hS
            obtain ⟨ua, uc, hle⟩ := (hS.rdI 0 rfl).sl.sh
            rw [iv_len, List.length_map] at hle
            subst hle
            have hul := Lib.hid (show us'.length < 4294967296 by rw [hl.out]; have := hlk.out; omega)
            have f9 : (((M.map (plc S)).length : Int) == 0) = false := eq_f (by rw [List.length_map]; omega)
            go_wp2_with (at_builtin; refine appII hS 4 rfl hul.out rfl _ _ rfl rfl _ rfl rfl ?_; intro v8 w8 hS8)
            simp only [List.set_cons_succ] at hS8
            go_roundw
            case rel =>
              refine ⟨k + 1, us' ++ [.slice ua M.length uc], by omega, by go_num, by rw [Hid, Hk.out]; simp [hl.out], ?_⟩
              rw [Hk.out, own2, rowsI_app hl.out]
              have h9 := hS8.sub (L' := row 2 (.slice ua M.length uc) (iv (M.map (plc S))) :: box 41 (w.heap.size + 1) [.int .i64 0, .slice none 0 0] :: box 41 w.heap.size [.int .i64 P, .slice a A.length c] :: row 52 v8 (us' ++ [.slice ua M.length uc]) :: rowsI us' (resR A blk S k)) ((List.sublist_cons_self _ _).cons_cons _)
              exact h9.perm (by (try simp only [own2, List.cons_append, List.nil_append, List.append_nil]); classical exact List.perm_iff_count.2 (fun a => by simp only [List.cons_append, List.nil_append, List.append_nil, List.count_append, List.count_cons, List.count_nil] <;> omega))
            case measure => simp [intOf]; omega
    · obtain rfl : k = A.length := by omega
      have ro := (hS.sub ((List.sublist_cons_self _ _).trans (List.sublist_cons_self _ _))).rii hl.out
      have hRl := resR_len A blk S A.length
      have hrr := resR_rows A blk S A.length
      generalize resR A blk S A.length = R at *
      have hsrt := Lib.hid (sorted_c S.length u8 us' R _ ro (by omega) (fun xs hx => by have := hrr xs hx; omega))
      have rS := Lib.hid (hS.oldI hs)
      have f9 : ((S.length : Int) == 0) = false := eq_f (by have := HS0.out; omega)
      clear ro hrr
      go_wp2_with (first | (go_at_call 46; refine (size_c _ _ _ rS.out).mono ?_; rintro e w6 ⟨rfl, rfl⟩))
      refine hsrt.out.mono ?_
      rintro e w5 ⟨v5, us5, rfl, hl5, h5⟩
      obtain ⟨ua, uc, hv5⟩ := (h5.rd 0 (e := 52) (v := v5) (us := us5) rfl).sl.sh
      rw [hl5, srtL_len] at hv5
      subst hv5
      have hB5 := hS.call h5
      have c0 := hB5.bcell 0 rfl 0 rfl
      have c1 := hB5.bcell 0 rfl 1 rfl
      have f0 := hB5.bfree 0 rfl
      have h6 := (hB5.bstore 0 rfl 0 (.int .i64 S.length)).bstore 0 rfl 1 (.slice ua R.length uc)
      have d0 := h6.bcell 0 rfl 0 rfl
      have d1 := h6.bcell 0 rfl 1 rfl
      clear hsrt hS h5
      unfold dv
      go_wp2_with fail
      refine bodyPost_ret (v := .tuple #[.agg #[.int .i64 S.length, .slice ua R.length uc], .int .i64 0]) (by simp [results, Try.results64, go_sem, d0, d1]) rfl ?_
      exact ⟨_, us5, rfl, hl5, h6.sub (L' := own2 (.slice ua R.length uc) us5 (srtL R)) (((List.sublist_append_right (own2 u8 us' R) _).trans (List.sublist_cons_self _ _)).trans (List.sublist_cons_self _ _))⟩
end Go.Proofs.Ytejncephbafcdaa
end

section
/- Walks: derived and residual designs, of a block. -/
namespace Go.Proofs.Ytejncephbafcdaa
set_option linter.unusedSimpArgs false
set_option linter.unusedVariables false
open Go.RowKit
attribute [local go_sem ↓] Go.wp_at_zero Go.wp_at_succ

set_option maxHeartbeats 4000000 in
set_option maxRecDepth 100000 in
theorem DerivedDesign_c (P : Int) (v : Value) (us : List Value) (A : List (List Int)) (blk : Nat) (w : World) (hv : RII w v us A) (hok : dOk P A = true) (hb : blk < A.length)
    (hne : ∀ j, j < A.length → (j : Int) ≠ blk → rsB (xat A j) (xat A blk) ≠ []) (hS0 : xat A blk ≠ []) (hSl : (xat A blk).length ≤ 1000) :
    Calls Try.prog 23 #[dv P v, .int .i64 blk] w (MakesD w (xat A blk).length (srtL (resR A blk (xat A blk) A.length)) 0) := by
  obtain ⟨a, c, hsh⟩ := hv.1.sl.sh
  rw [hv.2.1] at hsh
  subst hsh
  have hDl := (dOk_t hok).len
  have hS1 := ((St.refl w).newboxF 41 #[.int .i64 P, .slice a A.length c]).newboxF 41 #[.int .i64 0, .slice none 0 0]
  simp only [World.size_alloc] at hS1
  have b0 := hS1.bcell 1 rfl 0 rfl
  have b1 := hS1.bcell 1 rfl 1 rfl
  have K1 := Lib.hid (hasBlock_c P (.slice a A.length c) us A blk _ (hS1.oldII hv))
  have hh : hbC P A blk = 0 := by
    rw [hbC, if_pos hok, if_pos]; simp [inB]; omega
  rw [hh] at K1
  have HR := fun W h h' => Lib.hid (restricted_c P (.slice a A.length c) us A blk (vat us blk) (xat A blk) W h h' hDl hne hS0 hSl)
  generalize resR A blk (xat A blk) A.length = R at *
  generalize hXl : (xat A blk).length = Xl at *
  have HXl := Lib.hid hXl
  have hxe := hv.ixe (blk : Int) blk rfl hb
  clear hne hS0 hh hok hXl
  unfold dv at K1 HR ⊢
  go_enter Try.func23, Try.ntmps23
  go_wp2_with fail
  refine K1.out.mono ?_
  clear K1 b0 b1
  rintro e w2 ⟨rfl, h2⟩
  have hS2 := hS1.call0 h2
  have b0 := hS2.bcell 1 rfl 0 rfl
  have b1 := hS2.bcell 1 rfl 1 rfl
  have cb := (hS2.oldII hv).cell blk hb
  have hS3 := hS2.drew
  clear h2 hS1
  go_wp2_with fail
  refine regionG (fun w' => w'.cell? ⟨w.heap.size, 0, none⟩ = some (.int .i64 P) ∧ w'.cell? ⟨w.heap.size, 1, none⟩ = some (.slice a A.length c) ∧ w'.cell? (el (.slice a A.length c) blk) = some (vat us blk)) 10 (by kernel_rfl) ⟨cell_dr b0, cell_dr b1, cell_dr cb⟩ (fun hHeld => ?_)
  refine takeH (i := 0) [7, 8] (v := ?_) rfl (by kernel_rfl) (fun _ _ _ h => h) (by rfl) ?_ (by assumption) ?_
  case refine_2 => (intro w' hSw; (try dsimp only at hSw); go_simp; first | done | with_reducible rfl)
  try simp only [Act.put, List.setIfInBounds_toArray, List.set_cons_zero, List.set_cons_succ]
  refine takeP (i := 1) (v := ?_) rfl (by kernel_rfl) (fun _ _ _ h => h) (by rfl) ?_ (by assumption) ?_
  case refine_2 => (intro w'; go_simp; first | done | with_reducible rfl)
  try simp only [Act.put, List.setIfInBounds_toArray, List.set_cons_zero, List.set_cons_succ]
  refine takeP (i := 2) (v := ?_) rfl (by kernel_rfl) (fun _ _ _ h => h) (by rfl) ?_ (by assumption) ?_
  case refine_2 => (intro w'; go_simp; first | done | with_reducible rfl)
  try simp only [Act.put, List.setIfInBounds_toArray, List.set_cons_zero, List.set_cons_succ]
  refine takeH (i := 3) [5, 6, 7, 8] (v := ?_) rfl (by kernel_rfl) (fun _ _ _ h => h) (by rfl) ?_ (by assumption) ?_
  case refine_2 => (intro w' hSw; (try dsimp only at hSw); go_simp; first | done | with_reducible rfl)
  try simp only [Act.put, List.setIfInBounds_toArray, List.set_cons_zero, List.set_cons_succ]
  refine takeP (i := 4) (v := ?_) rfl (by kernel_rfl) (fun _ _ _ h => h) (by rfl) ?_ (by assumption) ?_
  case refine_2 => (intro w'; go_simp; first | done | with_reducible rfl)
  try simp only [Act.put, List.setIfInBounds_toArray, List.set_cons_zero, List.set_cons_succ]
  refine takeP (i := 5) (v := ?_) rfl (by kernel_rfl) (fun _ _ _ h => h) (by rfl) ?_ (by assumption) ?_
  case refine_2 => (intro w'; go_simp; first | done | with_reducible rfl)
  try simp only [Act.put, List.setIfInBounds_toArray, List.set_cons_zero, List.set_cons_succ]
  refine takeH (i := 6) [7, 8] (v := ?_) rfl (by kernel_rfl) (fun _ _ _ h => h) (by rfl) ?_ (by assumption) ?_
  case refine_2 => (intro w' hSw; (try dsimp only at hSw); go_simp; first | done | with_reducible rfl)
  try simp only [Act.put, List.setIfInBounds_toArray, List.set_cons_zero, List.set_cons_succ]
  refine readyG (rs := [7]) (by kernel_rfl) (by simp) ?_
  refine AllG.cons rfl (fun K hK => ?_) AllG.nil
  go_simp
  refine (HR _ (hS3.oldII hv) ((hS3.oldII hv).row blk hb)).out.mono ?_
  rintro e w5 ⟨v5, us5, rfl, hl5, h5⟩
  obtain ⟨ua, uc, hv5⟩ := (h5.rd 0 (e := 52) (v := v5) (us := us5) rfl).sl.sh
  rw [hl5, srtL_len] at hv5
  subst hv5
  unfold dv
  have hB5 := hS3.call h5
  have e0 := hB5.bcell 1 rfl 0 rfl
  have e1 := hB5.bcell 1 rfl 1 rfl
  have ce := (hB5.oldII hv).cell blk hb
  refine hK.out _ _ ⟨e0, e1, ce⟩ (fun hHeld => ?_)
  clear hK K
  try simp only [Act.put, List.setIfInBounds_toArray, List.set_cons_zero, List.set_cons_succ]
  have c0 := hB5.bcell 0 rfl 0 rfl
  have c1 := hB5.bcell 0 rfl 1 rfl
  have f0 := hB5.bfree 0 rfl
  refine takeP (i := 8) (v := ?_) rfl (by kernel_rfl) (fun _ _ _ h => h) (by rfl) ?_ (by assumption) ?_
  case refine_2 => (intro w'; go_simp; first | done | with_reducible rfl)
  try simp only [Act.put, List.setIfInBounds_toArray, List.set_cons_zero, List.set_cons_succ]
  refine takeP (i := 9) (v := ?_) rfl (by kernel_rfl) (fun _ _ _ h => h) (by rfl) ?_ (by assumption) ?_
  case refine_2 => (intro w'; go_simp; first | done | with_reducible rfl)
  try simp only [Act.put, List.setIfInBounds_toArray, List.set_cons_zero, List.set_cons_succ]
  refine readyG (rs := [10]) (by kernel_rfl) (by simp) ?_
  refine AllG.last rfl (by kernel_rfl) (fun K hK => ?_) AllG.nil
  go_simp
  refine hK.out _ _ ?_
  clear hK K
  try simp only [Act.put, List.setIfInBounds_toArray, List.set_cons_zero, List.set_cons_succ]
  refine readyG (rs := [11]) (by kernel_rfl) (by simp) ?_
  refine AllG.last rfl (by kernel_rfl) (fun K hK => ?_) AllG.nil
  go_simp
  refine hK.out _ _ ?_
  clear hK K
  try simp only [Act.put, List.setIfInBounds_toArray, List.set_cons_zero, List.set_cons_succ]
  refine doneG (by kernel_rfl) ?_ _
  refine NoPanic.normal ?_
  have h6 := (hB5.bstore 0 rfl 0 (.int .i64 Xl)).bstore 0 rfl 1 (.slice ua R.length uc)
  have d0 := h6.bcell 0 rfl 0 rfl
  have d1 := h6.bcell 0 rfl 1 rfl
  clear hB5 h5 c0 c1 e0 e1 ce f0
  go_wp2_with fail
  refine bodyPost_ret (v := .tuple #[.agg #[.int .i64 Xl, .slice ua R.length uc], .int .i64 0]) (by simp [results, Try.results23, go_sem, d0, d1]) rfl ?_
  exact ⟨_, us5, rfl, hl5, h6.sub (L' := own2 (.slice ua R.length uc) us5 (srtL R)) ((List.sublist_cons_self _ _).trans (List.sublist_cons_self _ _))⟩
set_option maxHeartbeats 4000000 in
set_option maxRecDepth 100000 in
theorem ResidualDesign_c (P : Nat) (v : Value) (us : List Value) (A : List (List Int)) (blk : Nat) (w : World) (hv : RII w v us A) (hok : dOk P A = true) (hb : blk < A.length)
    (hne : ∀ j, j < A.length → (j : Int) ≠ blk → rsB (xat A j) (cplB P (xat A blk)) ≠ []) (hS0 : cplB P (xat A blk) ≠ []) :
    Calls Try.prog 24 #[dv P v, .int .i64 blk] w (MakesD w (cplB P (xat A blk)).length (srtL (resR A blk (cplB P (xat A blk)) A.length)) 0) := by
  obtain ⟨a, c, hsh⟩ := hv.1.sl.sh
  rw [hv.2.1] at hsh
  subst hsh
  have hDl := (dOk_t hok).len
  have hPl := (dOk_t hok).le
  have hS1 := ((St.refl w).newboxF 41 #[.int .i64 P, .slice a A.length c]).newboxF 41 #[.int .i64 0, .slice none 0 0]
  simp only [World.size_alloc] at hS1
  have b0 := hS1.bcell 1 rfl 0 rfl
  have b1 := hS1.bcell 1 rfl 1 rfl
  have K1 := Lib.hid (hasBlock_c P (.slice a A.length c) us A blk _ (hS1.oldII hv))
  have hh : hbC P A blk = 0 := by
    rw [hbC, if_pos hok, if_pos]; simp [inB]; omega
  rw [hh] at K1
  have HR := fun W X h h' => Lib.hid (restricted_c P (.slice a A.length c) us A blk X (cplB P (xat A blk)) W h h' hDl hne hS0 (by have := cplB_len P (xat A blk); omega))
  generalize resR A blk (cplB P (xat A blk)) A.length = R at *
  generalize hXl : (cplB P (xat A blk)).length = Xl at *
  have HXl := Lib.hid hXl
  have hxe := hv.ixe (blk : Int) blk rfl hb
  clear hne hS0 hh hok hXl
  unfold dv at K1 HR ⊢
  go_enter Try.func24, Try.ntmps24
  go_wp2_with fail
  refine K1.out.mono ?_
  clear K1 b0 b1
  rintro e w2 ⟨rfl, h2⟩
  have hS2 := hS1.call0 h2
  have b0 := hS2.bcell 1 rfl 0 rfl
  have b1 := hS2.bcell 1 rfl 1 rfl
  have cb := (hS2.oldII hv).cell blk hb
  have hS3 := hS2.drew
  clear h2 hS1
  go_wp2_with fail
  refine regionG (fun w' => w'.cell? ⟨w.heap.size, 0, none⟩ = some (.int .i64 P) ∧ w'.cell? ⟨w.heap.size, 1, none⟩ = some (.slice a A.length c) ∧ w'.cell? (el (.slice a A.length c) blk) = some (vat us blk)) 14 (by kernel_rfl) ⟨cell_dr b0, cell_dr b1, cell_dr cb⟩ (fun hHeld => ?_)
  refine takeH (i := 0) [11, 12] (v := ?_) rfl (by kernel_rfl) (fun _ _ _ h => h) (by rfl) ?_ (by assumption) ?_
  case refine_2 => (intro w' hSw; (try dsimp only at hSw); go_simp; first | done | with_reducible rfl)
  try simp only [Act.put, List.setIfInBounds_toArray, List.set_cons_zero, List.set_cons_succ]
  refine takeP (i := 1) (v := ?_) rfl (by kernel_rfl) (fun _ _ _ h => h) (by rfl) ?_ (by assumption) ?_
  case refine_2 => (intro w'; go_simp; first | done | with_reducible rfl)
  try simp only [Act.put, List.setIfInBounds_toArray, List.set_cons_zero, List.set_cons_succ]
  refine takeP (i := 2) (v := ?_) rfl (by kernel_rfl) (fun _ _ _ h => h) (by rfl) ?_ (by assumption) ?_
  case refine_2 => (intro w'; go_simp; first | done | with_reducible rfl)
  try simp only [Act.put, List.setIfInBounds_toArray, List.set_cons_zero, List.set_cons_succ]
  refine takeH (i := 3) [4, 10, 11, 12] (v := ?_) rfl (by kernel_rfl) (fun _ _ _ h => h) (by rfl) ?_ (by assumption) ?_
  case refine_2 => (intro w' hSw; (try dsimp only at hSw); go_simp; first | done | with_reducible rfl)
  try simp only [Act.put, List.setIfInBounds_toArray, List.set_cons_zero, List.set_cons_succ]
  refine takeP (i := 5) (v := ?_) rfl (by kernel_rfl) (fun _ _ _ h => h) (by rfl) ?_ (by assumption) ?_
  case refine_2 => (intro w'; go_simp; first | done | with_reducible rfl)
  try simp only [Act.put, List.setIfInBounds_toArray, List.set_cons_zero, List.set_cons_succ]
  refine takeH (i := 6) [8, 9, 10, 11, 12] (v := ?_) rfl (by kernel_rfl) (fun _ _ _ h => h) (by rfl) ?_ (by assumption) ?_
  case refine_2 => (intro w' hSw; (try dsimp only at hSw); go_simp; first | done | with_reducible rfl)
  try simp only [Act.put, List.setIfInBounds_toArray, List.set_cons_zero, List.set_cons_succ]
  refine takeP (i := 7) (v := ?_) rfl (by kernel_rfl) (fun _ _ _ h => h) (by rfl) ?_ (by assumption) ?_
  case refine_2 => (intro w'; go_simp; first | done | with_reducible rfl)
  try simp only [Act.put, List.setIfInBounds_toArray, List.set_cons_zero, List.set_cons_succ]
  refine takeP (i := 8) (v := ?_) rfl (by kernel_rfl) (fun _ _ _ h => h) (by rfl) ?_ (by assumption) ?_
  case refine_2 => (intro w'; go_simp; first | done | with_reducible rfl)
  try simp only [Act.put, List.setIfInBounds_toArray, List.set_cons_zero, List.set_cons_succ]
  refine takeH (i := 9) [10, 11, 12] (v := ?_) rfl (by kernel_rfl) (fun _ _ _ h => h) (by rfl) ?_ (by assumption) ?_
  case refine_2 => (intro w' hSw; (try dsimp only at hSw); go_simp; first | done | with_reducible rfl)
  try simp only [Act.put, List.setIfInBounds_toArray, List.set_cons_zero, List.set_cons_succ]
  refine readyG (rs := [4]) (by kernel_rfl) (by simp) ?_
  refine AllG.cons rfl (fun K hK => ?_) AllG.nil
  go_simp
  refine (allPoints_c P _ (by omega)).mono ?_
  rintro e w3 ⟨v3, rfl, h3⟩
  have hS4 := hS3.call h3
  have r3 := h3.rdI 0 rfl
  have g0 := hS4.bcell 1 rfl 0 rfl
  have g1 := hS4.bcell 1 rfl 1 rfl
  have cg := (hS4.oldII hv).cell blk hb
  refine hK.out _ _ ⟨g0, g1, cg⟩ (fun hHeld => ?_)
  clear hK K
  try simp only [Act.put, List.setIfInBounds_toArray, List.set_cons_zero, List.set_cons_succ]
  refine readyG (rs := [10]) (by kernel_rfl) (by simp) ?_
  refine AllG.cons rfl (fun K hK => ?_) AllG.nil
  go_simp
  refine (MinusSets_c _ _ _ _ _ r3 ((hS4.oldII hv).row blk hb)).mono ?_
  rintro e w4 ⟨v4, rfl, h4⟩
  have hS5 := hS4.call h4
  have r4 := h4.rdI (xs := cplB P (xat A blk)) 0 rfl
  have k0 := hS5.bcell 1 rfl 0 rfl
  have k1 := hS5.bcell 1 rfl 1 rfl
  have ck := (hS5.oldII hv).cell blk hb
  refine hK.out _ _ ⟨k0, k1, ck⟩ (fun hHeld => ?_)
  clear hK K
  try simp only [Act.put, List.setIfInBounds_toArray, List.set_cons_zero, List.set_cons_succ]
  refine readyG (rs := [11]) (by kernel_rfl) (by simp) ?_
  refine AllG.cons rfl (fun K hK => ?_) AllG.nil
  go_simp
  refine (HR _ _ (hS5.oldII hv) r4).out.mono ?_
  rintro e w5 ⟨v5, us5, rfl, hl5, h5⟩
  obtain ⟨ua, uc, hv5⟩ := (h5.rd 0 (e := 52) (v := v5) (us := us5) rfl).sl.sh
  rw [hl5, srtL_len] at hv5
  subst hv5
  unfold dv
  have hB5 := hS5.call h5
  have e0 := hB5.bcell 1 rfl 0 rfl
  have e1 := hB5.bcell 1 rfl 1 rfl
  have ce := (hB5.oldII hv).cell blk hb
  refine hK.out _ _ ⟨e0, e1, ce⟩ (fun hHeld => ?_)
  clear hK K
  try simp only [Act.put, List.setIfInBounds_toArray, List.set_cons_zero, List.set_cons_succ]
  have c0 := hB5.bcell 0 rfl 0 rfl
  have c1 := hB5.bcell 0 rfl 1 rfl
  have f0 := hB5.bfree 0 rfl
  refine takeP (i := 12) (v := ?_) rfl (by kernel_rfl) (fun _ _ _ h => h) (by rfl) ?_ (by assumption) ?_
  case refine_2 => (intro w'; go_simp; first | done | with_reducible rfl)
  try simp only [Act.put, List.setIfInBounds_toArray, List.set_cons_zero, List.set_cons_succ]
  refine takeP (i := 13) (v := ?_) rfl (by kernel_rfl) (fun _ _ _ h => h) (by rfl) ?_ (by assumption) ?_
  case refine_2 => (intro w'; go_simp; first | done | with_reducible rfl)
  try simp only [Act.put, List.setIfInBounds_toArray, List.set_cons_zero, List.set_cons_succ]
  refine readyG (rs := [14]) (by kernel_rfl) (by simp) ?_
  refine AllG.last rfl (by kernel_rfl) (fun K hK => ?_) AllG.nil
  go_simp
  refine hK.out _ _ ?_
  clear hK K
  try simp only [Act.put, List.setIfInBounds_toArray, List.set_cons_zero, List.set_cons_succ]
  refine readyG (rs := [15]) (by kernel_rfl) (by simp) ?_
  refine AllG.last rfl (by kernel_rfl) (fun K hK => ?_) AllG.nil
  go_simp
  refine hK.out _ _ ?_
  clear hK K
  try simp only [Act.put, List.setIfInBounds_toArray, List.set_cons_zero, List.set_cons_succ]
  refine doneG (by kernel_rfl) ?_ _
  refine NoPanic.normal ?_
  have h6 := (hB5.bstore 0 rfl 0 (.int .i64 Xl)).bstore 0 rfl 1 (.slice ua R.length uc)
  have d0 := h6.bcell 0 rfl 0 rfl
  have d1 := h6.bcell 0 rfl 1 rfl
  clear hB5 h5 c0 c1 e0 e1 ce f0
  go_wp2_with fail
  refine bodyPost_ret (v := .tuple #[.agg #[.int .i64 Xl, .slice ua R.length uc], .int .i64 0]) (by simp [results, Try.results24, go_sem, d0, d1]) rfl ?_
  exact ⟨_, us5, rfl, hl5, h6.sub (L' := own2 (.slice ua R.length uc) us5 (srtL R)) ((((List.sublist_cons_self _ _).trans (List.sublist_cons_self _ _)).trans (List.sublist_cons_self _ _)).trans (List.sublist_cons_self _ _))⟩
end Go.Proofs.Ytejncephbafcdaa
end

section
/- Permutations as lists, in plain terms. -/
namespace Go.Proofs.Ytejncephbafcdaa
set_option linter.unusedSimpArgs false
set_option linter.unusedVariables false
/-- a list that holds each number below its length once -/
structure IsP (xs : List Int) : Prop where
  lt : ∀ j, j < xs.length → 0 ≤ nth xs j ∧ nth xs j < xs.length
  inj : ∀ i j, i < xs.length → j < xs.length → nth xs i = nth xs j → i = j
/-- a permutation as a function -/
def pf (xs : List Int) (j : Nat) : Nat := (nth xs j).toNat
theorem nth_pf {xs : List Int} (h : IsP xs) {j : Nat} (hj : j < xs.length) : nth xs j = (pf xs j : Int) := by
  have := (h.lt j hj).1; unfold pf; omega
theorem IsP.bij {xs : List Int} (h : IsP xs) : Bij xs.length (pf xs) where
  lt j hj := by have := h.lt j hj; unfold pf; omega
  inj i j hi hj e := h.inj i j hi hj (by rw [nth_pf h hi, nth_pf h hj, e])
theorem IsP.pf_lt {xs : List Int} (h : IsP xs) {j : Nat} (hj : j < xs.length) : pf xs j < xs.length := h.bij.lt j hj
theorem IsP.nodup {xs : List Int} (h : IsP xs) : xs.Nodup := by
  rw [List.nodup_iff_pairwise_ne, List.pairwise_iff_getElem]
  intro a b ha hb hab e
  have := h.inj a b ha hb (by rw [nth_eq ha, nth_eq hb, e])
  omega
theorem nth_ext {xs ys : List Int} (hl : xs.length = ys.length) (h : ∀ j, j < xs.length → nth xs j = nth ys j) : xs = ys := by
  apply List.ext_getElem hl
  intro j h1 h2
  have := h j h1
  rwa [nth_eq h1, nth_eq h2] at this
/-- the identity -/
def iot (n : Nat) : List Int := (List.range n).map fun k : Nat => (k : Int)
theorem iot_len (n : Nat) : (iot n).length = n := by simp [iot]
theorem nth_iot {n j : Nat} (h : j < n) : nth (iot n) j = j := by simp [iot, nth, h]
theorem iot_isP (n : Nat) : IsP (iot n) where
  lt j hj := by rw [iot_len] at hj ⊢; rw [nth_iot hj]; omega
  inj i j hi hj e := by rw [iot_len] at hi hj; rw [nth_iot hi, nth_iot hj] at e; omega
theorem mem_iot {n : Nat} {x : Int} : x ∈ iot n ↔ 0 ≤ x ∧ x < n := by
  unfold iot; rw [List.mem_map]
  constructor
  · rintro ⟨k, hk, rfl⟩; have := List.mem_range.1 hk; omega
  · intro h; exact ⟨x.toNat, List.mem_range.2 (by omega), by omega⟩
theorem IsP.perm {xs : List Int} (h : IsP xs) : xs.Perm (iot xs.length) := by
  refine (List.perm_ext_iff_of_nodup h.nodup (iot_isP _).nodup).2 fun x => ?_
  rw [mem_iot]
  constructor
  · intro hx
    obtain ⟨j, hj, rfl⟩ := List.getElem_of_mem hx
    have := h.lt j hj; rwa [nth_eq hj] at this
  · intro hx
    obtain ⟨j, hj, e⟩ := h.bij.onto (y := x.toNat) (by omega)
    have := nth_pf h hj
    rw [e] at this
    have hm := nth_mem hj
    rw [this] at hm
    rwa [Int.toNat_of_nonneg hx.1] at hm
/-! ### exchanges -/
theorem nth_set {xs : List Int} {i j : Nat} {x : Int} (h : i < xs.length) : nth (xs.set i x) j = if i = j then x else nth xs j := by
  unfold nth
  rw [List.getD_eq_getElem?_getD, List.getElem?_set]
  split
  · rename_i e; subst e; simp [h]
  · simp
/-! ### composition, inverse -/
/-- place j of the first k is written at the number that stands there -/
def invQ (xs : List Int) : Nat → List Int
  | 0 => List.replicate xs.length 0
  | k + 1 => (invQ xs k).set (pf xs k) k
def invL (xs : List Int) : List Int := invQ xs xs.length
theorem invQ_len (xs : List Int) : ∀ k, (invQ xs k).length = xs.length
  | 0 => by simp [invQ]
  | k + 1 => by rw [invQ, List.length_set, invQ_len xs k]
theorem nth_invQ {xs : List Int} (h : IsP xs) : ∀ k, k ≤ xs.length → ∀ j, j < k → nth (invQ xs k) (pf xs j) = j
  | 0, _, j, hj => by omega
  | k + 1, hk, j, hj => by
    rw [invQ, nth_set (by rw [invQ_len]; exact h.pf_lt (by omega))]
    by_cases e : k = j
    · subst e; rw [if_pos rfl]
    · rw [if_neg (fun e2 => e (h.bij.inj k j (by omega) (by omega) e2)), nth_invQ h k (by omega) j (by omega)]
theorem invL_len (xs : List Int) : (invL xs).length = xs.length := invQ_len xs _
theorem nth_invL {xs : List Int} (h : IsP xs) {j : Nat} (hj : j < xs.length) : nth (invL xs) (pf xs j) = j := nth_invQ h _ (Nat.le_refl _) j hj
theorem IsP.inv {xs : List Int} (h : IsP xs) : IsP (invL xs) := by
  have key : ∀ y, y < xs.length → ∃ j, j < xs.length ∧ pf xs j = y := fun y hy => h.bij.onto hy
  refine ⟨fun y hy => ?_, fun a b ha hb e => ?_⟩
  · rw [invL_len] at hy ⊢
    obtain ⟨j, hj, rfl⟩ := key y hy
    rw [nth_invL h hj]; omega
  · rw [invL_len] at ha hb
    obtain ⟨i, hi, rfl⟩ := key a ha
    obtain ⟨j, hj, rfl⟩ := key b hb
    rw [nth_invL h hi, nth_invL h hj] at e
    have : i = j := by omega
    rw [this]
/-! ### signs -/
end Go.Proofs.Ytejncephbafcdaa
end

section
/- slices.Sort at []int64: a row that a call owns, sorted. -/
namespace Go.Proofs.Ytejncephbafcdaa
set_option linter.unusedSimpArgs false
set_option linter.unusedVariables false
open Go.RowKit
/-- in rising order -/
def srt (xs : List Int) : List Int := xs.mergeSort fun x y => decide (x ≤ y)
end Go.Proofs.Ytejncephbafcdaa
end

section
/- Images of sets under permutations; ranks of permutations. In plain terms. -/
namespace Go.Proofs.Ytejncephbafcdaa
set_option linter.unusedSimpArgs false
set_option linter.unusedVariables false
theorem incB_pw : ∀ {xs : List Int} {l n : Int}, incB l n xs = true → xs.Pairwise (· < ·)
  | [], _, _, _ => List.Pairwise.nil
  | x :: t, l, n, h => by
    unfold incB at h; split at h
    · simp at h
    · exact List.Pairwise.cons (fun y hy => (incB_gt h y hy).1) (incB_pw h)
/-! ### ranks -/
end Go.Proofs.Ytejncephbafcdaa
end

section
/- Slices of slices of slices of integers: what they read as, what a call owns, and the law's functions on them. -/
namespace Go.Proofs.Ytejncephbafcdaa
set_option linter.unusedSimpArgs false
set_option linter.unusedVariables false
open Go.RowKit

def x3at (X : List (List (List Int))) (k : Nat) : List (List Int) := X.getD k []
theorem x3at_set {X : List (List (List Int))} {j k : Nat} {x : List (List Int)} (h : j < X.length) : x3at (X.set j x) k = if j = k then x else x3at X k := by
  unfold x3at
  rw [List.getD_eq_getElem?_getD, List.getElem?_set]
  split
  · rename_i e; subst e; simp [h]
  · simp [List.getD_eq_getElem?_getD]
/-- what is read -/
def RIII (w : World) (v : Value) (vs : List Value) (uss : List (List Value)) (X : List (List (List Int))) : Prop :=
  Rd w v vs ∧ vs.length = X.length ∧ ∀ k, k < X.length → RII w (vat vs k) (vsat uss k) (x3at X k)
section
variable {w w' : World} {v : Value} {vs : List Value} {uss : List (List Value)} {X : List (List (List Int))}
theorem RIII.le (h : RIII w v vs uss X) : X.length ≤ 9223372036854775807 := by have := h.1.sl.le; rwa [h.2.1] at this
theorem RIII.len (h : RIII w v vs uss X) (ty : TypeId) (W : World) : (Builtin.len_ #[24] ty #[v]).run Try.prog W = .ok (.int .i64 X.length) W := by
  have := run_len_sl (P := Try.prog) h.1.sl 24 ty Try.und_isss W; rwa [h.2.1] at this
theorem RIII.ix (h : RIII w v vs uss X) (k : IntKind) (i : Int) (h0 : 0 ≤ i) (hi : i < X.length) (W : World) :
    (Instr.indexAt 24 v (.int k i)).run Try.prog W = .ok (.pointer (some (el v i.toNat))) W :=
  run_ix_sl (P := Try.prog) h.1.sl 24 Try.und_isss Try.size_iss k i h0 (by rw [h.2.1]; exact hi) W
theorem RIII.ixe (h : RIII w v vs uss X) (i : Int) (j : Nat) (hij : i = (j : Int)) (hj : j < X.length) (W : World) :
    (Instr.indexAt 24 v (.int .i64 i)).run Try.prog W = .ok (.pointer (some (el v j))) W := by
  have := h.ix .i64 i (by omega) (by omega) W
  rwa [hij, Int.toNat_natCast, ← hij] at this
theorem RIII.cell (h : RIII w v vs uss X) (j : Nat) (hj : j < X.length) : w.cell? (el v j) = some (vat vs j) := Rd.cell h.1 (by rw [h.2.1]; exact hj)
theorem RIII.row (h : RIII w v vs uss X) (j : Nat) (hj : j < X.length) : RII w (vat vs j) (vsat uss j) (x3at X j) := h.2.2 j hj
theorem RIII.keep (h : RIII w v vs uss X) (hb : Below w.heap.size w w') : RIII w' v vs uss X := ⟨h.1.keep hb, h.2.1, fun j hj => (h.2.2 j hj).keep hb⟩
end
/-! ### what is owned -/
section
variable {v : Value} {vs : List Value} {uss : List (List Value)} {X : List (List (List Int))} {L2 : List Ent} {j : Nat}
end
/-- the lengths fit -/
def Fit3 (vs : List Value) (uss : List (List Value)) (X : List (List (List Int))) : Prop := vs.length = X.length ∧ uss.length = X.length ∧ ∀ k, k < X.length → (vsat uss k).length = (x3at X k).length
theorem Fit3.set {vs : List Value} {uss : List (List Value)} {X : List (List (List Int))} (h : Fit3 vs uss X) {j : Nat} (hj : j < X.length) {x : List (List Int)} (hx : x.length = (x3at X j).length) : Fit3 vs uss (X.set j x) :=
  ⟨by simpa using h.1, by simpa using h.2.1, fun k hk => by
    rw [x3at_set hj]
    simp only [List.length_set] at hk
    by_cases e : j = k
    · rw [if_pos e, hx]; subst e; exact h.2.2 j hj
    · rw [if_neg e]; exact h.2.2 k hk⟩

/-! ### the law's functions -/
end Go.Proofs.Ytejncephbafcdaa
end

section
/- Walks: squares that are made. -/
namespace Go.Proofs.Ytejncephbafcdaa
set_option linter.unusedSimpArgs false
set_option linter.unusedVariables false
open Go.RowKit
section
variable {ops : Array Oper} {rest : List Oper} {o : Oper} {a : Act} {Q : Exit → Act → World → Prop} {B : Nat} {w0 w : World} {L : List Ent}
end
theorem RdI.shq {w : World} {v : Value} {xs : List Int} (h : RdI w v xs) : ∃ a c, v = .slice a xs.length c := by
  obtain ⟨a, c, hv⟩ := h.sl.sh
  rw [iv_len] at hv
  exact ⟨a, c, hv⟩
/-- a square by its entries -/
def sqF (n : Nat) (f : Nat → Nat → Int) : List (List Int) := (List.range n).map fun x => tab n (f x)
theorem sqF_len (n : Nat) (f : Nat → Nat → Int) : (sqF n f).length = n := by simp [sqF]
theorem xat_sqF {n : Nat} {f : Nat → Nat → Int} {x : Nat} (h : x < n) : xat (sqF n f) x = tab n (f x) := by simp [sqF, xat, h]
theorem sqF_take {n : Nat} {f : Nat → Nat → Int} {k : Nat} (h : k < n) : (sqF n f).take (k + 1) = (sqF n f).take k ++ [tab n (f k)] := by
  rw [take_xat (by rw [sqF_len]; exact h), xat_sqF h]
theorem tab_succ (k : Nat) (f : Nat → Int) : tab (k + 1) f = tab k f ++ [f k] := by simp [tab, List.range_succ]
set_option maxHeartbeats 2000000 in
set_option maxRecDepth 100000 in
theorem filledSquare_c (K : FuncId) (caps : Array Value) (f : Nat → Nat → Int) (n : Nat) (w : World) (hn : n ≤ 4096)
    (hcf : ∀ (args : Array Value) (W : World), (callFunc K args).run Try.prog W = .ok (.enter K args) W)
    (hK : ∀ (x y : Nat) (W : World), St w.heap.size w W [] → x < n → y < n → Calls Try.prog K (#[.int .i64 x, .int .i64 y] ++ caps) W (GivesI W (f x y))) :
    Calls Try.prog 91 #[.int .i64 n, .func (.func K) #[] caps] w (MakesII w (sqF n f)) := by
  have HK := Lib.hid hK
  clear hK
  have hS0 := (St.refl w).newnil 52
  go_enter Try.func91, Try.ntmps91
  go_wp2_with fail
  go_loopw [5, 6, 7, 8] (fun o ii _ _ wr => ∃ (k : Nat) (us : List Value), k ≤ n ∧ ii = .int .i64 k ∧ Hid (us.length = k) ∧ St w.heap.size w wr (own2 o us ((sqF n f).take k))) (fun _ ii _ _ _ => n - (intOf ii).toNat)
  case atStart => exact ⟨0, [], by omega, rfl, rfl, hS0⟩
  case round =>
    obtain ⟨k, us, hk, rfl, hl, hS⟩ := hrel
    have Hlu := Lib.hid (show us.length = ((sqF n f).take k).length by rw [List.length_take, sqF_len, hl.out]; omega)
    by_cases hlt : k < n
    · have hS1 := (hS.newnil 2).perm List.perm_append_comm
      simp only [List.cons_append, List.nil_append] at hS1
      have Hst := Lib.hid (sqF_take (f := f) hlt)
      go_wp2_with fail
      go_loopw [7, 8] (fun r jj wx => ∃ j : Nat, j ≤ n ∧ jj = .int .i64 j ∧ St w.heap.size w wx (row 2 r (iv (tab j (f k))) :: own2 u5 us ((sqF n f).take k))) (fun _ jj _ => n - (intOf jj).toNat)
      case atStart => exact ⟨0, by omega, rfl, hS1⟩
      case round =>
        obtain ⟨j, hj, rfl, hS2⟩ := hrel
        by_cases hjn : j < n
        · have Hts := Lib.hid (tab_succ j (f k))
          have Htl := Lib.hid (show (tab j (f k)).length < 4294967296 by rw [tab_len]; omega)
          go_wp2_with fail
          refine (HK.out k j _ hS2.out hlt hjn).mono ?_
          rintro e w3 ⟨rfl, h3⟩
          have hS3 := hS2.call0 h3
          go_wp2_with (at_builtin; refine appI hS3 0 rfl Htl.out rfl _ _ rfl rfl _ rfl ?_; intro v4 w4 hS4)
          go_roundw
          case rel => exact ⟨j + 1, by omega, by go_num, by rw [Hts.out]; exact hS4⟩
          case measure => simp [intOf]; omega
        · have hje : j = n := by omega
          rw [hje] at hS2
          clear hje
          obtain ⟨ar, cr, hre⟩ := (hS2.rdI 0 rfl).shq
          subst hre
          have Htl := Lib.hid (show (tab n (f k)).length = n from tab_len _ _)
          go_wp2_with (at_builtin; refine appII hS2 1 rfl (by rw [hl.out]; omega) rfl _ _ rfl rfl _ rfl rfl ?_; intro v4 w4 hS4)
          go_roundw
          case rel =>
            refine ⟨k + 1, us ++ [.slice ar (tab n (f k)).length cr], by omega, by go_num, by simp [Hid, hl.out], ?_⟩
            rw [Hst.out, own2, rowsI_app Hlu.out]
            simp only [own2, List.set_cons_succ, List.set_cons_zero] at hS4
            exact hS4.perm (by (try simp only [own2, List.cons_append, List.nil_append, List.append_nil]); classical exact List.perm_iff_count.2 (fun a => by simp only [List.cons_append, List.nil_append, List.append_nil, List.count_append, List.count_cons, List.count_nil] <;> omega))
          case measure => simp [intOf]; omega
    · have hke : k = n := by omega
      have HL := Lib.hid (show us.length = (sqF n f).length by rw [hl.out, sqF_len, hke])
      rw [hke, List.take_of_length_le (by rw [sqF_len]; exact Nat.le_refl _)] at hS
      clear hke
      go_wp2_with fail
      go_ret
      exact ⟨_, us, rfl, HL.out, hS⟩
theorem emptySquare1_c (x y : Int) (w : World) : Calls Try.prog 92 #[.int .i64 x, .int .i64 y] w (GivesI w 0) := by
  go_enter Try.func92, Try.ntmps92
  go_wp2_with fail
  go_ret
  exact ⟨rfl, St.refl w⟩
theorem emptySquare_c (n : Nat) (w : World) (hn : n ≤ 4096) : Calls Try.prog 49 #[.int .i64 n] w (MakesII w (sqF n fun _ _ => 0)) := by
  have hcf := callFunc_go Try.func92 (by kernel_rfl) (by kernel_rfl)
  have hcall := Lib.hid (filledSquare_c 92 #[] (fun _ _ => 0) n w hn hcf (fun x y W _ _ _ => emptySquare1_c x y W))
  clear hcf
  go_enter Try.func49, Try.ntmps49
  go_wp2_with fail
  refine hcall.out.mono ?_
  rintro e w1 ⟨v, us, rfl, hl, h1⟩
  have Hl := Lib.hid hl
  clear hl
  go_wp2_with fail
  go_ret
  exact ⟨v, us, rfl, Hl.out, h1⟩
end Go.Proofs.Ytejncephbafcdaa
end

section
/- Latin squares as lists of lists, their isotopes. In plain terms. -/
namespace Go.Proofs.Ytejncephbafcdaa
set_option linter.unusedSimpArgs false
set_option linter.unusedVariables false
/-- the entry of a place -/
def at2 (A : List (List Int)) (x y : Nat) : Int := nth (xat A x) y
/-- a square of n rows and columns -/
structure Sqr (n : Nat) (A : List (List Int)) : Prop where
  len : A.length = n
  row : ∀ x, x < n → (xat A x).length = n
theorem sq_ext {n : Nat} {A B : List (List Int)} (hA : Sqr n A) (hB : Sqr n B) (h : ∀ x y, x < n → y < n → at2 A x y = at2 B x y) : A = B := by
  apply List.ext_getElem (hA.len.trans hB.len.symm)
  intro x h1 h2
  have hx : x < n := by rw [← hA.len]; exact h1
  have e1 : A[x] = xat A x := by simp [xat, h1]
  have e2 : B[x] = xat B x := by simp [xat, h2]
  rw [e1, e2]
  refine nth_ext (by rw [hA.row x hx, hB.row x hx]) fun y hy => h x y hx (by rw [← hA.row x hx]; exact hy)
theorem sq_ext2 {n : Nat} {A B : List (List Int)} {r c : List Int} (hr : IsP r) (hc : IsP c) (hrl : r.length = n) (hcl : c.length = n) (hA : Sqr n A) (hB : Sqr n B)
    (h : ∀ x y, x < n → y < n → at2 A (pf r x) (pf c y) = at2 B (pf r x) (pf c y)) : A = B := by
  refine sq_ext hA hB fun x y hx hy => ?_
  obtain ⟨x', hx', rfl⟩ := hr.bij.onto (y := x) (by omega)
  obtain ⟨y', hy', rfl⟩ := hc.bij.onto (y := y) (by omega)
  exact h x' y' (by omega) (by omega)
theorem at2_sqF {n : Nat} {f : Nat → Nat → Int} {x y : Nat} (hx : x < n) (hy : y < n) : at2 (sqF n f) x y = f x y := by
  unfold at2; rw [xat_sqF hx]; simp [tab, nth, hy]
theorem sqF_sqr (n : Nat) (f : Nat → Nat → Int) : Sqr n (sqF n f) := ⟨sqF_len n f, fun x hx => by rw [xat_sqF hx, tab_len]⟩
/-- one entry anew -/
def putS (S : List (List Int)) (x y : Nat) (v : Int) : List (List Int) := S.set x ((xat S x).set y v)
theorem xat_putS {n : Nat} {S : List (List Int)} (h : Sqr n S) {x : Nat} (hx : x < n) (y : Nat) (v : Int) (t : Nat) : xat (putS S x y v) t = if x = t then (xat S x).set y v else xat S t := by
  unfold putS xat
  rw [List.getD_eq_getElem?_getD, List.getElem?_set]
  split
  · rename_i e; subst e; rw [if_pos (by rw [h.len]; exact hx)]; rfl
  · simp
theorem putS_sqr {n : Nat} {S : List (List Int)} (h : Sqr n S) {x : Nat} (hx : x < n) (y : Nat) (v : Int) : Sqr n (putS S x y v) := by
  refine ⟨by unfold putS; rw [List.length_set]; exact h.len, fun t ht => ?_⟩
  rw [xat_putS h hx]
  split
  · rw [List.length_set]; exact h.row x hx
  · exact h.row t ht
theorem at2_putS {n : Nat} {S : List (List Int)} (h : Sqr n S) {x y : Nat} (hx : x < n) (hy : y < n) (v : Int) (t u : Nat) : at2 (putS S x y v) t u = if x = t ∧ y = u then v else at2 S t u := by
  unfold at2
  rw [xat_putS h hx]
  by_cases e : x = t
  · subst e
    rw [if_pos rfl, nth_set (by rw [h.row x hx]; exact hy)]
    by_cases e2 : y = u
    · rw [if_pos e2, if_pos ⟨rfl, e2⟩]
    · rw [if_neg e2, if_neg fun h => e2 h.2]
  · rw [if_neg e, if_neg fun h => e h.1]
/-! ### isotopes -/
def isoL (A : List (List Int)) (r c s : List Int) : List (List Int) := sqF A.length fun x y => nth s (at2 A (pf (invL r) x) (pf (invL c) y)).toNat
theorem pf_invL {xs : List Int} (h : IsP xs) {j : Nat} (hj : j < xs.length) : pf (invL xs) (pf xs j) = j := by unfold pf; rw [show nth (invL xs) (nth xs j).toNat = j from nth_invL h hj]; rfl
theorem isoL_sqr (A : List (List Int)) (r c s : List Int) : Sqr A.length (isoL A r c s) := sqF_sqr _ _
theorem isoL_at {A : List (List Int)} {r c s : List Int} (hr : IsP r) (hc : IsP c) (hrl : r.length = A.length) (hcl : c.length = A.length) {x y : Nat} (hx : x < A.length) (hy : y < A.length) :
    at2 (isoL A r c s) (pf r x) (pf c y) = nth s (at2 A x y).toNat := by
  have h1 : pf r x < A.length := by rw [← hrl]; exact hr.pf_lt (by omega)
  have h2 : pf c y < A.length := by rw [← hcl]; exact hc.pf_lt (by omega)
  unfold isoL
  rw [at2_sqF h1 h2, pf_invL hr (by omega), pf_invL hc (by omega)]
/-- the isotope, made as far as place y of row x -/
structure IsoP (A : List (List Int)) (r c s : List Int) (x y : Nat) (S : List (List Int)) : Prop where
  sqr : Sqr A.length S
  at' : ∀ x' y', x' < A.length → y' < A.length → (x' < x ∨ x' = x ∧ y' < y) → at2 S (pf r x') (pf c y') = nth s (at2 A x' y').toNat
section
variable {A : List (List Int)} {r c s : List Int}
theorem IsoP.start : IsoP A r c s 0 0 (sqF A.length fun _ _ => 0) := ⟨sqF_sqr _ _, fun _ _ _ _ h => by omega⟩
theorem IsoP.step (hr : IsP r) (hc : IsP c) (hrl : r.length = A.length) (hcl : c.length = A.length) {x y : Nat} {S : List (List Int)} (h : IsoP A r c s x y S) (hx : x < A.length) (hy : y < A.length) :
    IsoP A r c s x (y + 1) (putS S (pf r x) (pf c y) (nth s (at2 A x y).toNat)) := by
  have h1 : pf r x < A.length := by rw [← hrl]; exact hr.pf_lt (by omega)
  have h2 : pf c y < A.length := by rw [← hcl]; exact hc.pf_lt (by omega)
  refine ⟨putS_sqr h.sqr h1 _ _, fun x' y' hx' hy' hl => ?_⟩
  rw [at2_putS h.sqr h1 h2]
  split
  · rename_i e
    rw [hr.bij.inj x x' (by omega) (by omega) e.1, hc.bij.inj y y' (by omega) (by omega) e.2]
  · rename_i e
    refine h.at' x' y' hx' hy' ?_
    rcases hl with hl | ⟨rfl, hl⟩
    · exact .inl hl
    · refine .inr ⟨rfl, ?_⟩
      by_cases e2 : y' = y
      · subst e2; exact absurd ⟨rfl, rfl⟩ e
      · omega
theorem IsoP.next {x : Nat} {S : List (List Int)} (h : IsoP A r c s x A.length S) : IsoP A r c s (x + 1) 0 S :=
  ⟨h.sqr, fun x' y' hx' hy' hl => h.at' x' y' hx' hy' (by omega)⟩
theorem IsoP.done (hr : IsP r) (hc : IsP c) (hrl : r.length = A.length) (hcl : c.length = A.length) {S : List (List Int)} (h : IsoP A r c s A.length 0 S) : S = isoL A r c s :=
  sq_ext2 hr hc hrl hcl h.sqr (isoL_sqr A r c s) fun x y hx hy => by
    rw [h.at' x y hx hy (.inl hx), isoL_at hr hc hrl hcl hx hy]
end
end Go.Proofs.Ytejncephbafcdaa
end

section
/- Walks: how often points and pairs of points occur in a design. -/
namespace Go.Proofs.Ytejncephbafcdaa
set_option linter.unusedSimpArgs false
set_option linter.unusedVariables false
open Go.RowKit
attribute [local go_sem ↓] Go.wp_at_zero Go.wp_at_succ

/-- a block of points 0 .. P - 1 that increases -/
structure Inc (P : Nat) (b : List Int) : Prop where
  bd : ∀ i, i < b.length → 0 ≤ nth b i ∧ nth b i < P
  lt : ∀ i j, i < j → j < b.length → nth b i < nth b j
  len : b.length ≤ P
theorem inc_of {P : Nat} {b : List Int} (h : incB (-1) P b = true) : Inc P b where
  len := by have := inc_len h (by omega); omega
  bd i hi := by have := incB_gt h _ (nth_mem hi); omega
  lt i j hij hj := by
    have := List.pairwise_iff_getElem.1 (incB_pw h) i j (by omega) hj hij
    rwa [← nth_eq (show i < b.length by omega), ← nth_eq hj] at this
theorem DOk.inc' {P : Nat} {A : List (List Int)} (h : DOk P A) {k : Nat} (hk : k < A.length) : Inc P (xat A k) := inc_of (h.inc _ (xat_mem hk))
theorem Inc.nat {P : Nat} {b : List Int} (h : Inc P b) {i : Nat} (hi : i < b.length) : ∃ x : Nat, nth b i = x ∧ x < P :=
  ⟨(nth b i).toNat, by have := h.bd i hi; omega, by have := h.bd i hi; omega⟩
theorem Inc.fresh {P : Nat} {b : List Int} (h : Inc P b) {j : Nat} (hj : j < b.length) : nth b j ∉ b.take j := by
  intro hm
  obtain ⟨i, hi, he⟩ := List.getElem_of_mem hm
  have hi' : i < j := by simp at hi; omega
  rw [List.getElem_take, ← nth_eq (show i < b.length by omega)] at he
  have := h.lt i j hi' hj
  omega
theorem mem_take1 {b : List Int} {j : Nat} (hj : j < b.length) (x : Int) : x ∈ b.take (j + 1) ↔ x ∈ b.take j ∨ x = nth b j := by
  rw [List.take_add_one, List.getElem?_eq_getElem hj, nth_eq hj, List.mem_append]
  simp only [Option.toList, List.mem_singleton]
/-- how often the points have come up, behind k blocks and j points -/
def repS (P : Nat) (A : List (List Int)) (k j : Nat) : List Int := (List.range P).map fun x => repF (A.take k) x + if (x : Int) ∈ (xat A k).take j then 1 else 0
theorem repS_len (P : Nat) (A : List (List Int)) (k j : Nat) : (repS P A k j).length = P := by simp [repS]
theorem repS_at {P : Nat} {A : List (List Int)} {k j x : Nat} (hx : x < P) : nth (repS P A k j) x = repF (A.take k) x + if (x : Int) ∈ (xat A k).take j then 1 else 0 := by
  rw [nth_eq (by rw [repS_len]; exact hx)]; simp [repS]
theorem repS_0 (P : Nat) (A : List (List Int)) : repS P A 0 0 = List.replicate P 0 := by
  apply List.ext_getElem
  · simp [repS]
  · intro i h1 h2
    simp [repS, repF, cntD]
theorem repS_bd {P : Nat} {A : List (List Int)} {k j x : Nat} (hk : k < A.length) (hA : A.length ≤ 128) (hx : x < P) : 0 ≤ nth (repS P A k j) x ∧ nth (repS P A k j) x ≤ 129 := by
  rw [repS_at hx]
  have := cntD_bd (fun b => decide ((x : Int) ∈ b)) (A.take k)
  have hl : (A.take k).length ≤ 128 := by simp; omega
  unfold repF
  split <;> omega
theorem repS_step {P : Nat} {A : List (List Int)} {k j x : Nat} (hi : Inc P (xat A k)) (hj : j < (xat A k).length) (hx : nth (xat A k) j = x) (hxP : x < P) :
    (repS P A k j).set x (nth (repS P A k j) x + 1) = repS P A k (j + 1) := by
  apply List.ext_getElem
  · simp [repS]
  · intro i h1 h2
    have hiP : i < P := by simpa [repS] using h2
    rw [← nth_eq h2, repS_at hiP, List.getElem_set]
    have hf := hi.fresh hj
    rw [hx] at hf
    have hm := mem_take1 hj (i : Int)
    rw [hx] at hm
    by_cases e : x = i
    · subst e
      rw [if_pos rfl, repS_at hxP, if_neg hf, if_pos (hm.2 (.inr rfl))]; omega
    · rw [if_neg e, ← nth_eq (by rw [repS_len]; exact hiP), repS_at hiP]
      congr 1
      have : ((i : Int) ∈ (xat A k).take (j + 1)) ↔ (i : Int) ∈ (xat A k).take j := by rw [hm]; constructor
                                                                                       · rintro (h | h)
                                                                                         · exact h
                                                                                         · omega
                                                                                       · exact .inl
      simp only [this]
theorem repS_next {P : Nat} {A : List (List Int)} {k : Nat} (hk : k < A.length) : repS P A k (xat A k).length = repS P A (k + 1) 0 := by
  refine List.map_congr_left fun x _ => ?_
  rw [List.take_length, take_xat hk]
  unfold repF
  rw [cntD_snoc]
  simp
theorem repS_end {P : Nat} {A : List (List Int)} : repS P A A.length 0 = repL P A := by
  refine List.map_congr_left fun x _ => ?_
  rw [List.take_length]; simp

set_option maxHeartbeats 2000000 in
set_option maxRecDepth 100000 in
theorem replicationsOf_c (P : Nat) (v : Value) (us : List Value) (A : List (List Int)) (w : World) (hv : RII w v us A) (hD : DOk P A) :
    Calls Try.prog 71 #[dv P v] w (MakesI w (repL P A)) := by
  obtain ⟨a, c, hsh⟩ := hv.1.sl.sh
  rw [hv.2.1] at hsh
  subst hsh
  have hP := hD.le
  have hDl := hD.len
  have HD := Lib.hid hD
  clear hD
  have hS1 := (St.refl w).newboxF 41 #[.int .i64 P, .slice a A.length c]
  have b0 := hS1.bcell 0 rfl 0 rfl
  have b1 := hS1.bcell 0 rfl 1 rfl
  have hix := hv.ix
  unfold dv
  go_enter Try.func71, Try.ntmps71
  go_wp2_with (at_make; refine mkI hS1 rfl _ _ rfl _ _ P (by go_num) (by go_num) (by omega) ?_; intro vc w3 hS3; have b1 := hS3.bcell 0 rfl 1 rfl)
  have hxc := (hS3.rdI 1 rfl).ixe
  rw [← repS_0 P A] at hS3 hxc
  rw [repS_len] at hxc
  go_loopw [5, 7, 14] (fun _ _ i wr => ∃ k : Nat, k ≤ A.length ∧ i = .int .i64 k ∧ St w.heap.size w wr [box 41 w.heap.size [.int .i64 P, .slice a A.length c], row 2 vc (iv (repS P A k 0))]) (fun _ _ i _ => A.length - (intOf i).toNat)
  case atStart => exact ⟨0, by omega, rfl, hS3⟩
  case round =>
    clear hS3 b0 b1
    obtain ⟨k, hk, rfl, hS⟩ := hrel
    by_cases hlt : k < A.length
    · have hc := (hS.oldII hv).cell k hlt
      have hrk := (hS.oldII hv).row k hlt
      have hlk := hrk.len
      have hik := hrk.ix
      have HI := Lib.hid (HD.out.inc' hlt)
      have hl32 := HI.out.len
      have Hnx := Lib.hid (repS_next (P := P) hlt)
      go_wp2_with fail
      obtain ⟨wo, rfl⟩ : ∃ wo : World, wo = wr := ⟨_, rfl⟩
      go_loopw [7, 20] (fun _ i wr => ∃ j : Nat, j ≤ (xat A k).length ∧ i = .int .i64 j ∧ St w.heap.size w wr [box 41 w.heap.size [.int .i64 P, .slice a A.length c], row 2 vc (iv (repS P A k j))]) (fun _ i _ => (xat A k).length - (intOf i).toNat)
      case atStart => exact ⟨0, by omega, rfl, hS⟩
      case round =>
        clear hS hc hrk
        obtain ⟨j, hj, rfl, hS⟩ := hrel
        by_cases hjt : j < (xat A k).length
        · have cb := ((hS.oldII hv).row k hlt).cell j hjt
          obtain ⟨x, hx, hxP⟩ := HI.out.nat hjt
          rw [hx] at cb
          have Hst := Lib.hid (repS_step HI.out hjt hx hxP)
          have cx := (hS.rdI 1 rfl).cell x (by rw [repS_len]; exact hxP)
          have ux := hS.unfrozen 1 rfl (j := x) (by rw [iv_len, repS_len]; exact hxP)
          have xx := hxc (x : Int) x rfl hxP
          have hbd := repS_bd (P := P) (j := j) hlt hDl hxP
          have HS9 := Lib.hid (hS.store 1 rfl (j := x) (by rw [iv_len, repS_len]; exact hxP) (.int .i64 (nth (repS P A k j) x + 1)))
          generalize hq : nth (repS P A k j) x = q at *
          clear hq hx
          go_wp2_with fail
          have hS9 := HS9.out
          simp only [List.set_cons_zero, List.set_cons_succ] at hS9
          rw [iv_set, Hst.out] at hS9
          go_roundw
          case rel => exact ⟨j + 1, by omega, by go_num, hS9⟩
          case measure => simp [intOf]; omega
        · obtain rfl : j = (xat A k).length := by omega
          rw [Hnx.out] at hS
          go_wp2_with fail
          go_roundw
          case rel => exact ⟨k + 1, by omega, by go_num, hS⟩
          case measure => simp [intOf]; omega
    · obtain rfl : k = A.length := by omega
      rw [repS_end] at hS
      go_wp2_with fail
      go_ret
      exact ⟨vc, rfl, hS.sub (List.sublist_cons_self _ _)⟩
end Go.Proofs.Ytejncephbafcdaa
end

section
/- Walks: how often pairs of points occur in a design. -/
namespace Go.Proofs.Ytejncephbafcdaa
set_option linter.unusedSimpArgs false
set_option linter.unusedVariables false
open Go.RowKit
attribute [local go_sem ↓] Go.wp_at_zero Go.wp_at_succ

def parC (b : List Int) (i j x y : Nat) : Prop := ((x : Int) ∈ b.take i ∧ (y : Int) ∈ b) ∨ ((x : Int) = nth b i ∧ (y : Int) ∈ (b.drop (i + 1)).take j)
open Classical in
noncomputable def parT (A : List (List Int)) (k i j x y : Nat) : Int := parF (A.take k) x y + if parC (xat A k) i j x y then 1 else 0
/-- the table behind k blocks, i points and j further points -/
structure PrM (P : Nat) (A : List (List Int)) (k i j : Nat) (M : List (List Int)) : Prop where
  sq : Sqr P M
  at' : ∀ x y, x < y → y < P → at2 M x y = parT A k i j x y
theorem parT_bd {A : List (List Int)} {k i j x y : Nat} (hA : A.length ≤ 128) : 0 ≤ parT A k i j x y ∧ parT A k i j x y ≤ 129 := by
  unfold parT parF
  have := cntD_bd (fun b => decide ((x : Int) ∈ b) && decide ((y : Int) ∈ b)) (A.take k)
  have hl : (A.take k).length ≤ 128 := by simp; omega
  split <;> omega
theorem nth_drop (b : List Int) (i j : Nat) : nth (b.drop i) j = nth b (i + j) := by simp [nth]
theorem Inc.fresh2 {P : Nat} {b : List Int} (h : Inc P b) {i j : Nat} (hj : i + j < b.length) : nth b (i + j) ∉ (b.drop i).take j := by
  intro hm
  obtain ⟨m, hm', he⟩ := List.getElem_of_mem hm
  have hmj : m < j := by simp at hm'; omega
  rw [List.getElem_take, List.getElem_drop, ← nth_eq (show i + m < b.length by omega)] at he
  have := h.lt (i + m) (i + j) (by omega) hj
  omega
theorem PrM.step {P : Nat} {A : List (List Int)} {k i j x y : Nat} {M : List (List Int)} (h : PrM P A k i j M) (hi : Inc P (xat A k)) (hj : i + 1 + j < (xat A k).length) (hx : nth (xat A k) i = x) (hy : nth (xat A k) (i + 1 + j) = y) :
    PrM P A k i (j + 1) (putS M x y (at2 M x y + 1)) := by
  have hxP : x < P := by have := (hi.bd i (by omega)).2; omega
  have hyP : y < P := by have := (hi.bd (i + 1 + j) hj).2; omega
  have hxy : x < y := by have := hi.lt i (i + 1 + j) (by omega) hj; omega
  have hd : nth ((xat A k).drop (i + 1)) j = y := by rw [nth_drop, hy]
  have hdl : j < ((xat A k).drop (i + 1)).length := by simp; omega
  refine ⟨putS_sqr h.sq hxP _ _, fun t u htu huP => ?_⟩
  rw [at2_putS h.sq hxP hyP]
  have hm := mem_take1 hdl (u : Int)
  rw [hd] at hm
  by_cases e : x = t ∧ y = u
  · obtain ⟨rfl, rfl⟩ := e
    rw [if_pos ⟨rfl, rfl⟩, h.at' x y hxy hyP]
    have c0 : ¬ parC (xat A k) i j x y := by
      rintro (⟨h1, _⟩ | ⟨_, h2⟩)
      · have := hi.fresh (show i < (xat A k).length by omega); rw [hx] at this; exact this h1
      · have := hi.fresh2 (i := i + 1) (j := j) hj; rw [hy] at this; exact this h2
    have c1 : parC (xat A k) i (j + 1) x y := .inr ⟨hx.symm, hm.2 (.inr rfl)⟩
    unfold parT
    rw [if_neg c0, if_pos c1]; omega
  · rw [if_neg e, h.at' t u htu huP]
    unfold parT
    have : parC (xat A k) i j t u ↔ parC (xat A k) i (j + 1) t u := by
      unfold parC
      rw [hm, hx]
      constructor
      · rintro (h1 | ⟨h1, h2⟩)
        · exact .inl h1
        · exact .inr ⟨h1, .inl h2⟩
      · rintro (h1 | ⟨h1, h2 | h2⟩)
        · exact .inl h1
        · exact .inr ⟨h1, h2⟩
        · exact absurd ⟨by omega, by omega⟩ e
    by_cases hc : parC (xat A k) i j t u
    · rw [if_pos hc, if_pos (this.1 hc)]
    · rw [if_neg hc, if_neg (fun h => hc (this.2 h))]
theorem PrM.next {P : Nat} {A : List (List Int)} {k i : Nat} {M : List (List Int)} (h : PrM P A k i ((xat A k).length - (i + 1)) M) (hi : Inc P (xat A k)) (hl : i < (xat A k).length) : PrM P A k (i + 1) 0 M := by
  refine ⟨h.sq, fun x y hxy hy => ?_⟩
  rw [h.at' x y hxy hy]
  unfold parT
  have : parC (xat A k) i ((xat A k).length - (i + 1)) x y ↔ parC (xat A k) (i + 1) 0 x y := by
    unfold parC
    rw [mem_take1 hl, List.take_zero, show ((xat A k).drop (i + 1)).take ((xat A k).length - (i + 1)) = (xat A k).drop (i + 1) from List.take_of_length_le (by simp)]
    constructor
    · rintro (⟨h1, h2⟩ | ⟨h1, h2⟩)
      · exact .inl ⟨.inl h1, h2⟩
      · exact .inl ⟨.inr h1, List.mem_of_mem_drop h2⟩
    · rintro (⟨h1 | h1, h2⟩ | ⟨_, h2⟩)
      · exact .inl ⟨h1, h2⟩
      · refine .inr ⟨h1, ?_⟩
        obtain ⟨m, hm, he⟩ := List.getElem_of_mem h2
        rw [← nth_eq hm] at he
        have him : i < m := by
          rcases Nat.lt_trichotomy i m with h3 | h3 | h3
          · exact h3
          · subst h3; omega
          · have := hi.lt m i h3 hl; omega
        rw [List.mem_iff_getElem]
        exact ⟨m - (i + 1), by simp; omega, by rw [List.getElem_drop, ← he, nth_eq hm]; congr 1; omega⟩
      · cases h2
  by_cases hc : parC (xat A k) i ((xat A k).length - (i + 1)) x y
  · rw [if_pos hc, if_pos (this.1 hc)]
  · rw [if_neg hc, if_neg (fun h => hc (this.2 h))]
theorem PrM.block {P : Nat} {A : List (List Int)} {k : Nat} {M : List (List Int)} (h : PrM P A k (xat A k).length 0 M) (hk : k < A.length) : PrM P A (k + 1) 0 0 M := by
  refine ⟨h.sq, fun x y hxy hy => ?_⟩
  rw [h.at' x y hxy hy]
  unfold parT
  have c1 : ¬ parC (xat A (k + 1)) 0 0 x y := by rintro (⟨h1, _⟩ | ⟨_, h1⟩) <;> cases h1
  have c0 : parC (xat A k) (xat A k).length 0 x y ↔ ((x : Int) ∈ xat A k ∧ (y : Int) ∈ xat A k) := by
    unfold parC
    rw [List.take_length, List.take_zero]
    constructor
    · rintro (h1 | ⟨_, h1⟩)
      · exact h1
      · cases h1
    · exact .inl
  rw [if_neg c1, take_xat hk]
  unfold parF
  rw [cntD_snoc]
  by_cases hc : (x : Int) ∈ xat A k ∧ (y : Int) ∈ xat A k
  · rw [if_pos (c0.2 hc), if_pos (by rw [decide_eq_true hc.1, decide_eq_true hc.2]; rfl)]; omega
  · rw [if_neg (fun h => hc (c0.1 h)), if_neg (by rw [Bool.and_eq_true, decide_eq_true_eq, decide_eq_true_eq]; exact hc)]; omega
theorem PrM.start (P : Nat) (A : List (List Int)) : PrM P A 0 0 0 (sqF P fun _ _ => 0) := by
  refine ⟨sqF_sqr _ _, fun x y hxy hy => ?_⟩
  rw [at2_sqF (by omega) hy]
  unfold parT
  have c1 : ¬ parC (xat A 0) 0 0 x y := by rintro (⟨h1, _⟩ | ⟨_, h1⟩) <;> cases h1
  rw [if_neg c1]; simp [parF, cntD]
theorem PrM.row {P : Nat} {A : List (List Int)} {M : List (List Int)} (h : PrM P A A.length 0 0 M) {x : Nat} (hx : x < P) : ((xat M x).take P).drop (x + 1) = parR P A x := by
  have hl := h.sq.row x hx
  apply List.ext_getElem
  · simp [parR, hl]
  · intro t h1 h2
    have ht : t < P - (x + 1) := by simpa [parR] using h2
    rw [List.getElem_drop, List.getElem_take, ← nth_eq (by rw [hl]; omega)]
    have := h.at' x (x + 1 + t) (by omega) (by omega)
    have c1 : ¬ parC (xat A A.length) 0 0 x (x + 1 + t) := by rintro (⟨h1, _⟩ | ⟨_, h1⟩) <;> cases h1
    unfold parT at this
    rw [if_neg c1, List.take_length] at this
    rw [show nth (xat M x) (x + 1 + t) = at2 M x (x + 1 + t) from rfl, this]
    simp [parR]
theorem St.nilrow4 {B : Nat} {w0 w : World} {L : List Ent} (h : St B w0 w L) (e : TypeId) : St B w0 w (L ++ [row e (.slice none 0 0) []]) :=
  h.add ⟨rfl, rfl, rfl, Nat.le_refl _, fun _ _ _ => rfl⟩ _ (.inr (.inl ⟨rfl, rfl, rfl⟩)) (fun k hk => by simp [bk, row] at hk)
/-- the numbers of the pairs of the first k points -/
def parK (P : Nat) (A : List (List Int)) (k : Nat) : List Int := ((List.range k).map (parR P A)).flatten
theorem parK_succ (P : Nat) (A : List (List Int)) (k : Nat) : parK P A (k + 1) = parK P A k ++ parR P A k := by
  rw [parK, List.range_succ, List.map_append, List.flatten_append]; simp [parK]
theorem parK_len (P : Nat) (A : List (List Int)) : ∀ k, (parK P A k).length ≤ k * P
  | 0 => Nat.zero_le _
  | k + 1 => by
    rw [parK_succ, List.length_append, Nat.succ_mul]
    have := parK_len P A k
    have : (parR P A k).length ≤ P := by simp [parR]
    omega
theorem parK_end (P : Nat) (A : List (List Int)) : parK P A P = parL P A := rfl

set_option maxHeartbeats 4000000 in
set_option maxRecDepth 100000 in
theorem pairCounts_c (P : Nat) (v : Value) (us : List Value) (A : List (List Int)) (w : World) (hv : RII w v us A) (hD : DOk P A) :
    Calls Try.prog 78 #[dv P v] w (MakesI w (parL P A)) := by
  obtain ⟨a, c, hsh⟩ := hv.1.sl.sh
  rw [hv.2.1] at hsh
  subst hsh
  have hP := hD.le
  have hDl := hD.len
  have HD := Lib.hid hD
  clear hD
  have hS1 := (St.refl w).newboxF 41 #[.int .i64 P, .slice a A.length c]
  have b0 := hS1.bcell 0 rfl 0 rfl
  have b1 := hS1.bcell 0 rfl 1 rfl
  have hix := hv.ix
  unfold dv
  go_enter Try.func78, Try.ntmps78
  go_wp2_with fail
  refine (emptySquare_c P _ (by omega)).mono ?_
  rintro e w2 ⟨vo, uo, rfl, hlo, h2⟩
  have hS2 := hS1.call h2
  have b1 := hS2.bcell 0 rfl 1 rfl
  have hS3 := hS2.perm (L' := own2 vo uo (sqF P fun _ _ => 0) ++ [box 41 w.heap.size [.int .i64 P, .slice a A.length c]]) List.perm_append_comm
  have hM := PrM.start P A
  have hlo' : uo.length = P := by rw [hlo, hM.sq.len]
  have Hlo := Lib.hid hlo'
  have hro := h2.rii hlo
  have hxo := hro.ixe
  have hlno := hro.len
  rw [hM.sq.len] at hxo hlno
  generalize (sqF P fun _ _ => (0 : Int)) = M0 at *
  have HM := Lib.hid hM
  clear hS1 hS2 h2 hlo hlo' hM b0 hro
  go_wp2_with fail
  go_loopw [5, 6, 7, 9, 19] (fun _ _ _ _ i wr => ∃ (k : Nat) (M : List (List Int)), k ≤ A.length ∧ i = .int .i64 k ∧ Hid (PrM P A k 0 0 M) ∧ St w.heap.size w wr (own2 vo uo M ++ [box 41 w.heap.size [.int .i64 P, .slice a A.length c]])) (fun _ _ _ _ i _ => A.length - (intOf i).toNat)
  case atStart => exact ⟨0, M0, by omega, rfl, HM, hS3⟩
  case round =>
    clear hS3 b1 HM
    obtain ⟨k, M, hk, rfl, hM, hS⟩ := hrel
    by_cases hlt : k < A.length
    · have hc := (hS.oldII hv).cell k hlt
      have hrk := (hS.oldII hv).row k hlt
      have hlk := hrk.len
      have hik := hrk.ix
      have HI := Lib.hid (HD.out.inc' hlt)
      have hl32 := HI.out.len
      go_wp2_with fail
      obtain ⟨wo, rfl⟩ : ∃ wo : World, wo = wr := ⟨_, rfl⟩
      go_loopw [6, 7, 9, 25] (fun _ _ _ m wr => ∃ (i : Nat) (M : List (List Int)), i ≤ (xat A k).length ∧ m = .int .i64 i ∧ Hid (PrM P A k i 0 M) ∧ St w.heap.size w wr (own2 vo uo M ++ [box 41 w.heap.size [.int .i64 P, .slice a A.length c]])) (fun _ _ _ m _ => (xat A k).length - (intOf m).toNat)
      case atStart => exact ⟨0, M, by omega, rfl, hM, hS⟩
      case round =>
        clear hS hc hrk hM
        obtain ⟨i, M, hi, rfl, hM, hS⟩ := hrel
        by_cases hil : i < (xat A k).length
        · have hrk := (hS.oldII hv).row k hlt
          have ci := hrk.cell i hil
          obtain ⟨x, hx, hxP⟩ := HI.out.nat hil
          rw [hx] at ci
          have hsl : ∀ W, (Instr.slice 52 (vat us k) (some (.int .i64 ((i : Int) + 1))) none none).run Try.prog W = .ok (rsl (vat us k) (i + 1) (xat A k).length) W := fun W => by
            have := rsl_lo hrk (i + 1) (by omega) W; rwa [show ((i + 1 : Nat) : Int) = (i : Int) + 1 by omega] at this
          have hsr := rsl_rd hrk (lo := i + 1) (hi := (xat A k).length) (by omega) (Nat.le_refl _)
          rw [List.take_length] at hsr
          have hsn := hsr.len
          have hsx := hsr.ix
          have hdl : ((xat A k).drop (i + 1)).length = (xat A k).length - (i + 1) := by simp
          rw [hdl] at hsn hsx
          have Hx := Lib.hid hx
          have Hsr := Lib.hid (fun W (hW : St w.heap.size w W (own2 vo uo M ++ [box 41 w.heap.size [.int .i64 P, .slice a A.length c]])) => hW)
          clear Hsr hsr hdl hx
          go_wp2_with fail
          obtain ⟨wq, rfl⟩ : ∃ wq : World, wq = wr := ⟨_, rfl⟩
          go_loopw [9, 35] (fun _ m wr => ∃ (j : Nat) (M : List (List Int)), j ≤ (xat A k).length - (i + 1) ∧ m = .int .i64 j ∧ Hid (PrM P A k i j M) ∧ St w.heap.size w wr (own2 vo uo M ++ [box 41 w.heap.size [.int .i64 P, .slice a A.length c]])) (fun _ m _ => (xat A k).length - (intOf m).toNat)
          case atStart => exact ⟨0, M, by omega, rfl, hM, hS⟩
          case round =>
            clear hS hM hrk ci
            obtain ⟨j, M, hj, rfl, hM, hS⟩ := hrel
            by_cases hjl : j < (xat A k).length - (i + 1)
            · have hrk := (hS.oldII hv).row k hlt
              have hsr := rsl_rd hrk (lo := i + 1) (hi := (xat A k).length) (by omega) (Nat.le_refl _)
              rw [List.take_length] at hsr
              have cj := hsr.cell j (by simp; omega)
              rw [nth_drop] at cj
              obtain ⟨y, hy, hyP⟩ := HI.out.nat (show i + 1 + j < (xat A k).length by omega)
              rw [hy] at cj
              have hst := Lib.hid (hM.out.step HI.out (by omega) Hx.out hy)
              have hMl := hM.out.sq.len
              have hMr := hM.out.sq.row x hxP
              have hlS : uo.length = M.length := by rw [Hlo.out, hMl]
              have hat := hS.at_row hlS (j := x) (by rw [hMl]; exact hxP)
              have hrx := hS.rdI (x + 1) hat
              have cx := (rii2 hS hlS).cell x (by rw [hMl]; exact hxP)
              have cxy : wr.cell? (el (vat uo x) y) = some (.int .i64 (at2 M x y)) := hrx.cell y (by rw [hMr]; exact hyP)
              have uxy := hS.unfrozen (x + 1) hat (j := y) (by rw [iv_len, hMr]; exact hyP)
              have xx := hxo (x : Int) x rfl hxP
              have xy := hrx.ixe (y : Int) y rfl (by rw [hMr]; exact hyP)
              have hbd : 0 ≤ at2 M x y ∧ at2 M x y ≤ 129 := by
                rw [hM.out.at' x y (by have := HI.out.lt i (i + 1 + j) (by omega) (by omega); have := Hx.out; omega) hyP]; exact parT_bd hDl
              have HS9 := Lib.hid (hS.store (x + 1) hat (j := y) (by rw [iv_len, hMr]; exact hyP) (.int .i64 (at2 M x y + 1)))
              have Hset := Lib.hid (own2_set (v := vo) (L2 := [box 41 w.heap.size [.int .i64 P, .slice a A.length c]]) hlS (j := x) (by rw [hMl]; exact hxP) ((xat M x).set y (at2 M x y + 1)))
              unfold putS at hst
              generalize at2 M x y = q at *
              clear hat hrx hlS hMl hMr hy hrk hsr hM hS
              go_wp2_with fail
              have hS9 := HS9.out
              rw [iv_set, Hset.out] at hS9
              go_roundw
              case rel => exact ⟨j + 1, _, by omega, by go_num, hst, hS9⟩
              case measure => simp [intOf]; omega
            · obtain rfl : j = (xat A k).length - (i + 1) := by omega
              have HN := Lib.hid (hM.out.next HI.out hil)
              go_wp2_with fail
              go_roundw
              case rel => exact ⟨i + 1, M, by omega, by go_num, HN, hS⟩
              case measure => simp [intOf]; omega
        · obtain rfl : i = (xat A k).length := by omega
          have HN := Lib.hid (hM.out.block hlt)
          go_wp2_with fail
          go_roundw
          case rel => exact ⟨k + 1, M, by omega, by go_num, HN, hS⟩
          case measure => simp [intOf]; omega
    · obtain rfl : k = A.length := by omega
      have hN0 := (hS.nilrow4 2).perm (L' := row 2 (.slice none 0 0) [] :: (own2 vo uo M ++ [box 41 w.heap.size [.int .i64 P, .slice a A.length c]])) (by (try simp only [own2, List.cons_append, List.nil_append, List.append_nil]); classical exact List.perm_iff_count.2 (fun a => by simp only [List.cons_append, List.nil_append, List.append_nil, List.count_append, List.count_cons, List.count_nil] <;> omega))
      have hMl := hM.out.sq.len
      have hMr := Lib.hid hM.out.sq.row
      have hlS := Lib.hid (show uo.length = M.length by rw [Hlo.out, hMl])
      clear hS
      go_wp2_with fail
      go_loopw [10, 11, 12, 53] (fun ct _ _ i wr => ∃ x : Nat, x ≤ P ∧ i = .int .i64 x ∧ St w.heap.size w wr (row 2 ct (iv (parK P A x)) :: (own2 vo uo M ++ [box 41 w.heap.size [.int .i64 P, .slice a A.length c]]))) (fun _ _ _ i _ => P - (intOf i).toNat)
      case atStart => exact ⟨0, by omega, rfl, hN0⟩
      case round =>
        clear hN0
        obtain ⟨x, hx, rfl, hS⟩ := hrel
        by_cases hxP : x < P
        · have hR := rii2 (hS.sub (List.sublist_cons_self _ _)) hlS.out
          have cx := hR.cell x (by rw [hMl]; exact hxP)
          have hrx := hR.row x (by rw [hMl]; exact hxP)
          have hxl := hMr.out x hxP
          have hsl : ∀ W, (Instr.slice 52 (vat uo x) (some (.int .i64 ((x : Int) + 1))) none none).run Try.prog W = .ok (rsl (vat uo x) (x + 1) (xat M x).length) W := fun W => by
            have := rsl_lo hrx (x + 1) (by rw [hxl]; omega) W; rwa [show ((x + 1 : Nat) : Int) = (x : Int) + 1 by omega] at this
          have hsr := rsl_rd hrx (lo := x + 1) (hi := (xat M x).length) (by rw [hxl]; omega) (Nat.le_refl _)
          rw [hxl] at hsl hsr
          rw [hM.out.row hxP] at hsr
          have Hsr := Lib.hid hsr
          have hpl := Lib.hid (show (parK P A x).length + (parR P A x).length < 100000 by
            have := parK_len P A x
            have h2 : x * P ≤ 32 * 32 := Nat.mul_le_mul (by omega) (by omega)
            have : (parR P A x).length ≤ P := by simp [parR]
            omega)
          clear hrx hR hsr hxl
          have xx := hxo (x : Int) x rfl hxP
          go_wp2_with (at_builtin; refine appsI hS 0 rfl _ _ Hsr.out (by have := hpl.out; omega) rfl _ _ rfl rfl rfl ?_; intro v2 w2 hS2)
          simp only [List.set_cons_zero] at hS2
          rw [← parK_succ] at hS2
          go_roundw
          case rel => exact ⟨x + 1, by omega, by go_num, hS2⟩
          case measure => simp [intOf]; omega
        · obtain rfl : x = P := by omega
          rw [parK_end] at hS
          go_wp2_with fail
          go_ret
          exact ⟨_, rfl, hS.sub (by simp)⟩
end Go.Proofs.Ytejncephbafcdaa
end
