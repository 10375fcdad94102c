/- Walks: marks into memory that one owns, and what it holds. -/
import Derived.Test.YtpfgbbbjldpnnaaEx
namespace Go.Proofs.Ytpfgbbbjldpnnaa
set_option linter.unusedSimpArgs false
set_option linter.unusedVariables false
open Go.RowKit

/-- the numbers k, k + 1, .. -/
def mrk (k : Int) (n : Nat) : List Int := (List.range n).map fun (i : Nat) => k + (i : Int)
def tot : List (List Int) → Nat
  | [] => 0
  | x :: r => x.length + tot r
def mrkL (k : Int) : List (List Int) → List (List Int)
  | [] => []
  | x :: r => mrk k x.length :: mrkL (k + x.length) r
theorem mrk_len (k : Int) (n : Nat) : (mrk k n).length = n := by simp [mrk]
theorem mrkL_len : ∀ (k : Int) (xss : List (List Int)), (mrkL k xss).length = xss.length
  | _, [] => rfl
  | k, x :: r => by simp [mrkL, mrkL_len _ r]
theorem nth_mrk {k : Int} {n j : Nat} (h : j < n) : nth (mrk k n) j = k + j := by simp [nth, mrk, h]
theorem tot_take {xss : List (List Int)} : ∀ {j : Nat}, j < xss.length → tot (xss.take (j + 1)) = tot (xss.take j) + (xat xss j).length := by
  induction xss with
  | nil => intro j h; simp at h
  | cons x r ih =>
    intro j h
    cases j with
    | zero => simp [tot, xat]
    | succ j =>
      have := ih (j := j) (by simpa using h)
      simp only [List.take_succ_cons, tot, this]
      simp [xat]; omega
theorem tot_le {xss : List (List Int)} {j : Nat} : tot (xss.take j) ≤ tot xss := by
  induction xss generalizing j with
  | nil => simp [tot]
  | cons x r ih => cases j with
    | zero => simp [tot]
    | succ j => simp only [List.take_succ_cons, tot]; have := ih (j := j); omega
theorem mrkL_app (k : Int) (xss : List (List Int)) (x : List Int) : mrkL k (xss ++ [x]) = mrkL k xss ++ [mrk (k + tot xss) x.length] := by
  induction xss generalizing k with
  | nil => simp [mrkL, tot]
  | cons y r ih => simp only [List.cons_append, mrkL, tot, ih]; congr 4; push_cast; omega
theorem xat_mrkL {k : Int} {xss : List (List Int)} {j : Nat} (h : j < xss.length) : xat (mrkL k xss) j = mrk (k + tot (xss.take j)) (xat xss j).length := by
  induction xss generalizing k j with
  | nil => simp at h
  | cons x r ih => cases j with
    | zero => simp [mrkL, tot, xat]
    | succ j =>
      have := ih (k := k + x.length) (j := j) (by simpa using h)
      simp only [mrkL, List.take_succ_cons, tot]
      have e1 : xat (mrk k x.length :: mrkL (k + x.length) r) (j + 1) = xat (mrkL (k + x.length) r) j := by simp [xat]
      have e2 : xat (x :: r) (j + 1) = xat r j := by simp [xat]
      rw [e1, e2, this]; congr 1; push_cast; omega
theorem tot_mrkL (k : Int) (xss : List (List Int)) : tot (mrkL k xss) = tot xss := by
  induction xss generalizing k with
  | nil => rfl
  | cons x r ih => simp [mrkL, tot, ih, mrk_len]

set_option maxHeartbeats 1000000 in
set_option maxRecDepth 100000 in
theorem markInt64S_c {B : Nat} {w0 w : World} {L : List Ent} (v : Value) (xs : List Int) (k : Int) (h0 : 0 ≤ k) (h1 : k + xs.length ≤ 4611686018427387904) (hS : St B w0 w L) (i : Nat) (hi : L[i]? = some (row 2 v (iv xs))) :
    Calls Try.prog 122 #[v, .int .i64 k] w fun e w' => e = .returned (.int .i64 (k + xs.length)) ∧ St B w0 w' (L.set i (row 2 v (iv (mrk k xs.length)))) := by
  have hv := hS.rdI i hi
  have hln := hv.len
  have hix := hv.ix
  have hil : i < L.length := (List.getElem?_eq_some_iff.1 hi).1
  go_enter Try.func122, Try.ntmps122
  go_wp2_with fail
  go_loopw [1, 5] (fun kk ii wr => ∃ j : Nat, j ≤ xs.length ∧ ii = .int .i64 j ∧ kk = .int .i64 (k + j) ∧ St B w0 wr (L.set i (row 2 v (iv (mrk k j ++ xs.drop j))))) (fun _ ii _ => xs.length - (intOf ii).toNat)
  case atStart =>
    refine ⟨0, by omega, rfl, by congr 1; omega, ?_⟩
    have e : L.set i (row 2 v (iv (mrk k 0 ++ xs.drop 0))) = L := by
      apply List.ext_getElem? ; intro m
      rw [List.getElem?_set]
      by_cases e : i = m
      · subst e; rw [if_pos rfl, hi]; simp [mrk, hil]
      · rw [if_neg e]
    rw [e]; exact hS
  case round =>
    obtain ⟨j, hj, rfl, rfl, hS1⟩ := hrel
    have hi1 : (L.set i (row 2 v (iv (mrk k j ++ xs.drop j))))[i]? = some (row 2 v (iv (mrk k j ++ xs.drop j))) := by simp [hil]
    by_cases hlt : j < xs.length
    · go_wp2_with (refine stoI hS1 i hi1 j (by simp [mrk]; omega) rfl (.tmp 15) (.tmp 14) rfl rfl _ rfl ?_; intro w2 hS2)
      go_roundw
      case rel =>
        refine ⟨j + 1, by omega, by go_num, by congr 1; push_cast; omega, ?_⟩
        have e : (mrk k j ++ xs.drop j).set j (k + j) = mrk k (j + 1) ++ xs.drop (j + 1) := by
          rw [List.set_append_right _ _ (by simp [mrk]), mrk_len, drop_nth hlt]
          simp [mrk, List.range_succ]
        rw [List.set_set, e] at hS2; exact hS2
      case measure => simp [intOf]; omega
    · go_wp2_with fail
      go_ret
      have ej : j = xs.length := by omega
      subst ej
      refine ⟨rfl, ?_⟩
      simpa using hS1

set_option maxHeartbeats 1000000 in
set_option maxRecDepth 100000 in
theorem heldInt64S_c (v : Value) (n : Nat) (k : Int) (w : World) (h0 : 0 ≤ k) (h1 : k + n ≤ 4611686018427387904) (hv : RdI w v (mrk k n)) :
    Calls Try.prog 123 #[v, .int .i64 k] w fun e w' => e = .returned (.int .i64 (k + n)) ∧ w = w' := by
  have hln := hv.len
  have hix := hv.ix
  simp only [mrk_len] at hln hix
  go_enter Try.func123, Try.ntmps123
  go_wp2_with fail
  go_loopw [1, 5] (fun kk ii wr => ∃ j : Nat, j ≤ n ∧ ii = .int .i64 j ∧ kk = .int .i64 (k + j) ∧ wr = w) (fun _ ii _ => n - (intOf ii).toNat)
  case atStart => exact ⟨0, by omega, rfl, by congr 1; omega, rfl⟩
  case round =>
    obtain ⟨j, hj, rfl, rfl, rfl⟩ := hrel
    by_cases hlt : j < n
    · have hc := hv.cell j (by rw [mrk_len]; exact hlt)
      rw [nth_mrk hlt] at hc
      have f : (k + (j : Int) != k + (j : Int)) = false := ne_f rfl
      go_wp2_with fail
      go_roundw
      case rel => exact ⟨j + 1, by omega, by go_num, by congr 1; push_cast; omega, by first | rfl | trivial⟩
      case measure => simp [intOf]; omega
    · go_wp2_with fail
      go_ret
      have ej : j = n := by omega
      subst ej
      exact ⟨rfl, rfl⟩

theorem St.at_row {B : Nat} {w0 w : World} {v : Value} {us : List Value} {xss : List (List Int)} {L2 : List Ent} (h : St B w0 w (own2 v us xss ++ L2)) (hl : us.length = xss.length) {j : Nat} (hj : j < xss.length) :
    (own2 v us xss ++ L2)[j + 1]? = some (row 2 (vat us j) (iv (xat xss j))) := by
  rw [List.getElem?_append_left (by simp [own2, rowsI_len hl]; exact hj), own2, List.getElem?_cons_succ]
  exact rowsI_get hl hj
theorem own2_set {v : Value} {us : List Value} {xss : List (List Int)} {L2 : List Ent} (hl : us.length = xss.length) {j : Nat} (hj : j < xss.length) (xs : List Int) :
    (own2 v us xss ++ L2).set (j + 1) (row 2 (vat us j) (iv xs)) = own2 v us (xss.set j xs) ++ L2 := by
  rw [List.set_append_left _ _ (by simp [own2, rowsI_len hl]; exact hj)]
  congr 1
  simp only [own2, List.set_cons_succ]
  congr 1
  unfold rowsI
  apply List.ext_getElem?
  intro m
  rw [List.getElem?_set, List.getElem?_zipWith, List.getElem?_zipWith, List.getElem?_set]
  by_cases e : j = m
  · subst e
    simp [hl, hj, vat]
  · simp [e]
theorem rii2 {B : Nat} {w0 w : World} {v : Value} {us : List Value} {xss : List (List Int)} {L2 : List Ent} (h : St B w0 w (own2 v us xss ++ L2)) (hl : us.length = xss.length) : RII w v us xss := (h.sub (List.sublist_append_left _ _)).rii hl

set_option maxHeartbeats 1000000 in
set_option maxRecDepth 100000 in
theorem markInt64SS_c {B : Nat} {w0 w : World} {L2 : List Ent} (v : Value) (us : List Value) (xss : List (List Int)) (k : Int) (h0 : 0 ≤ k) (h1 : k + tot xss ≤ 4611686018427387904) (hl : us.length = xss.length) (hS : St B w0 w (own2 v us xss ++ L2)) :
    Calls Try.prog 92 #[v, .int .i64 k] w fun e w' => e = .returned (.int .i64 (k + tot xss)) ∧ St B w0 w' (own2 v us (mrkL k xss) ++ L2) := by
  have hv := rii2 hS hl
  have hln := hv.len
  have hix := hv.ix
  have hm := hv.le
  have Hl := Lib.hid hl
  have H1 := Lib.hid h1
  clear hl h1
  go_enter Try.func92, Try.ntmps92
  go_wp2_with fail
  go_loopw [1, 5] (fun kk ii wr => ∃ j : Nat, j ≤ xss.length ∧ ii = .int .i64 j ∧ kk = .int .i64 (k + tot (xss.take j)) ∧ St B w0 wr (own2 v us ((mrkL k xss).take j ++ xss.drop j) ++ L2)) (fun _ ii _ => xss.length - (intOf ii).toNat)
  case atStart => exact ⟨0, by omega, rfl, by simp [tot], by simpa using hS⟩
  case round =>
    obtain ⟨j, hj, rfl, rfl, hS1⟩ := hrel
    have hln1 : Hid (us.length = ((mrkL k xss).take j ++ xss.drop j).length) := by unfold Hid; rw [Hl.out]; simp [mrkL_len]; omega
    by_cases hlt : j < xss.length
    · have hx : Hid (xat ((mrkL k xss).take j ++ xss.drop j) j = xat xss j) := by
        unfold Hid xat; rw [List.getD_eq_getElem?_getD, List.getElem?_append_right (by simp [mrkL_len]; omega)]; simp [mrkL_len, Nat.min_eq_left (Nat.le_of_lt hlt), List.getD_eq_getElem?_getD]
      have hjl : j < ((mrkL k xss).take j ++ xss.drop j).length := by rw [← hln1.out, Hl.out]; exact hlt
      have hc := (rii2 hS1 hln1.out).cell j hjl
      have hr := Lib.hid (hS1.at_row hln1.out hjl)
      have ht := Lib.hid (tot_take hlt)
      have ht2 := tot_le (xss := xss) (j := j + 1)
      have hcall := Lib.hid (markInt64S_c (vat us j) (xat xss j) (k + tot (xss.take j)) (by omega) (by have := ht.out; have := H1.out; omega) hS1 (j + 1) (by rw [hr.out, hx.out]))
      clear hjl ht2
      go_wp2_with fail
      refine hcall.out.mono ?_
      rintro e w2 ⟨rfl, hS2⟩
      go_wp2_with fail
      go_roundw
      case rel =>
        refine ⟨j + 1, by omega, by go_num, by rw [ht.out]; congr 1; push_cast; omega, ?_⟩
        rw [own2_set hln1.out (by rw [← hln1.out, Hl.out]; exact hlt)] at hS2
        have e : ((mrkL k xss).take j ++ xss.drop j).set j (mrk (k + tot (xss.take j)) (xat xss j).length) = (mrkL k xss).take (j + 1) ++ xss.drop (j + 1) := by
          rw [List.set_append_right _ _ (by simp [mrkL_len]; omega), drop_xat hlt, take_xat (by rw [mrkL_len]; exact hlt), xat_mrkL hlt]
          simp [mrkL_len, Nat.min_eq_left (Nat.le_of_lt hlt)]
        rw [e] at hS2; exact hS2
      case measure => simp [intOf]; omega
    · go_wp2_with fail
      go_ret
      have ej : j = xss.length := by omega
      subst ej
      refine ⟨ret_i64 (by simp), ?_⟩
      have e : (mrkL k xss).take xss.length ++ xss.drop xss.length = mrkL k xss := by rw [List.take_of_length_le (by rw [mrkL_len]; omega)]; simp
      rw [e] at hS1; exact hS1

set_option maxHeartbeats 1000000 in
set_option maxRecDepth 100000 in
theorem heldInt64SS_c (v : Value) (us : List Value) (xss : List (List Int)) (k : Int) (w : World) (h0 : 0 ≤ k) (h1 : k + tot xss ≤ 4611686018427387904) (hv : RII w v us (mrkL k xss)) :
    Calls Try.prog 93 #[v, .int .i64 k] w fun e w' => e = .returned (.int .i64 (k + tot xss)) ∧ w = w' := by
  have hln := hv.len
  have hix := hv.ix
  simp only [mrkL_len] at hln hix
  have hm := hv.le
  rw [mrkL_len] at hm
  have H1 := Lib.hid h1
  clear h1
  go_enter Try.func93, Try.ntmps93
  go_wp2_with fail
  go_loopw [1, 5] (fun kk ii wr => ∃ j : Nat, j ≤ xss.length ∧ ii = .int .i64 j ∧ kk = .int .i64 (k + tot (xss.take j)) ∧ wr = w) (fun _ ii _ => xss.length - (intOf ii).toNat)
  case atStart => exact ⟨0, by omega, rfl, by simp [tot], rfl⟩
  case round =>
    obtain ⟨j, hj, rfl, rfl, rfl⟩ := hrel
    by_cases hlt : j < xss.length
    · have hc := hv.cell j (by rw [mrkL_len]; exact hlt)
      have hr := Lib.hid (hv.row j (by rw [mrkL_len]; exact hlt))
      have ht := Lib.hid (tot_take hlt)
      have ht2 := tot_le (xss := xss) (j := j + 1)
      have hcall := Lib.hid (heldInt64S_c (vat us j) (xat xss j).length (k + tot (xss.take j)) wr (by omega) (by have := ht.out; have := H1.out; omega) (by rw [← xat_mrkL hlt]; exact hr.out))
      have hnn : 0 ≤ k + tot (xss.take j) + (xat xss j).length := by omega
      clear ht2
      go_wp2_with fail
      refine hcall.out.mono ?_
      rintro e w2 ⟨rfl, rfl⟩
      go_wp2_with fail
      go_roundw
      case rel => exact ⟨j + 1, by omega, by go_num, by rw [ht.out]; congr 1; push_cast; omega, by first | rfl | trivial⟩
      case measure => simp [intOf]; omega
    · go_wp2_with fail
      go_ret
      have ej : j = xss.length := by omega
      subst ej
      exact ⟨ret_i64 (by simp), rfl⟩


theorem szL_tot : ∀ {left : Int} {xss : List (List Int)}, 0 ≤ szL left xss → (tot xss : Int) ≤ left
  | left, [], h => by simpa [szL, tot] using h
  | left, x :: r, h => by
    unfold szL at h
    split at h
    · omega
    · rename_i hn
      have h1 := szL_tot h
      have h2 := szI_le (show 0 ≤ szI left x by omega)
      have h3 : szI left x = left - x.length := by
        unfold szI; unfold szI at hn; split at hn
        · omega
        · rename_i h4; rw [if_neg h4]
      simp only [tot]; push_cast; omega
theorem szII_tot {left : Int} {xss : List (List Int)} (h : 0 ≤ szII left xss) : (tot xss : Int) ≤ left := by
  unfold szII at h
  split at h
  · omega
  · have := szL_tot h; omega
theorem szL_tot2 : ∀ {left : Int} {xss : List (List Int)}, 0 ≤ szL left xss → (tot xss : Int) + szL left xss ≤ left
  | left, [], h => by simp [szL, tot]
  | left, x :: r, h => by
    unfold szL at h ⊢
    split at h
    · omega
    · rename_i hn
      rw [if_neg hn]
      have h1 := szL_tot2 h
      have h3 : szI left x = left - x.length := by
        unfold szI; unfold szI at hn; split at hn
        · omega
        · rename_i h4; rw [if_neg h4]
      simp only [tot]; push_cast; omega
theorem szII_tot2 {left : Int} {xss : List (List Int)} (h : 0 ≤ szII left xss) : (tot xss : Int) + szII left xss ≤ left := by
  unfold szII at h ⊢
  split at h
  · omega
  · rename_i hn; rw [if_neg hn]; have := szL_tot2 h; omega
theorem tot_app (a b : List (List Int)) : tot (a ++ b) = tot a + tot b := by
  induction a with
  | nil => simp [tot]
  | cons x r ih => simp only [List.cons_append, tot, ih]; omega
end Go.Proofs.Ytpfgbbbjldpnnaa
