/- Slices of slices of slices of integers: what they read as, what a call owns, and the law's functions on them. -/
import Derived.Test.YtpfgbbbjldpnnaaCopy
import Derived.Test.YtpfgbbbjldpnnaaMrk
namespace Go.Proofs.Ytpfgbbbjldpnnaa
set_option linter.unusedSimpArgs false
set_option linter.unusedVariables false
open Go.RowKit

def x3at (X : List (List (List Int))) (k : Nat) : List (List Int) := X.getD k []
theorem x3at_eq {X : List (List (List Int))} {k : Nat} (h : k < X.length) : x3at X k = X[k] := by simp [x3at, h]
theorem drop_x3at {X : List (List (List Int))} {k : Nat} (hk : k < X.length) : X.drop k = x3at X k :: X.drop (k + 1) := by
  rw [List.drop_eq_getElem_cons hk, x3at_eq hk]
theorem take_x3at {X : List (List (List Int))} {k : Nat} (hk : k < X.length) : X.take (k + 1) = X.take k ++ [x3at X k] := by
  rw [List.take_succ_eq_append_getElem hk, x3at_eq hk]
theorem x3at_set {X : List (List (List Int))} {j k : Nat} {x : List (List Int)} (h : j < X.length) : x3at (X.set j x) k = if j = k then x else x3at X k := by
  unfold x3at
  rw [List.getD_eq_getElem?_getD, List.getElem?_set]
  split
  · rename_i e; subst e; simp [h]
  · simp [List.getD_eq_getElem?_getD]
/-- what is read -/
def RIII (w : World) (v : Value) (vs : List Value) (uss : List (List Value)) (X : List (List (List Int))) : Prop :=
  Rd w v vs ∧ vs.length = X.length ∧ ∀ k, k < X.length → RII w (vat vs k) (vsat uss k) (x3at X k)
section
variable {w w' : World} {v : Value} {vs : List Value} {uss : List (List Value)} {X : List (List (List Int))}
theorem RIII.le (h : RIII w v vs uss X) : X.length ≤ 9223372036854775807 := by have := h.1.sl.le; rwa [h.2.1] at this
theorem RIII.len (h : RIII w v vs uss X) (ty : TypeId) (W : World) : (Builtin.len_ #[50] ty #[v]).run Try.prog W = .ok (.int .i64 X.length) W := by
  have := run_len_sl (P := Try.prog) h.1.sl 50 ty Try.und_isss W; rwa [h.2.1] at this
theorem RIII.ix (h : RIII w v vs uss X) (k : IntKind) (i : Int) (h0 : 0 ≤ i) (hi : i < X.length) (W : World) :
    (Instr.indexAt 50 v (.int k i)).run Try.prog W = .ok (.pointer (some (el v i.toNat))) W :=
  run_ix_sl (P := Try.prog) h.1.sl 50 Try.und_isss Try.size_iss k i h0 (by rw [h.2.1]; exact hi) W
theorem RIII.ixe (h : RIII w v vs uss X) (i : Int) (j : Nat) (hij : i = (j : Int)) (hj : j < X.length) (W : World) :
    (Instr.indexAt 50 v (.int .i64 i)).run Try.prog W = .ok (.pointer (some (el v j))) W := by
  have := h.ix .i64 i (by omega) (by omega) W
  rwa [hij, Int.toNat_natCast, ← hij] at this
theorem RIII.cell (h : RIII w v vs uss X) (j : Nat) (hj : j < X.length) : w.cell? (el v j) = some (vat vs j) := Rd.cell h.1 (by rw [h.2.1]; exact hj)
theorem RIII.row (h : RIII w v vs uss X) (j : Nat) (hj : j < X.length) : RII w (vat vs j) (vsat uss j) (x3at X j) := h.2.2 j hj
theorem RIII.keep (h : RIII w v vs uss X) (hb : Below w.heap.size w w') : RIII w' v vs uss X := ⟨h.1.keep hb, h.2.1, fun j hj => (h.2.2 j hj).keep hb⟩
end
theorem St.oldIII {w0 w : World} {L : List Ent} {v : Value} {vs : List Value} {uss : List (List Value)} {X : List (List (List Int))} (h : St w0.heap.size w0 w L) (hr : RIII w0 v vs uss X) : RIII w v vs uss X := hr.keep h.below

/-! ### what is owned -/
def rows3 : List Value → List (List Value) → List (List (List Int)) → List Ent
  | v :: vs, u :: uss, x :: X => own2 v u x ++ rows3 vs uss X
  | _, _, _ => []
def own3 (v : Value) (vs : List Value) (uss : List (List Value)) (X : List (List (List Int))) : List Ent := row 37 v vs :: rows3 vs uss X
theorem rows3_out : ∀ {vs : List Value} {uss : List (List Value)} {X : List (List (List Int))} {j : Nat}, vs.length = X.length → uss.length = X.length → j < X.length →
    (rows3 vs uss X).Perm (own2 (vat vs j) (vsat uss j) (x3at X j) ++ rows3 (vs.eraseIdx j) (uss.eraseIdx j) (X.eraseIdx j))
  | v :: vs, u :: uss, x :: X, 0, _, _, _ => List.Perm.refl _
  | v :: vs, u :: uss, x :: X, j + 1, h1, h2, h3 => by
    have ih := rows3_out (vs := vs) (uss := uss) (X := X) (j := j) (by simpa using h1) (by simpa using h2) (by simpa using h3)
    exact (ih.append_left (own2 v u x)).trans (List.perm_append_comm_assoc _ _ _)
  | [], _, x :: X, _, h, _, _ => by simp at h
  | _ :: _, [], x :: X, _, _, h, _ => by simp at h
  | _, _, [], _, _, _, h => by simp at h
theorem rows3_app : ∀ {vs : List Value} {uss : List (List Value)} {X : List (List (List Int))} (v : Value) (u : List Value) (x : List (List Int)), vs.length = X.length → uss.length = X.length → rows3 (vs ++ [v]) (uss ++ [u]) (X ++ [x]) = rows3 vs uss X ++ own2 v u x
  | [], [], [], v, u, x, _, _ => by simp [rows3]
  | a :: vs, b :: uss, c :: X, v, u, x, h1, h2 => by
    have := rows3_app (vs := vs) (uss := uss) (X := X) v u x (by simpa using h1) (by simpa using h2)
    simp only [List.cons_append, rows3, this, List.append_assoc]
  | [], _ :: _, [], _, _, _, _, h => by simp at h
  | _ :: _, _, [], _, _, _, h, _ => by simp at h
  | [], _, _ :: _, _, _, _, h, _ => by simp at h
  | _ :: _, [], _ :: _, _, _, _, _, h => by simp at h
section
variable {v : Value} {vs : List Value} {uss : List (List Value)} {X : List (List (List Int))} {L2 : List Ent} {j : Nat}
theorem own3_out (h1 : vs.length = X.length) (h2 : uss.length = X.length) (hj : j < X.length) :
    (own3 v vs uss X ++ L2).Perm (own2 (vat vs j) (vsat uss j) (x3at X j) ++ (row 37 v vs :: (rows3 (vs.eraseIdx j) (uss.eraseIdx j) (X.eraseIdx j) ++ L2))) := by
  unfold own3
  rw [List.cons_append]
  refine (List.Perm.cons _ ((rows3_out h1 h2 hj).append_right L2)).trans ?_
  rw [List.append_assoc]
  exact (List.perm_middle).symm
theorem own3_in (h1 : vs.length = X.length) (h2 : uss.length = X.length) (hj : j < X.length) (x : List (List Int)) :
    (own2 (vat vs j) (vsat uss j) x ++ (row 37 v vs :: (rows3 (vs.eraseIdx j) (uss.eraseIdx j) (X.eraseIdx j) ++ L2))).Perm (own3 v vs uss (X.set j x) ++ L2) := by
  have h := (own3_out (v := v) (L2 := L2) (X := X.set j x) (by simpa using h1) (by simpa using h2) (show j < (X.set j x).length by simpa using hj)).symm
  rw [x3at_set hj, if_pos rfl, List.eraseIdx_set_eq] at h
  exact h
end
/-- the lengths fit -/
def Fit3 (vs : List Value) (uss : List (List Value)) (X : List (List (List Int))) : Prop := vs.length = X.length ∧ uss.length = X.length ∧ ∀ k, k < X.length → (vsat uss k).length = (x3at X k).length
theorem St.riii {B : Nat} {w0 w : World} {v : Value} {vs : List Value} {uss : List (List Value)} {X : List (List (List Int))} {L2 : List Ent} (h : St B w0 w (own3 v vs uss X ++ L2)) (hf : Fit3 vs uss X) : RIII w v vs uss X :=
  ⟨(h.sub (List.sublist_append_left _ _)).rd 0 rfl, hf.1, fun k hk => ((h.perm (own3_out hf.1 hf.2.1 hk)).sub (List.sublist_append_left _ _)).rii (hf.2.2 k hk)⟩
theorem Fit3.set {vs : List Value} {uss : List (List Value)} {X : List (List (List Int))} (h : Fit3 vs uss X) {j : Nat} (hj : j < X.length) {x : List (List Int)} (hx : x.length = (x3at X j).length) : Fit3 vs uss (X.set j x) :=
  ⟨by simpa using h.1, by simpa using h.2.1, fun k hk => by
    rw [x3at_set hj]
    simp only [List.length_set] at hk
    by_cases e : j = k
    · rw [if_pos e, hx]; subst e; exact h.2.2 j hj
    · rw [if_neg e]; exact h.2.2 k hk⟩

/-! ### the law's functions -/
set_option maxHeartbeats 1000000 in
set_option maxRecDepth 100000 in
theorem eqInt64SSS_c (va vb : Value) (vs ws : List Value) (uss wss : List (List Value)) (X Y : List (List (List Int))) (w : World) (ha : RIII w va vs uss X) (hb : RIII w vb ws wss Y) :
    Calls Try.prog 41 #[va, vb] w (GivesB w (decide (X = Y))) := by
  have hla := ha.len
  have hlb := hb.len
  have hia := ha.ix
  have hib := hb.ix
  have hma := ha.le
  by_cases hne : X.length = Y.length
  · have f0 : ((X.length : Int) != (Y.length : Int)) = false := ne_f (by omega)
    have hle : X.length ≤ Y.length := by omega
    have Hne := Lib.hid hne; clear hne
    go_enter Try.func41, Try.ntmps41
    go_wp2_with fail
    go_loopw [5] (fun i wr => ∃ k : Nat, k ≤ X.length ∧ i = .int .i64 k ∧ Hid (∀ j, j < k → x3at X j = x3at Y j) ∧ St w.heap.size w wr []) (fun i _ => X.length - (intOf i).toNat)
    case atStart => exact ⟨0, by omega, rfl, fun j hj => by omega, St.refl w⟩
    case round =>
      obtain ⟨k, hk, rfl, hI, hS⟩ := hrel
      by_cases hlt : k < X.length
      · have hqa := fun s : SS w.heap.size w [] => (s.st.oldIII ha).cell k hlt
        have hqb := fun s : SS w.heap.size w [] => (s.st.oldIII hb).cell k (by omega)
        have hk2 : k < Y.length := by omega
        by_cases h1 : x3at X k = x3at Y k
        · have f1 : decide (x3at X k = x3at Y k) = true := decide_eq_true h1
          have H1 := Lib.hid h1; clear h1
          go_wp2_with fail
          have hne : Nonempty (SS _ _ _) := ⟨⟨_, hS⟩⟩
          refine wp_region_st (by kernel_rfl) (by kernel_rfl) hS ?_
          repeat (go_big_quiet_step ((go_at_call 91; exact st_quiet (eqInt64SS_c _ _ _ _ _ _ _ (((SS.st _).oldIII ha).row k hlt) (((SS.st _).oldIII hb).row k hk2)))))
          refine wpQuiet_nil ?_
          rintro _ ⟨s2, rfl⟩
          have hS2 := s2.st
          generalize s2.w = w2 at hS2 ⊢
          go_wp2_with fail
          go_roundw
          case rel => exact ⟨k + 1, by omega, by go_num, fun j hj => by
            by_cases e : j = k
            · subst e; exact H1.out
            · exact hI.out j (by omega), hS2⟩
          case measure => simp [intOf]; omega
        · have f1 : decide (x3at X k = x3at Y k) = false := decide_eq_false h1
          have H1 := Lib.hid h1; clear h1
          go_wp2_with fail
          have hne : Nonempty (SS _ _ _) := ⟨⟨_, hS⟩⟩
          refine wp_region_st (by kernel_rfl) (by kernel_rfl) hS ?_
          repeat (go_big_quiet_step ((go_at_call 91; exact st_quiet (eqInt64SS_c _ _ _ _ _ _ _ (((SS.st _).oldIII ha).row k hlt) (((SS.st _).oldIII hb).row k hk2)))))
          refine wpQuiet_nil ?_
          rintro _ ⟨s2, rfl⟩
          have hS2 := s2.st
          generalize s2.w = w2 at hS2 ⊢
          go_wp2_with fail
          go_ret
          exact ⟨ret_bool (by symm; rw [decide_eq_false_iff_not]; intro e; subst e; exact H1.out rfl), hS2⟩
      · go_wp2_with fail
        go_ret
        refine ⟨ret_bool ?_, hS⟩
        symm; rw [decide_eq_true_iff]
        apply List.ext_getElem Hne.out
        intro j h1 h2
        have := hI.out j (by omega)
        rwa [x3at_eq h1, x3at_eq h2] at this
  · have f0 : ((X.length : Int) != (Y.length : Int)) = true := ne_t (by omega)
    have Hne := Lib.hid hne; clear hne
    go_enter Try.func41, Try.ntmps41
    go_wp2_with fail
    go_ret
    exact ⟨ret_bool (by symm; rw [decide_eq_false_iff_not]; intro e; exact Hne.out (by rw [e])), St.refl w⟩

/-- marks -/
def tot3 : List (List (List Int)) → Nat
  | [] => 0
  | x :: r => tot x + tot3 r
def mrk3 (k : Int) : List (List (List Int)) → List (List (List Int))
  | [] => []
  | x :: r => mrkL k x :: mrk3 (k + tot x) r
theorem mrk3_len : ∀ (k : Int) (X : List (List (List Int))), (mrk3 k X).length = X.length
  | _, [] => rfl
  | k, x :: r => by simp [mrk3, mrk3_len]
theorem tot3_app (a b : List (List (List Int))) : tot3 (a ++ b) = tot3 a + tot3 b := by
  induction a with
  | nil => simp [tot3]
  | cons x r ih => simp only [List.cons_append, tot3, ih]; omega
theorem tot3_take {X : List (List (List Int))} {j : Nat} (h : j < X.length) : tot3 (X.take (j + 1)) = tot3 (X.take j) + tot (x3at X j) := by
  rw [take_x3at h, tot3_app]; simp [tot3]
theorem tot3_le (X : List (List (List Int))) (j : Nat) : tot3 (X.take j) ≤ tot3 X := by
  have := tot3_app (X.take j) (X.drop j)
  rw [List.take_append_drop] at this; omega
theorem x3at_mrk3 : ∀ {k : Int} {X : List (List (List Int))} {j : Nat}, j < X.length → x3at (mrk3 k X) j = mrkL (k + tot3 (X.take j)) (x3at X j)
  | k, x :: r, 0, _ => by simp [mrk3, x3at, tot3]
  | k, x :: r, j + 1, h => by
    have ih := x3at_mrk3 (k := k + tot x) (X := r) (j := j) (by simpa using h)
    have e1 : x3at (mrk3 k (x :: r)) (j + 1) = x3at (mrk3 (k + tot x) r) j := by simp [mrk3, x3at]
    have e2 : x3at (x :: r) (j + 1) = x3at r j := by simp [x3at]
    rw [e1, e2, ih, List.take_succ_cons, tot3]
    congr 1; push_cast; omega
  | _, [], _, h => by simp at h
theorem fit_mrk3 {vs : List Value} {uss : List (List Value)} {X : List (List (List Int))} {k : Int} (h : Fit3 vs uss X) : Fit3 vs uss (mrk3 k X) :=
  ⟨by rw [mrk3_len]; exact h.1, by rw [mrk3_len]; exact h.2.1, fun j hj => by
    rw [mrk3_len] at hj
    rw [x3at_mrk3 hj, mrkL_len]; exact h.2.2 j hj⟩
/-- the first j are marked -/
def mrkU (k : Int) (X : List (List (List Int))) (j : Nat) : List (List (List Int)) := (mrk3 k X).take j ++ X.drop j
theorem mrkU_len {k : Int} {X : List (List (List Int))} {j : Nat} (h : j ≤ X.length) : (mrkU k X j).length = X.length := by simp [mrkU, mrk3_len]; omega
theorem mrkU_at {k : Int} {X : List (List (List Int))} {j : Nat} (h : j < X.length) : x3at (mrkU k X j) j = x3at X j := by
  unfold mrkU x3at
  rw [List.getD_eq_getElem?_getD, List.getElem?_append_right (by simp [mrk3_len]; omega)]
  simp [mrk3_len, Nat.min_eq_left (Nat.le_of_lt h), List.getD_eq_getElem?_getD]
theorem mrkU_set {k : Int} {X : List (List (List Int))} {j : Nat} (h : j < X.length) : (mrkU k X j).set j (mrkL (k + tot3 (X.take j)) (x3at X j)) = mrkU k X (j + 1) := by
  unfold mrkU
  rw [List.set_append_right _ _ (by simp [mrk3_len]; omega), drop_x3at h, take_x3at (by rw [mrk3_len]; exact h), x3at_mrk3 h]
  simp [mrk3_len, Nat.min_eq_left (Nat.le_of_lt h)]
theorem fit_mrkU {vs : List Value} {uss : List (List Value)} {X : List (List (List Int))} {k : Int} (h : Fit3 vs uss X) : ∀ {j : Nat}, j ≤ X.length → Fit3 vs uss (mrkU k X j)
  | 0, _ => by simpa [mrkU] using h
  | j + 1, hj => by
    rw [← mrkU_set (by omega)]
    refine (fit_mrkU h (j := j) (by omega)).set (by rw [mrkU_len (by omega)]; omega) ?_
    rw [mrkL_len, mrkU_at (by omega)]

set_option maxHeartbeats 1000000 in
set_option maxRecDepth 100000 in
theorem markInt64SSS_c {B : Nat} {w0 w : World} {L2 : List Ent} (v : Value) (vs : List Value) (uss : List (List Value)) (X : List (List (List Int))) (k : Int) (h0 : 0 ≤ k) (h1 : k + tot3 X ≤ 4611686018427387904) (hf : Fit3 vs uss X) (hS : St B w0 w (own3 v vs uss X ++ L2)) :
    Calls Try.prog 42 #[v, .int .i64 k] w fun e w' => e = .returned (.int .i64 (k + tot3 X)) ∧ St B w0 w' (own3 v vs uss (mrk3 k X) ++ L2) := by
  have hv := hS.riii hf
  have hln := hv.len
  have hix := hv.ix
  have hm := hv.le
  have Hf := Lib.hid hf
  have H1 := Lib.hid h1
  clear hf h1
  go_enter Try.func42, Try.ntmps42
  go_wp2_with fail
  go_loopw [1, 5] (fun kk ii wr => ∃ j : Nat, j ≤ X.length ∧ ii = .int .i64 j ∧ kk = .int .i64 (k + tot3 (X.take j)) ∧ St B w0 wr (own3 v vs uss (mrkU k X j) ++ L2)) (fun _ ii _ => X.length - (intOf ii).toNat)
  case atStart => exact ⟨0, by omega, rfl, by simp [tot3], by simpa [mrkU] using hS⟩
  case round =>
    obtain ⟨j, hj, rfl, rfl, hS1⟩ := hrel
    by_cases hlt : j < X.length
    · have hfu := fit_mrkU (k := k) Hf.out hj
      have hju : j < (mrkU k X j).length := by rw [mrkU_len hj]; exact hlt
      have hc := (hS1.riii hfu).cell j hju
      have ht := Lib.hid (tot3_take hlt)
      have ht2 := tot3_le X (j + 1)
      have hP := hS1.perm (own3_out hfu.1 hfu.2.1 hju)
      rw [mrkU_at hlt] at hP
      have hcall := Lib.hid (markInt64SS_c (vat vs j) (vsat uss j) (x3at X j) (k + tot3 (X.take j)) (by omega) (by have := ht.out; have := H1.out; omega) (Hf.out.2.2 j hlt) hP)
      have Hin := Lib.hid (own3_in (v := v) (L2 := L2) hfu.1 hfu.2.1 hju (mrkL (k + tot3 (X.take j)) (x3at X j)))
      rw [mrkU_set hlt] at Hin
      clear hju ht2 hP hfu
      go_wp2_with fail
      refine hcall.out.mono ?_
      rintro e w2 ⟨rfl, hS2⟩
      go_wp2_with fail
      go_roundw
      case rel => exact ⟨j + 1, by omega, by go_num, by rw [ht.out]; congr 1; push_cast; omega, hS2.perm Hin.out⟩
      case measure => simp [intOf]; omega
    · go_wp2_with fail
      go_ret
      have ej : j = X.length := by omega
      subst ej
      refine ⟨ret_i64 (by simp), ?_⟩
      have e : mrkU k X X.length = mrk3 k X := by unfold mrkU; rw [List.take_of_length_le (by rw [mrk3_len]; omega)]; simp
      rw [e] at hS1; exact hS1

end Go.Proofs.Ytpfgbbbjldpnnaa
