/- The texts of this claim, run 7: Ds6 Sss PRR PPm Srt PIm PRs Sq RrA Bo RrC PPln A3 Pj1 PPj PLat Ds7. -/
import Derived.Test.YtdlmohigkkdegaaGreatK1
import Derived.Test.YtdlmohigkkdegaaGreatK2
import Derived.Test.YtdlmohigkkdegaaGreatK4
import Derived.Test.YtdlmohigkkdegaaGreatK5
import Derived.Test.YtdlmohigkkdegaaGreatK6
import Derived.Shelf.SortM.Plain
import Derived.Shelf.SortM.SortNone
import Derived.Sort.OwnSortedInts
section
/- Walks: derived and residual designs, of a block. -/
namespace Go.Proofs.YtdlmohigkkdegaaGreat
set_option linter.unusedSimpArgs false
set_option linter.unusedVariables false
open Go.RowKit
attribute [local go_sem ↓] Go.wp_at_zero Go.wp_at_succ

set_option maxHeartbeats 4000000 in
set_option maxRecDepth 100000 in
theorem ResidualDesign_c (P : Nat) (v : Value) (us : List Value) (A : List (List Int)) (blk : Nat) (w : World) (hv : RII w v us A) (hok : dOk P A = true) (hb : blk < A.length)
    (hne : ∀ j, j < A.length → (j : Int) ≠ blk → rsB (xat A j) (cplB P (xat A blk)) ≠ []) (hS0 : cplB P (xat A blk) ≠ []) :
    Calls Tryz.prog 64 #[dv P v, .int .i64 blk] w (MakesD w (cplB P (xat A blk)).length (srtL (resR A blk (cplB P (xat A blk)) A.length)) 0) := by
  obtain ⟨a, c, hsh⟩ := hv.1.sl.sh
  rw [hv.2.1] at hsh
  subst hsh
  have hDl := (dOk_t hok).len
  have hPl := (dOk_t hok).le
  have hS1 := ((St.refl w).newboxF 27 #[.int .i64 P, .slice a A.length c]).newboxF 27 #[.int .i64 0, .slice none 0 0]
  simp only [World.size_alloc] at hS1
  have b0 := hS1.bcell 1 rfl 0 rfl
  have b1 := hS1.bcell 1 rfl 1 rfl
  have K1 := Lib.hid (hasBlock_c P (.slice a A.length c) us A blk _ (hS1.oldII hv))
  have hh : hbC P A blk = 0 := by
    rw [hbC, if_pos hok, if_pos]; simp [inB]; omega
  rw [hh] at K1
  have HR := fun W X h h' => Lib.hid (restricted_c P (.slice a A.length c) us A blk X (cplB P (xat A blk)) W h h' hDl hne hS0 (by have := cplB_len P (xat A blk); omega))
  generalize resR A blk (cplB P (xat A blk)) A.length = R at *
  generalize hXl : (cplB P (xat A blk)).length = Xl at *
  have HXl := Lib.hid hXl
  have hxe := hv.ixe (blk : Int) blk rfl hb
  clear hne hS0 hh hok hXl
  unfold dv at K1 HR ⊢
  go_enter Tryz.func64, Tryz.ntmps64
  go_wp2_with fail
  refine K1.out.mono ?_
  clear K1 b0 b1
  rintro e w2 ⟨rfl, h2⟩
  have hS2 := hS1.call0 h2
  have b0 := hS2.bcell 1 rfl 0 rfl
  have b1 := hS2.bcell 1 rfl 1 rfl
  have cb := (hS2.oldII hv).cell blk hb
  have hS3 := hS2.drew
  clear h2 hS1
  go_wp2_with fail
  refine regionG (fun w' => w'.cell? ⟨w.heap.size, 0, none⟩ = some (.int .i64 P) ∧ w'.cell? ⟨w.heap.size, 1, none⟩ = some (.slice a A.length c) ∧ w'.cell? (el (.slice a A.length c) blk) = some (vat us blk)) 14 (by kernel_rfl) ⟨cell_dr b0, cell_dr b1, cell_dr cb⟩ (fun hHeld => ?_)
  refine takeH (i := 0) [11, 12] (v := ?_) rfl (by kernel_rfl) (fun _ _ _ h => h) (by rfl) ?_ (by assumption) ?_
  case refine_2 => (intro w' hSw; (try dsimp only at hSw); go_simp; first | done | with_reducible rfl)
  try simp only [Act.put, List.setIfInBounds_toArray, List.set_cons_zero, List.set_cons_succ]
  refine takeP (i := 1) (v := ?_) rfl (by kernel_rfl) (fun _ _ _ h => h) (by rfl) ?_ (by assumption) ?_
  case refine_2 => (intro w'; go_simp; first | done | with_reducible rfl)
  try simp only [Act.put, List.setIfInBounds_toArray, List.set_cons_zero, List.set_cons_succ]
  refine takeP (i := 2) (v := ?_) rfl (by kernel_rfl) (fun _ _ _ h => h) (by rfl) ?_ (by assumption) ?_
  case refine_2 => (intro w'; go_simp; first | done | with_reducible rfl)
  try simp only [Act.put, List.setIfInBounds_toArray, List.set_cons_zero, List.set_cons_succ]
  refine takeH (i := 3) [4, 10, 11, 12] (v := ?_) rfl (by kernel_rfl) (fun _ _ _ h => h) (by rfl) ?_ (by assumption) ?_
  case refine_2 => (intro w' hSw; (try dsimp only at hSw); go_simp; first | done | with_reducible rfl)
  try simp only [Act.put, List.setIfInBounds_toArray, List.set_cons_zero, List.set_cons_succ]
  refine takeP (i := 5) (v := ?_) rfl (by kernel_rfl) (fun _ _ _ h => h) (by rfl) ?_ (by assumption) ?_
  case refine_2 => (intro w'; go_simp; first | done | with_reducible rfl)
  try simp only [Act.put, List.setIfInBounds_toArray, List.set_cons_zero, List.set_cons_succ]
  refine takeH (i := 6) [8, 9, 10, 11, 12] (v := ?_) rfl (by kernel_rfl) (fun _ _ _ h => h) (by rfl) ?_ (by assumption) ?_
  case refine_2 => (intro w' hSw; (try dsimp only at hSw); go_simp; first | done | with_reducible rfl)
  try simp only [Act.put, List.setIfInBounds_toArray, List.set_cons_zero, List.set_cons_succ]
  refine takeP (i := 7) (v := ?_) rfl (by kernel_rfl) (fun _ _ _ h => h) (by rfl) ?_ (by assumption) ?_
  case refine_2 => (intro w'; go_simp; first | done | with_reducible rfl)
  try simp only [Act.put, List.setIfInBounds_toArray, List.set_cons_zero, List.set_cons_succ]
  refine takeP (i := 8) (v := ?_) rfl (by kernel_rfl) (fun _ _ _ h => h) (by rfl) ?_ (by assumption) ?_
  case refine_2 => (intro w'; go_simp; first | done | with_reducible rfl)
  try simp only [Act.put, List.setIfInBounds_toArray, List.set_cons_zero, List.set_cons_succ]
  refine takeH (i := 9) [10, 11, 12] (v := ?_) rfl (by kernel_rfl) (fun _ _ _ h => h) (by rfl) ?_ (by assumption) ?_
  case refine_2 => (intro w' hSw; (try dsimp only at hSw); go_simp; first | done | with_reducible rfl)
  try simp only [Act.put, List.setIfInBounds_toArray, List.set_cons_zero, List.set_cons_succ]
  refine readyG (rs := [4]) (by kernel_rfl) (by simp) ?_
  refine AllG.cons rfl (fun K hK => ?_) AllG.nil
  go_simp
  refine (allPoints_c P _ (by omega)).mono ?_
  rintro e w3 ⟨v3, rfl, h3⟩
  have hS4 := hS3.call h3
  have r3 := h3.rdI 0 rfl
  have g0 := hS4.bcell 1 rfl 0 rfl
  have g1 := hS4.bcell 1 rfl 1 rfl
  have cg := (hS4.oldII hv).cell blk hb
  refine hK.out _ _ ⟨g0, g1, cg⟩ (fun hHeld => ?_)
  clear hK K
  try simp only [Act.put, List.setIfInBounds_toArray, List.set_cons_zero, List.set_cons_succ]
  refine readyG (rs := [10]) (by kernel_rfl) (by simp) ?_
  refine AllG.cons rfl (fun K hK => ?_) AllG.nil
  go_simp
  refine (MinusSets_c _ _ _ _ _ r3 ((hS4.oldII hv).row blk hb)).mono ?_
  rintro e w4 ⟨v4, rfl, h4⟩
  have hS5 := hS4.call h4
  have r4 := h4.rdI (xs := cplB P (xat A blk)) 0 rfl
  have k0 := hS5.bcell 1 rfl 0 rfl
  have k1 := hS5.bcell 1 rfl 1 rfl
  have ck := (hS5.oldII hv).cell blk hb
  refine hK.out _ _ ⟨k0, k1, ck⟩ (fun hHeld => ?_)
  clear hK K
  try simp only [Act.put, List.setIfInBounds_toArray, List.set_cons_zero, List.set_cons_succ]
  refine readyG (rs := [11]) (by kernel_rfl) (by simp) ?_
  refine AllG.cons rfl (fun K hK => ?_) AllG.nil
  go_simp
  refine (HR _ _ (hS5.oldII hv) r4).out.mono ?_
  rintro e w5 ⟨v5, us5, rfl, hl5, h5⟩
  obtain ⟨ua, uc, hv5⟩ := (h5.rd 0 (e := 32) (v := v5) (us := us5) rfl).sl.sh
  rw [hl5, srtL_len] at hv5
  subst hv5
  unfold dv
  have hB5 := hS5.call h5
  have e0 := hB5.bcell 1 rfl 0 rfl
  have e1 := hB5.bcell 1 rfl 1 rfl
  have ce := (hB5.oldII hv).cell blk hb
  refine hK.out _ _ ⟨e0, e1, ce⟩ (fun hHeld => ?_)
  clear hK K
  try simp only [Act.put, List.setIfInBounds_toArray, List.set_cons_zero, List.set_cons_succ]
  have c0 := hB5.bcell 0 rfl 0 rfl
  have c1 := hB5.bcell 0 rfl 1 rfl
  have f0 := hB5.bfree 0 rfl
  refine takeP (i := 12) (v := ?_) rfl (by kernel_rfl) (fun _ _ _ h => h) (by rfl) ?_ (by assumption) ?_
  case refine_2 => (intro w'; go_simp; first | done | with_reducible rfl)
  try simp only [Act.put, List.setIfInBounds_toArray, List.set_cons_zero, List.set_cons_succ]
  refine takeP (i := 13) (v := ?_) rfl (by kernel_rfl) (fun _ _ _ h => h) (by rfl) ?_ (by assumption) ?_
  case refine_2 => (intro w'; go_simp; first | done | with_reducible rfl)
  try simp only [Act.put, List.setIfInBounds_toArray, List.set_cons_zero, List.set_cons_succ]
  refine readyG (rs := [14]) (by kernel_rfl) (by simp) ?_
  refine AllG.last rfl (by kernel_rfl) (fun K hK => ?_) AllG.nil
  go_simp
  refine hK.out _ _ ?_
  clear hK K
  try simp only [Act.put, List.setIfInBounds_toArray, List.set_cons_zero, List.set_cons_succ]
  refine readyG (rs := [15]) (by kernel_rfl) (by simp) ?_
  refine AllG.last rfl (by kernel_rfl) (fun K hK => ?_) AllG.nil
  go_simp
  refine hK.out _ _ ?_
  clear hK K
  try simp only [Act.put, List.setIfInBounds_toArray, List.set_cons_zero, List.set_cons_succ]
  refine doneG (by kernel_rfl) ?_ _
  refine NoPanic.normal ?_
  have h6 := (hB5.bstore 0 rfl 0 (.int .i64 Xl)).bstore 0 rfl 1 (.slice ua R.length uc)
  have d0 := h6.bcell 0 rfl 0 rfl
  have d1 := h6.bcell 0 rfl 1 rfl
  clear hB5 h5 c0 c1 e0 e1 ce f0
  go_wp2_with fail
  refine bodyPost_ret (v := .tuple #[.agg #[.int .i64 Xl, .slice ua R.length uc], .int .i64 0]) (by simp [results, Tryz.results64, go_sem, d0, d1]) rfl ?_
  exact ⟨_, us5, rfl, hl5, h6.sub (L' := own2 (.slice ua R.length uc) us5 (srtL R)) ((((List.sublist_cons_self _ _).trans (List.sublist_cons_self _ _)).trans (List.sublist_cons_self _ _)).trans (List.sublist_cons_self _ _))⟩
end Go.Proofs.YtdlmohigkkdegaaGreat
end

section
/- Slices of slices of slices of integers: what they read as, what a call owns, and the law's functions on them. -/
namespace Go.Proofs.YtdlmohigkkdegaaGreat
set_option linter.unusedSimpArgs false
set_option linter.unusedVariables false
open Go.RowKit

def x3at (X : List (List (List Int))) (k : Nat) : List (List Int) := X.getD k []
theorem x3at_eq {X : List (List (List Int))} {k : Nat} (h : k < X.length) : x3at X k = X[k] := by simp [x3at, h]
theorem drop_x3at {X : List (List (List Int))} {k : Nat} (hk : k < X.length) : X.drop k = x3at X k :: X.drop (k + 1) := by
  rw [List.drop_eq_getElem_cons hk, x3at_eq hk]
theorem x3at_set {X : List (List (List Int))} {j k : Nat} {x : List (List Int)} (h : j < X.length) : x3at (X.set j x) k = if j = k then x else x3at X k := by
  unfold x3at
  rw [List.getD_eq_getElem?_getD, List.getElem?_set]
  split
  · rename_i e; subst e; simp [h]
  · simp [List.getD_eq_getElem?_getD]
/-- what is read -/
def RIII (w : World) (v : Value) (vs : List Value) (uss : List (List Value)) (X : List (List (List Int))) : Prop :=
  Rd w v vs ∧ vs.length = X.length ∧ ∀ k, k < X.length → RII w (vat vs k) (vsat uss k) (x3at X k)
section
variable {w w' : World} {v : Value} {vs : List Value} {uss : List (List Value)} {X : List (List (List Int))}
theorem RIII.le (h : RIII w v vs uss X) : X.length ≤ 9223372036854775807 := by have := h.1.sl.le; rwa [h.2.1] at this
theorem RIII.len (h : RIII w v vs uss X) (ty : TypeId) (W : World) : (Builtin.len_ #[60] ty #[v]).run Tryz.prog W = .ok (.int .i64 X.length) W := by
  have := run_len_sl (P := Tryz.prog) h.1.sl 60 ty Tryz.und_isss W; rwa [h.2.1] at this
theorem RIII.ix (h : RIII w v vs uss X) (k : IntKind) (i : Int) (h0 : 0 ≤ i) (hi : i < X.length) (W : World) :
    (Instr.indexAt 60 v (.int k i)).run Tryz.prog W = .ok (.pointer (some (el v i.toNat))) W :=
  run_ix_sl (P := Tryz.prog) h.1.sl 60 Tryz.und_isss Tryz.size_iss k i h0 (by rw [h.2.1]; exact hi) W
theorem RIII.ixe (h : RIII w v vs uss X) (i : Int) (j : Nat) (hij : i = (j : Int)) (hj : j < X.length) (W : World) :
    (Instr.indexAt 60 v (.int .i64 i)).run Tryz.prog W = .ok (.pointer (some (el v j))) W := by
  have := h.ix .i64 i (by omega) (by omega) W
  rwa [hij, Int.toNat_natCast, ← hij] at this
theorem RIII.cell (h : RIII w v vs uss X) (j : Nat) (hj : j < X.length) : w.cell? (el v j) = some (vat vs j) := Rd.cell h.1 (by rw [h.2.1]; exact hj)
theorem RIII.row (h : RIII w v vs uss X) (j : Nat) (hj : j < X.length) : RII w (vat vs j) (vsat uss j) (x3at X j) := h.2.2 j hj
theorem RIII.keep (h : RIII w v vs uss X) (hb : Below w.heap.size w w') : RIII w' v vs uss X := ⟨h.1.keep hb, h.2.1, fun j hj => (h.2.2 j hj).keep hb⟩
end
/-! ### what is owned -/
def rows3 : List Value → List (List Value) → List (List (List Int)) → List Ent
  | v :: vs, u :: uss, x :: X => own2 v u x ++ rows3 vs uss X
  | _, _, _ => []
def own3 (v : Value) (vs : List Value) (uss : List (List Value)) (X : List (List (List Int))) : List Ent := row 25 v vs :: rows3 vs uss X
section
variable {v : Value} {vs : List Value} {uss : List (List Value)} {X : List (List (List Int))} {L2 : List Ent} {j : Nat}
end
/-- the lengths fit -/
def Fit3 (vs : List Value) (uss : List (List Value)) (X : List (List (List Int))) : Prop := vs.length = X.length ∧ uss.length = X.length ∧ ∀ k, k < X.length → (vsat uss k).length = (x3at X k).length
theorem Fit3.set {vs : List Value} {uss : List (List Value)} {X : List (List (List Int))} (h : Fit3 vs uss X) {j : Nat} (hj : j < X.length) {x : List (List Int)} (hx : x.length = (x3at X j).length) : Fit3 vs uss (X.set j x) :=
  ⟨by simpa using h.1, by simpa using h.2.1, fun k hk => by
    rw [x3at_set hj]
    simp only [List.length_set] at hk
    by_cases e : j = k
    · rw [if_pos e, hx]; subst e; exact h.2.2 j hj
    · rw [if_neg e]; exact h.2.2 k hk⟩

/-! ### the law's functions -/
end Go.Proofs.YtdlmohigkkdegaaGreat
end

section
/- Plain: schedules of rounds of pairs: what a valid one is, opponents. -/
namespace Go.Proofs.YtdlmohigkkdegaaGreat
set_option linter.unusedSimpArgs false
set_option linter.unusedVariables false

def gdP (n : Int) (p : List Int) : Bool := decide (p.length = 2) && decide (nth p 0 < nth p 1) && inB (nth p 0) 0 (n - 1) && inB (nth p 1) 0 (n - 1)
/-- whether a team plays in some of these pairs -/
def plB (q : List (List Int)) (x : Int) : Bool := q.any fun p => decide (x ∈ p)
/-- the pairs ahead of place k of round r -/
def seen (R : List (List (List Int))) (r k : Nat) : List (List Int) := (R.take r).flatten ++ (x3at R r).take k
section
variable {R : List (List (List Int))} {r k : Nat}
theorem seen_snoc (hk : k < (x3at R r).length) : seen R r (k + 1) = seen R r k ++ [xat (x3at R r) k] := by
  rw [seen, take_xat hk, ← List.append_assoc]; rfl
theorem seen_pre (hr : r < R.length) (hk : k ≤ (x3at R r).length) : R.flatten = seen R r k ++ ((x3at R r).drop k ++ (R.drop (r + 1)).flatten) := by
  rw [seen, List.append_assoc, ← List.append_assoc ((x3at R r).take k), List.take_append_drop, ← List.flatten_cons, ← drop_x3at hr, ← List.flatten_append, List.take_append_drop]
theorem x3at_mem (hr : r < R.length) : x3at R r ∈ R := by rw [x3at_eq hr]; exact List.getElem_mem hr
end
theorem mem_xat {A : List (List Int)} {p : List Int} (h : p ∈ A) : ∃ k, k < A.length ∧ xat A k = p := by
  obtain ⟨k, hk, e⟩ := List.getElem_of_mem h
  exact ⟨k, hk, by rw [xat_eq hk, e]⟩
/-- what is asked of a pair -/
def okAt (n : Int) (R : List (List (List Int))) (r k : Nat) : Bool :=
  gdP n (xat (x3at R r) k) && (decide (k = 0) || decide (cmpI (xat (x3at R r) (k - 1)) (xat (x3at R r) k) < 0)) &&
  !plB ((x3at R r).take k) (nth (xat (x3at R r) k) 0) && !plB ((x3at R r).take k) (nth (xat (x3at R r) k) 1) && !decide (xat (x3at R r) k ∈ seen R r k)
def vsB (n : Int) (R : List (List (List Int))) : Bool :=
  inB n 2 32 && ((List.range R.length).all fun r => (List.range (x3at R r).length).all fun k => okAt n R r k) &&
  ((List.range n.toNat).all fun a => (List.range n.toNat).all fun b => decide (b ≤ a) || decide ([(a : Int), (b : Int)] ∈ R.flatten))
structure VS (n : Nat) (R : List (List (List Int))) : Prop where
  n2 : 2 ≤ n
  n32 : n ≤ 32
  gd : ∀ q ∈ R, ∀ p ∈ q, gdP n p = true
  st : ∀ q ∈ R, ∀ k, k + 1 < q.length → cmpI (xat q k) (xat q (k + 1)) < 0
  dj : ∀ q ∈ R, ∀ k, k < q.length → ∀ j, j < k → ∀ x ∈ xat q j, x ∉ xat q k
  nd : R.flatten.Nodup
  al : ∀ a b : Nat, a < b → b < n → [(a : Int), (b : Int)] ∈ R.flatten
structure GdP (n : Int) (p : List Int) : Prop where
  eq : p = [nth p 0, nth p 1]
  lt : nth p 0 < nth p 1
  lo : 0 ≤ nth p 0
  hi : nth p 1 ≤ n - 1
theorem gdP_t {n : Int} {p : List Int} (h : gdP n p = true) : GdP n p := by
  simp only [gdP, Bool.and_eq_true, decide_eq_true_eq, inB] at h
  obtain ⟨⟨⟨h1, h2⟩, h3⟩, h4⟩ := h
  match p, h1 with
  | [a, b], _ => exact ⟨rfl, h2, h3.1, h4.2⟩
theorem plB_f {q : List (List Int)} {x : Int} : plB q x = false ↔ ∀ p ∈ q, x ∉ p := by simp [plB]
theorem mem_take_xat {q : List (List Int)} {k : Nat} {p : List Int} (h : p ∈ q.take k) : ∃ j, j < k ∧ j < q.length ∧ xat q j = p := by
  obtain ⟨j, hj, e⟩ := mem_xat h
  simp only [List.length_take] at hj
  refine ⟨j, by omega, by omega, ?_⟩
  rw [← e, xat_eq (by omega), xat_eq (by simp; omega), List.getElem_take]
theorem VS.ok {n : Nat} {R : List (List (List Int))} (h : VS n R) {r k : Nat} (hr : r < R.length) (hk : k < (x3at R r).length) : okAt n R r k = true := by
  have hq := x3at_mem hr
  have hp := xat_mem hk
  have hg := h.gd _ hq _ hp
  have hG := gdP_t hg
  have h1 : ∀ x ∈ xat (x3at R r) k, plB ((x3at R r).take k) x = false := fun x hx => plB_f.2 fun p hp' hx' => by
    obtain ⟨j, hj, hj2, rfl⟩ := mem_take_xat hp'
    exact h.dj _ hq k hk j hj x hx' hx
  have h2 : xat (x3at R r) k ∉ seen R r k := by
    have := h.nd
    rw [seen_pre hr (Nat.succ_le_of_lt hk), seen_snoc hk, List.append_assoc] at this
    have := (List.nodup_append.1 this).2.2
    intro hm
    exact this _ hm _ (by simp) rfl
  have e0 : nth (xat (x3at R r) k) 0 ∈ xat (x3at R r) k := by rw [hG.eq]; simp [nth]
  have e1 : nth (xat (x3at R r) k) 1 ∈ xat (x3at R r) k := by rw [hG.eq]; simp [nth]
  simp only [okAt, Bool.and_eq_true, hg, h1 _ e0, h1 _ e1, decide_eq_false h2, Bool.not_false, and_true, true_and, Bool.or_eq_true, decide_eq_true_eq]
  cases k with
  | zero => exact .inl rfl
  | succ k => exact .inr (h.st _ hq k hk)
theorem VS.t {n : Nat} {R : List (List (List Int))} (h : VS n R) : vsB n R = true := by
  have h1 := h.n2
  have h2 := h.n32
  simp only [vsB, Bool.and_eq_true, List.all_eq_true, List.mem_range, Bool.or_eq_true, decide_eq_true_eq]
  refine ⟨⟨inB_true (by omega), fun r hr k hk => h.ok hr hk⟩, fun a ha b hb => ?_⟩
  by_cases hab : b ≤ a
  · exact .inl hab
  · exact .inr (h.al a b (by omega) (by omega))
/-! ### opponents -/
section
variable {n : Nat} {R : List (List (List Int))}
end
end Go.Proofs.YtdlmohigkkdegaaGreat
end

section
/- Permutations as lists, in plain terms. -/
namespace Go.Proofs.YtdlmohigkkdegaaGreat
set_option linter.unusedSimpArgs false
set_option linter.unusedVariables false
/-- a list that holds each number below its length once -/
structure IsP (xs : List Int) : Prop where
  lt : ∀ j, j < xs.length → 0 ≤ nth xs j ∧ nth xs j < xs.length
  inj : ∀ i j, i < xs.length → j < xs.length → nth xs i = nth xs j → i = j
/-- a permutation as a function -/
def pf (xs : List Int) (j : Nat) : Nat := (nth xs j).toNat
theorem nth_pf {xs : List Int} (h : IsP xs) {j : Nat} (hj : j < xs.length) : nth xs j = (pf xs j : Int) := by
  have := (h.lt j hj).1; unfold pf; omega
theorem IsP.bij {xs : List Int} (h : IsP xs) : Bij xs.length (pf xs) where
  lt j hj := by have := h.lt j hj; unfold pf; omega
  inj i j hi hj e := h.inj i j hi hj (by rw [nth_pf h hi, nth_pf h hj, e])
theorem IsP.pf_lt {xs : List Int} (h : IsP xs) {j : Nat} (hj : j < xs.length) : pf xs j < xs.length := h.bij.lt j hj
theorem IsP.nodup {xs : List Int} (h : IsP xs) : xs.Nodup := by
  rw [List.nodup_iff_pairwise_ne, List.pairwise_iff_getElem]
  intro a b ha hb hab e
  have := h.inj a b ha hb (by rw [nth_eq ha, nth_eq hb, e])
  omega
theorem nth_ext {xs ys : List Int} (hl : xs.length = ys.length) (h : ∀ j, j < xs.length → nth xs j = nth ys j) : xs = ys := by
  apply List.ext_getElem hl
  intro j h1 h2
  have := h j h1
  rwa [nth_eq h1, nth_eq h2] at this
/-- the identity -/
def iot (n : Nat) : List Int := (List.range n).map fun k : Nat => (k : Int)
theorem iot_len (n : Nat) : (iot n).length = n := by simp [iot]
theorem nth_iot {n j : Nat} (h : j < n) : nth (iot n) j = j := by simp [iot, nth, h]
theorem iot_isP (n : Nat) : IsP (iot n) where
  lt j hj := by rw [iot_len] at hj ⊢; rw [nth_iot hj]; omega
  inj i j hi hj e := by rw [iot_len] at hi hj; rw [nth_iot hi, nth_iot hj] at e; omega
theorem mem_iot {n : Nat} {x : Int} : x ∈ iot n ↔ 0 ≤ x ∧ x < n := by
  unfold iot; rw [List.mem_map]
  constructor
  · rintro ⟨k, hk, rfl⟩; have := List.mem_range.1 hk; omega
  · intro h; exact ⟨x.toNat, List.mem_range.2 (by omega), by omega⟩
theorem IsP.perm {xs : List Int} (h : IsP xs) : xs.Perm (iot xs.length) := by
  refine (List.perm_ext_iff_of_nodup h.nodup (iot_isP _).nodup).2 fun x => ?_
  rw [mem_iot]
  constructor
  · intro hx
    obtain ⟨j, hj, rfl⟩ := List.getElem_of_mem hx
    have := h.lt j hj; rwa [nth_eq hj] at this
  · intro hx
    obtain ⟨j, hj, e⟩ := h.bij.onto (y := x.toNat) (by omega)
    have := nth_pf h hj
    rw [e] at this
    have hm := nth_mem hj
    rw [this] at hm
    rwa [Int.toNat_of_nonneg hx.1] at hm
theorem msort_sorted (xs : List Int) : (xs.mergeSort fun x y => decide (x ≤ y)).Pairwise (· ≤ ·) := by
  have := List.pairwise_mergeSort (le := fun x y : Int => decide (x ≤ y)) (fun a b c h1 h2 => by simp at *; omega) (fun a b => by simp; omega) xs
  exact this.imp fun h => by simpa using h
/-! ### exchanges -/
theorem nth_set {xs : List Int} {i j : Nat} {x : Int} (h : i < xs.length) : nth (xs.set i x) j = if i = j then x else nth xs j := by
  unfold nth
  rw [List.getD_eq_getElem?_getD, List.getElem?_set]
  split
  · rename_i e; subst e; simp [h]
  · simp
/-! ### composition, inverse -/
/-- first xs, then ys -/
def cmpL (xs ys : List Int) : List Int := (List.range xs.length).map fun j => nth ys (pf xs j)
theorem cmpL_len (xs ys : List Int) : (cmpL xs ys).length = xs.length := by simp [cmpL]
theorem nth_cmpL {xs ys : List Int} {j : Nat} (hj : j < xs.length) : nth (cmpL xs ys) j = nth ys (pf xs j) := by simp [cmpL, nth, hj]
theorem pf_cmpL {xs ys : List Int} {j : Nat} (hj : j < xs.length) : pf (cmpL xs ys) j = pf ys (pf xs j) := by unfold pf; rw [nth_cmpL hj]; rfl
theorem IsP.cmp {xs ys : List Int} (h : IsP xs) (h2 : IsP ys) (hl : xs.length = ys.length) : IsP (cmpL xs ys) where
  lt j hj := by
    rw [cmpL_len] at hj ⊢
    rw [nth_cmpL hj, hl]
    exact h2.lt _ (by rw [← hl]; exact h.pf_lt hj)
  inj i j hi hj e := by
    rw [cmpL_len] at hi hj
    rw [nth_cmpL hi, nth_cmpL hj] at e
    exact h.bij.inj i j hi hj (h2.inj _ _ (by rw [← hl]; exact h.pf_lt hi) (by rw [← hl]; exact h.pf_lt hj) e)
/-- place j of the first k is written at the number that stands there -/
def invQ (xs : List Int) : Nat → List Int
  | 0 => List.replicate xs.length 0
  | k + 1 => (invQ xs k).set (pf xs k) k
def invL (xs : List Int) : List Int := invQ xs xs.length
theorem invQ_len (xs : List Int) : ∀ k, (invQ xs k).length = xs.length
  | 0 => by simp [invQ]
  | k + 1 => by rw [invQ, List.length_set, invQ_len xs k]
theorem nth_invQ {xs : List Int} (h : IsP xs) : ∀ k, k ≤ xs.length → ∀ j, j < k → nth (invQ xs k) (pf xs j) = j
  | 0, _, j, hj => by omega
  | k + 1, hk, j, hj => by
    rw [invQ, nth_set (by rw [invQ_len]; exact h.pf_lt (by omega))]
    by_cases e : k = j
    · subst e; rw [if_pos rfl]
    · rw [if_neg (fun e2 => e (h.bij.inj k j (by omega) (by omega) e2)), nth_invQ h k (by omega) j (by omega)]
theorem invL_len (xs : List Int) : (invL xs).length = xs.length := invQ_len xs _
theorem nth_invL {xs : List Int} (h : IsP xs) {j : Nat} (hj : j < xs.length) : nth (invL xs) (pf xs j) = j := nth_invQ h _ (Nat.le_refl _) j hj
theorem IsP.inv {xs : List Int} (h : IsP xs) : IsP (invL xs) := by
  have key : ∀ y, y < xs.length → ∃ j, j < xs.length ∧ pf xs j = y := fun y hy => h.bij.onto hy
  refine ⟨fun y hy => ?_, fun a b ha hb e => ?_⟩
  · rw [invL_len] at hy ⊢
    obtain ⟨j, hj, rfl⟩ := key y hy
    rw [nth_invL h hj]; omega
  · rw [invL_len] at ha hb
    obtain ⟨i, hi, rfl⟩ := key a ha
    obtain ⟨j, hj, rfl⟩ := key b hb
    rw [nth_invL h hi, nth_invL h hj] at e
    have : i = j := by omega
    rw [this]
/-! ### signs -/
end Go.Proofs.YtdlmohigkkdegaaGreat
end

section
/- slices.Sort at []int64: a row that a call owns, sorted. -/
namespace Go.Proofs.YtdlmohigkkdegaaGreat
set_option linter.unusedSimpArgs false
set_option linter.unusedVariables false
open Go.RowKit

def Tryz.mSort_ren : Go.Shelf.Ren := ⟨fun | 5 => 54 | 8 => 125 | 7 => 124 | 19 => 186 | 20 => 187 | 10 => 177 | 11 => 178 | 12 => 179 | 13 => 180 | 14 => 181 | 15 => 182 | 16 => 183 | 17 => 184 | 18 => 185 | 30 => 233 | 31 => 234 | 32 => 235 | 33 => 236 | 34 => 237 | 35 => 232 | 40 => 252 | n => n, fun | 23 => 32 | 25 => 2 | 3 => 3 | 32 => 127 | 22 => 32 | 0 => 0 | 44 => 167 | 46 => 114 | 4 => 4 | 36 => 160 | 35 => 159 | 41 => 164 | 5 => 5 | 9 => 9 | 53 => 186 | 57 => 190 | 63 => 198 | 64 => 199 | n => n, fun | n => n⟩
theorem Tryz.mSort : Go.Proofs.SlLaysM.n5 Tryz.prog Tryz.mSort_ren := {
  mixed := by kernel_rfl
  f5 := ⟨Tryz.f54.name, by decide, Tryz.func54.trans (congrArg some (by kernel_rfl))⟩
  f7 := ⟨Tryz.f124.name, by decide, Tryz.func124.trans (congrArg some (by kernel_rfl))⟩
  f8 := Tryz.func125.trans (congrArg some (by kernel_rfl))
  f10 := ⟨Tryz.f177.name, by decide, Tryz.func177.trans (congrArg some (by kernel_rfl))⟩
  f11 := ⟨Tryz.f178.name, by decide, Tryz.func178.trans (congrArg some (by kernel_rfl))⟩
  f12 := ⟨Tryz.f179.name, by decide, Tryz.func179.trans (congrArg some (by kernel_rfl))⟩
  f13 := ⟨Tryz.f180.name, by decide, Tryz.func180.trans (congrArg some (by kernel_rfl))⟩
  f14 := ⟨Tryz.f181.name, by decide, Tryz.func181.trans (congrArg some (by kernel_rfl))⟩
  f15 := ⟨Tryz.f182.name, by decide, Tryz.func182.trans (congrArg some (by kernel_rfl))⟩
  f16 := ⟨Tryz.f183.name, by decide, Tryz.func183.trans (congrArg some (by kernel_rfl))⟩
  f17 := ⟨Tryz.f184.name, by decide, Tryz.func184.trans (congrArg some (by kernel_rfl))⟩
  f18 := ⟨Tryz.f185.name, by decide, Tryz.func185.trans (congrArg some (by kernel_rfl))⟩
  f19 := Tryz.func186.trans (congrArg some (by kernel_rfl))
  f20 := Tryz.func187.trans (congrArg some (by kernel_rfl))
  f30 := ⟨Tryz.f233.name, by decide, Tryz.func233.trans (congrArg some (by kernel_rfl))⟩
  f31 := Tryz.func234.trans (congrArg some (by kernel_rfl))
  f32 := Tryz.func235.trans (congrArg some (by kernel_rfl))
  f33 := ⟨Tryz.f236.name, by decide, Tryz.func236.trans (congrArg some (by kernel_rfl))⟩
  f34 := ⟨Tryz.f237.name, by decide, Tryz.func237.trans (congrArg some (by kernel_rfl))⟩
  f35 := ⟨Tryz.f232.name, by decide, Tryz.func232.trans (congrArg some (by kernel_rfl))⟩
  f40 := ⟨Tryz.f252.name, by decide, Tryz.func252.trans (congrArg some (by kernel_rfl))⟩
  t0 := Tryz.underlying0
  a0 := Tryz.isAgg0
  z0 := Tryz.sizeOf0
  v0 := Tryz.zeroValue0
  t3 := Tryz.underlying3
  a3 := Tryz.isAgg3
  z3 := Tryz.sizeOf3
  v3 := Tryz.zeroValue3
  t4 := Tryz.underlying4
  a4 := Tryz.isAgg4
  z4 := Tryz.sizeOf4
  v4 := Tryz.zeroValue4
  t5 := Tryz.underlying5
  a5 := Tryz.isAgg5
  z5 := Tryz.sizeOf5
  v5 := Tryz.zeroValue5
  t9 := Tryz.underlying9
  a9 := Tryz.isAgg9
  z9 := Tryz.sizeOf9
  v9 := Tryz.zeroValue9
  t22 := Tryz.underlying32
  a22 := Tryz.isAgg32
  z22 := Tryz.sizeOf32
  v22 := Tryz.zeroValue32
  t23 := Tryz.underlying32
  a23 := Tryz.isAgg32
  z23 := Tryz.sizeOf32
  v23 := Tryz.zeroValue32
  t25 := Tryz.underlying2
  a25 := Tryz.isAgg2
  z25 := Tryz.sizeOf2
  v25 := Tryz.zeroValue2
  t32 := Tryz.underlying127
  a32 := Tryz.isAgg127
  z32 := Tryz.sizeOf127
  v32 := Tryz.zeroValue127
  t35 := Tryz.underlying159
  a35 := Tryz.isAgg159
  z35 := Tryz.sizeOf159
  v35 := Tryz.zeroValue159
  t36 := Tryz.underlying160
  a36 := Tryz.isAgg160
  z36 := Tryz.sizeOf160
  v36 := Tryz.zeroValue160
  t41 := Tryz.underlying164
  a41 := Tryz.isAgg164
  z41 := Tryz.sizeOf164
  v41 := Tryz.zeroValue164
  t44 := Tryz.underlying167
  a44 := Tryz.isAgg167
  z44 := Tryz.sizeOf167
  v44 := Tryz.zeroValue167
  t46 := Tryz.underlying114
  a46 := Tryz.isAgg114
  z46 := Tryz.sizeOf114
  v46 := Tryz.zeroValue114
  t53 := Tryz.underlying186
  a53 := Tryz.isAgg186
  z53 := Tryz.sizeOf186
  v53 := Tryz.zeroValue186
  t57 := Tryz.underlying190
  a57 := Tryz.isAgg190
  z57 := Tryz.sizeOf190
  v57 := Tryz.zeroValue190
  t63 := Tryz.underlying198
  a63 := Tryz.isAgg198
  z63 := Tryz.sizeOf198
  v63 := Tryz.zeroValue198
  t64 := Tryz.underlying199
  a64 := Tryz.isAgg199
  z64 := Tryz.sizeOf199
  v64 := Tryz.zeroValue199
  }

/-- in rising order -/
def srt (xs : List Int) : List Int := xs.mergeSort fun x y => decide (x ≤ y)
theorem srt_len (xs : List Int) : (srt xs).length = xs.length := List.length_mergeSort _
theorem srt_perm (xs : List Int) : (srt xs).Perm xs := List.mergeSort_perm _ _
theorem Sort_c {B : Nat} {w0 w : World} {L : List Ent} (hS : St B w0 w L) (i : Nat) {v : Value} {xs : List Int} (hi : L[i]? = some (row 2 v (iv xs))) (hl : xs.length < 4611686018427387904) :
    Calls Tryz.prog 54 #[v] w fun e w' => e = .returned (.tuple #[]) ∧ St B w0 w' (L.set i (row 2 v (iv (srt xs)))) := by
  have hx := hS.ok _ (List.mem_of_getElem? hi)
  rcases hx with ⟨hp, _⟩ | ⟨_, hv, hu⟩ | ⟨_, g, cap, cur, hv, hB, hh, h1, h2, h3, h4⟩
  · simp [row] at hp
  · simp only [row] at hv hu
    have hx : xs = [] := by cases xs with
      | nil => rfl
      | cons a r => simp [iv] at hu
    subst hx
    subst hv
    have hc := AnyM.slices_Sort_int_none Tryz.mSort none 0 w
    refine Calls.mono hc ?_
    rintro e w' ⟨rfl, rfl⟩
    refine ⟨rfl, ?_⟩
    have : L.set i (row 2 (.slice none 0 0) (iv (srt []))) = L := by
      obtain ⟨hlt, heq⟩ := List.getElem?_eq_some_iff.1 hi
      have e : srt [] = [] := by simp [srt]
      rw [e, ← heq, List.set_getElem_self]
    rw [this]; exact hS
  · simp only [row] at hv h1 h4 hh
    rw [iv_len] at hv h1 h4
    have hblk : g < w.heap.size := (Array.getElem?_eq_some_iff.1 hh).1
    have hH : Go.Sort.Holds (Value.int .i64) w g 0 xs.toArray := holds_of_blockI hh h4
    have hc := AnyM.slices_Sort_int Tryz.mSort g 0 cap xs w hH hblk hl
    subst hv
    refine Calls.mono hc ?_
    rintro e w' ⟨rfl, n, os, rfl⟩
    refine ⟨rfl, ?_⟩
    have hlen : (srt xs).length = xs.length := srt_len xs
    refine hS.put i hi ?_ (row 2 (.slice (some ⟨g, 0, none⟩) xs.length cap) (iv (srt xs))) (.inr (.inr ⟨rfl, g, cap, _, ?_, hB, heap_sortedI _ hh, ?_, h2, ?_, ?_⟩)) (.inl rfl)
    · exact grownBy_sortedI _
    · simp [row, iv_len, hlen]
    · simp [row, iv_len, hlen]; omega
    · simp [Go.Sort.putCells, h3]
    · have := take_putCellsI cur (srt xs) (by omega)
      rw [hlen] at this
      have hlen' : (xs.mergeSort fun x y => decide (x ≤ y)).length = xs.length := hlen
      simpa [row, iv, srt, hlen'] using this
end Go.Proofs.YtdlmohigkkdegaaGreat
end

section
/- Images of sets under permutations; ranks of permutations. In plain terms. -/
namespace Go.Proofs.YtdlmohigkkdegaaGreat
set_option linter.unusedSimpArgs false
set_option linter.unusedVariables false
theorem incB_pw : ∀ {xs : List Int} {l n : Int}, incB l n xs = true → xs.Pairwise (· < ·)
  | [], _, _, _ => List.Pairwise.nil
  | x :: t, l, n, h => by
    unfold incB at h; split at h
    · simp at h
    · exact List.Pairwise.cons (fun y hy => (incB_gt h y hy).1) (incB_pw h)
theorem srt_up (xs : List Int) : (srt xs).Pairwise (· ≤ ·) := msort_sorted xs
/-! ### ranks -/
end Go.Proofs.YtdlmohigkkdegaaGreat
end

section
/- Plain: the design of the pairs of a schedule, and its classes. -/
namespace Go.Proofs.YtdlmohigkkdegaaGreat
set_option linter.unusedSimpArgs false
set_option linter.unusedVariables false
section
variable {n : Nat} {R : List (List (List Int))}
/-- the pairs, in order -/
def dsL (R : List (List (List Int))) : List (List Int) := srtL R.flatten
theorem GdP.len {n : Int} {b : List Int} (h : GdP n b) : b.length = 2 := by rw [h.eq]; rfl
theorem VS.dnd (h : VS n R) : (dsL R).Nodup := (srtL_perm _).nodup_iff.2 h.nd
theorem VS.dst (h : VS n R) {i j : Nat} (hij : i < j) (hj : j < (dsL R).length) : cmpI (xat (dsL R) i) (xat (dsL R) j) < 0 := by
  have hp := List.pairwise_iff_getElem.1 (srtL_pw R.flatten) i j (by unfold dsL at hj; omega) hj hij
  have hle : cmpI (xat (dsL R) i) (xat (dsL R) j) ≤ 0 := by
    rw [xat_eq (show i < (dsL R).length by omega), xat_eq hj]
    exact of_decide_eq_true hp
  rcases Int.lt_or_eq_of_le hle with h1 | h1
  · exact h1
  · have e := cmpI_eq h1
    rw [xat_eq (show i < (dsL R).length by omega), xat_eq hj] at e
    exact absurd e (List.pairwise_iff_getElem.1 (List.nodup_iff_pairwise_ne.1 h.dnd) i j (by omega) hj hij)
end
section
variable {n : Nat} {R : List (List (List Int))}
end
end Go.Proofs.YtdlmohigkkdegaaGreat
end

section
/- Walks: squares that are made. -/
namespace Go.Proofs.YtdlmohigkkdegaaGreat
set_option linter.unusedSimpArgs false
set_option linter.unusedVariables false
open Go.RowKit
section
variable {ops : Array Oper} {rest : List Oper} {o : Oper} {a : Act} {Q : Exit → Act → World → Prop} {B : Nat} {w0 w : World} {L : List Ent}
end
theorem RdI.shq {w : World} {v : Value} {xs : List Int} (h : RdI w v xs) : ∃ a c, v = .slice a xs.length c := by
  obtain ⟨a, c, hv⟩ := h.sl.sh
  rw [iv_len] at hv
  exact ⟨a, c, hv⟩
/-- a square by its entries -/
def sqF (n : Nat) (f : Nat → Nat → Int) : List (List Int) := (List.range n).map fun x => tab n (f x)
theorem sqF_len (n : Nat) (f : Nat → Nat → Int) : (sqF n f).length = n := by simp [sqF]
theorem xat_sqF {n : Nat} {f : Nat → Nat → Int} {x : Nat} (h : x < n) : xat (sqF n f) x = tab n (f x) := by simp [sqF, xat, h]
theorem sqF_take {n : Nat} {f : Nat → Nat → Int} {k : Nat} (h : k < n) : (sqF n f).take (k + 1) = (sqF n f).take k ++ [tab n (f k)] := by
  rw [take_xat (by rw [sqF_len]; exact h), xat_sqF h]
theorem tab_succ (k : Nat) (f : Nat → Int) : tab (k + 1) f = tab k f ++ [f k] := by simp [tab, List.range_succ]
set_option maxHeartbeats 2000000 in
set_option maxRecDepth 100000 in
theorem filledSquare_c (K : FuncId) (caps : Array Value) (f : Nat → Nat → Int) (n : Nat) (w : World) (hn : n ≤ 4096)
    (hcf : ∀ (args : Array Value) (W : World), (callFunc K args).run Tryz.prog W = .ok (.enter K args) W)
    (hK : ∀ (x y : Nat) (W : World), St w.heap.size w W [] → x < n → y < n → Calls Tryz.prog K (#[.int .i64 x, .int .i64 y] ++ caps) W (GivesI W (f x y))) :
    Calls Tryz.prog 88 #[.int .i64 n, .func (.func K) #[] caps] w (MakesII w (sqF n f)) := by
  have HK := Lib.hid hK
  clear hK
  have hS0 := (St.refl w).newnil 32
  go_enter Tryz.func88, Tryz.ntmps88
  go_wp2_with fail
  go_loopw [5, 6, 7, 8] (fun o ii _ _ wr => ∃ (k : Nat) (us : List Value), k ≤ n ∧ ii = .int .i64 k ∧ Hid (us.length = k) ∧ St w.heap.size w wr (own2 o us ((sqF n f).take k))) (fun _ ii _ _ _ => n - (intOf ii).toNat)
  case atStart => exact ⟨0, [], by omega, rfl, rfl, hS0⟩
  case round =>
    obtain ⟨k, us, hk, rfl, hl, hS⟩ := hrel
    have Hlu := Lib.hid (show us.length = ((sqF n f).take k).length by rw [List.length_take, sqF_len, hl.out]; omega)
    by_cases hlt : k < n
    · have hS1 := (hS.newnil 2).perm List.perm_append_comm
      simp only [List.cons_append, List.nil_append] at hS1
      have Hst := Lib.hid (sqF_take (f := f) hlt)
      go_wp2_with fail
      go_loopw [7, 8] (fun r jj wx => ∃ j : Nat, j ≤ n ∧ jj = .int .i64 j ∧ St w.heap.size w wx (row 2 r (iv (tab j (f k))) :: own2 u5 us ((sqF n f).take k))) (fun _ jj _ => n - (intOf jj).toNat)
      case atStart => exact ⟨0, by omega, rfl, hS1⟩
      case round =>
        obtain ⟨j, hj, rfl, hS2⟩ := hrel
        by_cases hjn : j < n
        · have Hts := Lib.hid (tab_succ j (f k))
          have Htl := Lib.hid (show (tab j (f k)).length < 4294967296 by rw [tab_len]; omega)
          go_wp2_with fail
          refine (HK.out k j _ hS2.out hlt hjn).mono ?_
          rintro e w3 ⟨rfl, h3⟩
          have hS3 := hS2.call0 h3
          go_wp2_with (at_builtin; refine appI hS3 0 rfl Htl.out rfl _ _ rfl rfl _ rfl ?_; intro v4 w4 hS4)
          go_roundw
          case rel => exact ⟨j + 1, by omega, by go_num, by rw [Hts.out]; exact hS4⟩
          case measure => simp [intOf]; omega
        · have hje : j = n := by omega
          rw [hje] at hS2
          clear hje
          obtain ⟨ar, cr, hre⟩ := (hS2.rdI 0 rfl).shq
          subst hre
          have Htl := Lib.hid (show (tab n (f k)).length = n from tab_len _ _)
          go_wp2_with (at_builtin; refine appII hS2 1 rfl (by rw [hl.out]; omega) rfl _ _ rfl rfl _ rfl rfl ?_; intro v4 w4 hS4)
          go_roundw
          case rel =>
            refine ⟨k + 1, us ++ [.slice ar (tab n (f k)).length cr], by omega, by go_num, by simp [Hid, hl.out], ?_⟩
            rw [Hst.out, own2, rowsI_app Hlu.out]
            simp only [own2, List.set_cons_succ, List.set_cons_zero] at hS4
            exact hS4.perm (by (try simp only [own2, List.cons_append, List.nil_append, List.append_nil]); classical exact List.perm_iff_count.2 (fun a => by simp only [List.cons_append, List.nil_append, List.append_nil, List.count_append, List.count_cons, List.count_nil] <;> omega))
          case measure => simp [intOf]; omega
    · have hke : k = n := by omega
      have HL := Lib.hid (show us.length = (sqF n f).length by rw [hl.out, sqF_len, hke])
      rw [hke, List.take_of_length_le (by rw [sqF_len]; exact Nat.le_refl _)] at hS
      clear hke
      go_wp2_with fail
      go_ret
      exact ⟨_, us, rfl, HL.out, hS⟩
theorem emptySquare1_c (x y : Int) (w : World) : Calls Tryz.prog 206 #[.int .i64 x, .int .i64 y] w (GivesI w 0) := by
  go_enter Tryz.func206, Tryz.ntmps206
  go_wp2_with fail
  go_ret
  exact ⟨rfl, St.refl w⟩
theorem emptySquare_c (n : Nat) (w : World) (hn : n ≤ 4096) : Calls Tryz.prog 142 #[.int .i64 n] w (MakesII w (sqF n fun _ _ => 0)) := by
  have hcf := callFunc_go Tryz.func206 (by kernel_rfl) (by kernel_rfl)
  have hcall := Lib.hid (filledSquare_c 206 #[] (fun _ _ => 0) n w hn hcf (fun x y W _ _ _ => emptySquare1_c x y W))
  clear hcf
  go_enter Tryz.func142, Tryz.ntmps142
  go_wp2_with fail
  refine hcall.out.mono ?_
  rintro e w1 ⟨v, us, rfl, hl, h1⟩
  have Hl := Lib.hid hl
  clear hl
  go_wp2_with fail
  go_ret
  exact ⟨v, us, rfl, Hl.out, h1⟩
end Go.Proofs.YtdlmohigkkdegaaGreat
end

section
/- Walks: pairs, and the schedule of the circle method, of the program. -/
namespace Go.Proofs.YtdlmohigkkdegaaGreat
set_option linter.unusedSimpArgs false
set_option linter.unusedVariables false
open Go.RowKit
attribute [local go_sem ↓] Go.wp_at_zero Go.wp_at_succ
/-- behind the append of a row of its own, with more behind -/
theorem own2_snocL {B : Nat} {w0 w : World} {v v' : Value} {us : List Value} {xss : List (List Int)} {u : Value} {xs : List Int} {L2 : List Ent} (hl : us.length = xss.length)
    (h : St B w0 w ((own2 v us xss ++ L2 ++ [row 2 u (iv xs)]).set 0 (row 32 v' (us ++ [u])))) : St B w0 w (own2 v' (us ++ [u]) (xss ++ [xs]) ++ L2) := by
  rw [own2, rowsI_app hl]
  refine h.perm ?_
  show (row 32 v' (us ++ [u]) :: (rowsI us xss ++ L2 ++ [row 2 u (iv xs)])).Perm (row 32 v' (us ++ [u]) :: (rowsI us xss ++ [row 2 u (iv xs)] ++ L2))
  refine List.Perm.cons _ ?_
  rw [List.append_assoc, List.append_assoc]
  exact List.Perm.append_left _ List.perm_append_comm
end Go.Proofs.YtdlmohigkkdegaaGreat
end

section
/- Slices of truth values. -/
namespace Go.Proofs.YtdlmohigkkdegaaGreat
set_option linter.unusedSimpArgs false
set_option linter.unusedVariables false
open Go.RowKit
/-- the cells of a list of truth values -/
def bo (xs : List Bool) : List Value := xs.map Value.bool
/-- element j -/
def bat (xs : List Bool) (j : Nat) : Bool := xs.getD j false
theorem bo_len (xs : List Bool) : (bo xs).length = xs.length := by simp [bo]
theorem bo_get {xs : List Bool} {j : Nat} (h : j < xs.length) : (bo xs).getD j undef = .bool (bat xs j) := by
  simp [bo, bat, List.getD, List.getElem?_eq_getElem h]
theorem bat_set {xs : List Bool} {i j : Nat} {x : Bool} (h : i < xs.length) : bat (xs.set i x) j = if i = j then x else bat xs j := by
  unfold bat
  rw [List.getD_eq_getElem?_getD, List.getElem?_set]
  split
  · rename_i e; subst e; simp [h]
  · simp
theorem bat_rep (n j : Nat) : bat (List.replicate n false) j = false := by
  unfold bat
  rw [List.getD_eq_getElem?_getD, List.getElem?_replicate]; split <;> rfl
def RdO (w : World) (v : Value) (xs : List Bool) : Prop := Rd w v (bo xs)
theorem Tryz.size_o : (Tryz.prog.info? 4).map (·.size) = some 1 := by kernel_rfl
theorem Tryz.und_os : Tryz.prog.underlying 153 = some (.slice 4) := by kernel_rfl
section
variable {w w' : World} {v : Value} {xs : List Bool}
theorem RdO.le (h : RdO w v xs) : xs.length ≤ 9223372036854775807 := by have := h.sl.le; rwa [bo_len] at this
theorem RdO.len (h : RdO w v xs) (ty : TypeId) (W : World) : (Builtin.len_ #[153] ty #[v]).run Tryz.prog W = .ok (.int .i64 xs.length) W := by
  have := run_len_sl (P := Tryz.prog) h.sl 153 ty Tryz.und_os W; rwa [bo_len] at this
theorem RdO.ix (h : RdO w v xs) (k : IntKind) (i : Int) (h0 : 0 ≤ i) (hi : i < xs.length) (W : World) :
    (Instr.indexAt 153 v (.int k i)).run Tryz.prog W = .ok (.pointer (some (el v i.toNat))) W :=
  run_ix_sl (P := Tryz.prog) h.sl 153 Tryz.und_os Tryz.size_o k i h0 (by rw [bo_len]; exact hi) W
theorem RdO.ixe (h : RdO w v xs) (i : Int) (j : Nat) (hij : i = (j : Int)) (hj : j < xs.length) (W : World) :
    (Instr.indexAt 153 v (.int .i64 i)).run Tryz.prog W = .ok (.pointer (some (el v j))) W := by
  have := h.ix .i64 i (by omega) (by omega) W
  rwa [hij, Int.toNat_natCast, ← hij] at this
theorem RdO.cell (h : RdO w v xs) (j : Nat) (hj : j < xs.length) : w.cell? (el v j) = some (.bool (bat xs j)) := by
  rw [Rd.cell h (by rw [bo_len]; exact hj), bo_get hj]
theorem RdO.keep (h : RdO w v xs) (hb : Below w.heap.size w w') : RdO w' v xs := Rd.keep h hb
end
section
variable {ops : Array Oper} {rest : List Oper} {o : Oper} {a : Act} {Q : Exit → Act → World → Prop} {B : Nat} {w0 w : World} {L : List Ent}
end
end Go.Proofs.YtdlmohigkkdegaaGreat
end

section
/- Walks: binary search among rows, a class of blocks, a resolution, of the program. -/
namespace Go.Proofs.YtdlmohigkkdegaaGreat
set_option linter.unusedSimpArgs false
set_option linter.unusedVariables false
open Go.RowKit
attribute [local go_sem ↓] Go.wp_at_zero Go.wp_at_succ

/-- which points are covered -/
structure CV (n : Nat) (T : List Int) (P : List Bool) : Prop where
  len : P.length = n
  el : ∀ x : Nat, x < n → bat P x = decide ((x : Int) ∈ T)
theorem CV.nil (n : Nat) : CV n [] (List.replicate n false) := ⟨by simp, fun x _ => by rw [bat_rep]; simp⟩
end Go.Proofs.YtdlmohigkkdegaaGreat
end

section
/- Plain: affine planes of fields, orders of planes, classes of parallel lines, completed planes (by kernel check for the orders 2 to 5). -/
namespace Go.Proofs.YtdlmohigkkdegaaGreat
set_option linter.unusedSimpArgs false
set_option linter.unusedVariables false

/-- the order of a plane -/
def plO (v k : Int → Int) (V K : Int) : Nat → Int → Int
  | 0, _ => 0
  | f + 1, n => if v n ≤ V then (if v n = V ∧ k n = K then n else plO v k V K f (n + 1)) else 0
def afV (n : Int) : Int := n * n
def afK (n : Int) : Int := n
def pjV (n : Int) : Int := n * n + n + 1
def pjK (n : Int) : Int := n + 1
def ordP (v k : Int → Int) (P : Nat) (A : List (List Int)) : Int := if (dOk P A && prmB P A && decide (nth (prmV P A) 4 = 1)) = true then plO v k (nth (prmV P A) 0) (nth (prmV P A) 3) 5 2 else 0
set_option maxRecDepth 1000000
end Go.Proofs.YtdlmohigkkdegaaGreat
end

section
/- Memory: slices whose elements have three cells, in a block of their own. -/
namespace Go.Proofs.YtdlmohigkkdegaaGreat
set_option linter.unusedSimpArgs false
set_option linter.unusedVariables false
open Go.RowKit

/-- n elements of three cells each stand at the front of the block g -/
def R3 (v : Value) (g n : Nat) (cs : List Value) : Prop := ∃ cap, v = .slice (some ⟨g, 0, none⟩) n cap ∧ cs.length = 3 * cap ∧ n ≤ cap ∧ cap ≤ maxLen
section
variable {P : Program}
theorem run_app3 {B : Nat} {w0 w : World} {L : List Ent} (t ty e : TypeId) (z : Value) (bytes : Nat) (ht : P.underlying t = some (.slice e)) (hz : (P.info? e).map (fun i => (i.zero, i.size, i.bytes)) = some (some z, 3, bytes)) (hzs : z.cells.size = 3)
    (hS : St B w0 w L) (i : Nat) {g n : Nat} {v : Value} {cs : List Value} (hi : L[i]? = some (box e g cs)) (hr : R3 v g n cs) (ad : Addr) (c : Nat) (news : List Value) (hl : news.length = 3) (hnews : ∀ j u, news[j]? = some u → w.cell? (ad.add j) = some u)
    (h1 : ∀ u ∈ news, u.oneCell' = true) (hb : bytes ≤ 4096) (hN : n + 1 ≤ 4294967296) :
    ∃ v' w' g' cs', (Builtin.append_ #[t, t] ty #[v, .slice (some ad) 1 c]).run P w = .ok v' w' ∧ St B w0 w' (L.set i (box e g' cs')) ∧ R3 v' g' (n + 1) cs' ∧ cs'.take (3 * (n + 1)) = cs.take (3 * n) ++ news := by
  obtain ⟨inf, hinf, hzz⟩ := Option.map_eq_some_iff.1 hz
  simp only [Prod.mk.injEq] at hzz
  obtain ⟨hz0, hz1, hz2⟩ := hzz
  obtain ⟨cap, rfl, hcl, hnc, hcm⟩ := hr
  have hbytes : (n + 1) * inf.bytes ≤ 140737488355328 := by
    rw [hz2]; have := Nat.mul_le_mul hN hb; omega
  have hx := hS.ok _ (List.mem_of_getElem? hi)
  rcases hx with ⟨_, g', hv, hB, hh⟩ | ⟨hp, _⟩ | ⟨hp, _⟩
  · simp only [box, Value.pointer.injEq, Option.some.injEq, Addr.mk.injEq, and_true] at hv hh
    subst hv
    by_cases hroom : n + 1 ≤ cap
    · have hfit : n * inf.size + news.length ≤ cs.toArray.size := by rw [hz1, hl, List.size_toArray, hcl]; omega
      have hrn := run_append_room (P := P) w t ty e inf ht hinf g n cap cs.toArray hh ad 1 c news (by rw [hz1, hl]) hnews h1 hroom hfit
      refine ⟨_, _, g, cs.take (n * inf.size) ++ news ++ cs.drop (n * inf.size + news.length), hrn, ?_, ⟨cap, rfl, ?_, hroom, hcm⟩, ?_⟩
      · refine hS.put i hi ?_ (box e g _) (.inl ⟨rfl, g, rfl, hB, setRow_heap w g cs.toArray _ e _ hh⟩) (.inl rfl)
        exact ⟨rfl, rfl, rfl, by simp, fun k _ hk => setRow_other w g k _ (fun e => hk (by simp [box, bk, e]))⟩
      · simp only [List.length_append, List.length_take, List.length_drop, hz1, hl, hcl]; omega
      · rw [hz1]
        have : (cs.take (n * 3) ++ news).length = 3 * (n + 1) := by rw [List.length_append, List.length_take, hcl, hl]; omega
        rw [← this, List.take_left, Nat.mul_comm 3 n]
    · have hcap : cap = n := by omega
      have hlo : (cs.take (3 * n)).length = n * inf.size := by rw [List.length_take, hcl, hz1]; omega
      have holds : ∀ j u, (cs.take (3 * n))[j]? = some u → w.cell? ((⟨g, 0, none⟩ : Addr).add j) = some u := by
        intro j u hu
        have hj : j < (cs.take (3 * n)).length := (List.getElem?_eq_some_iff.1 hu).1
        rw [List.getElem?_take] at hu
        split at hu
        · have := hS.bcell i hi j hu
          rw [add_mk]; exact this
        · cases hu
      have hrn := run_append_grow (P := P) w t ty e inf z ht hinf hz0 ⟨g, 0, none⟩ n cap (cs.take (3 * n)) hlo holds ad 1 c news (by rw [hz1, hl]) hnews (by omega) (by omega) (growslice_fits (by omega) hbytes)
      have hge := grownCap_ge w (n + 1) cap e
      have hcm' := grownCap_le_maxLen w (n + 1) cap e (by unfold maxLen; omega)
      have hd := hS.drew
      refine ⟨_, _, w.heap.size, ((cs.take (3 * n)).toArray ++ news.toArray ++ Builtin.zeroCells z.cells (grownCap w (n + 1) cap e - (n + 1))).toList, hrn, ?_, ⟨grownCap w (n + 1) cap e, rfl, ?_, hge, hcm'⟩, ?_⟩
      · refine hd.put i hi (World.grownBy_alloc w.drew _ _) (box e w.heap.size _) (.inl ⟨rfl, w.heap.size, rfl, hS.base, ?_⟩) (.inr ?_)
        · simp only [box, Array.toArray_toList]; exact heap_alloc_new w.drew _
        · intro k hk; simp [box, bk] at hk; simp; omega
      · simp [size_zeroCells, hzs, hl, hcl]; omega
      · simp only [Array.toList_append]
        have : (cs.take (3 * n) ++ news).length = 3 * (n + 1) := by rw [List.length_append, List.length_take, hcl, hl]; omega
        rw [← this]
        exact List.take_left
  · simp [box] at hp
  · simp [box] at hp
end
end Go.Proofs.YtdlmohigkkdegaaGreat
end

section
/- Walk: the points of the projective plane, of the program. -/
namespace Go.Proofs.YtdlmohigkkdegaaGreat
set_option linter.unusedSimpArgs false
set_option linter.unusedVariables false
open Go.RowKit
attribute [local go_sem ↓] Go.wp_at_zero Go.wp_at_succ

section
variable {P : Program} {ops : Array Oper} {rest : List Oper} {o : Oper} {a : Act} {Q : Exit → Act → World → Prop}
/-- append of one element of three cells, behind the new block in which it lies -/
theorem wpList_st_app31 {B : Nat} {w0 w : World} {L : List Ent} (hg : o.guard = none) (s x : Operand) (t : TypeId) (hop : o.op = .call { callee := .builtin .append, args := #[s, x], argTypes := #[t, t] })
    (e : TypeId) (z : Value) (bytes : Nat) (ht : P.underlying t = some (.slice e)) (hz : (P.info? e).map (fun i => (i.zero, i.size, i.bytes)) = some (some z, 3, bytes)) (hzs : z.cells.size = 3)
    (hS : St B w0 w L) (i : Nat) {g n : Nat} {v : Value} {cs : List Value} (hi : L[i]? = some (box e g cs)) (hr : R3 v g n cs) (hs : a.eval s = v) (b0 b1 b2 : Value) (hx : a.eval x = .slice (some ⟨w.heap.size, 0, none⟩) 1 1)
    (h0 : b0.oneCell' = true) (h1 : b1.oneCell' = true) (h2 : b2.oneCell' = true) (hb : bytes ≤ 4096) (hN : n < 4294967296)
    (hK : ∀ v' w' g' cs', St B w0 w' (L.set i (box e g' cs')) → R3 v' g' (n + 1) cs' → cs'.take (3 * (n + 1)) = cs.take (3 * n) ++ [b0, b1, b2] → wpList P ops Q rest (a.put o.dst v') w') :
    wpList P ops Q (o :: rest) a (w.alloc (.cells #[b0, b1, b2] e)) := by
  refine wpList_plain hg fun K hK' => ?_
  obtain ⟨v', w', g', cs', hrn, hS', hr', ht'⟩ := run_app3 (P := P) t o.type e z bytes ht hz hzs (hS.alloc' (.cells #[b0, b1, b2] e)) i hi hr ⟨w.heap.size, 0, none⟩ 1 [b0, b1, b2] rfl (by
    intro j u hu
    match j, hu with
    | 0, hu => simp at hu; subst hu; simp [Addr.add]
    | 1, hu => simp at hu; subst hu; simp [Addr.add]
    | 2, hu => simp at hu; subst hu; simp [Addr.add]) (by simp [h0, h1, h2]) hb (by omega)
  unfold Oper.wp execOp
  simp only [hop, resolve, invoke, builtin, Sem.run_bind, Sem.run_pure, Result.andThen_ok, List.map_toArray, List.map_cons, List.map_nil, hs, hx, hrn]
  exact hK' _ _ (hK _ _ _ _ hS' hr' ht')
end
theorem Tryz.und_i3s : Tryz.prog.underlying 70 = some (.slice 72) := by kernel_rfl
theorem Tryz.info_i3 : (Tryz.prog.info? 72).map (fun i => (i.zero, i.size, i.bytes)) = some (some (.agg #[.int .i64 0, .int .i64 0, .int .i64 0]), 3, 24) := by kernel_rfl
/-- the slice v of points -/
def S3 (B : Nat) (w0 w : World) (v : Value) (X : List (List Int)) (L : List Ent) : Prop := ∃ g cs, St B w0 w (box 72 g cs :: L) ∧ R3 v g X.length cs ∧ cs.take (3 * X.length) = iv X.flatten
section
variable {ops : Array Oper} {rest : List Oper} {o : Oper} {a : Act} {Q : Exit → Act → World → Prop}
theorem appP3 {B : Nat} {w0 w : World} {v : Value} {X : List (List Int)} {L : List Ent} (h : S3 B w0 w v X L) (hN : X.length < 4294967296) (hg : o.guard = none) (s x : Operand)
    (hop : o.op = .call { callee := .builtin .append, args := #[s, x], argTypes := #[70, 70] }) (hs : a.eval s = v) (x0 x1 x2 : Int) (hx : a.eval x = .slice (some ⟨w.heap.size, 0, none⟩) 1 1)
    (hK : ∀ v' w', S3 B w0 w' v' (X ++ [[x0, x1, x2]]) L → wpList Tryz.prog ops Q rest (a.put o.dst v') w') :
    wpList Tryz.prog ops Q (o :: rest) a (w.alloc (.cells #[.int .i64 x0, .int .i64 x1, .int .i64 x2] 72)) := by
  obtain ⟨g, cs, hS, hr, hc⟩ := h
  refine wpList_st_app31 hg s x 70 hop 72 _ 24 Tryz.und_i3s Tryz.info_i3 rfl hS 0 rfl hr hs _ _ _ hx rfl rfl rfl (by omega) hN ?_
  intro v' w' g' cs' hS' hr' hc'
  refine hK v' w' ⟨g', cs', hS', by simpa using hr', ?_⟩
  rw [List.length_append, List.length_singleton, hc', hc, List.flatten_append]
  simp [iv]
end
def ppA (z : Nat) : List (List Int) := [0, 0, 1] :: (List.range z).map fun z : Nat => [0, 1, (z : Int)]
def ppB (q y : Nat) : List (List Int) := ppA q ++ (List.range y).flatMap fun y : Nat => (List.range q).map fun z : Nat => [1, (y : Int), (z : Int)]
def ppC (q y z : Nat) : List (List Int) := ppB q y ++ (List.range z).map fun z : Nat => [1, (y : Int), (z : Int)]
theorem ppA_succ (z : Nat) : ppA (z + 1) = ppA z ++ [[0, 1, (z : Int)]] := by rw [ppA, List.range_succ, List.map_append]; rfl
theorem ppC_succ (q y z : Nat) : ppC q y (z + 1) = ppC q y z ++ [[1, (y : Int), (z : Int)]] := by rw [ppC, List.range_succ, List.map_append, ← List.append_assoc]; rfl
theorem ppB_succ (q y : Nat) : ppB q (y + 1) = ppC q y q := by rw [ppB, List.range_succ, List.flatMap_append, ← List.append_assoc]; simp [ppC, ppB]
theorem ppB_0 (q : Nat) : ppB q 0 = ppA q := by simp [ppB]
theorem ppC_0 (q y : Nat) : ppC q y 0 = ppB q y := by simp [ppC]
theorem ppA_len (z : Nat) : (ppA z).length = z + 1 := by simp [ppA]
theorem ppB_len (q y : Nat) : (ppB q y).length = q + 1 + y * q := by
  induction y with
  | zero => rw [ppB_0, ppA_len]; omega
  | succ y ih => rw [ppB_succ, ppC, List.length_append, ih, Nat.add_mul]; simp; omega
theorem ppC_len (q y z : Nat) : (ppC q y z).length = q + 1 + y * q + z := by rw [ppC, List.length_append, ppB_len]; simp
set_option maxHeartbeats 8000000 in
set_option maxRecDepth 100000 in
theorem projectivePoints_c (q : Nat) (w : World) (hq : q ≤ 1000) : Calls Tryz.prog 45 #[.int .i64 q] w (fun e w' => ∃ v, e = .returned v ∧ S3 w.heap.size w w' v (ppB q q) []) := by
  have hS0 : S3 w.heap.size w (w.alloc (.cells #[.int .i64 0, .int .i64 0, .int .i64 1] 72)) (.slice (some ⟨w.heap.size, 0, none⟩) 1 1) (ppA 0) [] := ⟨w.heap.size, _, (St.refl w).newboxF 72 #[.int .i64 0, .int .i64 0, .int .i64 1], ⟨1, rfl, rfl, by simp [ppA], by simp [maxLen]⟩, rfl⟩
  have HA := fun z => Lib.hid (ppA_succ z)
  have HC := fun y z => Lib.hid (ppC_succ q y z)
  have HB := fun y => Lib.hid (ppB_succ q y)
  have HB0 := Lib.hid (ppB_0 q)
  have HC0 := fun y => Lib.hid (ppC_0 q y)
  have HAl := fun z => Lib.hid (ppA_len z)
  have HCl := fun y z => Lib.hid (ppC_len q y z)
  have Hsq : ∀ y, y ≤ q → Hid (y * q ≤ 1000 * 1000) := fun y hy => Lib.hid (Nat.mul_le_mul (by omega) (by omega))
  go_enter Tryz.func45, Tryz.ntmps45
  go_wp2_with fail
  go_loopw [10, 3, 4] (fun i p _ wr => ∃ (z : Nat), z ≤ q ∧ i = .int .i64 z ∧ S3 w.heap.size w wr p (ppA z) []) (fun i _ _ _ => q - (intOf i).toNat)
  case atStart => exact ⟨0, by omega, rfl, hS0⟩
  case round =>
    clear hS0
    obtain ⟨z, hz, rfl, hS⟩ := hrel
    by_cases hlt : z < q
    · have hN := Lib.hid (show (ppA z).length < 4294967296 by rw [(HAl z).out]; omega)
      go_wp2_with (at_builtin; refine appP3 hS hN.out rfl _ _ rfl rfl 0 1 z (by first | rfl | simp [Act.eval, Act.put]) ?_; intro v5 w5 hS5; rw [← (HA z).out] at hS5)
      go_roundw
      case rel => exact ⟨z + 1, by omega, by go_num, hS5⟩
      case measure => simp [intOf]; omega
    · obtain rfl : z = q := by omega
      rw [← HB0.out] at hS
      go_wp2_with fail
      go_loopw [20, 3, 5, 6] (fun i p _ _ wr => ∃ (y : Nat), y ≤ z ∧ i = .int .i64 y ∧ S3 w.heap.size w wr p (ppB z y) []) (fun i _ _ _ _ => z - (intOf i).toNat)
      case atStart => exact ⟨0, by omega, rfl, hS⟩
      case round =>
        clear hS
        obtain ⟨y, hy, rfl, hS⟩ := hrel
        by_cases hyt : y < z
        · have HBy := HB y
          have Hsy := Hsq y hy
          rw [← (HC0 y).out] at hS
          go_wp2_with fail
          go_loopw [24, 3, 6] (fun i p _ wr => ∃ (x : Nat), x ≤ z ∧ i = .int .i64 x ∧ S3 w.heap.size w wr p (ppC z y x) []) (fun i _ _ _ => z - (intOf i).toNat)
          case atStart => exact ⟨0, by omega, rfl, hS⟩
          case round =>
            clear hS
            obtain ⟨x, hx, rfl, hS⟩ := hrel
            by_cases hxt : x < z
            · have hN := Lib.hid (show (ppC z y x).length < 4294967296 by rw [(HCl y x).out]; have := Hsy.out; omega)
              go_wp2_with (at_builtin; refine appP3 hS hN.out rfl _ _ rfl rfl 1 y x (by first | rfl | simp [Act.eval, Act.put]) ?_; intro v5 w5 hS5; rw [← (HC y x).out] at hS5)
              go_roundw
              case rel => exact ⟨x + 1, by omega, by go_num, hS5⟩
              case measure => simp [intOf]; omega
            · obtain rfl : x = z := by omega
              rw [← HBy.out] at hS
              go_wp2_with fail
              go_roundw
              case rel => exact ⟨y + 1, by omega, by go_num, hS⟩
              case measure => simp [intOf]; omega
        · obtain rfl : y = z := by omega
          go_wp2_with fail
          go_ret
          exact ⟨_, rfl, hS⟩
end Go.Proofs.YtdlmohigkkdegaaGreat
end

section
/- Plain: projective planes of fields (by kernel check for the orders 2 to 5). -/
namespace Go.Proofs.YtdlmohigkkdegaaGreat
set_option linter.unusedSimpArgs false
set_option linter.unusedVariables false

/-- the sum of products of two points -/
def dtS (p : Int) (D : Nat) (fs u v : List Int) : Nat → Int
  | 0 => 0
  | i + 1 => fsum p D (dtS p D fs u v i) (fmul p D fs (nth u i) (nth v i)) 1
/-- the points on the line u -/
def pjR (p : Int) (D : Nat) (fs : List Int) (X : List (List Int)) (u : List Int) : Nat → List Int
  | 0 => []
  | k + 1 => if dtS p D fs u (xat X k) 3 = 0 then pjR p D fs X u k ++ [(k : Int)] else pjR p D fs X u k
def pjQ (p : Int) (D : Nat) (fs : List Int) (X : List (List Int)) : Nat → List (List Int)
  | 0 => []
  | j + 1 => pjQ p D fs X j ++ [pjR p D fs X (xat X j) X.length]
def pjU (q : Nat) : List (List Int) := pjQ (mkfP q) (mkfD q).toNat (mkfL q) (ppB q q) (ppB q q).length
def pjB (q : Nat) : List (List Int) := srtL (pjU q)
def pjD2 : List (List Int) := [[0, 1, 2], [0, 3, 4], [0, 5, 6], [1, 3, 5], [1, 4, 6], [2, 3, 6], [2, 4, 5]]
def pjD3 : List (List Int) := [[0, 1, 2, 3], [0, 4, 5, 6], [0, 7, 8, 9], [0, 10, 11, 12], [1, 4, 7, 10], [1, 5, 8, 11], [1, 6, 9, 12], [2, 4, 8, 12], [2, 5, 9, 10], [2, 6, 7, 11], [3, 4, 9, 11], [3, 5, 7, 12], [3, 6, 8, 10]]
def pjD4 : List (List Int) := [[0, 1, 2, 3, 4], [0, 5, 6, 7, 8], [0, 9, 10, 11, 12], [0, 13, 14, 15, 16], [0, 17, 18, 19, 20], [1, 5, 9, 13, 17], [1, 6, 10, 14, 18], [1, 7, 11, 15, 19], [1, 8, 12, 16, 20], [2, 5, 10, 15, 20], [2, 6, 9, 16, 19], [2, 7, 12, 13, 18], [2, 8, 11, 14, 17], [3, 5, 11, 16, 18], [3, 6, 12, 15, 17], [3, 7, 9, 14, 20], [3, 8, 10, 13, 19], [4, 5, 12, 14, 19], [4, 6, 11, 13, 20], [4, 7, 10, 16, 17], [4, 8, 9, 15, 18]]
def pjD5 : List (List Int) := [[0, 1, 2, 3, 4, 5], [0, 6, 7, 8, 9, 10], [0, 11, 12, 13, 14, 15], [0, 16, 17, 18, 19, 20], [0, 21, 22, 23, 24, 25], [0, 26, 27, 28, 29, 30], [1, 6, 11, 16, 21, 26], [1, 7, 12, 17, 22, 27], [1, 8, 13, 18, 23, 28], [1, 9, 14, 19, 24, 29], [1, 10, 15, 20, 25, 30], [2, 6, 12, 18, 24, 30], [2, 7, 13, 19, 25, 26], [2, 8, 14, 20, 21, 27], [2, 9, 15, 16, 22, 28], [2, 10, 11, 17, 23, 29], [3, 6, 13, 20, 22, 29], [3, 7, 14, 16, 23, 30], [3, 8, 15, 17, 24, 26], [3, 9, 11, 18, 25, 27], [3, 10, 12, 19, 21, 28], [4, 6, 14, 17, 25, 28], [4, 7, 15, 18, 21, 29], [4, 8, 11, 19, 22, 30], [4, 9, 12, 20, 23, 26], [4, 10, 13, 16, 24, 27], [5, 6, 15, 19, 23, 27], [5, 7, 11, 20, 24, 28], [5, 8, 12, 16, 25, 29], [5, 9, 13, 17, 21, 30], [5, 10, 14, 18, 22, 26]]
def pjD : Nat → List (List Int)
  | 2 => pjD2
  | 3 => pjD3
  | 4 => pjD4
  | _ => pjD5
set_option maxRecDepth 1000000
theorem pj_lit : ∀ q ∈ ([2, 3, 4, 5] : List Nat), mkOk q = true ∧ pjB q = pjD q := by decide +kernel
theorem pj_few : ∀ q ∈ ([2, 3, 4, 5] : List Nat), (pjU q).length ≤ 128 := by decide +kernel
end Go.Proofs.YtdlmohigkkdegaaGreat
end

section
/- Latin squares as lists of lists, their isotopes. In plain terms. -/
namespace Go.Proofs.YtdlmohigkkdegaaGreat
set_option linter.unusedSimpArgs false
set_option linter.unusedVariables false
/-- the entry of a place -/
def at2 (A : List (List Int)) (x y : Nat) : Int := nth (xat A x) y
/-- a square of n rows and columns -/
structure Sqr (n : Nat) (A : List (List Int)) : Prop where
  len : A.length = n
  row : ∀ x, x < n → (xat A x).length = n
/-- its entries are below n -/
structure Sq0 (n : Nat) (A : List (List Int)) : Prop extends Sqr n A where
  el : ∀ x y, x < n → y < n → 0 ≤ at2 A x y ∧ at2 A x y < n
def colL (A : List (List Int)) (y : Nat) : List Int := A.map fun r => nth r y
theorem colL_len (A : List (List Int)) (y : Nat) : (colL A y).length = A.length := by simp [colL]
theorem nth_colL {A : List (List Int)} {y x : Nat} (h : x < A.length) : nth (colL A y) x = at2 A x y := by simp [colL, nth, at2, xat, h]
/-- a Latin square of at most 10 rows -/
structure Lat (A : List (List Int)) : Prop where
  pos : 1 ≤ A.length
  le : A.length ≤ 10
  len : ∀ x, x < A.length → (xat A x).length = A.length
  row : ∀ x, x < A.length → IsP (xat A x)
  col : ∀ y, y < A.length → IsP (colL A y)
theorem sq_ext {n : Nat} {A B : List (List Int)} (hA : Sqr n A) (hB : Sqr n B) (h : ∀ x y, x < n → y < n → at2 A x y = at2 B x y) : A = B := by
  apply List.ext_getElem (hA.len.trans hB.len.symm)
  intro x h1 h2
  have hx : x < n := by rw [← hA.len]; exact h1
  have e1 : A[x] = xat A x := by simp [xat, h1]
  have e2 : B[x] = xat B x := by simp [xat, h2]
  rw [e1, e2]
  refine nth_ext (by rw [hA.row x hx, hB.row x hx]) fun y hy => h x y hx (by rw [← hA.row x hx]; exact hy)
theorem sq_ext2 {n : Nat} {A B : List (List Int)} {r c : List Int} (hr : IsP r) (hc : IsP c) (hrl : r.length = n) (hcl : c.length = n) (hA : Sqr n A) (hB : Sqr n B)
    (h : ∀ x y, x < n → y < n → at2 A (pf r x) (pf c y) = at2 B (pf r x) (pf c y)) : A = B := by
  refine sq_ext hA hB fun x y hx hy => ?_
  obtain ⟨x', hx', rfl⟩ := hr.bij.onto (y := x) (by omega)
  obtain ⟨y', hy', rfl⟩ := hc.bij.onto (y := y) (by omega)
  exact h x' y' (by omega) (by omega)
theorem at2_sqF {n : Nat} {f : Nat → Nat → Int} {x y : Nat} (hx : x < n) (hy : y < n) : at2 (sqF n f) x y = f x y := by
  unfold at2; rw [xat_sqF hx]; simp [tab, nth, hy]
theorem sqF_sqr (n : Nat) (f : Nat → Nat → Int) : Sqr n (sqF n f) := ⟨sqF_len n f, fun x hx => by rw [xat_sqF hx, tab_len]⟩
/-- one entry anew -/
def putS (S : List (List Int)) (x y : Nat) (v : Int) : List (List Int) := S.set x ((xat S x).set y v)
theorem xat_putS {n : Nat} {S : List (List Int)} (h : Sqr n S) {x : Nat} (hx : x < n) (y : Nat) (v : Int) (t : Nat) : xat (putS S x y v) t = if x = t then (xat S x).set y v else xat S t := by
  unfold putS xat
  rw [List.getD_eq_getElem?_getD, List.getElem?_set]
  split
  · rename_i e; subst e; rw [if_pos (by rw [h.len]; exact hx)]; rfl
  · simp
theorem putS_sqr {n : Nat} {S : List (List Int)} (h : Sqr n S) {x : Nat} (hx : x < n) (y : Nat) (v : Int) : Sqr n (putS S x y v) := by
  refine ⟨by unfold putS; rw [List.length_set]; exact h.len, fun t ht => ?_⟩
  rw [xat_putS h hx]
  split
  · rw [List.length_set]; exact h.row x hx
  · exact h.row t ht
theorem at2_putS {n : Nat} {S : List (List Int)} (h : Sqr n S) {x y : Nat} (hx : x < n) (hy : y < n) (v : Int) (t u : Nat) : at2 (putS S x y v) t u = if x = t ∧ y = u then v else at2 S t u := by
  unfold at2
  rw [xat_putS h hx]
  by_cases e : x = t
  · subst e
    rw [if_pos rfl, nth_set (by rw [h.row x hx]; exact hy)]
    by_cases e2 : y = u
    · rw [if_pos e2, if_pos ⟨rfl, e2⟩]
    · rw [if_neg e2, if_neg fun h => e2 h.2]
  · rw [if_neg e, if_neg fun h => e h.1]
/-! ### isotopes -/
def isoL (A : List (List Int)) (r c s : List Int) : List (List Int) := sqF A.length fun x y => nth s (at2 A (pf (invL r) x) (pf (invL c) y)).toNat
theorem pf_invL {xs : List Int} (h : IsP xs) {j : Nat} (hj : j < xs.length) : pf (invL xs) (pf xs j) = j := by unfold pf; rw [show nth (invL xs) (nth xs j).toNat = j from nth_invL h hj]; rfl
theorem isoL_sqr (A : List (List Int)) (r c s : List Int) : Sqr A.length (isoL A r c s) := sqF_sqr _ _
theorem isoL_at {A : List (List Int)} {r c s : List Int} (hr : IsP r) (hc : IsP c) (hrl : r.length = A.length) (hcl : c.length = A.length) {x y : Nat} (hx : x < A.length) (hy : y < A.length) :
    at2 (isoL A r c s) (pf r x) (pf c y) = nth s (at2 A x y).toNat := by
  have h1 : pf r x < A.length := by rw [← hrl]; exact hr.pf_lt (by omega)
  have h2 : pf c y < A.length := by rw [← hcl]; exact hc.pf_lt (by omega)
  unfold isoL
  rw [at2_sqF h1 h2, pf_invL hr (by omega), pf_invL hc (by omega)]
/-- the isotope, made as far as place y of row x -/
structure IsoP (A : List (List Int)) (r c s : List Int) (x y : Nat) (S : List (List Int)) : Prop where
  sqr : Sqr A.length S
  at' : ∀ x' y', x' < A.length → y' < A.length → (x' < x ∨ x' = x ∧ y' < y) → at2 S (pf r x') (pf c y') = nth s (at2 A x' y').toNat
section
variable {A : List (List Int)} {r c s : List Int}
theorem IsoP.start : IsoP A r c s 0 0 (sqF A.length fun _ _ => 0) := ⟨sqF_sqr _ _, fun _ _ _ _ h => by omega⟩
theorem IsoP.step (hr : IsP r) (hc : IsP c) (hrl : r.length = A.length) (hcl : c.length = A.length) {x y : Nat} {S : List (List Int)} (h : IsoP A r c s x y S) (hx : x < A.length) (hy : y < A.length) :
    IsoP A r c s x (y + 1) (putS S (pf r x) (pf c y) (nth s (at2 A x y).toNat)) := by
  have h1 : pf r x < A.length := by rw [← hrl]; exact hr.pf_lt (by omega)
  have h2 : pf c y < A.length := by rw [← hcl]; exact hc.pf_lt (by omega)
  refine ⟨putS_sqr h.sqr h1 _ _, fun x' y' hx' hy' hl => ?_⟩
  rw [at2_putS h.sqr h1 h2]
  split
  · rename_i e
    rw [hr.bij.inj x x' (by omega) (by omega) e.1, hc.bij.inj y y' (by omega) (by omega) e.2]
  · rename_i e
    refine h.at' x' y' hx' hy' ?_
    rcases hl with hl | ⟨rfl, hl⟩
    · exact .inl hl
    · refine .inr ⟨rfl, ?_⟩
      by_cases e2 : y' = y
      · subst e2; exact absurd ⟨rfl, rfl⟩ e
      · omega
theorem IsoP.next {x : Nat} {S : List (List Int)} (h : IsoP A r c s x A.length S) : IsoP A r c s (x + 1) 0 S :=
  ⟨h.sqr, fun x' y' hx' hy' hl => h.at' x' y' hx' hy' (by omega)⟩
theorem IsoP.done (hr : IsP r) (hc : IsP c) (hrl : r.length = A.length) (hcl : c.length = A.length) {S : List (List Int)} (h : IsoP A r c s A.length 0 S) : S = isoL A r c s :=
  sq_ext2 hr hc hrl hcl h.sqr (isoL_sqr A r c s) fun x y hx hy => by
    rw [h.at' x y hx hy (.inl hx), isoL_at hr hc hrl hcl hx hy]
end
end Go.Proofs.YtdlmohigkkdegaaGreat
end

section
/- Walks: how often points and pairs of points occur in a design. -/
namespace Go.Proofs.YtdlmohigkkdegaaGreat
set_option linter.unusedSimpArgs false
set_option linter.unusedVariables false
open Go.RowKit
attribute [local go_sem ↓] Go.wp_at_zero Go.wp_at_succ

/-- a block of points 0 .. P - 1 that increases -/
structure Inc (P : Nat) (b : List Int) : Prop where
  bd : ∀ i, i < b.length → 0 ≤ nth b i ∧ nth b i < P
  lt : ∀ i j, i < j → j < b.length → nth b i < nth b j
  len : b.length ≤ P
theorem inc_of {P : Nat} {b : List Int} (h : incB (-1) P b = true) : Inc P b where
  len := by have := inc_len h (by omega); omega
  bd i hi := by have := incB_gt h _ (nth_mem hi); omega
  lt i j hij hj := by
    have := List.pairwise_iff_getElem.1 (incB_pw h) i j (by omega) hj hij
    rwa [← nth_eq (show i < b.length by omega), ← nth_eq hj] at this
theorem DOk.inc' {P : Nat} {A : List (List Int)} (h : DOk P A) {k : Nat} (hk : k < A.length) : Inc P (xat A k) := inc_of (h.inc _ (xat_mem hk))
theorem Inc.nat {P : Nat} {b : List Int} (h : Inc P b) {i : Nat} (hi : i < b.length) : ∃ x : Nat, nth b i = x ∧ x < P :=
  ⟨(nth b i).toNat, by have := h.bd i hi; omega, by have := h.bd i hi; omega⟩
theorem Inc.fresh {P : Nat} {b : List Int} (h : Inc P b) {j : Nat} (hj : j < b.length) : nth b j ∉ b.take j := by
  intro hm
  obtain ⟨i, hi, he⟩ := List.getElem_of_mem hm
  have hi' : i < j := by simp at hi; omega
  rw [List.getElem_take, ← nth_eq (show i < b.length by omega)] at he
  have := h.lt i j hi' hj
  omega
theorem mem_take1 {b : List Int} {j : Nat} (hj : j < b.length) (x : Int) : x ∈ b.take (j + 1) ↔ x ∈ b.take j ∨ x = nth b j := by
  rw [List.take_add_one, List.getElem?_eq_getElem hj, nth_eq hj, List.mem_append]
  simp only [Option.toList, List.mem_singleton]
/-- how often the points have come up, behind k blocks and j points -/
def repS (P : Nat) (A : List (List Int)) (k j : Nat) : List Int := (List.range P).map fun x => repF (A.take k) x + if (x : Int) ∈ (xat A k).take j then 1 else 0
theorem repS_len (P : Nat) (A : List (List Int)) (k j : Nat) : (repS P A k j).length = P := by simp [repS]
theorem repS_at {P : Nat} {A : List (List Int)} {k j x : Nat} (hx : x < P) : nth (repS P A k j) x = repF (A.take k) x + if (x : Int) ∈ (xat A k).take j then 1 else 0 := by
  rw [nth_eq (by rw [repS_len]; exact hx)]; simp [repS]
theorem repS_0 (P : Nat) (A : List (List Int)) : repS P A 0 0 = List.replicate P 0 := by
  apply List.ext_getElem
  · simp [repS]
  · intro i h1 h2
    simp [repS, repF, cntD]
theorem repS_bd {P : Nat} {A : List (List Int)} {k j x : Nat} (hk : k < A.length) (hA : A.length ≤ 128) (hx : x < P) : 0 ≤ nth (repS P A k j) x ∧ nth (repS P A k j) x ≤ 129 := by
  rw [repS_at hx]
  have := cntD_bd (fun b => decide ((x : Int) ∈ b)) (A.take k)
  have hl : (A.take k).length ≤ 128 := by simp; omega
  unfold repF
  split <;> omega
theorem repS_step {P : Nat} {A : List (List Int)} {k j x : Nat} (hi : Inc P (xat A k)) (hj : j < (xat A k).length) (hx : nth (xat A k) j = x) (hxP : x < P) :
    (repS P A k j).set x (nth (repS P A k j) x + 1) = repS P A k (j + 1) := by
  apply List.ext_getElem
  · simp [repS]
  · intro i h1 h2
    have hiP : i < P := by simpa [repS] using h2
    rw [← nth_eq h2, repS_at hiP, List.getElem_set]
    have hf := hi.fresh hj
    rw [hx] at hf
    have hm := mem_take1 hj (i : Int)
    rw [hx] at hm
    by_cases e : x = i
    · subst e
      rw [if_pos rfl, repS_at hxP, if_neg hf, if_pos (hm.2 (.inr rfl))]; omega
    · rw [if_neg e, ← nth_eq (by rw [repS_len]; exact hiP), repS_at hiP]
      congr 1
      have : ((i : Int) ∈ (xat A k).take (j + 1)) ↔ (i : Int) ∈ (xat A k).take j := by rw [hm]; constructor
                                                                                       · rintro (h | h)
                                                                                         · exact h
                                                                                         · omega
                                                                                       · exact .inl
      simp only [this]
theorem repS_next {P : Nat} {A : List (List Int)} {k : Nat} (hk : k < A.length) : repS P A k (xat A k).length = repS P A (k + 1) 0 := by
  refine List.map_congr_left fun x _ => ?_
  rw [List.take_length, take_xat hk]
  unfold repF
  rw [cntD_snoc]
  simp
theorem repS_end {P : Nat} {A : List (List Int)} : repS P A A.length 0 = repL P A := by
  refine List.map_congr_left fun x _ => ?_
  rw [List.take_length]; simp

set_option maxHeartbeats 2000000 in
set_option maxRecDepth 100000 in
theorem replicationsOf_c (P : Nat) (v : Value) (us : List Value) (A : List (List Int)) (w : World) (hv : RII w v us A) (hD : DOk P A) :
    Calls Tryz.prog 189 #[dv P v] w (MakesI w (repL P A)) := by
  obtain ⟨a, c, hsh⟩ := hv.1.sl.sh
  rw [hv.2.1] at hsh
  subst hsh
  have hP := hD.le
  have hDl := hD.len
  have HD := Lib.hid hD
  clear hD
  have hS1 := (St.refl w).newboxF 27 #[.int .i64 P, .slice a A.length c]
  have b0 := hS1.bcell 0 rfl 0 rfl
  have b1 := hS1.bcell 0 rfl 1 rfl
  have hix := hv.ix
  unfold dv
  go_enter Tryz.func189, Tryz.ntmps189
  go_wp2_with (at_make; refine mkI hS1 rfl _ _ rfl _ _ P (by go_num) (by go_num) (by omega) ?_; intro vc w3 hS3; have b1 := hS3.bcell 0 rfl 1 rfl)
  have hxc := (hS3.rdI 1 rfl).ixe
  rw [← repS_0 P A] at hS3 hxc
  rw [repS_len] at hxc
  go_loopw [5, 7, 14] (fun _ _ i wr => ∃ k : Nat, k ≤ A.length ∧ i = .int .i64 k ∧ St w.heap.size w wr [box 27 w.heap.size [.int .i64 P, .slice a A.length c], row 2 vc (iv (repS P A k 0))]) (fun _ _ i _ => A.length - (intOf i).toNat)
  case atStart => exact ⟨0, by omega, rfl, hS3⟩
  case round =>
    clear hS3 b0 b1
    obtain ⟨k, hk, rfl, hS⟩ := hrel
    by_cases hlt : k < A.length
    · have hc := (hS.oldII hv).cell k hlt
      have hrk := (hS.oldII hv).row k hlt
      have hlk := hrk.len
      have hik := hrk.ix
      have HI := Lib.hid (HD.out.inc' hlt)
      have hl32 := HI.out.len
      have Hnx := Lib.hid (repS_next (P := P) hlt)
      go_wp2_with fail
      obtain ⟨wo, rfl⟩ : ∃ wo : World, wo = wr := ⟨_, rfl⟩
      go_loopw [7, 20] (fun _ i wr => ∃ j : Nat, j ≤ (xat A k).length ∧ i = .int .i64 j ∧ St w.heap.size w wr [box 27 w.heap.size [.int .i64 P, .slice a A.length c], row 2 vc (iv (repS P A k j))]) (fun _ i _ => (xat A k).length - (intOf i).toNat)
      case atStart => exact ⟨0, by omega, rfl, hS⟩
      case round =>
        clear hS hc hrk
        obtain ⟨j, hj, rfl, hS⟩ := hrel
        by_cases hjt : j < (xat A k).length
        · have cb := ((hS.oldII hv).row k hlt).cell j hjt
          obtain ⟨x, hx, hxP⟩ := HI.out.nat hjt
          rw [hx] at cb
          have Hst := Lib.hid (repS_step HI.out hjt hx hxP)
          have cx := (hS.rdI 1 rfl).cell x (by rw [repS_len]; exact hxP)
          have ux := hS.unfrozen 1 rfl (j := x) (by rw [iv_len, repS_len]; exact hxP)
          have xx := hxc (x : Int) x rfl hxP
          have hbd := repS_bd (P := P) (j := j) hlt hDl hxP
          have HS9 := Lib.hid (hS.store 1 rfl (j := x) (by rw [iv_len, repS_len]; exact hxP) (.int .i64 (nth (repS P A k j) x + 1)))
          generalize hq : nth (repS P A k j) x = q at *
          clear hq hx
          go_wp2_with fail
          have hS9 := HS9.out
          simp only [List.set_cons_zero, List.set_cons_succ] at hS9
          rw [iv_set, Hst.out] at hS9
          go_roundw
          case rel => exact ⟨j + 1, by omega, by go_num, hS9⟩
          case measure => simp [intOf]; omega
        · obtain rfl : j = (xat A k).length := by omega
          rw [Hnx.out] at hS
          go_wp2_with fail
          go_roundw
          case rel => exact ⟨k + 1, by omega, by go_num, hS⟩
          case measure => simp [intOf]; omega
    · obtain rfl : k = A.length := by omega
      rw [repS_end] at hS
      go_wp2_with fail
      go_ret
      exact ⟨vc, rfl, hS.sub (List.sublist_cons_self _ _)⟩
end Go.Proofs.YtdlmohigkkdegaaGreat
end
