/- The texts of this claim, run 7: Sss PRR PPm Srt PIm PRs Sq RrA Bo RrC PPln PLat Ds7. -/
import Derived.Test.YtgflhgkcmfjkgaaGreatK1
import Derived.Test.YtgflhgkcmfjkgaaGreatK2
import Derived.Test.YtgflhgkcmfjkgaaGreatK4
import Derived.Test.YtgflhgkcmfjkgaaGreatK5
import Derived.Test.YtgflhgkcmfjkgaaGreatK6
import Derived.Shelf.SortM.Plain
import Derived.Shelf.SortM.SortNone
import Derived.Sort.OwnSortedInts
section
/- Slices of slices of slices of integers: what they read as, what a call owns, and the law's functions on them. -/
namespace Go.Proofs.YtgflhgkcmfjkgaaGreat
set_option linter.unusedSimpArgs false
set_option linter.unusedVariables false
open Go.RowKit

def x3at (X : List (List (List Int))) (k : Nat) : List (List Int) := X.getD k []
theorem x3at_eq {X : List (List (List Int))} {k : Nat} (h : k < X.length) : x3at X k = X[k] := by simp [x3at, h]
theorem drop_x3at {X : List (List (List Int))} {k : Nat} (hk : k < X.length) : X.drop k = x3at X k :: X.drop (k + 1) := by
  rw [List.drop_eq_getElem_cons hk, x3at_eq hk]
theorem x3at_set {X : List (List (List Int))} {j k : Nat} {x : List (List Int)} (h : j < X.length) : x3at (X.set j x) k = if j = k then x else x3at X k := by
  unfold x3at
  rw [List.getD_eq_getElem?_getD, List.getElem?_set]
  split
  · rename_i e; subst e; simp [h]
  · simp [List.getD_eq_getElem?_getD]
/-- what is read -/
def RIII (w : World) (v : Value) (vs : List Value) (uss : List (List Value)) (X : List (List (List Int))) : Prop :=
  Rd w v vs ∧ vs.length = X.length ∧ ∀ k, k < X.length → RII w (vat vs k) (vsat uss k) (x3at X k)
section
variable {w w' : World} {v : Value} {vs : List Value} {uss : List (List Value)} {X : List (List (List Int))}
theorem RIII.le (h : RIII w v vs uss X) : X.length ≤ 9223372036854775807 := by have := h.1.sl.le; rwa [h.2.1] at this
theorem RIII.len (h : RIII w v vs uss X) (ty : TypeId) (W : World) : (Builtin.len_ #[62] ty #[v]).run Tryz.prog W = .ok (.int .i64 X.length) W := by
  have := run_len_sl (P := Tryz.prog) h.1.sl 62 ty Tryz.und_isss W; rwa [h.2.1] at this
theorem RIII.ix (h : RIII w v vs uss X) (k : IntKind) (i : Int) (h0 : 0 ≤ i) (hi : i < X.length) (W : World) :
    (Instr.indexAt 62 v (.int k i)).run Tryz.prog W = .ok (.pointer (some (el v i.toNat))) W :=
  run_ix_sl (P := Tryz.prog) h.1.sl 62 Tryz.und_isss Tryz.size_iss k i h0 (by rw [h.2.1]; exact hi) W
theorem RIII.ixe (h : RIII w v vs uss X) (i : Int) (j : Nat) (hij : i = (j : Int)) (hj : j < X.length) (W : World) :
    (Instr.indexAt 62 v (.int .i64 i)).run Tryz.prog W = .ok (.pointer (some (el v j))) W := by
  have := h.ix .i64 i (by omega) (by omega) W
  rwa [hij, Int.toNat_natCast, ← hij] at this
theorem RIII.cell (h : RIII w v vs uss X) (j : Nat) (hj : j < X.length) : w.cell? (el v j) = some (vat vs j) := Rd.cell h.1 (by rw [h.2.1]; exact hj)
theorem RIII.row (h : RIII w v vs uss X) (j : Nat) (hj : j < X.length) : RII w (vat vs j) (vsat uss j) (x3at X j) := h.2.2 j hj
theorem RIII.keep (h : RIII w v vs uss X) (hb : Below w.heap.size w w') : RIII w' v vs uss X := ⟨h.1.keep hb, h.2.1, fun j hj => (h.2.2 j hj).keep hb⟩
end
/-! ### what is owned -/
def rows3 : List Value → List (List Value) → List (List (List Int)) → List Ent
  | v :: vs, u :: uss, x :: X => own2 v u x ++ rows3 vs uss X
  | _, _, _ => []
def own3 (v : Value) (vs : List Value) (uss : List (List Value)) (X : List (List (List Int))) : List Ent := row 24 v vs :: rows3 vs uss X
section
variable {v : Value} {vs : List Value} {uss : List (List Value)} {X : List (List (List Int))} {L2 : List Ent} {j : Nat}
end
/-- the lengths fit -/
def Fit3 (vs : List Value) (uss : List (List Value)) (X : List (List (List Int))) : Prop := vs.length = X.length ∧ uss.length = X.length ∧ ∀ k, k < X.length → (vsat uss k).length = (x3at X k).length
theorem Fit3.set {vs : List Value} {uss : List (List Value)} {X : List (List (List Int))} (h : Fit3 vs uss X) {j : Nat} (hj : j < X.length) {x : List (List Int)} (hx : x.length = (x3at X j).length) : Fit3 vs uss (X.set j x) :=
  ⟨by simpa using h.1, by simpa using h.2.1, fun k hk => by
    rw [x3at_set hj]
    simp only [List.length_set] at hk
    by_cases e : j = k
    · rw [if_pos e, hx]; subst e; exact h.2.2 j hj
    · rw [if_neg e]; exact h.2.2 k hk⟩

/-! ### the law's functions -/
end Go.Proofs.YtgflhgkcmfjkgaaGreat
end

section
/- Plain: schedules of rounds of pairs: what a valid one is, opponents. -/
namespace Go.Proofs.YtgflhgkcmfjkgaaGreat
set_option linter.unusedSimpArgs false
set_option linter.unusedVariables false

def gdP (n : Int) (p : List Int) : Bool := decide (p.length = 2) && decide (nth p 0 < nth p 1) && inB (nth p 0) 0 (n - 1) && inB (nth p 1) 0 (n - 1)
/-- whether a team plays in some of these pairs -/
def plB (q : List (List Int)) (x : Int) : Bool := q.any fun p => decide (x ∈ p)
/-- the pairs ahead of place k of round r -/
def seen (R : List (List (List Int))) (r k : Nat) : List (List Int) := (R.take r).flatten ++ (x3at R r).take k
section
variable {R : List (List (List Int))} {r k : Nat}
theorem seen_snoc (hk : k < (x3at R r).length) : seen R r (k + 1) = seen R r k ++ [xat (x3at R r) k] := by
  rw [seen, take_xat hk, ← List.append_assoc]; rfl
theorem seen_pre (hr : r < R.length) (hk : k ≤ (x3at R r).length) : R.flatten = seen R r k ++ ((x3at R r).drop k ++ (R.drop (r + 1)).flatten) := by
  rw [seen, List.append_assoc, ← List.append_assoc ((x3at R r).take k), List.take_append_drop, ← List.flatten_cons, ← drop_x3at hr, ← List.flatten_append, List.take_append_drop]
theorem x3at_mem (hr : r < R.length) : x3at R r ∈ R := by rw [x3at_eq hr]; exact List.getElem_mem hr
end
theorem mem_xat {A : List (List Int)} {p : List Int} (h : p ∈ A) : ∃ k, k < A.length ∧ xat A k = p := by
  obtain ⟨k, hk, e⟩ := List.getElem_of_mem h
  exact ⟨k, hk, by rw [xat_eq hk, e]⟩
/-- what is asked of a pair -/
def okAt (n : Int) (R : List (List (List Int))) (r k : Nat) : Bool :=
  gdP n (xat (x3at R r) k) && (decide (k = 0) || decide (cmpI (xat (x3at R r) (k - 1)) (xat (x3at R r) k) < 0)) &&
  !plB ((x3at R r).take k) (nth (xat (x3at R r) k) 0) && !plB ((x3at R r).take k) (nth (xat (x3at R r) k) 1) && !decide (xat (x3at R r) k ∈ seen R r k)
def vsB (n : Int) (R : List (List (List Int))) : Bool :=
  inB n 2 32 && ((List.range R.length).all fun r => (List.range (x3at R r).length).all fun k => okAt n R r k) &&
  ((List.range n.toNat).all fun a => (List.range n.toNat).all fun b => decide (b ≤ a) || decide ([(a : Int), (b : Int)] ∈ R.flatten))
structure VS (n : Nat) (R : List (List (List Int))) : Prop where
  n2 : 2 ≤ n
  n32 : n ≤ 32
  gd : ∀ q ∈ R, ∀ p ∈ q, gdP n p = true
  st : ∀ q ∈ R, ∀ k, k + 1 < q.length → cmpI (xat q k) (xat q (k + 1)) < 0
  dj : ∀ q ∈ R, ∀ k, k < q.length → ∀ j, j < k → ∀ x ∈ xat q j, x ∉ xat q k
  nd : R.flatten.Nodup
  al : ∀ a b : Nat, a < b → b < n → [(a : Int), (b : Int)] ∈ R.flatten
structure GdP (n : Int) (p : List Int) : Prop where
  eq : p = [nth p 0, nth p 1]
  lt : nth p 0 < nth p 1
  lo : 0 ≤ nth p 0
  hi : nth p 1 ≤ n - 1
theorem gdP_t {n : Int} {p : List Int} (h : gdP n p = true) : GdP n p := by
  simp only [gdP, Bool.and_eq_true, decide_eq_true_eq, inB] at h
  obtain ⟨⟨⟨h1, h2⟩, h3⟩, h4⟩ := h
  match p, h1 with
  | [a, b], _ => exact ⟨rfl, h2, h3.1, h4.2⟩
theorem plB_f {q : List (List Int)} {x : Int} : plB q x = false ↔ ∀ p ∈ q, x ∉ p := by simp [plB]
theorem mem_take_xat {q : List (List Int)} {k : Nat} {p : List Int} (h : p ∈ q.take k) : ∃ j, j < k ∧ j < q.length ∧ xat q j = p := by
  obtain ⟨j, hj, e⟩ := mem_xat h
  simp only [List.length_take] at hj
  refine ⟨j, by omega, by omega, ?_⟩
  rw [← e, xat_eq (by omega), xat_eq (by simp; omega), List.getElem_take]
theorem VS.ok {n : Nat} {R : List (List (List Int))} (h : VS n R) {r k : Nat} (hr : r < R.length) (hk : k < (x3at R r).length) : okAt n R r k = true := by
  have hq := x3at_mem hr
  have hp := xat_mem hk
  have hg := h.gd _ hq _ hp
  have hG := gdP_t hg
  have h1 : ∀ x ∈ xat (x3at R r) k, plB ((x3at R r).take k) x = false := fun x hx => plB_f.2 fun p hp' hx' => by
    obtain ⟨j, hj, hj2, rfl⟩ := mem_take_xat hp'
    exact h.dj _ hq k hk j hj x hx' hx
  have h2 : xat (x3at R r) k ∉ seen R r k := by
    have := h.nd
    rw [seen_pre hr (Nat.succ_le_of_lt hk), seen_snoc hk, List.append_assoc] at this
    have := (List.nodup_append.1 this).2.2
    intro hm
    exact this _ hm _ (by simp) rfl
  have e0 : nth (xat (x3at R r) k) 0 ∈ xat (x3at R r) k := by rw [hG.eq]; simp [nth]
  have e1 : nth (xat (x3at R r) k) 1 ∈ xat (x3at R r) k := by rw [hG.eq]; simp [nth]
  simp only [okAt, Bool.and_eq_true, hg, h1 _ e0, h1 _ e1, decide_eq_false h2, Bool.not_false, and_true, true_and, Bool.or_eq_true, decide_eq_true_eq]
  cases k with
  | zero => exact .inl rfl
  | succ k => exact .inr (h.st _ hq k hk)
theorem VS.t {n : Nat} {R : List (List (List Int))} (h : VS n R) : vsB n R = true := by
  have h1 := h.n2
  have h2 := h.n32
  simp only [vsB, Bool.and_eq_true, List.all_eq_true, List.mem_range, Bool.or_eq_true, decide_eq_true_eq]
  refine ⟨⟨inB_true (by omega), fun r hr k hk => h.ok hr hk⟩, fun a ha b hb => ?_⟩
  by_cases hab : b ≤ a
  · exact .inl hab
  · exact .inr (h.al a b (by omega) (by omega))
/-! ### opponents -/
section
variable {n : Nat} {R : List (List (List Int))}
end
end Go.Proofs.YtgflhgkcmfjkgaaGreat
end

section
/- Permutations as lists, in plain terms. -/
namespace Go.Proofs.YtgflhgkcmfjkgaaGreat
set_option linter.unusedSimpArgs false
set_option linter.unusedVariables false
/-- a list that holds each number below its length once -/
structure IsP (xs : List Int) : Prop where
  lt : ∀ j, j < xs.length → 0 ≤ nth xs j ∧ nth xs j < xs.length
  inj : ∀ i j, i < xs.length → j < xs.length → nth xs i = nth xs j → i = j
/-- a permutation as a function -/
def pf (xs : List Int) (j : Nat) : Nat := (nth xs j).toNat
theorem nth_pf {xs : List Int} (h : IsP xs) {j : Nat} (hj : j < xs.length) : nth xs j = (pf xs j : Int) := by
  have := (h.lt j hj).1; unfold pf; omega
theorem IsP.bij {xs : List Int} (h : IsP xs) : Bij xs.length (pf xs) where
  lt j hj := by have := h.lt j hj; unfold pf; omega
  inj i j hi hj e := h.inj i j hi hj (by rw [nth_pf h hi, nth_pf h hj, e])
theorem IsP.pf_lt {xs : List Int} (h : IsP xs) {j : Nat} (hj : j < xs.length) : pf xs j < xs.length := h.bij.lt j hj
theorem IsP.nodup {xs : List Int} (h : IsP xs) : xs.Nodup := by
  rw [List.nodup_iff_pairwise_ne, List.pairwise_iff_getElem]
  intro a b ha hb hab e
  have := h.inj a b ha hb (by rw [nth_eq ha, nth_eq hb, e])
  omega
theorem nth_ext {xs ys : List Int} (hl : xs.length = ys.length) (h : ∀ j, j < xs.length → nth xs j = nth ys j) : xs = ys := by
  apply List.ext_getElem hl
  intro j h1 h2
  have := h j h1
  rwa [nth_eq h1, nth_eq h2] at this
/-- the identity -/
def iot (n : Nat) : List Int := (List.range n).map fun k : Nat => (k : Int)
theorem iot_len (n : Nat) : (iot n).length = n := by simp [iot]
theorem nth_iot {n j : Nat} (h : j < n) : nth (iot n) j = j := by simp [iot, nth, h]
theorem iot_isP (n : Nat) : IsP (iot n) where
  lt j hj := by rw [iot_len] at hj ⊢; rw [nth_iot hj]; omega
  inj i j hi hj e := by rw [iot_len] at hi hj; rw [nth_iot hi, nth_iot hj] at e; omega
theorem mem_iot {n : Nat} {x : Int} : x ∈ iot n ↔ 0 ≤ x ∧ x < n := by
  unfold iot; rw [List.mem_map]
  constructor
  · rintro ⟨k, hk, rfl⟩; have := List.mem_range.1 hk; omega
  · intro h; exact ⟨x.toNat, List.mem_range.2 (by omega), by omega⟩
theorem IsP.perm {xs : List Int} (h : IsP xs) : xs.Perm (iot xs.length) := by
  refine (List.perm_ext_iff_of_nodup h.nodup (iot_isP _).nodup).2 fun x => ?_
  rw [mem_iot]
  constructor
  · intro hx
    obtain ⟨j, hj, rfl⟩ := List.getElem_of_mem hx
    have := h.lt j hj; rwa [nth_eq hj] at this
  · intro hx
    obtain ⟨j, hj, e⟩ := h.bij.onto (y := x.toNat) (by omega)
    have := nth_pf h hj
    rw [e] at this
    have hm := nth_mem hj
    rw [this] at hm
    rwa [Int.toNat_of_nonneg hx.1] at hm
/-- lists in rising order with the same numbers are the same -/
theorem sorted_eq {a b : List Int} (h : a.Perm b) (ha : a.Pairwise (· ≤ ·)) (hb : b.Pairwise (· ≤ ·)) : a = b :=
  h.eq_of_pairwise (fun x y _ _ h1 h2 => by omega) ha hb
theorem msort_sorted (xs : List Int) : (xs.mergeSort fun x y => decide (x ≤ y)).Pairwise (· ≤ ·) := by
  have := List.pairwise_mergeSort (le := fun x y : Int => decide (x ≤ y)) (fun a b c h1 h2 => by simp at *; omega) (fun a b => by simp; omega) xs
  exact this.imp fun h => by simpa using h
/-! ### exchanges -/
theorem nth_set {xs : List Int} {i j : Nat} {x : Int} (h : i < xs.length) : nth (xs.set i x) j = if i = j then x else nth xs j := by
  unfold nth
  rw [List.getD_eq_getElem?_getD, List.getElem?_set]
  split
  · rename_i e; subst e; simp [h]
  · simp
/-! ### composition, inverse -/
/-- first xs, then ys -/
def cmpL (xs ys : List Int) : List Int := (List.range xs.length).map fun j => nth ys (pf xs j)
theorem nth_cmpL {xs ys : List Int} {j : Nat} (hj : j < xs.length) : nth (cmpL xs ys) j = nth ys (pf xs j) := by simp [cmpL, nth, hj]
theorem pf_cmpL {xs ys : List Int} {j : Nat} (hj : j < xs.length) : pf (cmpL xs ys) j = pf ys (pf xs j) := by unfold pf; rw [nth_cmpL hj]; rfl
/-- place j of the first k is written at the number that stands there -/
def invQ (xs : List Int) : Nat → List Int
  | 0 => List.replicate xs.length 0
  | k + 1 => (invQ xs k).set (pf xs k) k
def invL (xs : List Int) : List Int := invQ xs xs.length
theorem invQ_len (xs : List Int) : ∀ k, (invQ xs k).length = xs.length
  | 0 => by simp [invQ]
  | k + 1 => by rw [invQ, List.length_set, invQ_len xs k]
theorem nth_invQ {xs : List Int} (h : IsP xs) : ∀ k, k ≤ xs.length → ∀ j, j < k → nth (invQ xs k) (pf xs j) = j
  | 0, _, j, hj => by omega
  | k + 1, hk, j, hj => by
    rw [invQ, nth_set (by rw [invQ_len]; exact h.pf_lt (by omega))]
    by_cases e : k = j
    · subst e; rw [if_pos rfl]
    · rw [if_neg (fun e2 => e (h.bij.inj k j (by omega) (by omega) e2)), nth_invQ h k (by omega) j (by omega)]
theorem invL_len (xs : List Int) : (invL xs).length = xs.length := invQ_len xs _
theorem nth_invL {xs : List Int} (h : IsP xs) {j : Nat} (hj : j < xs.length) : nth (invL xs) (pf xs j) = j := nth_invQ h _ (Nat.le_refl _) j hj
theorem IsP.inv {xs : List Int} (h : IsP xs) : IsP (invL xs) := by
  have key : ∀ y, y < xs.length → ∃ j, j < xs.length ∧ pf xs j = y := fun y hy => h.bij.onto hy
  refine ⟨fun y hy => ?_, fun a b ha hb e => ?_⟩
  · rw [invL_len] at hy ⊢
    obtain ⟨j, hj, rfl⟩ := key y hy
    rw [nth_invL h hj]; omega
  · rw [invL_len] at ha hb
    obtain ⟨i, hi, rfl⟩ := key a ha
    obtain ⟨j, hj, rfl⟩ := key b hb
    rw [nth_invL h hi, nth_invL h hj] at e
    have : i = j := by omega
    rw [this]
/-! ### signs -/
end Go.Proofs.YtgflhgkcmfjkgaaGreat
end

section
/- slices.Sort at []int64: a row that a call owns, sorted. -/
namespace Go.Proofs.YtgflhgkcmfjkgaaGreat
set_option linter.unusedSimpArgs false
set_option linter.unusedVariables false
open Go.RowKit

def Tryz.mSort_ren : Go.Shelf.Ren := ⟨fun | 5 => 43 | 8 => 116 | 7 => 115 | 19 => 172 | 20 => 173 | 10 => 163 | 11 => 164 | 12 => 165 | 13 => 166 | 14 => 167 | 15 => 168 | 16 => 169 | 17 => 170 | 18 => 171 | 30 => 198 | 31 => 199 | 32 => 200 | 33 => 201 | 34 => 202 | 35 => 174 | 40 => 213 | n => n, fun | 23 => 44 | 25 => 2 | 3 => 3 | 32 => 135 | 22 => 44 | 0 => 0 | 44 => 177 | 46 => 123 | 4 => 4 | 36 => 169 | 35 => 168 | 41 => 174 | 5 => 5 | 9 => 9 | 53 => 184 | 57 => 188 | 63 => 195 | 64 => 196 | n => n, fun | n => n⟩
theorem Tryz.mSort : Go.Proofs.SlLaysM.n5 Tryz.prog Tryz.mSort_ren := {
  mixed := by kernel_rfl
  f5 := ⟨Tryz.f43.name, by decide, Tryz.func43.trans (congrArg some (by kernel_rfl))⟩
  f7 := ⟨Tryz.f115.name, by decide, Tryz.func115.trans (congrArg some (by kernel_rfl))⟩
  f8 := Tryz.func116.trans (congrArg some (by kernel_rfl))
  f10 := ⟨Tryz.f163.name, by decide, Tryz.func163.trans (congrArg some (by kernel_rfl))⟩
  f11 := ⟨Tryz.f164.name, by decide, Tryz.func164.trans (congrArg some (by kernel_rfl))⟩
  f12 := ⟨Tryz.f165.name, by decide, Tryz.func165.trans (congrArg some (by kernel_rfl))⟩
  f13 := ⟨Tryz.f166.name, by decide, Tryz.func166.trans (congrArg some (by kernel_rfl))⟩
  f14 := ⟨Tryz.f167.name, by decide, Tryz.func167.trans (congrArg some (by kernel_rfl))⟩
  f15 := ⟨Tryz.f168.name, by decide, Tryz.func168.trans (congrArg some (by kernel_rfl))⟩
  f16 := ⟨Tryz.f169.name, by decide, Tryz.func169.trans (congrArg some (by kernel_rfl))⟩
  f17 := ⟨Tryz.f170.name, by decide, Tryz.func170.trans (congrArg some (by kernel_rfl))⟩
  f18 := ⟨Tryz.f171.name, by decide, Tryz.func171.trans (congrArg some (by kernel_rfl))⟩
  f19 := Tryz.func172.trans (congrArg some (by kernel_rfl))
  f20 := Tryz.func173.trans (congrArg some (by kernel_rfl))
  f30 := ⟨Tryz.f198.name, by decide, Tryz.func198.trans (congrArg some (by kernel_rfl))⟩
  f31 := Tryz.func199.trans (congrArg some (by kernel_rfl))
  f32 := Tryz.func200.trans (congrArg some (by kernel_rfl))
  f33 := ⟨Tryz.f201.name, by decide, Tryz.func201.trans (congrArg some (by kernel_rfl))⟩
  f34 := ⟨Tryz.f202.name, by decide, Tryz.func202.trans (congrArg some (by kernel_rfl))⟩
  f35 := ⟨Tryz.f174.name, by decide, Tryz.func174.trans (congrArg some (by kernel_rfl))⟩
  f40 := ⟨Tryz.f213.name, by decide, Tryz.func213.trans (congrArg some (by kernel_rfl))⟩
  t0 := Tryz.underlying0
  a0 := Tryz.isAgg0
  z0 := Tryz.sizeOf0
  v0 := Tryz.zeroValue0
  t3 := Tryz.underlying3
  a3 := Tryz.isAgg3
  z3 := Tryz.sizeOf3
  v3 := Tryz.zeroValue3
  t4 := Tryz.underlying4
  a4 := Tryz.isAgg4
  z4 := Tryz.sizeOf4
  v4 := Tryz.zeroValue4
  t5 := Tryz.underlying5
  a5 := Tryz.isAgg5
  z5 := Tryz.sizeOf5
  v5 := Tryz.zeroValue5
  t9 := Tryz.underlying9
  a9 := Tryz.isAgg9
  z9 := Tryz.sizeOf9
  v9 := Tryz.zeroValue9
  t22 := Tryz.underlying44
  a22 := Tryz.isAgg44
  z22 := Tryz.sizeOf44
  v22 := Tryz.zeroValue44
  t23 := Tryz.underlying44
  a23 := Tryz.isAgg44
  z23 := Tryz.sizeOf44
  v23 := Tryz.zeroValue44
  t25 := Tryz.underlying2
  a25 := Tryz.isAgg2
  z25 := Tryz.sizeOf2
  v25 := Tryz.zeroValue2
  t32 := Tryz.underlying135
  a32 := Tryz.isAgg135
  z32 := Tryz.sizeOf135
  v32 := Tryz.zeroValue135
  t35 := Tryz.underlying168
  a35 := Tryz.isAgg168
  z35 := Tryz.sizeOf168
  v35 := Tryz.zeroValue168
  t36 := Tryz.underlying169
  a36 := Tryz.isAgg169
  z36 := Tryz.sizeOf169
  v36 := Tryz.zeroValue169
  t41 := Tryz.underlying174
  a41 := Tryz.isAgg174
  z41 := Tryz.sizeOf174
  v41 := Tryz.zeroValue174
  t44 := Tryz.underlying177
  a44 := Tryz.isAgg177
  z44 := Tryz.sizeOf177
  v44 := Tryz.zeroValue177
  t46 := Tryz.underlying123
  a46 := Tryz.isAgg123
  z46 := Tryz.sizeOf123
  v46 := Tryz.zeroValue123
  t53 := Tryz.underlying184
  a53 := Tryz.isAgg184
  z53 := Tryz.sizeOf184
  v53 := Tryz.zeroValue184
  t57 := Tryz.underlying188
  a57 := Tryz.isAgg188
  z57 := Tryz.sizeOf188
  v57 := Tryz.zeroValue188
  t63 := Tryz.underlying195
  a63 := Tryz.isAgg195
  z63 := Tryz.sizeOf195
  v63 := Tryz.zeroValue195
  t64 := Tryz.underlying196
  a64 := Tryz.isAgg196
  z64 := Tryz.sizeOf196
  v64 := Tryz.zeroValue196
  }

/-- in rising order -/
def srt (xs : List Int) : List Int := xs.mergeSort fun x y => decide (x ≤ y)
theorem srt_len (xs : List Int) : (srt xs).length = xs.length := List.length_mergeSort _
theorem srt_perm (xs : List Int) : (srt xs).Perm xs := List.mergeSort_perm _ _
theorem Sort_c {B : Nat} {w0 w : World} {L : List Ent} (hS : St B w0 w L) (i : Nat) {v : Value} {xs : List Int} (hi : L[i]? = some (row 2 v (iv xs))) (hl : xs.length < 4611686018427387904) :
    Calls Tryz.prog 43 #[v] w fun e w' => e = .returned (.tuple #[]) ∧ St B w0 w' (L.set i (row 2 v (iv (srt xs)))) := by
  have hx := hS.ok _ (List.mem_of_getElem? hi)
  rcases hx with ⟨hp, _⟩ | ⟨_, hv, hu⟩ | ⟨_, g, cap, cur, hv, hB, hh, h1, h2, h3, h4⟩
  · simp [row] at hp
  · simp only [row] at hv hu
    have hx : xs = [] := by cases xs with
      | nil => rfl
      | cons a r => simp [iv] at hu
    subst hx
    subst hv
    have hc := AnyM.slices_Sort_int_none Tryz.mSort none 0 w
    refine Calls.mono hc ?_
    rintro e w' ⟨rfl, rfl⟩
    refine ⟨rfl, ?_⟩
    have : L.set i (row 2 (.slice none 0 0) (iv (srt []))) = L := by
      obtain ⟨hlt, heq⟩ := List.getElem?_eq_some_iff.1 hi
      have e : srt [] = [] := by simp [srt]
      rw [e, ← heq, List.set_getElem_self]
    rw [this]; exact hS
  · simp only [row] at hv h1 h4 hh
    rw [iv_len] at hv h1 h4
    have hblk : g < w.heap.size := (Array.getElem?_eq_some_iff.1 hh).1
    have hH : Go.Sort.Holds (Value.int .i64) w g 0 xs.toArray := holds_of_blockI hh h4
    have hc := AnyM.slices_Sort_int Tryz.mSort g 0 cap xs w hH hblk hl
    subst hv
    refine Calls.mono hc ?_
    rintro e w' ⟨rfl, n, os, rfl⟩
    refine ⟨rfl, ?_⟩
    have hlen : (srt xs).length = xs.length := srt_len xs
    refine hS.put i hi ?_ (row 2 (.slice (some ⟨g, 0, none⟩) xs.length cap) (iv (srt xs))) (.inr (.inr ⟨rfl, g, cap, _, ?_, hB, heap_sortedI _ hh, ?_, h2, ?_, ?_⟩)) (.inl rfl)
    · exact grownBy_sortedI _
    · simp [row, iv_len, hlen]
    · simp [row, iv_len, hlen]; omega
    · simp [Go.Sort.putCells, h3]
    · have := take_putCellsI cur (srt xs) (by omega)
      rw [hlen] at this
      have hlen' : (xs.mergeSort fun x y => decide (x ≤ y)).length = xs.length := hlen
      simpa [row, iv, srt, hlen'] using this
end Go.Proofs.YtgflhgkcmfjkgaaGreat
end

section
/- Images of sets under permutations; ranks of permutations. In plain terms. -/
namespace Go.Proofs.YtgflhgkcmfjkgaaGreat
set_option linter.unusedSimpArgs false
set_option linter.unusedVariables false
theorem incB_pw : ∀ {xs : List Int} {l n : Int}, incB l n xs = true → xs.Pairwise (· < ·)
  | [], _, _, _ => List.Pairwise.nil
  | x :: t, l, n, h => by
    unfold incB at h; split at h
    · simp at h
    · exact List.Pairwise.cons (fun y hy => (incB_gt h y hy).1) (incB_pw h)
theorem srt_up (xs : List Int) : (srt xs).Pairwise (· ≤ ·) := msort_sorted xs
/-! ### ranks -/
end Go.Proofs.YtgflhgkcmfjkgaaGreat
end

section
/- Plain: the design of the pairs of a schedule, and its classes. -/
namespace Go.Proofs.YtgflhgkcmfjkgaaGreat
set_option linter.unusedSimpArgs false
set_option linter.unusedVariables false
section
variable {n : Nat} {R : List (List (List Int))}
/-- the pairs, in order -/
def dsL (R : List (List (List Int))) : List (List Int) := srtL R.flatten
theorem GdP.len {n : Int} {b : List Int} (h : GdP n b) : b.length = 2 := by rw [h.eq]; rfl
theorem VS.dnd (h : VS n R) : (dsL R).Nodup := (srtL_perm _).nodup_iff.2 h.nd
theorem VS.dst (h : VS n R) {i j : Nat} (hij : i < j) (hj : j < (dsL R).length) : cmpI (xat (dsL R) i) (xat (dsL R) j) < 0 := by
  have hp := List.pairwise_iff_getElem.1 (srtL_pw R.flatten) i j (by unfold dsL at hj; omega) hj hij
  have hle : cmpI (xat (dsL R) i) (xat (dsL R) j) ≤ 0 := by
    rw [xat_eq (show i < (dsL R).length by omega), xat_eq hj]
    exact of_decide_eq_true hp
  rcases Int.lt_or_eq_of_le hle with h1 | h1
  · exact h1
  · have e := cmpI_eq h1
    rw [xat_eq (show i < (dsL R).length by omega), xat_eq hj] at e
    exact absurd e (List.pairwise_iff_getElem.1 (List.nodup_iff_pairwise_ne.1 h.dnd) i j (by omega) hj hij)
end
section
variable {n : Nat} {R : List (List (List Int))}
theorem VS.rin (h : VS n R) {q : List (List Int)} (hq : q ∈ R) : ∀ x ∈ q.flatten, 0 ≤ x ∧ x < n := fun x hx => by
  obtain ⟨p, hp, hxp⟩ := List.mem_flatten.1 hx
  have hG := gdP_t (h.gd q hq p hp)
  have a1 := hG.lt
  have a2 := hG.lo
  have a3 := hG.hi
  rw [hG.eq] at hxp
  simp only [List.mem_cons, List.not_mem_nil, or_false] at hxp
  omega
end
end Go.Proofs.YtgflhgkcmfjkgaaGreat
end

section
/- Walks: squares that are made. -/
namespace Go.Proofs.YtgflhgkcmfjkgaaGreat
set_option linter.unusedSimpArgs false
set_option linter.unusedVariables false
open Go.RowKit
section
variable {ops : Array Oper} {rest : List Oper} {o : Oper} {a : Act} {Q : Exit → Act → World → Prop} {B : Nat} {w0 w : World} {L : List Ent}
end
theorem Fit3.snoc {vs : List Value} {uss : List (List Value)} {X : List (List (List Int))} (h : Fit3 vs uss X) (v : Value) {us : List Value} {x : List (List Int)} (hx : us.length = x.length) : Fit3 (vs ++ [v]) (uss ++ [us]) (X ++ [x]) :=
  ⟨by simp [h.1], by simp [h.2.1], fun k hk => by
    by_cases e : k < X.length
    · have e1 : vsat (uss ++ [us]) k = vsat uss k := by unfold vsat; rw [List.getD_eq_getElem?_getD, List.getElem?_append_left (by rw [h.2.1]; exact e), ← List.getD_eq_getElem?_getD]
      have e2 : x3at (X ++ [x]) k = x3at X k := by unfold x3at; rw [List.getD_eq_getElem?_getD, List.getElem?_append_left e, ← List.getD_eq_getElem?_getD]
      rw [e1, e2]; exact h.2.2 k e
    · have hk' : k = X.length := by simp at hk; omega
      have e1 : vsat (uss ++ [us]) k = us := by unfold vsat; rw [hk', ← h.2.1]; simp
      have e2 : x3at (X ++ [x]) k = x := by unfold x3at; rw [hk']; simp
      rw [e1, e2]; exact hx⟩

theorem RdI.shq {w : World} {v : Value} {xs : List Int} (h : RdI w v xs) : ∃ a c, v = .slice a xs.length c := by
  obtain ⟨a, c, hv⟩ := h.sl.sh
  rw [iv_len] at hv
  exact ⟨a, c, hv⟩
/-- a square by its entries -/
def sqF (n : Nat) (f : Nat → Nat → Int) : List (List Int) := (List.range n).map fun x => tab n (f x)
theorem sqF_len (n : Nat) (f : Nat → Nat → Int) : (sqF n f).length = n := by simp [sqF]
theorem xat_sqF {n : Nat} {f : Nat → Nat → Int} {x : Nat} (h : x < n) : xat (sqF n f) x = tab n (f x) := by simp [sqF, xat, h]
theorem sqF_take {n : Nat} {f : Nat → Nat → Int} {k : Nat} (h : k < n) : (sqF n f).take (k + 1) = (sqF n f).take k ++ [tab n (f k)] := by
  rw [take_xat (by rw [sqF_len]; exact h), xat_sqF h]
theorem tab_succ (k : Nat) (f : Nat → Int) : tab (k + 1) f = tab k f ++ [f k] := by simp [tab, List.range_succ]
set_option maxHeartbeats 2000000 in
set_option maxRecDepth 100000 in
theorem filledSquare_c (K : FuncId) (caps : Array Value) (f : Nat → Nat → Int) (n : Nat) (w : World) (hn : n ≤ 4096)
    (hcf : ∀ (args : Array Value) (W : World), (callFunc K args).run Tryz.prog W = .ok (.enter K args) W)
    (hK : ∀ (x y : Nat) (W : World), St w.heap.size w W [] → x < n → y < n → Calls Tryz.prog K (#[.int .i64 x, .int .i64 y] ++ caps) W (GivesI W (f x y))) :
    Calls Tryz.prog 93 #[.int .i64 n, .func (.func K) #[] caps] w (MakesII w (sqF n f)) := by
  have HK := Lib.hid hK
  clear hK
  have hS0 := (St.refl w).newnil 44
  go_enter Tryz.func93, Tryz.ntmps93
  go_wp2_with fail
  go_loopw [5, 6, 7, 8] (fun o ii _ _ wr => ∃ (k : Nat) (us : List Value), k ≤ n ∧ ii = .int .i64 k ∧ Hid (us.length = k) ∧ St w.heap.size w wr (own2 o us ((sqF n f).take k))) (fun _ ii _ _ _ => n - (intOf ii).toNat)
  case atStart => exact ⟨0, [], by omega, rfl, rfl, hS0⟩
  case round =>
    obtain ⟨k, us, hk, rfl, hl, hS⟩ := hrel
    have Hlu := Lib.hid (show us.length = ((sqF n f).take k).length by rw [List.length_take, sqF_len, hl.out]; omega)
    by_cases hlt : k < n
    · have hS1 := (hS.newnil 2).perm List.perm_append_comm
      simp only [List.cons_append, List.nil_append] at hS1
      have Hst := Lib.hid (sqF_take (f := f) hlt)
      go_wp2_with fail
      go_loopw [7, 8] (fun r jj wx => ∃ j : Nat, j ≤ n ∧ jj = .int .i64 j ∧ St w.heap.size w wx (row 2 r (iv (tab j (f k))) :: own2 u5 us ((sqF n f).take k))) (fun _ jj _ => n - (intOf jj).toNat)
      case atStart => exact ⟨0, by omega, rfl, hS1⟩
      case round =>
        obtain ⟨j, hj, rfl, hS2⟩ := hrel
        by_cases hjn : j < n
        · have Hts := Lib.hid (tab_succ j (f k))
          have Htl := Lib.hid (show (tab j (f k)).length < 4294967296 by rw [tab_len]; omega)
          go_wp2_with fail
          refine (HK.out k j _ hS2.out hlt hjn).mono ?_
          rintro e w3 ⟨rfl, h3⟩
          have hS3 := hS2.call0 h3
          go_wp2_with (at_builtin; refine appI hS3 0 rfl Htl.out rfl _ _ rfl rfl _ rfl ?_; intro v4 w4 hS4)
          go_roundw
          case rel => exact ⟨j + 1, by omega, by go_num, by rw [Hts.out]; exact hS4⟩
          case measure => simp [intOf]; omega
        · have hje : j = n := by omega
          rw [hje] at hS2
          clear hje
          obtain ⟨ar, cr, hre⟩ := (hS2.rdI 0 rfl).shq
          subst hre
          have Htl := Lib.hid (show (tab n (f k)).length = n from tab_len _ _)
          go_wp2_with (at_builtin; refine appII hS2 1 rfl (by rw [hl.out]; omega) rfl _ _ rfl rfl _ rfl rfl ?_; intro v4 w4 hS4)
          go_roundw
          case rel =>
            refine ⟨k + 1, us ++ [.slice ar (tab n (f k)).length cr], by omega, by go_num, by simp [Hid, hl.out], ?_⟩
            rw [Hst.out, own2, rowsI_app Hlu.out]
            simp only [own2, List.set_cons_succ, List.set_cons_zero] at hS4
            exact hS4.perm (by (try simp only [own2, List.cons_append, List.nil_append, List.append_nil]); classical exact List.perm_iff_count.2 (fun a => by simp only [List.cons_append, List.nil_append, List.append_nil, List.count_append, List.count_cons, List.count_nil] <;> omega))
          case measure => simp [intOf]; omega
    · have hke : k = n := by omega
      have HL := Lib.hid (show us.length = (sqF n f).length by rw [hl.out, sqF_len, hke])
      rw [hke, List.take_of_length_le (by rw [sqF_len]; exact Nat.le_refl _)] at hS
      clear hke
      go_wp2_with fail
      go_ret
      exact ⟨_, us, rfl, HL.out, hS⟩
theorem emptySquare1_c (x y : Int) (w : World) : Calls Tryz.prog 211 #[.int .i64 x, .int .i64 y] w (GivesI w 0) := by
  go_enter Tryz.func211, Tryz.ntmps211
  go_wp2_with fail
  go_ret
  exact ⟨rfl, St.refl w⟩
theorem emptySquare_c (n : Nat) (w : World) (hn : n ≤ 4096) : Calls Tryz.prog 176 #[.int .i64 n] w (MakesII w (sqF n fun _ _ => 0)) := by
  have hcf := callFunc_go Tryz.func211 (by kernel_rfl) (by kernel_rfl)
  have hcall := Lib.hid (filledSquare_c 211 #[] (fun _ _ => 0) n w hn hcf (fun x y W _ _ _ => emptySquare1_c x y W))
  clear hcf
  go_enter Tryz.func176, Tryz.ntmps176
  go_wp2_with fail
  refine hcall.out.mono ?_
  rintro e w1 ⟨v, us, rfl, hl, h1⟩
  have Hl := Lib.hid hl
  clear hl
  go_wp2_with fail
  go_ret
  exact ⟨v, us, rfl, Hl.out, h1⟩
end Go.Proofs.YtgflhgkcmfjkgaaGreat
end

section
/- Walks: pairs, and the schedule of the circle method, of the program. -/
namespace Go.Proofs.YtgflhgkcmfjkgaaGreat
set_option linter.unusedSimpArgs false
set_option linter.unusedVariables false
open Go.RowKit
attribute [local go_sem ↓] Go.wp_at_zero Go.wp_at_succ
/-- behind the append of a row of its own, with more behind -/
theorem own2_snocL {B : Nat} {w0 w : World} {v v' : Value} {us : List Value} {xss : List (List Int)} {u : Value} {xs : List Int} {L2 : List Ent} (hl : us.length = xss.length)
    (h : St B w0 w ((own2 v us xss ++ L2 ++ [row 2 u (iv xs)]).set 0 (row 44 v' (us ++ [u])))) : St B w0 w (own2 v' (us ++ [u]) (xss ++ [xs]) ++ L2) := by
  rw [own2, rowsI_app hl]
  refine h.perm ?_
  show (row 44 v' (us ++ [u]) :: (rowsI us xss ++ L2 ++ [row 2 u (iv xs)])).Perm (row 44 v' (us ++ [u]) :: (rowsI us xss ++ [row 2 u (iv xs)] ++ L2))
  refine List.Perm.cons _ ?_
  rw [List.append_assoc, List.append_assoc]
  exact List.Perm.append_left _ List.perm_append_comm
end Go.Proofs.YtgflhgkcmfjkgaaGreat
end

section
/- Slices of truth values. -/
namespace Go.Proofs.YtgflhgkcmfjkgaaGreat
set_option linter.unusedSimpArgs false
set_option linter.unusedVariables false
open Go.RowKit
/-- the cells of a list of truth values -/
def bo (xs : List Bool) : List Value := xs.map Value.bool
/-- element j -/
def bat (xs : List Bool) (j : Nat) : Bool := xs.getD j false
theorem bo_len (xs : List Bool) : (bo xs).length = xs.length := by simp [bo]
theorem bo_get {xs : List Bool} {j : Nat} (h : j < xs.length) : (bo xs).getD j undef = .bool (bat xs j) := by
  simp [bo, bat, List.getD, List.getElem?_eq_getElem h]
theorem bo_set (xs : List Bool) (j : Nat) (x : Bool) : (bo xs).set j (.bool x) = bo (xs.set j x) := by simp [bo, List.map_set]
theorem bo_rep (n : Nat) : List.replicate n (Value.bool false) = bo (List.replicate n false) := by simp [bo]
theorem bat_set {xs : List Bool} {i j : Nat} {x : Bool} (h : i < xs.length) : bat (xs.set i x) j = if i = j then x else bat xs j := by
  unfold bat
  rw [List.getD_eq_getElem?_getD, List.getElem?_set]
  split
  · rename_i e; subst e; simp [h]
  · simp
theorem bat_rep (n j : Nat) : bat (List.replicate n false) j = false := by
  unfold bat
  rw [List.getD_eq_getElem?_getD, List.getElem?_replicate]; split <;> rfl
def RdO (w : World) (v : Value) (xs : List Bool) : Prop := Rd w v (bo xs)
theorem Tryz.info_o : (Tryz.prog.info? 4).map (fun i => (i.zero, i.size, i.bytes)) = some (some (.bool false), 1, 1) := by kernel_rfl
theorem Tryz.size_o : (Tryz.prog.info? 4).map (·.size) = some 1 := by kernel_rfl
theorem Tryz.und_os : Tryz.prog.underlying 77 = some (.slice 4) := by kernel_rfl
section
variable {w w' : World} {v : Value} {xs : List Bool}
theorem RdO.le (h : RdO w v xs) : xs.length ≤ 9223372036854775807 := by have := h.sl.le; rwa [bo_len] at this
theorem RdO.len (h : RdO w v xs) (ty : TypeId) (W : World) : (Builtin.len_ #[77] ty #[v]).run Tryz.prog W = .ok (.int .i64 xs.length) W := by
  have := run_len_sl (P := Tryz.prog) h.sl 77 ty Tryz.und_os W; rwa [bo_len] at this
theorem RdO.ix (h : RdO w v xs) (k : IntKind) (i : Int) (h0 : 0 ≤ i) (hi : i < xs.length) (W : World) :
    (Instr.indexAt 77 v (.int k i)).run Tryz.prog W = .ok (.pointer (some (el v i.toNat))) W :=
  run_ix_sl (P := Tryz.prog) h.sl 77 Tryz.und_os Tryz.size_o k i h0 (by rw [bo_len]; exact hi) W
theorem RdO.ixe (h : RdO w v xs) (i : Int) (j : Nat) (hij : i = (j : Int)) (hj : j < xs.length) (W : World) :
    (Instr.indexAt 77 v (.int .i64 i)).run Tryz.prog W = .ok (.pointer (some (el v j))) W := by
  have := h.ix .i64 i (by omega) (by omega) W
  rwa [hij, Int.toNat_natCast, ← hij] at this
theorem RdO.cell (h : RdO w v xs) (j : Nat) (hj : j < xs.length) : w.cell? (el v j) = some (.bool (bat xs j)) := by
  rw [Rd.cell h (by rw [bo_len]; exact hj), bo_get hj]
theorem RdO.keep (h : RdO w v xs) (hb : Below w.heap.size w w') : RdO w' v xs := Rd.keep h hb
end
theorem St.rdO {B : Nat} {w0 w : World} {L : List Ent} (h : St B w0 w L) (i : Nat) {e : TypeId} {v : Value} {xs : List Bool} (hi : L[i]? = some (row e v (bo xs))) : RdO w v xs := h.rd i hi
section
variable {ops : Array Oper} {rest : List Oper} {o : Oper} {a : Act} {Q : Exit → Act → World → Prop} {B : Nat} {w0 w : World} {L : List Ent}
/-- a store into an owned row of truth values -/
theorem stoO (hS : St B w0 w L) (i : Nat) {v : Value} {xs : List Bool} (hi : L[i]? = some (row 4 v (bo xs))) (j : Nat) (hj : j < xs.length) (hg : o.guard = none) (x y : Operand)
    (hop : o.op = .store 4 x y) (hx : a.eval x = .pointer (some (el v j))) (n : Bool) (hy : a.eval y = .bool n)
    (hK : ∀ w', St B w0 w' (L.set i (row 4 v (bo (xs.set j n)))) → wpList Tryz.prog ops Q rest (a.put o.dst undef) w') :
    wpList Tryz.prog ops Q (o :: rest) a w :=
  wpList_st_store hg x y 4 hop Tryz.size_o hS i hi j (by rw [bo_len]; exact hj) (.bool n) hx hy rfl rfl (fun w' h => hK w' (by rw [← bo_set]; exact h))
/-- make([]bool, n) -/
theorem mkO (hS : St B w0 w L) (hg : o.guard = none) (x y : Operand) (hop : o.op = .makeSlice 77 x y) (kl kc : IntKind) (n : Nat) (hx : a.eval x = .int kl n) (hy : a.eval y = .int kc n) (hN : n ≤ 4294967296)
    (hK : ∀ v' w', St B w0 w' (L ++ [row 4 v' (bo (List.replicate n false))]) → wpList Tryz.prog ops Q rest (a.put o.dst v') w') :
    wpList Tryz.prog ops Q (o :: rest) a w :=
  wpList_st_make hg x y 77 hop 4 (.bool false) 1 Tryz.und_os Tryz.info_o rfl hS kl kc n hx hy (by omega) hN (fun v' w' h => hK v' w' (by rw [← bo_rep]; exact h))
end
end Go.Proofs.YtgflhgkcmfjkgaaGreat
end

section
/- Walks: binary search among rows, a class of blocks, a resolution, of the program. -/
namespace Go.Proofs.YtgflhgkcmfjkgaaGreat
set_option linter.unusedSimpArgs false
set_option linter.unusedVariables false
open Go.RowKit
attribute [local go_sem ↓] Go.wp_at_zero Go.wp_at_succ

theorem IndexO_c (v : Value) (xs : List Bool) (w : World) (hv : RdO w v xs) (ha : ∀ j, j < xs.length → bat xs j = true) :
    Calls Tryz.prog 111 #[v, .bool false] w fun e w' => e = .returned (.int .i64 (-1)) ∧ w = w' := by
  have hln := hv.len
  have hix := hv.ixe
  have hle := hv.le
  have HA := Lib.hid ha
  clear ha
  go_enter Tryz.func111, Tryz.ntmps111
  go_wp2_with fail
  go_loopw [8, 5] (fun i _ wr => ∃ k : Nat, k ≤ xs.length ∧ i = .int .i64 k ∧ w = wr) (fun i _ _ => xs.length - (intOf i).toNat)
  case atStart => exact ⟨0, by omega, rfl, rfl⟩
  case round =>
    obtain ⟨k, hk, rfl, rfl⟩ := hrel
    by_cases hlt : k < xs.length
    · have hx := hix (k : Int) k rfl hlt
      have hc := hv.cell k hlt
      rw [HA.out k hlt] at hc
      go_wp2_with fail
      go_roundw
      case rel => exact ⟨k + 1, by omega, by go_num, by first | trivial | rfl⟩
      case measure => simp [intOf]; omega
    · obtain rfl : k = xs.length := by omega
      go_wp2_with fail
      go_ret
      exact ⟨rfl, rfl⟩
theorem ContainsO_c (v : Value) (xs : List Bool) (w : World) (hv : RdO w v xs) (ha : ∀ j, j < xs.length → bat xs j = true) :
    Calls Tryz.prog 117 #[v, .bool false] w fun e w' => e = .returned (.bool false) ∧ w = w' := by
  have K := IndexO_c v xs w hv ha
  go_enter Tryz.func117, Tryz.ntmps117
  go_wp2_with fail
  refine K.mono ?_
  rintro e w1 ⟨rfl, hw⟩
  subst hw
  go_wp2_with fail
  go_ret
  exact ⟨rfl, rfl⟩

/-- which points are covered -/
structure CV (n : Nat) (T : List Int) (P : List Bool) : Prop where
  len : P.length = n
  el : ∀ x : Nat, x < n → bat P x = decide ((x : Int) ∈ T)
theorem CV.nil (n : Nat) : CV n [] (List.replicate n false) := ⟨by simp, fun x _ => by rw [bat_rep]; simp⟩
theorem CV.snoc {n : Nat} {T : List Int} {P : List Bool} (h : CV n T P) {a : Nat} (ha : a < n) : CV n (T ++ [(a : Int)]) (P.set a true) := by
  refine ⟨by simp [h.len], fun x hx => ?_⟩
  rw [bat_set (by rw [h.len]; exact ha), h.el x hx]
  by_cases e : a = x
  · subst e; simp
  · rw [if_neg e]
    have : ((x : Int) ∈ T ++ [(a : Int)]) ↔ (x : Int) ∈ T := by
      simp only [List.mem_append, List.mem_singleton]
      constructor
      · rintro (h | h)
        · exact h
        · omega
      · exact .inl
    simp only [this]
/-- the points ahead of place j of block k -/
def cvd (q : List (List Int)) (k j : Nat) : List Int := (q.take k).flatten ++ (xat q k).take j
theorem cvd_snoc {q : List (List Int)} {k j : Nat} (hj : j < (xat q k).length) : cvd q k (j + 1) = cvd q k j ++ [nth (xat q k) j] := by
  rw [cvd, List.take_succ_eq_append_getElem hj, ← List.append_assoc, nth_eq hj]; rfl
theorem cvd_next {q : List (List Int)} {k : Nat} (hk : k < q.length) : cvd q (k + 1) 0 = cvd q k (xat q k).length := by
  rw [cvd, take_xat hk]; simp [cvd]
theorem cvd_end (q : List (List Int)) : cvd q q.length 0 = q.flatten := by simp [cvd]
theorem cvd_pre {q : List (List Int)} {k j : Nat} (hk : k < q.length) (hj : j < (xat q k).length) : ∃ t, q.flatten = cvd q k j ++ [nth (xat q k) j] ++ t := by
  rw [← cvd_snoc hj]
  refine ⟨(xat q k).drop (j + 1) ++ (q.drop (k + 1)).flatten, ?_⟩
  rw [cvd, List.append_assoc, ← List.append_assoc ((xat q k).take (j + 1)), List.take_append_drop, ← List.flatten_cons, ← drop_xat hk, ← List.flatten_append, List.take_append_drop]
set_option maxHeartbeats 8000000 in
set_option maxRecDepth 100000 in
theorem isClass_c (n : Nat) (v vc : Value) (us : List Value) (A q : List (List Int)) (xs : List Int) (w : World) (hn : n ≤ 32) (hv : RII w v us A) (hc : RdI w vc xs) (hA : A.length ≤ 128) (hl : xs.length = q.length)
    (hxs : ∀ j, j < q.length → ∃ i : Nat, nth xs j = i ∧ i < A.length ∧ xat A i = xat q j) (hinc : ∀ j, j + 1 < q.length → nth xs j < nth xs (j + 1))
    (hnd : q.flatten.Nodup) (hin : ∀ x ∈ q.flatten, 0 ≤ x ∧ x < n) (hall : ∀ x : Nat, x < n → (x : Int) ∈ q.flatten) :
    Calls Tryz.prog 44 #[dv n v, vc] w (GivesB w true) := by
  obtain ⟨a, c, hsh⟩ := hv.1.sl.sh
  rw [hv.2.1] at hsh
  subst hsh
  have hlc := hc.len
  have hic := hc.ixe
  have hlec := hc.le
  rw [hl] at hlc hlec
  have hS1 := (St.refl w).newboxF 26 #[.int .i64 n, .slice a A.length c]
  simp only [List.nil_append] at hS1
  have b0 := hS1.bcell 0 rfl 0 rfl
  have b1 := hS1.bcell 0 rfl 1 rfl
  have HX := Lib.hid hxs
  have HI := Lib.hid hinc
  have HP := fun k j hk hj => Lib.hid (cvd_pre (q := q) (k := k) (j := j) hk hj)
  have HN := Lib.hid hnd
  have HB := Lib.hid hin
  have HA := Lib.hid hall
  have hlA := hv.len
  have hiA := hv.ixe
  have HS := fun W h => Lib.hid (szII_c (.slice a A.length c) us A W h)
  clear hxs hinc hnd hin hall
  unfold dv
  go_enter Tryz.func44, Tryz.ntmps44
  go_wp2_with (refine mkO hS1 rfl _ _ rfl .i64 .i64 n rfl rfl (by omega) ?_; intro vp w2 hS2)
  have hS2 := hS2.perm (L' := row 4 vp (bo (List.replicate n false)) :: [box 26 w.heap.size [.int .i64 n, .slice a A.length c]]) List.perm_append_comm
  clear b0 b1 hS1
  go_loopw [16, 6, 8, 10] (fun i l _ _ wr => ∃ (k : Nat) (z : Int) (P : List Bool), k ≤ q.length ∧ i = .int .i64 k ∧ l = .int .i64 z ∧ (-1 ≤ z ∧ z ≤ 128) ∧ Hid ((k = 0 → z = -1) ∧ (0 < k → z = nth xs (k - 1)) ∧ CV n (cvd q k 0) P) ∧ St w.heap.size w wr (row 4 vp (bo P) :: [box 26 w.heap.size [.int .i64 n, .slice a A.length c]])) (fun i _ _ _ _ => q.length - (intOf i).toNat)
  case atStart => exact ⟨0, -1, _, by omega, rfl, rfl, by omega, ⟨fun _ => rfl, fun h => by omega, CV.nil n⟩, hS2⟩
  case round =>
    clear hS2
    obtain ⟨k, z, P, hk, rfl, rfl, hz, hI, hS⟩ := hrel
    by_cases hlt : k < q.length
    · obtain ⟨i, hi1, hi2, hi3⟩ := HX.out k hlt
      have hzi : z < i := by
        by_cases e : k = 0
        · have := hI.out.1 e; omega
        · have h1 := hI.out.2.1 (by omega)
          have h2 := HI.out (k - 1) (by omega)
          rw [show k - 1 + 1 = k by omega, hi1] at h2
          omega
      have hx := hic (k : Int) k rfl (by omega)
      have hcx := (hS.oldI hc).cell k (by omega)
      rw [hi1] at hcx
      have b1 := hS.bcell 1 rfl 1 rfl
      have KS := HS _ (hS.oldII hv)
      have hW := within_c (i : Int) (z + 1) ((A.length : Int) - 1)
      rw [inB_true (by omega)] at hW
      have hxi := hiA (i : Int) i rfl hi2
      have hci := (hS.oldII hv).cell i hi2
      have hri := hv.row i hi2
      have hlr := hri.len
      have hir := hri.ixe
      have hler := hri.le
      rw [hi3] at hlr hir hler
      have Hi3 := Lib.hid hi3
      have Hi1 := Lib.hid hi1
      clear hri hi3 hi1
      go_wp2_with (first
        | (go_at_call 47; refine KS.out.mono ?_; rintro e2 w4 ⟨rfl, hw4⟩; subst hw4)
        | (go_at_call 72; refine (hW _).mono ?_; rintro e2 w4 ⟨rfl, hw4⟩; subst hw4))
      go_loopw [36, 10] (fun i _ wr => ∃ (j : Nat) (P : List Bool), j ≤ (xat q k).length ∧ i = .int .i64 j ∧ Hid (CV n (cvd q k j) P) ∧ St w.heap.size w wr (row 4 vp (bo P) :: [box 26 w.heap.size [.int .i64 n, .slice a A.length c]])) (fun i _ _ => (xat q k).length - (intOf i).toNat)
      case atStart => exact ⟨0, P, by omega, rfl, hI.out.2.2, hS⟩
      case round =>
        clear hS
        obtain ⟨j, P, hj, rfl, hJ, hS⟩ := hrel
        by_cases hjt : j < (xat q k).length
        · obtain ⟨t, ht⟩ := (HP k j hlt hjt).out
          have hy := HB.out (nth (xat q k) j) (by rw [ht]; simp)
          have hny : nth (xat q k) j ∉ cvd q k j := by
            have := HN.out
            rw [ht] at this
            have := (List.nodup_append.1 (List.nodup_append.1 this).1).2.2
            intro hm
            exact this _ hm _ (by simp) rfl
          obtain ⟨y, hyy⟩ := Int.eq_ofNat_of_zero_le hy.1
          have hyn : y < n := by omega
          have hlP := hJ.out.len
          have hr := (hS.oldII hv).row i hi2
          rw [Hi3.out] at hr
          have hcj := hr.cell j hjt
          have hxj := hir (j : Int) j rfl hjt
          rw [hyy] at hcj
          have rP := hS.rdO 0 (e := 4) rfl
          have hcy := rP.cell y (by omega)
          have hxy := rP.ixe (y : Int) y rfl (by omega)
          rw [hJ.out.el y hyn, ← hyy, decide_eq_false hny] at hcy
          have HC := Lib.hid (cvd_snoc hjt)
          rw [hyy] at HC
          have HlP := Lib.hid hlP
          clear ht hny hy hyy hr rP hlP
          go_wp2_with (refine stoO hS 0 rfl y (by rw [HlP.out]; exact hyn) rfl _ _ rfl rfl true rfl ?_; intro w5 hS5; simp only [List.set_cons_zero] at hS5)
          go_roundw
          case rel => exact ⟨j + 1, _, by omega, by go_num, by rw [HC.out]; exact hJ.out.snoc hyn, hS5⟩
          case measure => simp [intOf]; omega
        · obtain rfl : j = (xat q k).length := by omega
          go_wp2_with fail
          go_roundw
          case rel => exact ⟨k + 1, i, P, by omega, by go_num, rfl, by omega, ⟨fun h => by omega, fun _ => by rw [Nat.add_sub_cancel]; exact Hi1.out.symm, by rw [cvd_next hlt]; exact hJ.out⟩, hS⟩
          case measure => simp [intOf]; omega
    · obtain rfl : k = q.length := by omega
      have rP := hS.rdO 0 (e := 4) rfl
      have KC := Lib.hid (ContainsO_c vp P _ rP (fun j hj => by
        have h1 := hI.out.2.2.el j (by rw [← hI.out.2.2.len]; exact hj)
        rw [h1, cvd_end]
        exact decide_eq_true (HA.out j (by rw [← hI.out.2.2.len]; exact hj))))
      go_wp2_with (go_at_call 117; refine KC.out.mono ?_; rintro e2 w4 ⟨rfl, hw4⟩; subst hw4)
      go_ret
      exact ⟨rfl, hS.out⟩
/-- a resolution: the numbers of the blocks of each class -/
structure ResH (n : Nat) (A : List (List Int)) (R : List (List (List Int))) (X : List (List Int)) : Prop where
  n32 : n ≤ 32
  ok : dOk n A = true
  len : X.length = R.length
  rl : ∀ r, r < R.length → (xat X r).length = (x3at R r).length
  ix : ∀ r, r < R.length → ∀ j, j < (x3at R r).length → ∃ i : Nat, nth (xat X r) j = i ∧ i < A.length ∧ xat A i = xat (x3at R r) j
  inc : ∀ r, r < R.length → ∀ j, j + 1 < (x3at R r).length → nth (xat X r) j < nth (xat X r) (j + 1)
  nd : ∀ r, r < R.length → (x3at R r).flatten.Nodup
  rin : ∀ r, r < R.length → ∀ x ∈ (x3at R r).flatten, 0 ≤ x ∧ x < n
  all : ∀ r, r < R.length → ∀ x : Nat, x < n → (x : Int) ∈ (x3at R r).flatten
  srt : srt X.flatten = idn A.length
set_option maxHeartbeats 8000000 in
set_option maxRecDepth 100000 in
theorem ValidResolution_c (n : Nat) (v vc : Value) (us uc : List Value) (A X : List (List Int)) (R : List (List (List Int))) (w : World) (h : ResH n A R X) (hv : RII w v us A) (hc : RII w vc uc X) :
    Calls Tryz.prog 10 #[dv n v, vc] w (GivesB w true) := by
  obtain ⟨a, c, hsh⟩ := hv.1.sl.sh
  rw [hv.2.1] at hsh
  subst hsh
  have hlc := hc.len
  have hic := hc.ixe
  have hlec := hc.le
  have hA128 := (dOk_t h.ok).len
  have hS1 := ((St.refl w).newboxF 26 #[.int .i64 n, .slice a A.length c]).newnil 2
  have hS1 := hS1.perm (L' := row 2 (.slice none 0 0) (iv []) :: [box 26 w.heap.size [.int .i64 n, .slice a A.length c]]) List.perm_append_comm
  have H := Lib.hid h
  have KV := fun W hW => Lib.hid (ValidDesign_c n (.slice a A.length c) us A W hW)
  have HS := fun W h => Lib.hid (szII_c (.slice a A.length c) us A W h)
  have HI := fun W => Lib.hid (identity_c A.length W (by omega))
  have HC := fun r W (hr : r < R.length) (hW : RII W (.slice a A.length c) us A) (hx : RdI W (vat uc r) (xat X r)) => Lib.hid (isClass_c n (.slice a A.length c) (vat uc r) us A (x3at R r) (xat X r) W h.n32 hW hx hA128 (h.rl r hr) (h.ix r hr) (h.inc r hr) (h.nd r hr) (h.rin r hr) (h.all r hr))
  have hXt : tot X ≤ 128 := by
    have h1 := congrArg List.length h.srt
    rw [srt_len, idn_len] at h1
    have : ∀ X : List (List Int), tot X = X.flatten.length := fun X => by
      induction X with
      | nil => rfl
      | cons x r ih => rw [tot, List.flatten_cons, List.length_append, ih]
    rw [this, h1]; exact hA128
  have hXR := h.len
  rw [h.ok] at KV
  clear h
  have b0 := hS1.bcell 1 rfl 0 rfl
  have b1 := hS1.bcell 1 rfl 1 rfl
  have KV := KV _ (hS1.oldII hv)
  unfold dv at KV HC ⊢
  go_enter Tryz.func10, Tryz.ntmps10
  go_wp2_with (go_at_call 12; refine KV.out.mono ?_; rintro e2 w2 ⟨rfl, h2⟩; have hS2 := hS1.call0 h2)
  clear hS1 b0 b1 KV
  go_loopw [13, 5, 7] (fun i all _ wr => ∃ (k : Nat) (v2 : Value), v2 = all ∧ k ≤ X.length ∧ i = .int .i64 k ∧ St w.heap.size w wr (row 2 v2 (iv (X.take k).flatten) :: [box 26 w.heap.size [.int .i64 n, .slice a A.length c]])) (fun i _ _ _ => X.length - (intOf i).toNat)
  case atStart => exact ⟨0, _, rfl, by omega, rfl, hS2⟩
  case round =>
    clear hS2
    obtain ⟨k, v2, rfl, hk, rfl, hS⟩ := hrel
    have b0 := hS.bcell 1 rfl 0 rfl
    have b1 := hS.bcell 1 rfl 1 rfl
    by_cases hlt : k < X.length
    · have hx := hic (k : Int) k rfl hlt
      have hck := (hS.oldII hc).cell k hlt
      have KC := HC k _ (by omega) (hS.oldII hv) ((hS.oldII hc).row k hlt)
      have hN := Lib.hid (show (X.take k).flatten.length + (xat X k).length ≤ 4294967296 by
        have e : (X.take k).flatten.length + (xat X k).length = (X.take (k + 1)).flatten.length := by rw [take_xat hlt]; simp
        have h2 : (X.take (k + 1)).flatten.length ≤ tot X := by
          have h3 : ∀ X : List (List Int), tot X = X.flatten.length := fun X => by
            induction X with
            | nil => rfl
            | cons x r ih => rw [tot, List.flatten_cons, List.length_append, ih]
          rw [h3]
          conv => rhs; rw [← List.take_append_drop (k + 1) X, List.flatten_append, List.length_append]
          omega
        omega)
      have HT := Lib.hid (show (X.take (k + 1)).flatten = (X.take k).flatten ++ xat X k by rw [take_xat hlt]; simp)
      go_wp2_with (first
        | (at_builtin; refine appsI hS4 0 rfl _ _ hr4.out hN.out rfl _ _ rfl rfl rfl ?_; intro v5 w5 hS5; simp only [List.set_cons_zero] at hS5)
        | (go_at_call 44; refine KC.out.mono ?_; rintro e2 w4 ⟨rfl, h4⟩; have hS4 := hS.call0 h4; have hr4 := Lib.hid ((hS4.oldII hc).row k hlt)))
      go_roundw
      case rel => exact ⟨k + 1, v5, rfl, by omega, by go_num, by rw [HT.out]; exact hS5⟩
      case measure => simp [intOf]; omega
    · obtain rfl : k = X.length := by omega
      rw [List.take_length] at hS
      have HT := Lib.hid (show X.flatten.length < 4611686018427387904 by
        have h3 : ∀ X : List (List Int), tot X = X.flatten.length := fun X => by
          induction X with
          | nil => rfl
          | cons x r ih => rw [tot, List.flatten_cons, List.length_append, ih]
        rw [← h3]; omega)
      have Hs := Lib.hid H.out.srt
      go_wp2_with (first
        | (go_at_call 45; refine (Equal_c _ _ _ _ _ (hS6.rdI 0 rfl) (hS6.rdI 2 rfl)).mono ?_; rw [Hs.out, decide_eq_true rfl]; rintro e2 w7 ⟨rfl, h7⟩; have hS7 := hS6.call0 h7)
        | (go_at_call 46; refine (HI _).out.mono ?_; rintro e2 w6 ⟨v6, rfl, h6⟩; have hS6 := hS5.call h6)
        | (go_at_call 47; refine (HS _ (hS5.oldII hv)).out.mono ?_; rintro e2 w4 ⟨rfl, hw4⟩; subst hw4)
        | (go_at_call 43; refine (Sort_c hS 0 rfl HT.out).mono ?_; rintro e2 w5 ⟨rfl, hS5⟩; simp only [List.set_cons_zero] at hS5; have b0 := hS5.bcell 1 rfl 0 rfl; have b1 := hS5.bcell 1 rfl 1 rfl))
      go_ret
      exact ⟨rfl, hS7.out⟩
end Go.Proofs.YtgflhgkcmfjkgaaGreat
end

section
/- Plain: affine planes of fields, orders of planes, classes of parallel lines, completed planes (by kernel check for the orders 2 to 5). -/
namespace Go.Proofs.YtgflhgkcmfjkgaaGreat
set_option linter.unusedSimpArgs false
set_option linter.unusedVariables false

/-- a line that is not vertical -/
def lnS (q m b : Nat) : List Int := (List.range q).map fun x : Nat => (q : Int) * x + fsum (mkfP q) (mkfD q).toNat (fmul (mkfP q) (mkfD q).toNat (mkfL q) m x) b 1
def lnV (q m : Nat) : List Int := (List.range q).map fun x : Nat => (q : Int) * m + x
def apU (q : Nat) : List (List Int) := (List.range q).flatMap fun m => lnV q m :: (List.range q).map (lnS q m)
def apB (q : Nat) : List (List Int) := srtL (apU q)
/-- the order of a plane -/
def plO (v k : Int → Int) (V K : Int) : Nat → Int → Int
  | 0, _ => 0
  | f + 1, n => if v n ≤ V then (if v n = V ∧ k n = K then n else plO v k V K f (n + 1)) else 0
def afV (n : Int) : Int := n * n
def afK (n : Int) : Int := n
def pjV (n : Int) : Int := n * n + n + 1
def pjK (n : Int) : Int := n + 1
def ordP (v k : Int → Int) (P : Nat) (A : List (List Int)) : Int := if (dOk P A && prmB P A && decide (nth (prmV P A) 4 = 1)) = true then plO v k (nth (prmV P A) 0) (nth (prmV P A) 3) 5 2 else 0
/-- a line is put to those that it does not meet -/
def pcF (A : List (List Int)) (k : Nat) (c : List Int) : Bool := decide ((meB (xat A (nth c 0).toNat) (xat A k)).length = 0)
def pcS (A : List (List Int)) (C : List (List Int)) (k : Nat) : List (List Int) :=
  if idxR (pcF A k) C 0 < 0 then C ++ [[(k : Int)]] else C.set (idxR (pcF A k) C 0).toNat (xat C (idxR (pcF A k) C 0).toNat ++ [(k : Int)])
def pcK (A : List (List Int)) : Nat → List (List Int)
  | 0 => []
  | k + 1 => pcS A (pcK A k) k
/-- a new point on the lines of a class -/
def cmT (x : Int) (B : List (List Int)) (ks : List Int) : Nat → List (List Int)
  | 0 => B
  | j + 1 => (cmT x B ks j).set (nth ks j).toNat (xat (cmT x B ks j) (nth ks j).toNat ++ [x])
def cmK (P : Nat) (A C : List (List Int)) : Nat → List (List Int)
  | 0 => A
  | i + 1 => cmT ((P : Int) + i) (cmK P A C i) (xat C i) (xat C i).length
def nwP (P m : Nat) : List Int := (List.range m).map fun i : Nat => (P : Int) + i
def cmU (P : Nat) (A C : List (List Int)) : List (List Int) := cmK P A C C.length ++ [nwP P C.length]
def cmB (P : Nat) (A C : List (List Int)) : List (List Int) := srtL (cmU P A C)
def apD2 : List (List Int) := [[0, 1], [0, 2], [0, 3], [1, 2], [1, 3], [2, 3]]
def apC2 : List (List Int) := [[0, 5], [1, 4], [2, 3]]
def apE2 : List (List Int) := [[0, 1, 4], [0, 2, 5], [0, 3, 6], [1, 2, 6], [1, 3, 5], [2, 3, 4], [4, 5, 6]]
def apD3 : List (List Int) := [[0, 1, 2], [0, 3, 6], [0, 4, 8], [0, 5, 7], [1, 3, 8], [1, 4, 7], [1, 5, 6], [2, 3, 7], [2, 4, 6], [2, 5, 8], [3, 4, 5], [6, 7, 8]]
def apC3 : List (List Int) := [[0, 10, 11], [1, 5, 9], [2, 6, 7], [3, 4, 8]]
def apE3 : List (List Int) := [[0, 1, 2, 9], [0, 3, 6, 10], [0, 4, 8, 11], [0, 5, 7, 12], [1, 3, 8, 12], [1, 4, 7, 10], [1, 5, 6, 11], [2, 3, 7, 11], [2, 4, 6, 12], [2, 5, 8, 10], [3, 4, 5, 9], [6, 7, 8, 9], [9, 10, 11, 12]]
def apD4 : List (List Int) := [[0, 1, 2, 3], [0, 4, 8, 12], [0, 5, 10, 15], [0, 6, 11, 13], [0, 7, 9, 14], [1, 4, 11, 14], [1, 5, 9, 13], [1, 6, 8, 15], [1, 7, 10, 12], [2, 4, 9, 15], [2, 5, 11, 12], [2, 6, 10, 14], [2, 7, 8, 13], [3, 4, 10, 13], [3, 5, 8, 14], [3, 6, 9, 12], [3, 7, 11, 15], [4, 5, 6, 7], [8, 9, 10, 11], [12, 13, 14, 15]]
def apC4 : List (List Int) := [[0, 17, 18, 19], [1, 6, 11, 16], [2, 5, 12, 15], [3, 8, 9, 14], [4, 7, 10, 13]]
def apE4 : List (List Int) := [[0, 1, 2, 3, 16], [0, 4, 8, 12, 17], [0, 5, 10, 15, 18], [0, 6, 11, 13, 19], [0, 7, 9, 14, 20], [1, 4, 11, 14, 18], [1, 5, 9, 13, 17], [1, 6, 8, 15, 20], [1, 7, 10, 12, 19], [2, 4, 9, 15, 19], [2, 5, 11, 12, 20], [2, 6, 10, 14, 17], [2, 7, 8, 13, 18], [3, 4, 10, 13, 20], [3, 5, 8, 14, 19], [3, 6, 9, 12, 18], [3, 7, 11, 15, 17], [4, 5, 6, 7, 16], [8, 9, 10, 11, 16], [12, 13, 14, 15, 16], [16, 17, 18, 19, 20]]
def apD5 : List (List Int) := [[0, 1, 2, 3, 4], [0, 5, 10, 15, 20], [0, 6, 12, 18, 24], [0, 7, 14, 16, 23], [0, 8, 11, 19, 22], [0, 9, 13, 17, 21], [1, 5, 14, 18, 22], [1, 6, 11, 16, 21], [1, 7, 13, 19, 20], [1, 8, 10, 17, 24], [1, 9, 12, 15, 23], [2, 5, 13, 16, 24], [2, 6, 10, 19, 23], [2, 7, 12, 17, 22], [2, 8, 14, 15, 21], [2, 9, 11, 18, 20], [3, 5, 12, 19, 21], [3, 6, 14, 17, 20], [3, 7, 11, 15, 24], [3, 8, 13, 18, 23], [3, 9, 10, 16, 22], [4, 5, 11, 17, 23], [4, 6, 13, 15, 22], [4, 7, 10, 18, 21], [4, 8, 12, 16, 20], [4, 9, 14, 19, 24], [5, 6, 7, 8, 9], [10, 11, 12, 13, 14], [15, 16, 17, 18, 19], [20, 21, 22, 23, 24]]
def apC5 : List (List Int) := [[0, 26, 27, 28, 29], [1, 7, 13, 19, 25], [2, 8, 14, 20, 21], [3, 9, 15, 16, 22], [4, 10, 11, 17, 23], [5, 6, 12, 18, 24]]
def apE5 : List (List Int) := [[0, 1, 2, 3, 4, 25], [0, 5, 10, 15, 20, 26], [0, 6, 12, 18, 24, 27], [0, 7, 14, 16, 23, 28], [0, 8, 11, 19, 22, 29], [0, 9, 13, 17, 21, 30], [1, 5, 14, 18, 22, 30], [1, 6, 11, 16, 21, 26], [1, 7, 13, 19, 20, 27], [1, 8, 10, 17, 24, 28], [1, 9, 12, 15, 23, 29], [2, 5, 13, 16, 24, 29], [2, 6, 10, 19, 23, 30], [2, 7, 12, 17, 22, 26], [2, 8, 14, 15, 21, 27], [2, 9, 11, 18, 20, 28], [3, 5, 12, 19, 21, 28], [3, 6, 14, 17, 20, 29], [3, 7, 11, 15, 24, 30], [3, 8, 13, 18, 23, 26], [3, 9, 10, 16, 22, 27], [4, 5, 11, 17, 23, 27], [4, 6, 13, 15, 22, 28], [4, 7, 10, 18, 21, 29], [4, 8, 12, 16, 20, 30], [4, 9, 14, 19, 24, 26], [5, 6, 7, 8, 9, 25], [10, 11, 12, 13, 14, 25], [15, 16, 17, 18, 19, 25], [20, 21, 22, 23, 24, 25], [25, 26, 27, 28, 29, 30]]
def apD : Nat → List (List Int)
  | 2 => apD2
  | 3 => apD3
  | 4 => apD4
  | _ => apD5
def apC : Nat → List (List Int)
  | 2 => apC2
  | 3 => apC3
  | 4 => apC4
  | _ => apC5
def apE : Nat → List (List Int)
  | 2 => apE2
  | 3 => apE3
  | 4 => apE4
  | _ => apE5
set_option maxRecDepth 1000000
theorem ap_lit : ∀ q ∈ ([2, 3, 4, 5] : List Nat), mkOk q = true ∧ apB q = apD q := by decide +kernel
theorem ap_cls : ∀ q ∈ [2, 3, 4, 5], pcK (apD q) (apD q).length = apC q := by decide +kernel
theorem ap_cmp : ∀ q ∈ [2, 3, 4, 5], cmB (q * q) (apD q) (apC q) = apE q := by decide +kernel
/-- the classes are a resolution -/
def clsT (A C : List (List Int)) : List (List (List Int)) := C.map fun c => c.map fun k => xat A k.toNat
def upB : List Int → Bool
  | a :: b :: r => decide (a < b) && upB (b :: r)
  | _ => true
def rsC (n : Nat) (A C : List (List Int)) : Bool :=
  C.all (fun c => c.all (fun k => decide (0 ≤ k) && decide (k < A.length)) && decide (0 < c.length) && upB c && decide ((c.map fun k => xat A k.toNat).flatten.Nodup) &&
    (c.map fun k => xat A k.toNat).flatten.all (fun x => decide (0 ≤ x) && decide (x < n)) && (List.range n).all fun (x : Nat) => (c.map fun k => xat A k.toNat).flatten.contains (x : Int)) && C.flatten.isPerm (idn A.length)
/-- what the law asks of a plane and its completion -/
def plC1 (q : Nat) (A C : List (List Int)) : Bool :=
  dOk (q * q : Nat) A && prmB (q * q) A && decide (prmV (q * q) A = [((q * q : Nat) : Int), ((q * q + q : Nat) : Int), ((q + 1 : Nat) : Int), (q : Int), 1]) && decide (ordP afV afK (q * q) A = q) && decide (C.length = q + 1) && rsC (q * q) A C
def plC2 (q k : Nat) (A E : List (List Int)) : Bool :=
  dOk (q * q + (q + 1) : Nat) E && decide (ordP pjV pjK (q * q + (q + 1)) E = q) && decide (k < E.length) && decide (xat E k = nwP (q * q) (q + 1)) && decide (E.length ≤ 32) &&
  ((List.range k).all fun j => decide (xat E j ≠ nwP (q * q) (q + 1))) &&
  ((List.range E.length).all fun j => decide (j = k) || decide (rsB (xat E j) (cplB (q * q + (q + 1)) (xat E k)) ≠ [])) && decide (cplB (q * q + (q + 1)) (xat E k) ≠ []) && decide ((cplB (q * q + (q + 1)) (xat E k)).length = q * q) &&
  decide (srtL (resR E k (cplB (q * q + (q + 1)) (xat E k)) E.length) = A)
theorem ap_c1 : ∀ q ∈ [2, 3, 4, 5], plC1 q (apD q) (apC q) = true := by decide +kernel
theorem ap_c2 : ∀ q ∈ [2, 3, 4, 5], plC2 q ((apE q).idxOf (nwP (q * q) (q + 1))) (apD q) (apE q) = true := by decide +kernel
theorem ap_few : ∀ q ∈ [2, 3, 4, 5], (apU q).length ≤ 128 := by decide +kernel
end Go.Proofs.YtgflhgkcmfjkgaaGreat
end

section
/- Latin squares as lists of lists, their isotopes. In plain terms. -/
namespace Go.Proofs.YtgflhgkcmfjkgaaGreat
set_option linter.unusedSimpArgs false
set_option linter.unusedVariables false
/-- the entry of a place -/
def at2 (A : List (List Int)) (x y : Nat) : Int := nth (xat A x) y
/-- a square of n rows and columns -/
structure Sqr (n : Nat) (A : List (List Int)) : Prop where
  len : A.length = n
  row : ∀ x, x < n → (xat A x).length = n
/-- its entries are below n -/
structure Sq0 (n : Nat) (A : List (List Int)) : Prop extends Sqr n A where
  el : ∀ x y, x < n → y < n → 0 ≤ at2 A x y ∧ at2 A x y < n
def colL (A : List (List Int)) (y : Nat) : List Int := A.map fun r => nth r y
theorem colL_len (A : List (List Int)) (y : Nat) : (colL A y).length = A.length := by simp [colL]
theorem nth_colL {A : List (List Int)} {y x : Nat} (h : x < A.length) : nth (colL A y) x = at2 A x y := by simp [colL, nth, at2, xat, h]
/-- a Latin square of at most 10 rows -/
structure Lat (A : List (List Int)) : Prop where
  pos : 1 ≤ A.length
  le : A.length ≤ 10
  len : ∀ x, x < A.length → (xat A x).length = A.length
  row : ∀ x, x < A.length → IsP (xat A x)
  col : ∀ y, y < A.length → IsP (colL A y)
theorem sq_ext {n : Nat} {A B : List (List Int)} (hA : Sqr n A) (hB : Sqr n B) (h : ∀ x y, x < n → y < n → at2 A x y = at2 B x y) : A = B := by
  apply List.ext_getElem (hA.len.trans hB.len.symm)
  intro x h1 h2
  have hx : x < n := by rw [← hA.len]; exact h1
  have e1 : A[x] = xat A x := by simp [xat, h1]
  have e2 : B[x] = xat B x := by simp [xat, h2]
  rw [e1, e2]
  refine nth_ext (by rw [hA.row x hx, hB.row x hx]) fun y hy => h x y hx (by rw [← hA.row x hx]; exact hy)
theorem sq_ext2 {n : Nat} {A B : List (List Int)} {r c : List Int} (hr : IsP r) (hc : IsP c) (hrl : r.length = n) (hcl : c.length = n) (hA : Sqr n A) (hB : Sqr n B)
    (h : ∀ x y, x < n → y < n → at2 A (pf r x) (pf c y) = at2 B (pf r x) (pf c y)) : A = B := by
  refine sq_ext hA hB fun x y hx hy => ?_
  obtain ⟨x', hx', rfl⟩ := hr.bij.onto (y := x) (by omega)
  obtain ⟨y', hy', rfl⟩ := hc.bij.onto (y := y) (by omega)
  exact h x' y' (by omega) (by omega)
theorem at2_sqF {n : Nat} {f : Nat → Nat → Int} {x y : Nat} (hx : x < n) (hy : y < n) : at2 (sqF n f) x y = f x y := by
  unfold at2; rw [xat_sqF hx]; simp [tab, nth, hy]
theorem sqF_sqr (n : Nat) (f : Nat → Nat → Int) : Sqr n (sqF n f) := ⟨sqF_len n f, fun x hx => by rw [xat_sqF hx, tab_len]⟩
/-- one entry anew -/
def putS (S : List (List Int)) (x y : Nat) (v : Int) : List (List Int) := S.set x ((xat S x).set y v)
theorem xat_putS {n : Nat} {S : List (List Int)} (h : Sqr n S) {x : Nat} (hx : x < n) (y : Nat) (v : Int) (t : Nat) : xat (putS S x y v) t = if x = t then (xat S x).set y v else xat S t := by
  unfold putS xat
  rw [List.getD_eq_getElem?_getD, List.getElem?_set]
  split
  · rename_i e; subst e; rw [if_pos (by rw [h.len]; exact hx)]; rfl
  · simp
theorem putS_sqr {n : Nat} {S : List (List Int)} (h : Sqr n S) {x : Nat} (hx : x < n) (y : Nat) (v : Int) : Sqr n (putS S x y v) := by
  refine ⟨by unfold putS; rw [List.length_set]; exact h.len, fun t ht => ?_⟩
  rw [xat_putS h hx]
  split
  · rw [List.length_set]; exact h.row x hx
  · exact h.row t ht
theorem at2_putS {n : Nat} {S : List (List Int)} (h : Sqr n S) {x y : Nat} (hx : x < n) (hy : y < n) (v : Int) (t u : Nat) : at2 (putS S x y v) t u = if x = t ∧ y = u then v else at2 S t u := by
  unfold at2
  rw [xat_putS h hx]
  by_cases e : x = t
  · subst e
    rw [if_pos rfl, nth_set (by rw [h.row x hx]; exact hy)]
    by_cases e2 : y = u
    · rw [if_pos e2, if_pos ⟨rfl, e2⟩]
    · rw [if_neg e2, if_neg fun h => e2 h.2]
  · rw [if_neg e, if_neg fun h => e h.1]
/-! ### isotopes -/
def isoL (A : List (List Int)) (r c s : List Int) : List (List Int) := sqF A.length fun x y => nth s (at2 A (pf (invL r) x) (pf (invL c) y)).toNat
theorem pf_invL {xs : List Int} (h : IsP xs) {j : Nat} (hj : j < xs.length) : pf (invL xs) (pf xs j) = j := by unfold pf; rw [show nth (invL xs) (nth xs j).toNat = j from nth_invL h hj]; rfl
theorem isoL_sqr (A : List (List Int)) (r c s : List Int) : Sqr A.length (isoL A r c s) := sqF_sqr _ _
theorem isoL_at {A : List (List Int)} {r c s : List Int} (hr : IsP r) (hc : IsP c) (hrl : r.length = A.length) (hcl : c.length = A.length) {x y : Nat} (hx : x < A.length) (hy : y < A.length) :
    at2 (isoL A r c s) (pf r x) (pf c y) = nth s (at2 A x y).toNat := by
  have h1 : pf r x < A.length := by rw [← hrl]; exact hr.pf_lt (by omega)
  have h2 : pf c y < A.length := by rw [← hcl]; exact hc.pf_lt (by omega)
  unfold isoL
  rw [at2_sqF h1 h2, pf_invL hr (by omega), pf_invL hc (by omega)]
/-- the isotope, made as far as place y of row x -/
structure IsoP (A : List (List Int)) (r c s : List Int) (x y : Nat) (S : List (List Int)) : Prop where
  sqr : Sqr A.length S
  at' : ∀ x' y', x' < A.length → y' < A.length → (x' < x ∨ x' = x ∧ y' < y) → at2 S (pf r x') (pf c y') = nth s (at2 A x' y').toNat
section
variable {A : List (List Int)} {r c s : List Int}
theorem IsoP.start : IsoP A r c s 0 0 (sqF A.length fun _ _ => 0) := ⟨sqF_sqr _ _, fun _ _ _ _ h => by omega⟩
theorem IsoP.step (hr : IsP r) (hc : IsP c) (hrl : r.length = A.length) (hcl : c.length = A.length) {x y : Nat} {S : List (List Int)} (h : IsoP A r c s x y S) (hx : x < A.length) (hy : y < A.length) :
    IsoP A r c s x (y + 1) (putS S (pf r x) (pf c y) (nth s (at2 A x y).toNat)) := by
  have h1 : pf r x < A.length := by rw [← hrl]; exact hr.pf_lt (by omega)
  have h2 : pf c y < A.length := by rw [← hcl]; exact hc.pf_lt (by omega)
  refine ⟨putS_sqr h.sqr h1 _ _, fun x' y' hx' hy' hl => ?_⟩
  rw [at2_putS h.sqr h1 h2]
  split
  · rename_i e
    rw [hr.bij.inj x x' (by omega) (by omega) e.1, hc.bij.inj y y' (by omega) (by omega) e.2]
  · rename_i e
    refine h.at' x' y' hx' hy' ?_
    rcases hl with hl | ⟨rfl, hl⟩
    · exact .inl hl
    · refine .inr ⟨rfl, ?_⟩
      by_cases e2 : y' = y
      · subst e2; exact absurd ⟨rfl, rfl⟩ e
      · omega
theorem IsoP.next {x : Nat} {S : List (List Int)} (h : IsoP A r c s x A.length S) : IsoP A r c s (x + 1) 0 S :=
  ⟨h.sqr, fun x' y' hx' hy' hl => h.at' x' y' hx' hy' (by omega)⟩
theorem IsoP.done (hr : IsP r) (hc : IsP c) (hrl : r.length = A.length) (hcl : c.length = A.length) {S : List (List Int)} (h : IsoP A r c s A.length 0 S) : S = isoL A r c s :=
  sq_ext2 hr hc hrl hcl h.sqr (isoL_sqr A r c s) fun x y hx hy => by
    rw [h.at' x y hx hy (.inl hx), isoL_at hr hc hrl hcl hx hy]
end
end Go.Proofs.YtgflhgkcmfjkgaaGreat
end

section
/- Walks: how often points and pairs of points occur in a design. -/
namespace Go.Proofs.YtgflhgkcmfjkgaaGreat
set_option linter.unusedSimpArgs false
set_option linter.unusedVariables false
open Go.RowKit
attribute [local go_sem ↓] Go.wp_at_zero Go.wp_at_succ

/-- a block of points 0 .. P - 1 that increases -/
structure Inc (P : Nat) (b : List Int) : Prop where
  bd : ∀ i, i < b.length → 0 ≤ nth b i ∧ nth b i < P
  lt : ∀ i j, i < j → j < b.length → nth b i < nth b j
  len : b.length ≤ P
theorem inc_of {P : Nat} {b : List Int} (h : incB (-1) P b = true) : Inc P b where
  len := by have := inc_len h (by omega); omega
  bd i hi := by have := incB_gt h _ (nth_mem hi); omega
  lt i j hij hj := by
    have := List.pairwise_iff_getElem.1 (incB_pw h) i j (by omega) hj hij
    rwa [← nth_eq (show i < b.length by omega), ← nth_eq hj] at this
theorem DOk.inc' {P : Nat} {A : List (List Int)} (h : DOk P A) {k : Nat} (hk : k < A.length) : Inc P (xat A k) := inc_of (h.inc _ (xat_mem hk))
theorem Inc.nat {P : Nat} {b : List Int} (h : Inc P b) {i : Nat} (hi : i < b.length) : ∃ x : Nat, nth b i = x ∧ x < P :=
  ⟨(nth b i).toNat, by have := h.bd i hi; omega, by have := h.bd i hi; omega⟩
theorem Inc.fresh {P : Nat} {b : List Int} (h : Inc P b) {j : Nat} (hj : j < b.length) : nth b j ∉ b.take j := by
  intro hm
  obtain ⟨i, hi, he⟩ := List.getElem_of_mem hm
  have hi' : i < j := by simp at hi; omega
  rw [List.getElem_take, ← nth_eq (show i < b.length by omega)] at he
  have := h.lt i j hi' hj
  omega
theorem mem_take1 {b : List Int} {j : Nat} (hj : j < b.length) (x : Int) : x ∈ b.take (j + 1) ↔ x ∈ b.take j ∨ x = nth b j := by
  rw [List.take_add_one, List.getElem?_eq_getElem hj, nth_eq hj, List.mem_append]
  simp only [Option.toList, List.mem_singleton]
/-- how often the points have come up, behind k blocks and j points -/
def repS (P : Nat) (A : List (List Int)) (k j : Nat) : List Int := (List.range P).map fun x => repF (A.take k) x + if (x : Int) ∈ (xat A k).take j then 1 else 0
theorem repS_len (P : Nat) (A : List (List Int)) (k j : Nat) : (repS P A k j).length = P := by simp [repS]
theorem repS_at {P : Nat} {A : List (List Int)} {k j x : Nat} (hx : x < P) : nth (repS P A k j) x = repF (A.take k) x + if (x : Int) ∈ (xat A k).take j then 1 else 0 := by
  rw [nth_eq (by rw [repS_len]; exact hx)]; simp [repS]
theorem repS_0 (P : Nat) (A : List (List Int)) : repS P A 0 0 = List.replicate P 0 := by
  apply List.ext_getElem
  · simp [repS]
  · intro i h1 h2
    simp [repS, repF, cntD]
theorem repS_bd {P : Nat} {A : List (List Int)} {k j x : Nat} (hk : k < A.length) (hA : A.length ≤ 128) (hx : x < P) : 0 ≤ nth (repS P A k j) x ∧ nth (repS P A k j) x ≤ 129 := by
  rw [repS_at hx]
  have := cntD_bd (fun b => decide ((x : Int) ∈ b)) (A.take k)
  have hl : (A.take k).length ≤ 128 := by simp; omega
  unfold repF
  split <;> omega
theorem repS_step {P : Nat} {A : List (List Int)} {k j x : Nat} (hi : Inc P (xat A k)) (hj : j < (xat A k).length) (hx : nth (xat A k) j = x) (hxP : x < P) :
    (repS P A k j).set x (nth (repS P A k j) x + 1) = repS P A k (j + 1) := by
  apply List.ext_getElem
  · simp [repS]
  · intro i h1 h2
    have hiP : i < P := by simpa [repS] using h2
    rw [← nth_eq h2, repS_at hiP, List.getElem_set]
    have hf := hi.fresh hj
    rw [hx] at hf
    have hm := mem_take1 hj (i : Int)
    rw [hx] at hm
    by_cases e : x = i
    · subst e
      rw [if_pos rfl, repS_at hxP, if_neg hf, if_pos (hm.2 (.inr rfl))]; omega
    · rw [if_neg e, ← nth_eq (by rw [repS_len]; exact hiP), repS_at hiP]
      congr 1
      have : ((i : Int) ∈ (xat A k).take (j + 1)) ↔ (i : Int) ∈ (xat A k).take j := by rw [hm]; constructor
                                                                                       · rintro (h | h)
                                                                                         · exact h
                                                                                         · omega
                                                                                       · exact .inl
      simp only [this]
theorem repS_next {P : Nat} {A : List (List Int)} {k : Nat} (hk : k < A.length) : repS P A k (xat A k).length = repS P A (k + 1) 0 := by
  refine List.map_congr_left fun x _ => ?_
  rw [List.take_length, take_xat hk]
  unfold repF
  rw [cntD_snoc]
  simp
theorem repS_end {P : Nat} {A : List (List Int)} : repS P A A.length 0 = repL P A := by
  refine List.map_congr_left fun x _ => ?_
  rw [List.take_length]; simp

set_option maxHeartbeats 2000000 in
set_option maxRecDepth 100000 in
theorem replicationsOf_c (P : Nat) (v : Value) (us : List Value) (A : List (List Int)) (w : World) (hv : RII w v us A) (hD : DOk P A) :
    Calls Tryz.prog 125 #[dv P v] w (MakesI w (repL P A)) := by
  obtain ⟨a, c, hsh⟩ := hv.1.sl.sh
  rw [hv.2.1] at hsh
  subst hsh
  have hP := hD.le
  have hDl := hD.len
  have HD := Lib.hid hD
  clear hD
  have hS1 := (St.refl w).newboxF 26 #[.int .i64 P, .slice a A.length c]
  have b0 := hS1.bcell 0 rfl 0 rfl
  have b1 := hS1.bcell 0 rfl 1 rfl
  have hix := hv.ix
  unfold dv
  go_enter Tryz.func125, Tryz.ntmps125
  go_wp2_with (at_make; refine mkI hS1 rfl _ _ rfl _ _ P (by go_num) (by go_num) (by omega) ?_; intro vc w3 hS3; have b1 := hS3.bcell 0 rfl 1 rfl)
  have hxc := (hS3.rdI 1 rfl).ixe
  rw [← repS_0 P A] at hS3 hxc
  rw [repS_len] at hxc
  go_loopw [5, 7, 14] (fun _ _ i wr => ∃ k : Nat, k ≤ A.length ∧ i = .int .i64 k ∧ St w.heap.size w wr [box 26 w.heap.size [.int .i64 P, .slice a A.length c], row 2 vc (iv (repS P A k 0))]) (fun _ _ i _ => A.length - (intOf i).toNat)
  case atStart => exact ⟨0, by omega, rfl, hS3⟩
  case round =>
    clear hS3 b0 b1
    obtain ⟨k, hk, rfl, hS⟩ := hrel
    by_cases hlt : k < A.length
    · have hc := (hS.oldII hv).cell k hlt
      have hrk := (hS.oldII hv).row k hlt
      have hlk := hrk.len
      have hik := hrk.ix
      have HI := Lib.hid (HD.out.inc' hlt)
      have hl32 := HI.out.len
      have Hnx := Lib.hid (repS_next (P := P) hlt)
      go_wp2_with fail
      obtain ⟨wo, rfl⟩ : ∃ wo : World, wo = wr := ⟨_, rfl⟩
      go_loopw [7, 20] (fun _ i wr => ∃ j : Nat, j ≤ (xat A k).length ∧ i = .int .i64 j ∧ St w.heap.size w wr [box 26 w.heap.size [.int .i64 P, .slice a A.length c], row 2 vc (iv (repS P A k j))]) (fun _ i _ => (xat A k).length - (intOf i).toNat)
      case atStart => exact ⟨0, by omega, rfl, hS⟩
      case round =>
        clear hS hc hrk
        obtain ⟨j, hj, rfl, hS⟩ := hrel
        by_cases hjt : j < (xat A k).length
        · have cb := ((hS.oldII hv).row k hlt).cell j hjt
          obtain ⟨x, hx, hxP⟩ := HI.out.nat hjt
          rw [hx] at cb
          have Hst := Lib.hid (repS_step HI.out hjt hx hxP)
          have cx := (hS.rdI 1 rfl).cell x (by rw [repS_len]; exact hxP)
          have ux := hS.unfrozen 1 rfl (j := x) (by rw [iv_len, repS_len]; exact hxP)
          have xx := hxc (x : Int) x rfl hxP
          have hbd := repS_bd (P := P) (j := j) hlt hDl hxP
          have HS9 := Lib.hid (hS.store 1 rfl (j := x) (by rw [iv_len, repS_len]; exact hxP) (.int .i64 (nth (repS P A k j) x + 1)))
          generalize hq : nth (repS P A k j) x = q at *
          clear hq hx
          go_wp2_with fail
          have hS9 := HS9.out
          simp only [List.set_cons_zero, List.set_cons_succ] at hS9
          rw [iv_set, Hst.out] at hS9
          go_roundw
          case rel => exact ⟨j + 1, by omega, by go_num, hS9⟩
          case measure => simp [intOf]; omega
        · obtain rfl : j = (xat A k).length := by omega
          rw [Hnx.out] at hS
          go_wp2_with fail
          go_roundw
          case rel => exact ⟨k + 1, by omega, by go_num, hS⟩
          case measure => simp [intOf]; omega
    · obtain rfl : k = A.length := by omega
      rw [repS_end] at hS
      go_wp2_with fail
      go_ret
      exact ⟨vc, rfl, hS.sub (List.sublist_cons_self _ _)⟩
end Go.Proofs.YtgflhgkcmfjkgaaGreat
end
