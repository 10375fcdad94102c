/- Walks: valid matrices of both sides. Walks: valid matrices of the reference. Walks: rows and columns exchanged. Walks: TransposeMatrix of both sides. -/
import Derived.Test.YtpfgbbbjldpnnaaVMat
namespace Go.Proofs.Ytpfgbbbjldpnnaa
set_option linter.unusedSimpArgs false
set_option linter.unusedVariables false
open Go.RowKit
attribute [local go_sem ↓] Go.wp_at_zero Go.wp_at_succ


def rowBad (q : Int) (n : Nat) (r : List Int) : Bool := decide (r.length ≠ n) || !vecOk q r
/-- rows that are a matrix over a field -/
def matOk (p d : Int) (xs : List Int) (xss : List (List Int)) : Bool :=
  fOk p d xs && inB xss.length 1 32 && inB (xat xss 0).length 1 32 && !anyR (rowBad (p ^ d.toNat) (xat xss 0).length) xss
theorem matOk_no1 {p d : Int} {xs : List Int} {xss : List (List Int)} (h : fOk p d xs = false) : matOk p d xs xss = false := by simp [matOk, h]
theorem matOk_no2 {p d : Int} {xs : List Int} {xss : List (List Int)} (h : inB xss.length 1 32 = false) : matOk p d xs xss = false := by simp [matOk, h]
theorem matOk_no3 {p d : Int} {xs : List Int} {xss : List (List Int)} (h : inB (xat xss 0).length 1 32 = false) : matOk p d xs xss = false := by simp [matOk, h]
theorem matOk_yes {p d : Int} {xs : List Int} {xss : List (List Int)} (h1 : fOk p d xs = true) (h2 : inB xss.length 1 32 = true) (h3 : inB (xat xss 0).length 1 32 = true) : matOk p d xs xss = !anyR (rowBad (p ^ d.toNat) (xat xss 0).length) xss := by
  simp [matOk, h1, h2, h3]

theorem sizeR_c (v : Value) (us : List Value) (xss : List (List Int)) (w : World) (hv : RII w v us xss) :
    Calls Try.prog 74 #[v] w fun e w' => e = .returned (.int .i64 xss.length) ∧ w = w' := by
  have hln := hv.len
  go_enter Try.func74, Try.ntmps74
  go_wp2_with fail
  go_ret
  exact ⟨rfl, rfl⟩

theorem anyR_no {f : List Int → Bool} {xss : List (List Int)} (h : ∀ j, j < xss.length → f (xat xss j) = false) : anyR f xss = false := by
  simp only [anyR, List.any_eq_false, Bool.not_eq_true]
  intro x hx
  obtain ⟨j, hj, rfl⟩ := List.getElem_of_mem hx
  have := h j hj
  rwa [xat_eq hj] at this
theorem anyR_yes {f : List Int → Bool} {xss : List (List Int)} {j : Nat} (hj : j < xss.length) (h : f (xat xss j) = true) : anyR f xss = true :=
  List.any_eq_true.2 ⟨_, xat_mem hj, h⟩

def colOf (m : List (List Int)) (c : Nat) : List Int := m.map fun r => nth r c
/-- the columns, i rows being taken, and k places of the next one -/
def trP (m : List (List Int)) (n i k : Nat) : List (List Int) := (List.range n).map fun c => colOf (m.take (if c < k then i + 1 else i)) c
def trL (m : List (List Int)) (n : Nat) : List (List Int) := (List.range n).map fun c => colOf m c
theorem trP_len (m : List (List Int)) (n i k : Nat) : (trP m n i k).length = n := by simp [trP]
theorem trL_len (m : List (List Int)) (n : Nat) : (trL m n).length = n := by simp [trL]
theorem xat_trP {m : List (List Int)} {n i k c : Nat} (h : c < n) : xat (trP m n i k) c = colOf (m.take (if c < k then i + 1 else i)) c := by simp [xat, trP, h]
theorem trP_0 (m : List (List Int)) (n : Nat) : trP m n 0 0 = List.replicate n [] := by
  apply List.ext_getElem
  · simp [trP]
  · intro c h1 h2; simp [trP, colOf]
theorem trP_row (m : List (List Int)) (n i : Nat) : trP m n i n = trP m n (i + 1) 0 := by
  apply List.ext_getElem
  · simp [trP]
  · intro c h1 h2
    have : c < n := by simpa [trP] using h1
    simp [trP, this]
theorem trP_end (m : List (List Int)) (n : Nat) : trP m n m.length 0 = trL m n := by simp [trP, trL]
theorem trP_step {m : List (List Int)} {n i k : Nat} (hi : i < m.length) (hk : k < n) : (trP m n i k).set k (xat (trP m n i k) k ++ [nth (xat m i) k]) = trP m n i (k + 1) := by
  apply List.ext_getElem
  · simp [trP]
  · intro c h1 h2
    have hc : c < n := by simpa [trP] using h2
    rw [List.getElem_set]
    by_cases e : k = c
    · subst e
      rw [if_pos rfl, xat_trP hk, if_neg (by omega)]
      simp only [trP, List.getElem_map, List.getElem_range]
      rw [if_pos (by omega), take_xat hi]; simp [colOf]
    · rw [if_neg e]
      simp only [trP, List.getElem_map, List.getElem_range]
      by_cases h : c < k
      · rw [if_pos h, if_pos (by omega)]
      · rw [if_neg h, if_neg (by omega)]

theorem St.nilRows {B : Nat} {w0 w : World} {L : List Ent} (h : St B w0 w L) : ∀ n : Nat, St B w0 w (L ++ rowsI (nils n) (List.replicate n []))
  | 0 => by simpa [nils, rowsI] using h
  | n + 1 => by
    have ih := (St.nilRows h n).newnil 2
    refine ih.perm ?_
    have e : rowsI (nils (n + 1)) (List.replicate (n + 1) []) = row 2 (.slice none 0 0) [] :: rowsI (nils n) (List.replicate n []) := by
      simp [nils, rowsI, List.replicate_succ, iv]
    rw [e]
    refine (List.perm_append_comm).trans ?_
    exact (List.perm_middle (a := row 2 (.slice none 0 0) []) (l₁ := L) (l₂ := rowsI (nils n) (List.replicate n []))).symm
theorem own2_put {v : Value} {us : List Value} {xss : List (List Int)} (hl : us.length = xss.length) {k : Nat} (hk : k < xss.length) (u : Value) (ys : List Int) :
    ((own2 v us xss).set (k + 1) (row 2 u (iv ys))).set 0 (row 24 v (us.set k u)) = own2 v (us.set k u) (xss.set k ys) := by
  simp only [own2, List.set_cons_succ, List.set_cons_zero]
  congr 1
  unfold rowsI
  apply List.ext_getElem
  · simp [hl]
  · intro j h1 h2
    rw [List.getElem_set, List.getElem_zipWith, List.getElem_zipWith, List.getElem_set, List.getElem_set]
    by_cases e : k = j
    · subst e; simp
    · simp [e]

theorem trL_take {m : List (List Int)} {n k : Nat} (hk : k < n) : (trL m n).take (k + 1) = (trL m n).take k ++ [colOf m k] := by
  rw [take_xat (by rw [trL_len]; exact hk)]
  congr 1
  simp [xat, trL, hk]
theorem colOf_take {m : List (List Int)} {c j : Nat} (hj : j < m.length) : colOf (m.take (j + 1)) c = colOf (m.take j) c ++ [nth (xat m j) c] := by
  rw [take_xat hj]; simp [colOf]

def trM (p d : Int) (xs : List Int) (xss : List (List Int)) : List (List Int) := if matOk p d xs xss = true then trL xss (xat xss 0).length else []
def matC (p d : Int) (xs : List Int) (xss : List (List Int)) : Int := if matOk p d xs xss = true then 0 else 1
/-- a matrix and a code -/
def MakesMC (w : World) (xss : List (List Int)) (c : Int) (e : Ending) (w' : World) : Prop := ∃ v us, e = .returned (.tuple #[v, .int .i64 c]) ∧ us.length = xss.length ∧ St w.heap.size w w' (own2 v us xss)
structure MV (p d : Int) (xs : List Int) (xss : List (List Int)) : Prop where
  f : FV p d xs
  rows1 : 1 ≤ xss.length
  rows : xss.length ≤ 32
  cols1 : 1 ≤ (xat xss 0).length
  cols : (xat xss 0).length ≤ 32
  rect : ∀ r ∈ xss, r.length = (xat xss 0).length
  inp : ∀ r ∈ xss, In (p ^ d.toNat) r
theorem vecOk_in {q : Int} {r : List Int} (h : vecOk q r = true) : In q r := by
  intro x hx
  simp only [vecOk, anyP, Bool.not_eq_true', List.any_eq_false] at h
  have := h x hx
  cases hb : inB x 0 (q - 1) with
  | false => rw [hb] at this; simp at this
  | true => simp [inB] at hb; omega
theorem rowBad_f {q : Int} {n : Nat} {r : List Int} (h : rowBad q n r = false) : r.length = n ∧ vecOk q r = true := by
  unfold rowBad at h
  cases hv : vecOk q r with
  | false => rw [hv] at h; simp at h
  | true => rw [hv] at h; simp at h; exact ⟨h, rfl⟩
theorem matOk_t {p d : Int} {xs : List Int} {xss : List (List Int)} (h : matOk p d xs xss = true) : MV p d xs xss := by
  simp only [matOk, Bool.and_eq_true, Bool.not_eq_true'] at h
  obtain ⟨⟨⟨h1, h2⟩, h3⟩, h4⟩ := h
  simp only [inB, Bool.and_eq_true, decide_eq_true_eq] at h2 h3
  have h5 : ∀ r ∈ xss, rowBad (p ^ d.toNat) (xat xss 0).length r = false := fun r hr => by
    have := List.any_eq_false.1 h4 r hr
    simpa using this
  exact ⟨fOk_t h1, by omega, by omega, by omega, by omega, fun r hr => (rowBad_f (h5 r hr)).1, fun r hr => vecOk_in (rowBad_f (h5 r hr)).2⟩


end Go.Proofs.Ytpfgbbbjldpnnaa
