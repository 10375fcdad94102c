/- Slices of slices of integers. -/
import Derived.Test.YtpfgbbbjldpnnaaInt
namespace Go.Proofs.Ytpfgbbbjldpnnaa
set_option linter.unusedSimpArgs false
set_option linter.unusedVariables false
open Go.RowKit

def vat (us : List Value) (j : Nat) : Value := us.getD j undef
def xat (xss : List (List Int)) (j : Nat) : List Int := xss.getD j []
theorem xat_eq {xss : List (List Int)} {j : Nat} (h : j < xss.length) : xat xss j = xss[j] := by simp [xat, h]
theorem vat_eq {us : List Value} {j : Nat} (h : j < us.length) : vat us j = us[j] := by simp [vat, h]
theorem xat_mem {xss : List (List Int)} {j : Nat} (h : j < xss.length) : xat xss j ∈ xss := by rw [xat_eq h]; exact List.getElem_mem h
theorem drop_xat {xss : List (List Int)} {k : Nat} (hk : k < xss.length) : xss.drop k = xat xss k :: xss.drop (k + 1) := by
  rw [List.drop_eq_getElem_cons hk, xat_eq hk]
theorem take_xat {xss : List (List Int)} {k : Nat} (hk : k < xss.length) : xss.take (k + 1) = xss.take k ++ [xat xss k] := by
  rw [List.take_succ_eq_append_getElem hk, xat_eq hk]

/-- a slice with the cells us, each of which reads as a list of integers -/
def RII (w : World) (v : Value) (us : List Value) (xss : List (List Int)) : Prop :=
  Rd w v us ∧ us.length = xss.length ∧ ∀ j, j < xss.length → RdI w (vat us j) (xat xss j)

theorem Try.size_is : (Try.prog.info? 24).map (·.size) = some 1 := by kernel_rfl
theorem Try.info_is : (Try.prog.info? 24).map (fun i => (i.zero, i.size, i.bytes)) = some (some (.slice none 0 0), 1, 24) := by kernel_rfl
theorem Try.und_iss : Try.prog.underlying 37 = some (.slice 24) := by kernel_rfl

theorem IsSl.sh {v : Value} {n : Nat} (h : IsSl v n) : ∃ a c, v = .slice a n c := by obtain ⟨a, c, hv, _⟩ := h; exact ⟨a, c, hv⟩
theorem IsSl.cells {v : Value} {n : Nat} (h : IsSl v n) : v.cells = #[v] := by obtain ⟨a, c, rfl, _⟩ := h; rfl
theorem IsSl.one {v : Value} {n : Nat} (h : IsSl v n) : v.oneCell' = true := by obtain ⟨a, c, rfl, _⟩ := h; rfl

section
variable {w w' : World} {v : Value} {us : List Value} {xss : List (List Int)}
theorem RII.le (h : RII w v us xss) : xss.length ≤ 9223372036854775807 := by have := h.1.sl.le; rwa [h.2.1] at this
theorem RII.len (h : RII w v us xss) (ty : TypeId) (W : World) : (Builtin.len_ #[37] ty #[v]).run Try.prog W = .ok (.int .i64 xss.length) W := by
  have := run_len_sl (P := Try.prog) h.1.sl 37 ty Try.und_iss W; rwa [h.2.1] at this
theorem RII.ix (h : RII w v us xss) (k : IntKind) (i : Int) (h0 : 0 ≤ i) (hi : i < xss.length) (W : World) :
    (Instr.indexAt 37 v (.int k i)).run Try.prog W = .ok (.pointer (some (el v i.toNat))) W :=
  run_ix_sl (P := Try.prog) h.1.sl 37 Try.und_iss Try.size_is k i h0 (by rw [h.2.1]; exact hi) W
theorem RII.ixe (h : RII w v us xss) (i : Int) (j : Nat) (hij : i = (j : Int)) (hj : j < xss.length) (W : World) :
    (Instr.indexAt 37 v (.int .i64 i)).run Try.prog W = .ok (.pointer (some (el v j))) W := by
  have := h.ix .i64 i (by omega) (by omega) W
  rwa [hij, Int.toNat_natCast, ← hij] at this
theorem RII.cell (h : RII w v us xss) (j : Nat) (hj : j < xss.length) : w.cell? (el v j) = some (vat us j) :=
  Rd.cell h.1 (by rw [h.2.1]; exact hj)
theorem RII.row (h : RII w v us xss) (j : Nat) (hj : j < xss.length) : RdI w (vat us j) (xat xss j) := h.2.2 j hj
theorem RII.keep (h : RII w v us xss) (hb : Below w.heap.size w w') : RII w' v us xss := ⟨h.1.keep hb, h.2.1, fun j hj => (h.2.2 j hj).keep hb⟩
end
theorem St.oldII {w0 w : World} {L : List Ent} {v : Value} {us : List Value} {xss : List (List Int)} (h : St w0.heap.size w0 w L) (hr : RII w0 v us xss) : RII w v us xss := hr.keep h.below

/-- the rows behind the cells us -/
def rowsI (us : List Value) (xss : List (List Int)) : List Ent := List.zipWith (fun u xs => row 2 u (iv xs)) us xss
/-- all that a slice of slices of integers owns -/
def own2 (v : Value) (us : List Value) (xss : List (List Int)) : List Ent := row 24 v us :: rowsI us xss

theorem rowsI_get {us : List Value} {xss : List (List Int)} (hl : us.length = xss.length) {j : Nat} (hj : j < xss.length) : (rowsI us xss)[j]? = some (row 2 (vat us j) (iv (xat xss j))) := by
  rw [rowsI, List.getElem?_zipWith, List.getElem?_eq_getElem (show j < us.length by omega), List.getElem?_eq_getElem hj]
  simp [vat_eq (show j < us.length by omega), xat_eq hj]
theorem rowsI_len {us : List Value} {xss : List (List Int)} (hl : us.length = xss.length) : (rowsI us xss).length = xss.length := by simp [rowsI, hl]
theorem rowsI_app {us : List Value} {xss : List (List Int)} (hl : us.length = xss.length) (u : Value) (xs : List Int) : rowsI (us ++ [u]) (xss ++ [xs]) = rowsI us xss ++ [row 2 u (iv xs)] := by
  unfold rowsI; rw [List.zipWith_append hl]; rfl

theorem St.rii {B : Nat} {w0 w : World} {v : Value} {us : List Value} {xss : List (List Int)} (h : St B w0 w (own2 v us xss)) (hl : us.length = xss.length) : RII w v us xss :=
  ⟨h.rd 0 rfl, hl, fun j hj => h.rdI (j + 1) (e := 2) (by rw [own2, List.getElem?_cons_succ]; exact rowsI_get hl hj)⟩

/-- it hands over a slice of slices of integers -/
def MakesII (w : World) (xss : List (List Int)) (e : Ending) (w' : World) : Prop := ∃ v us, e = .returned v ∧ us.length = xss.length ∧ St w.heap.size w w' (own2 v us xss)

/-- cells of which the first ones are set -/
def nils (n : Nat) : List Value := List.replicate n (.slice none 0 0)

section
variable {ops : Array Oper} {rest : List Oper} {o : Oper} {a : Act} {Q : Exit → Act → World → Prop} {B : Nat} {w0 w : World} {L : List Ent}
/-- make([][]int64, n) -/
theorem mkII (hS : St B w0 w L) (hg : o.guard = none) (x y : Operand) (hop : o.op = .makeSlice 37 x y) (kl kc : IntKind) (n : Nat) (hx : a.eval x = .int kl n) (hy : a.eval y = .int kc n) (hN : n ≤ 4294967296)
    (hK : ∀ v' w', St B w0 w' (L ++ [row 24 v' (nils n)]) → wpList Try.prog ops Q rest (a.put o.dst v') w') :
    wpList Try.prog ops Q (o :: rest) a w :=
  wpList_st_make hg x y 37 hop 24 (.slice none 0 0) 24 Try.und_iss Try.info_is rfl hS kl kc n hx hy (by omega) hN hK

/-- append of one slice to an owned row of slices -/
theorem appII (hS : St B w0 w L) (i : Nat) {v : Value} {us : List Value} (hi : L[i]? = some (row 24 v us)) (hN : us.length < 4294967296) (hg : o.guard = none) (s x : Operand)
    (hop : o.op = .call { callee := .builtin .append, args := #[s, x], argTypes := #[37, 37] }) (hs : a.eval s = v) (u : Value) (hu : u.oneCell' = true) (hx : a.eval x = .slice (some ⟨w.heap.size, 0, none⟩) 1 1)
    (hK : ∀ v' w', St B w0 w' (L.set i (row 24 v' (us ++ [u]))) → wpList Try.prog ops Q rest (a.put o.dst v') w') :
    wpList Try.prog ops Q (o :: rest) a (w.alloc (.cells #[u] 24)) :=
  wpList_st_app1 hg s x 37 hop 24 (.slice none 0 0) 24 Try.und_iss Try.info_is rfl hS i hi hs u hx hu (by omega) hN hK

/-- a store into an owned row of slices -/
theorem stoII (hS : St B w0 w L) (i : Nat) {v : Value} {us : List Value} (hi : L[i]? = some (row 24 v us)) (j : Nat) (hj : j < us.length) (hg : o.guard = none) (x y : Operand)
    (hop : o.op = .store 24 x y) (hx : a.eval x = .pointer (some (el v j))) (u : Value) (hu : u.cells = #[u]) (hu1 : u.oneCell' = true) (hy : a.eval y = u)
    (hK : ∀ w', St B w0 w' (L.set i (row 24 v (us.set j u))) → wpList Try.prog ops Q rest (a.put o.dst undef) w') :
    wpList Try.prog ops Q (o :: rest) a w :=
  wpList_st_store hg x y 24 hop Try.size_is hS i hi j hj u hx hy hu hu1 hK
end
end Go.Proofs.Ytpfgbbbjldpnnaa
