/- Slices of integers, over this seat's program. -/
import Derived.Test.YtpfgbbbjldpnnaaMem
import Derived.Test.YtpfgbbbjldpnnaaRows
namespace Go.Proofs.Ytpfgbbbjldpnnaa
set_option linter.unusedSimpArgs false
set_option linter.unusedVariables false
open Go.RowKit

/-- the cells of a list of integers -/
def iv (xs : List Int) : List Value := xs.map (Value.int .i64)
/-- element j -/
def nth (xs : List Int) (j : Nat) : Int := xs.getD j 0

theorem ret_bool {a b : Bool} (h : a = b) : Ending.returned (.bool a) = .returned (.bool b) := by rw [h]
theorem ret_i64 {a b : Int} (h : a = b) : Ending.returned (.int .i64 a) = .returned (.int .i64 b) := by rw [h]
theorem ret_2i {a b c d : Int} (h : a = b) (h' : c = d) : Ending.returned (.tuple #[.int .i64 a, .int .i64 c]) = .returned (.tuple #[.int .i64 b, .int .i64 d]) := by rw [h, h']

theorem eq_f {a b : Int} (h : a ≠ b) : (a == b) = false := by simpa using h
theorem eq_t {a b : Int} (h : a = b) : (a == b) = true := by simpa using h
theorem ne_t {a b : Int} (h : a ≠ b) : (a != b) = true := by simpa using h
theorem ne_f {a b : Int} (h : a = b) : (a != b) = false := by simpa using h
theorem iv_len (xs : List Int) : (iv xs).length = xs.length := by simp [iv]
theorem iv_get {xs : List Int} {j : Nat} (h : j < xs.length) : (iv xs).getD j undef = .int .i64 (nth xs j) := by
  simp [iv, nth, List.getD, List.getElem?_eq_getElem h]
theorem iv_app (xs ys : List Int) : iv (xs ++ ys) = iv xs ++ iv ys := by simp [iv]
theorem iv_one (x : Int) : iv [x] = [.int .i64 x] := rfl
theorem iv_set (xs : List Int) (j : Nat) (x : Int) : (iv xs).set j (.int .i64 x) = iv (xs.set j x) := by simp [iv, List.map_set]
theorem iv_rep (n : Nat) : List.replicate n (Value.int .i64 0) = iv (List.replicate n 0) := by simp [iv]
theorem nth_eq {xs : List Int} {j : Nat} (h : j < xs.length) : nth xs j = xs[j] := by simp [nth, h]
theorem nth_mem {xs : List Int} {j : Nat} (h : j < xs.length) : nth xs j ∈ xs := by rw [nth_eq h]; exact List.getElem_mem h
theorem drop_nth {xs : List Int} {k : Nat} (hk : k < xs.length) : xs.drop k = nth xs k :: xs.drop (k + 1) := by
  rw [List.drop_eq_getElem_cons hk, nth_eq hk]
theorem take_nth {xs : List Int} {k : Nat} (hk : k < xs.length) : xs.take (k + 1) = xs.take k ++ [nth xs k] := by
  rw [List.take_succ_eq_append_getElem hk, nth_eq hk]

def RdI (w : World) (v : Value) (xs : List Int) : Prop := Rd w v (iv xs)

theorem Try.info_i : (Try.prog.info? 2).map (fun i => (i.zero, i.size, i.bytes)) = some (some (.int .i64 0), 1, 8) := by kernel_rfl
theorem Try.size_i : (Try.prog.info? 2).map (·.size) = some 1 := by kernel_rfl
theorem Try.und_is : Try.prog.underlying 24 = some (.slice 2) := by kernel_rfl

section
variable {w w' : World} {v : Value} {xs : List Int}
theorem RdI.le (h : RdI w v xs) : xs.length ≤ 9223372036854775807 := by have := h.sl.le; rwa [iv_len] at this
theorem RdI.len (h : RdI w v xs) (ty : TypeId) (W : World) : (Builtin.len_ #[24] ty #[v]).run Try.prog W = .ok (.int .i64 xs.length) W := by
  have := run_len_sl (P := Try.prog) h.sl 24 ty Try.und_is W; rwa [iv_len] at this
theorem RdI.ix (h : RdI w v xs) (k : IntKind) (i : Int) (h0 : 0 ≤ i) (hi : i < xs.length) (W : World) :
    (Instr.indexAt 24 v (.int k i)).run Try.prog W = .ok (.pointer (some (el v i.toNat))) W :=
  run_ix_sl (P := Try.prog) h.sl 24 Try.und_is Try.size_i k i h0 (by rw [iv_len]; exact hi) W
theorem RdI.ixe (h : RdI w v xs) (i : Int) (j : Nat) (hij : i = (j : Int)) (hj : j < xs.length) (W : World) :
    (Instr.indexAt 24 v (.int .i64 i)).run Try.prog W = .ok (.pointer (some (el v j))) W := by
  have := h.ix .i64 i (by omega) (by omega) W
  rwa [hij, Int.toNat_natCast, ← hij] at this
theorem RdI.cell (h : RdI w v xs) (j : Nat) (hj : j < xs.length) : w.cell? (el v j) = some (.int .i64 (nth xs j)) := by
  rw [Rd.cell h (by rw [iv_len]; exact hj), iv_get hj]
theorem RdI.lt (h : RdI w v xs) (j : Nat) (hj : j < xs.length) : (el v j).block < w.heap.size := Rd.lt h (by rw [iv_len]; exact hj)
theorem RdI.keep (h : RdI w v xs) (hb : Below w.heap.size w w') : RdI w' v xs := Rd.keep h hb
theorem RdI.nil (w : World) : RdI w (.slice none 0 0) [] := Rd.nil w
end

theorem St.rdI {B : Nat} {w0 w : World} {L : List Ent} (h : St B w0 w L) (i : Nat) {e : TypeId} {v : Value} {xs : List Int} (hi : L[i]? = some (row e v (iv xs))) : RdI w v xs := h.rd i hi
theorem St.oldI {w0 w : World} {L : List Ent} {v : Value} {xs : List Int} (h : St w0.heap.size w0 w L) (hr : RdI w0 v xs) : RdI w v xs := Rd.keep hr h.below

/-- the empty row of integers -/
def emp : Ent := row 2 (.slice none 0 0) (iv [])
theorem St.emp {B : Nat} {w0 w : World} {L : List Ent} (h : St B w0 w L) : St B w0 w (L ++ [emp]) :=
  h.add ⟨rfl, rfl, rfl, Nat.le_refl _, fun _ _ _ => rfl⟩ _ (.inr (.inl ⟨rfl, rfl, rfl⟩)) (fun k hk => by cases hk)

/-- it answers a bool, and leaves what there was -/
def GivesB (w : World) (b : Bool) (e : Ending) (w' : World) : Prop := e = .returned (.bool b) ∧ St w.heap.size w w' []
/-- it answers a number, and leaves what there was -/
def GivesI (w : World) (n : Int) (e : Ending) (w' : World) : Prop := e = .returned (.int .i64 n) ∧ St w.heap.size w w' []
def Gives2I (w : World) (n m : Int) (e : Ending) (w' : World) : Prop := e = .returned (.tuple #[.int .i64 n, .int .i64 m]) ∧ St w.heap.size w w' []
/-- it hands over a row of integers -/
def MakesI (w : World) (xs : List Int) (e : Ending) (w' : World) : Prop := ∃ v, e = .returned v ∧ St w.heap.size w w' [row 2 v (iv xs)]
theorem St.out {B : Nat} {w0 w : World} {L : List Ent} (h : St B w0 w L) : St B w0 w [] := h.sub (List.nil_sublist _)

section
variable {ops : Array Oper} {rest : List Oper} {o : Oper} {a : Act} {Q : Exit → Act → World → Prop} {B : Nat} {w0 w : World} {L : List Ent}

/-- append of one integer to an owned row of integers -/
theorem appI (hS : St B w0 w L) (i : Nat) {v : Value} {xs : List Int} (hi : L[i]? = some (row 2 v (iv xs))) (hN : xs.length < 4294967296) (hg : o.guard = none) (s x : Operand)
    (hop : o.op = .call { callee := .builtin .append, args := #[s, x], argTypes := #[24, 24] }) (hs : a.eval s = v) (n : Int) (hx : a.eval x = .slice (some ⟨w.heap.size, 0, none⟩) 1 1)
    (hK : ∀ v' w', St B w0 w' (L.set i (row 2 v' (iv (xs ++ [n])))) → wpList Try.prog ops Q rest (a.put o.dst v') w') :
    wpList Try.prog ops Q (o :: rest) a (w.alloc (.cells #[.int .i64 n] 2)) :=
  wpList_st_app1 hg s x 24 hop 2 (.int .i64 0) 8 Try.und_is Try.info_i rfl hS i hi hs (.int .i64 n) hx rfl (by omega) (by rw [iv_len]; exact hN)
    (fun v' w' h => hK v' w' (by rw [iv_app, iv_one]; exact h))

/-- append of the integers of a slice to an owned row of integers -/
theorem appsI (hS : St B w0 w L) (i : Nat) {v : Value} {xs : List Int} (hi : L[i]? = some (row 2 v (iv xs))) (vx : Value) (ys : List Int) (hr : RdI w vx ys) (hN : xs.length + ys.length ≤ 4294967296) (hg : o.guard = none) (s x : Operand)
    (hop : o.op = .call { callee := .builtin .append, args := #[s, x], argTypes := #[24, 24] }) (hs : a.eval s = v) (hx : a.eval x = vx)
    (hK : ∀ v' w', St B w0 w' (L.set i (row 2 v' (iv (xs ++ ys)))) → wpList Try.prog ops Q rest (a.put o.dst v') w') :
    wpList Try.prog ops Q (o :: rest) a w :=
  wpList_st_apps hg s x 24 hop 2 (.int .i64 0) 8 Try.und_is Try.info_i rfl hS i hi hs vx hx (iv ys) hr (by intro u hu; simp only [iv, List.mem_map] at hu; obtain ⟨n, _, rfl⟩ := hu; rfl) (by omega) (by rw [iv_len, iv_len]; exact hN)
    (fun v' w' h => hK v' w' (by rw [iv_app]; exact h))

/-- a store into an owned row of integers -/
theorem stoI (hS : St B w0 w L) (i : Nat) {v : Value} {xs : List Int} (hi : L[i]? = some (row 2 v (iv xs))) (j : Nat) (hj : j < xs.length) (hg : o.guard = none) (x y : Operand)
    (hop : o.op = .store 2 x y) (hx : a.eval x = .pointer (some (el v j))) (n : Int) (hy : a.eval y = .int .i64 n)
    (hK : ∀ w', St B w0 w' (L.set i (row 2 v (iv (xs.set j n)))) → wpList Try.prog ops Q rest (a.put o.dst undef) w') :
    wpList Try.prog ops Q (o :: rest) a w :=
  wpList_st_store hg x y 2 hop Try.size_i hS i hi j (by rw [iv_len]; exact hj) (.int .i64 n) hx hy rfl rfl (fun w' h => hK w' (by rw [← iv_set]; exact h))

/-- make([]int64, n) -/
theorem mkI (hS : St B w0 w L) (hg : o.guard = none) (x y : Operand) (hop : o.op = .makeSlice 24 x y) (kl kc : IntKind) (n : Nat) (hx : a.eval x = .int kl n) (hy : a.eval y = .int kc n) (hN : n ≤ 4294967296)
    (hK : ∀ v' w', St B w0 w' (L ++ [row 2 v' (iv (List.replicate n 0))]) → wpList Try.prog ops Q rest (a.put o.dst v') w') :
    wpList Try.prog ops Q (o :: rest) a w :=
  wpList_st_make hg x y 24 hop 2 (.int .i64 0) 8 Try.und_is Try.info_i rfl hS kl kc n hx hy (by omega) hN (fun v' w' h => hK v' w' (by rw [← iv_rep]; exact h))
end
end Go.Proofs.Ytpfgbbbjldpnnaa
