/- make inside a region that draws its order. -/
import Derived.Test.YtmkfafhgcnbcaaaReg
import Derived.Deep.RegionHeld3
import Derived.Deep.DrawnRows
namespace Go.Proofs.Ytmkfafhgcnbcaaa
set_option linter.unusedSimpArgs false
set_option linter.unusedVariables false
open Go.RowKit
theorem St.made {B : Nat} {w0 w : World} {L : List Ent} (h : St B w0 w L) (n : Nat) (hn : n ≤ 4294967296) :
    St B w0 (w.alloc (.cells (madeCells #[.int .i64 0] n) 2)) (L ++ [row 2 (.slice (some ⟨w.heap.size, 0, none⟩) n n) (iv (List.replicate n 0))]) := by
  have hsz : (madeCells #[Value.int .i64 0] n).size = n := size_madeCells _ _
  have hlist : (madeCells #[Value.int .i64 0] n).toList = iv (List.replicate n 0) := by
    rw [← iv_rep]
    apply List.ext_getElem
    · simp [hsz]
    · intro i h1 h2; simp [madeCells, Nat.mod_one]
  have h2 := h.new 2 (madeCells #[.int .i64 0] n) (by rw [hsz]; unfold maxLen; omega)
  rw [hsz, hlist] at h2
  exact h2
theorem run_mk (n : Nat) (hn : n ≤ 4294967296) (w : World) : (Instr.makeSlice 22 (.int .i64 (n : Int)) (.int .i64 (n : Int))).run Try.prog w = .ok (.slice (some ⟨w.heap.size, 0, none⟩) n n) (w.alloc (.cells (madeCells #[.int .i64 0] n) 2)) :=
  run_make_row' 22 2 (.int .i64 0) 8 Try.und_is Try.info_i rfl .i64 .i64 n (by omega) (by omega) w

theorem St.nilrw {B : Nat} {w0 w : World} {L : List Ent} (h : St B w0 w L) (e : TypeId) : St B w0 w (L ++ [row e (.slice none 0 0) []]) :=
  h.add ⟨rfl, rfl, rfl, Nat.le_refl _, fun _ _ _ => rfl⟩ _ (.inr (.inl ⟨rfl, rfl, rfl⟩)) (fun k hk => by simp [bk, row] at hk)
theorem cell_al {w : World} {o : Obj} {a : Addr} {v : Value} (h : w.cell? a = some v) : (w.alloc o).cell? a = some v := by
  rw [World.cell?_alloc_some _ _ _ (by rw [h]; rfl)]; exact h
theorem cell_dr {w : World} {a : Addr} {v : Value} (h : w.cell? a = some v) : w.drew.cell? a = some v := h
theorem cell_sc {w : World} {p a : Addr} {u v : Value} (hp : p.block ≠ a.block) (h : w.cell? a = some v) : (w.setCell p u).cell? a = some v := by
  rw [World.cell?_setCell_far _ _ _ _ hp]; exact h
/-- a row and a box are apart -/
theorem St.far {B : Nat} {w0 w : World} {L : List Ent} (h : St B w0 w L) (i k : Nat) {e e' : TypeId} {v : Value} {us us' : List Value} {g : Nat} (hi : L[i]? = some (row e v us)) (hk : L[k]? = some (box e' g us')) {j : Nat} (hj : j < us.length) :
    (el v j).block ≠ g := by
  obtain ⟨hil, hie⟩ := List.getElem?_eq_some_iff.1 hi
  obtain ⟨hkl, hke⟩ := List.getElem?_eq_some_iff.1 hk
  have hne : i ≠ k := by
    rintro rfl
    rw [hie] at hke
    have := congrArg Ent.ptr hke
    simp [row, box] at this
  have hap := h.apart
  rw [List.pairwise_iff_getElem] at hap
  have hx := h.ok _ (List.mem_of_getElem? hi)
  rcases hx with ⟨hp, _⟩ | ⟨_, hv, hu⟩ | ⟨_, g', cap, cur, hv, _⟩
  · simp [row] at hp
  · simp only [row] at hu; rw [hu] at hj; simp at hj
  · simp only [row] at hv
    have key : bk v ≠ some g := by
      rcases Nat.lt_or_gt_of_ne hne with hlt | hgt
      · have := hap i k hil hkl hlt
        rw [hie, hke] at this
        rcases this with h1 | h1
        · simp [row, hv, bk] at h1
        · simpa [row, box, bk] using h1
      · have := hap k i hkl hil hgt
        rw [hie, hke] at this
        rcases this with h1 | h1
        · simp [box, bk] at h1
        · intro e; apply h1; simp only [row, box]; rw [e]; rfl
    rw [hv] at key ⊢
    simp only [bk, el, add_mk] at key ⊢
    intro e; apply key; rw [e]
/-- two rows are apart -/
theorem St.farR {B : Nat} {w0 w : World} {L : List Ent} (h : St B w0 w L) (i k : Nat) (hne : i ≠ k) {e e' : TypeId} {v v' : Value} {us us' : List Value} (hi : L[i]? = some (row e v us)) (hk : L[k]? = some (row e' v' us')) {j j' : Nat} (hj : j < us.length) (hj' : j' < us'.length) :
    (el v j).block ≠ (el v' j').block := by
  obtain ⟨hil, hie⟩ := List.getElem?_eq_some_iff.1 hi
  obtain ⟨hkl, hke⟩ := List.getElem?_eq_some_iff.1 hk
  have hap := h.apart
  rw [List.pairwise_iff_getElem] at hap
  have sh : ∀ {e : TypeId} {v : Value} {us : List Value} {j i : Nat}, L[i]? = some (row e v us) → j < us.length → bk v = some (el v j).block := by
    intro e v us j i hi hj
    have hx := h.ok _ (List.mem_of_getElem? hi)
    rcases hx with ⟨hp, _⟩ | ⟨_, hv, hu⟩ | ⟨_, g', cap, cur, hv, _⟩
    · simp [row] at hp
    · simp only [row] at hu; rw [hu] at hj; simp at hj
    · simp only [row] at hv; rw [hv]; simp [bk, el, add_mk]
  have b1 := sh hi hj
  have b2 := sh hk hj'
  intro e
  rcases Nat.lt_or_gt_of_ne hne with hlt | hgt
  · have := hap i k hil hkl hlt
    rw [hie, hke] at this
    rcases this with h1 | h1
    · simp [row, b1] at h1
    · apply h1; simp only [row]; rw [b1, b2, e]
  · have := hap k i hkl hil hgt
    rw [hie, hke] at this
    rcases this with h1 | h1
    · simp [row, b2] at h1
    · apply h1; simp only [row]; rw [b1, b2, e]
section
variable {P : Program} {ops : Array Oper} {o : Oper} {a : Act} {K : Act → World → Prop} {Q : Exit → Act → World → Prop} {E : Prop}
/-- a store into an owned row, as a step -/
theorem step_st_store {B : Nat} {w0 w : World} {L : List Ent} (hg : o.guard = none) (x y : Operand) (T : TypeId) (hop : o.op = .store T x y) (hT : (P.info? T).map (·.size) = some 1)
    (hS : St B w0 w L) (i : Nat) {e : TypeId} {v : Value} {us : List Value} (hi : L[i]? = some (row e v us)) (j : Nat) (hj : j < us.length) (u : Value)
    (hx : a.eval x = .pointer (some (el v j))) (hy : a.eval y = u) (hu : u.cells = #[u]) (h1 : u.oneCell' = true)
    (hK : ∀ w', St B w0 w' (L.set i (row e v (us.set j u))) → K (a.put o.dst undef) w') :
    if Region.wanted o (yielded ops a.tmps) = true then Oper.wp P o a w K Q else E := by
  have hw : Region.wanted o (yielded ops a.tmps) = true := by simp [Region.wanted, hg]
  rw [if_pos hw]
  obtain ⟨inf, hinf, hs⟩ := Option.map_eq_some_iff.1 hT
  have hc := (hS.rd i hi).cell hj
  have hf := hS.unfrozen i hi hj
  have hrun : (Instr.storeAt T (.pointer (some (el v j))) u).run P w = .ok () (w.setCell (el v j) u) := by
    have hst : (Go.store (el v j) u).run P w = .ok () (w.setCell (el v j) u) := by
      rw [run_store P w _ u _ h1, hc]; simp [hf]
    have ha0 : (el v j).add 0 = el v j := by simp [Addr.add]
    simp [Instr.storeAt, Instr.sureAddr, storeVar, sizeOf, typeInfo, hinf, hs, hu, storeCells, ha0, hst]
  unfold Oper.wp execOp
  simp only [hop, hx, hy, Sem.run_bind, Sem.run_pure, Result.andThen_ok, hrun]
  exact hK _ (hS.store i hi hj u)
end
section
variable {ops : Array Oper} {o : Oper} {a : Act} {K : Act → World → Prop} {Q : Exit → Act → World → Prop} {E : Prop} {B : Nat} {w0 w : World} {L : List Ent}
/-- a store into an owned row of integers, as a step -/
theorem stepStI (hS : St B w0 w L) (i : Nat) {v : Value} {xs : List Int} (hi : L[i]? = some (row 2 v (iv xs))) (j : Nat) (hj : j < xs.length) (hg : o.guard = none) (x y : Operand)
    (hop : o.op = .store 2 x y) (hx : a.eval x = .pointer (some (el v j))) (n : Int) (hy : a.eval y = .int .i64 n)
    (hK : ∀ w', St B w0 w' (L.set i (row 2 v (iv (xs.set j n)))) → K (a.put o.dst undef) w') :
    if Region.wanted o (yielded ops a.tmps) = true then Oper.wp Try.prog o a w K Q else E :=
  step_st_store hg x y 2 hop Try.size_i hS i hi j (by rw [iv_len]; exact hj) (.int .i64 n) hx hy rfl rfl (fun w' h => hK w' (by rw [← iv_set]; exact h))
/-- append of one slice, which lies in a block of its own, to an owned row of slices, as a step -/
theorem stepAppBox (hS : St B w0 w L) (i : Nat) {v : Value} {us : List Value} (hi : L[i]? = some (row 22 v us)) (hN : us.length < 4294967296) (t : Nat) {g : Nat} {u : Value} (ht : L[t]? = some (box 22 g [u])) (hu : u.oneCell' = true) (hg : o.guard = none) (s x : Operand)
    (hop : o.op = .call { callee := .builtin .append, args := #[s, x], argTypes := #[25, 25] }) (hs : a.eval s = v) (hx : a.eval x = .slice (some ⟨g, 0, none⟩) 1 1)
    (hK : ∀ v' w', St B w0 w' (L.set i (row 22 v' (us ++ [u]))) → K (a.put o.dst v') w') :
    if Region.wanted o (yielded ops a.tmps) = true then Oper.wp Try.prog o a w K Q else E :=
  step_st_app hg s x 25 hop 22 (.slice none 0 0) 24 Try.und_iss Try.info_is rfl hS i hi hs ⟨g, 0, none⟩ 1 1 hx [u] rfl (by
    intro j u' hj
    match j, hj with
    | 0, hj =>
      simp at hj; subst hj
      rw [add_mk]
      exact hS.bcell t ht 0 rfl) (by simpa using hu) (by omega) (by omega) hK
end
end Go.Proofs.Ytmkfafhgcnbcaaa
