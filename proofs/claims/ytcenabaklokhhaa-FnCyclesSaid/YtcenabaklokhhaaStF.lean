/- slices.SortFunc at []int64 with CycleType's comparison: a row that a call owns, put into another order. -/
import Derived.Test.YtcenabaklokhhaaInt
import Derived.Test.YtcenabaklokhhaaMem
import Derived.Shelf.SlSortCmp.NoneTotal
namespace Go.Proofs.Ytcenabaklokhhaa
set_option linter.unusedSimpArgs false
set_option linter.unusedVariables false
open Go.RowKit

def Try.mSortF_ren : Go.Shelf.Ren := ⟨fun | 6 => 173 | 15 => 225 | 14 => 231 | 28 => 252 | 29 => 253 | 20 => 259 | 21 => 260 | 22 => 261 | 23 => 262 | 24 => 263 | 25 => 264 | 26 => 265 | 27 => 266 | 46 => 277 | 47 => 271 | 48 => 272 | 49 => 278 | 50 => 279 | 57 => 281 | n => n, fun | 22 => 23 | 24 => 2 | 25 => 151 | 3 => 3 | 39 => 178 | 0 => 0 | 53 => 191 | 55 => 155 | 4 => 4 | 46 => 184 | 45 => 183 | 50 => 188 | 5 => 5 | 9 => 9 | 66 => 202 | 70 => 206 | 76 => 210 | 77 => 211 | n => n, fun | n => n⟩
theorem Try.mSortF : Go.Proofs.SlLaysF.n6 Try.prog Try.mSortF_ren := {
  mixed := by kernel_rfl
  f6 := ⟨Try.f173.name, by decide, Try.func173.trans (congrArg some (by kernel_rfl))⟩
  f14 := ⟨Try.f231.name, by decide, Try.func231.trans (congrArg some (by kernel_rfl))⟩
  f15 := Try.func225.trans (congrArg some (by kernel_rfl))
  f20 := ⟨Try.f259.name, by decide, Try.func259.trans (congrArg some (by kernel_rfl))⟩
  f21 := ⟨Try.f260.name, by decide, Try.func260.trans (congrArg some (by kernel_rfl))⟩
  f22 := ⟨Try.f261.name, by decide, Try.func261.trans (congrArg some (by kernel_rfl))⟩
  f23 := ⟨Try.f262.name, by decide, Try.func262.trans (congrArg some (by kernel_rfl))⟩
  f24 := ⟨Try.f263.name, by decide, Try.func263.trans (congrArg some (by kernel_rfl))⟩
  f25 := ⟨Try.f264.name, by decide, Try.func264.trans (congrArg some (by kernel_rfl))⟩
  f26 := ⟨Try.f265.name, by decide, Try.func265.trans (congrArg some (by kernel_rfl))⟩
  f27 := ⟨Try.f266.name, by decide, Try.func266.trans (congrArg some (by kernel_rfl))⟩
  f28 := Try.func252.trans (congrArg some (by kernel_rfl))
  f29 := Try.func253.trans (congrArg some (by kernel_rfl))
  f46 := ⟨Try.f277.name, by decide, Try.func277.trans (congrArg some (by kernel_rfl))⟩
  f47 := Try.func271.trans (congrArg some (by kernel_rfl))
  f48 := Try.func272.trans (congrArg some (by kernel_rfl))
  f49 := ⟨Try.f278.name, by decide, Try.func278.trans (congrArg some (by kernel_rfl))⟩
  f50 := ⟨Try.f279.name, by decide, Try.func279.trans (congrArg some (by kernel_rfl))⟩
  f57 := ⟨Try.f281.name, by decide, Try.func281.trans (congrArg some (by kernel_rfl))⟩
  t0 := Try.underlying0
  a0 := Try.isAgg0
  z0 := Try.sizeOf0
  v0 := Try.zeroValue0
  t3 := Try.underlying3
  a3 := Try.isAgg3
  z3 := Try.sizeOf3
  v3 := Try.zeroValue3
  t4 := Try.underlying4
  a4 := Try.isAgg4
  z4 := Try.sizeOf4
  v4 := Try.zeroValue4
  t5 := Try.underlying5
  a5 := Try.isAgg5
  z5 := Try.sizeOf5
  v5 := Try.zeroValue5
  t9 := Try.underlying9
  a9 := Try.isAgg9
  z9 := Try.sizeOf9
  v9 := Try.zeroValue9
  t22 := Try.underlying23
  a22 := Try.isAgg23
  z22 := Try.sizeOf23
  v22 := Try.zeroValue23
  a24 := Try.isAgg2
  z24 := Try.sizeOf2
  t25 := Try.underlying151
  a25 := Try.isAgg151
  z25 := Try.sizeOf151
  v25 := Try.zeroValue151
  t39 := Try.underlying178
  a39 := Try.isAgg178
  z39 := Try.sizeOf178
  v39 := Try.zeroValue178
  t45 := Try.underlying183
  a45 := Try.isAgg183
  z45 := Try.sizeOf183
  v45 := Try.zeroValue183
  t46 := Try.underlying184
  a46 := Try.isAgg184
  z46 := Try.sizeOf184
  v46 := Try.zeroValue184
  t50 := Try.underlying188
  a50 := Try.isAgg188
  z50 := Try.sizeOf188
  v50 := Try.zeroValue188
  t53 := Try.underlying191
  a53 := Try.isAgg191
  z53 := Try.sizeOf191
  v53 := Try.zeroValue191
  t55 := Try.underlying155
  a55 := Try.isAgg155
  z55 := Try.sizeOf155
  v55 := Try.zeroValue155
  t66 := Try.underlying202
  a66 := Try.isAgg202
  z66 := Try.sizeOf202
  v66 := Try.zeroValue202
  t70 := Try.underlying206
  a70 := Try.isAgg206
  z70 := Try.sizeOf206
  v70 := Try.zeroValue206
  t76 := Try.underlying210
  a76 := Try.isAgg210
  z76 := Try.sizeOf210
  v76 := Try.zeroValue210
  t77 := Try.underlying211
  a77 := Try.isAgg211
  z77 := Try.sizeOf211
  v77 := Try.zeroValue211
}

/-! ### a row of any kind -/
theorem holds_of_blockE {α : Type} [Inhabited α] (enc : α → Value) {w : World} {g : Nat} {cur : Array Value} {e : TypeId} {ss : List α} (hb : w.heap[g]? = some (.cells cur e (0, 0))) (ht : cur.toList.take ss.length = ss.map enc) : Go.Sort.Holds enc w g 0 ss.toArray := by
  intro j hj
  have hj' : j < ss.length := by simpa using hj
  refine ⟨?_, by simp [World.frozen?, hb]⟩
  have h1 : (cur.toList.take ss.length)[j]? = (ss.map enc)[j]? := by rw [ht]
  rw [List.getElem?_take_of_lt hj'] at h1
  simp only [World.cell?, hb, Nat.zero_add]
  simp only [Option.isSome_none, Bool.false_eq_true, if_false]
  rw [← Array.getElem?_toList, h1]
  simp [hj']
theorem heap_sortedE {α : Type} [Inhabited α] (enc : α → Value) {w : World} {g n : Nat} {os : Array Obj} {cur : Array Value} {e : TypeId} {fr : Nat × Nat} (d : Array α) (hb : w.heap[g]? = some (.cells cur e fr)) :
    (Go.Sort.grow (Go.Sort.putRow enc (Go.Sort.ahead w n) g 0 d) os).heap[g]? = some (.cells (Go.Sort.putCells enc 0 d cur) e fr) := by
  have hg : g < w.heap.size := (Array.getElem?_eq_some_iff.1 hb).1
  rw [Go.Sort.heap_grow_old _ _ (by simpa using hg)]
  simp [Go.Sort.putRow, Go.Sort.mapBlock, Go.Sort.ahead, Array.getElem?_modify, hb, Go.Sort.onCells]
theorem grownBy_sortedE {α : Type} [Inhabited α] (enc : α → Value) {w : World} {g n : Nat} {os : Array Obj} (d : Array α) : w.grownBy (Go.Sort.grow (Go.Sort.putRow enc (Go.Sort.ahead w n) g 0 d) os) (some g) := by
  refine ⟨rfl, rfl, rfl, by simp, fun k hk hne => ?_⟩
  rw [Go.Sort.heap_grow_old _ _ (by simpa using hk)]
  have : g ≠ k := fun e => hne (by rw [e])
  simp [Go.Sort.putRow, Go.Sort.mapBlock, Go.Sort.ahead, Array.getElem?_modify, this]
theorem take_putCellsE {α : Type} [Inhabited α] (enc : α → Value) (cur : Array Value) (d : Array α) (h : d.size ≤ cur.size) : (Go.Sort.putCells enc 0 d cur).toList.take d.size = d.toList.map enc := by
  apply List.ext_getElem?
  intro j
  by_cases hj : j < d.size
  · rw [List.getElem?_take_of_lt hj, Array.getElem?_toList]
    simp [Go.Sort.putCells, hj, show j < cur.size by omega]
  · rw [List.getElem?_take_eq_none (by omega), List.getElem?_eq_none (by simp; omega)]
/-! ### the comparison -/
def enF (k : Fin 64) : Value := .int .i64 (k.val : Int)
def cfF (x y : Fin 64) : Int := (y.val : Int) - x.val
theorem swoF : Go.Sort.SWO (Go.Proofs.ltOf cfF) where
  irrefl x := by simp [Go.Proofs.ltOf, cfF]
  trans x y z h1 h2 := by
    have a1 := of_decide_eq_true h1
    have a2 := of_decide_eq_true h2
    refine decide_eq_true ?_
    unfold cfF at *; omega
  ntrans x y z h1 h2 := by
    have a1 := of_decide_eq_false h1
    have a2 := of_decide_eq_false h2
    refine decide_eq_false ?_
    unfold cfF at *; omega
theorem callF_cmp : ∀ (args : Array Value) (W : World), (callFunc 174 args).run Try.prog W = .ok (.enter 174 args) W :=
  fun args W => callFunc_go (P := Try.prog) Try.func174 (by kernel_rfl) (by kernel_rfl) args W
theorem cmpF_c (x y : Fin 64) (w : World) : Calls Try.prog 174 #[enF x, enF y] w fun e w' => e = .returned (.int .i64 (cfF x y)) ∧ w' = w := by
  unfold enF cfF
  have hx := x.isLt
  have hy := y.isLt
  generalize x.val = a at *
  generalize y.val = b at *
  go_enter Try.func174, Try.ntmps174
  go_wp2
  go_ret
  exact ⟨by go_num, rfl⟩
def fins (xs : List Int) : List (Fin 64) := xs.map fun x => if h : 0 ≤ x ∧ x < 64 then ⟨x.toNat, by omega⟩ else 0
theorem fins_len (xs : List Int) : (fins xs).length = xs.length := by simp [fins]
theorem fins_map {xs : List Int} (h : ∀ x ∈ xs, 0 ≤ x ∧ x < 64) : (fins xs).map enF = xs.map (Value.int .i64) := by
  unfold fins
  rw [List.map_map]
  refine List.map_congr_left fun x hx => ?_
  have := h x hx
  simp only [Function.comp, dif_pos this, enF]
  congr 1; simp; omega
def outF (l : List (Fin 64)) : List Int := l.map fun k => (k.val : Int)
theorem outF_map (l : List (Fin 64)) : (outF l).map (Value.int .i64) = l.map enF := by simp [outF, enF]
theorem outF_fins {xs : List Int} (h : ∀ x ∈ xs, 0 ≤ x ∧ x < 64) : outF (fins xs) = xs := by
  unfold outF fins
  rw [List.map_map]
  refine Eq.trans (List.map_congr_left (g := id) fun x hx => ?_) (List.map_id _)
  have := h x hx
  simp only [Function.comp, dif_pos this, id]; omega
theorem SortF_c {B : Nat} {w0 w : World} {L : List Ent} (hS : St B w0 w L) (i : Nat) {v : Value} {xs : List Int} (hi : L[i]? = some (row 2 v (iv xs))) (hl : xs.length < 1000) (hx : ∀ x ∈ xs, 0 ≤ x ∧ x < 64) :
    Calls Try.prog 173 #[v, .func (.func 174) #[] #[]] w fun e w' => ∃ ys : List Int, e = .returned (.tuple #[]) ∧ ys.Perm xs ∧ St B w0 w' (L.set i (row 2 v (iv ys))) := by
  have hx2 := hS.ok _ (List.mem_of_getElem? hi)
  rcases hx2 with ⟨hp, _⟩ | ⟨_, hv, hu⟩ | ⟨_, g, cap, cur, hv, hB, hh, h1, h2, h3, h4⟩
  · simp [row] at hp
  · simp only [row] at hv hu
    have hx : xs = [] := by cases xs with
      | nil => rfl
      | cons a r => simp [iv] at hu
    subst hx
    subst hv
    have hc := Go.Proofs.AnyF.slices_SortFunc_none (P := Try.prog) (ρ := Try.mSortF_ren) { Try.mSortF with } none 0 (.func (.func 174) #[] #[]) w
    refine Calls.mono hc ?_
    rintro e w' ⟨rfl, rfl⟩
    refine ⟨[], rfl, .refl _, ?_⟩
    have : L.set i (row 2 (.slice none 0 0) (iv [])) = L := by
      obtain ⟨hlt, heq⟩ := List.getElem?_eq_some_iff.1 hi
      rw [← heq, List.set_getElem_self]
    rw [this]; exact hS
  · simp only [row] at hv h1 h4 hh
    rw [iv_len] at hv h1 h4
    have hblk : g < w.heap.size := (Array.getElem?_eq_some_iff.1 hh).1
    have hd : (fins xs).toArray.size = xs.length := by simp [fins_len]
    have hH : Go.Sort.Holds enF w g 0 (fins xs).toArray := holds_of_blockE enF hh (by rw [fins_len, fins_map hx]; simpa [iv] using h4)
    have hcmp : Go.Proofs.CmpLays1 Try.prog 174 #[] enF cfF g 0 (fins xs).toArray.size w := by
      refine Go.Proofs.CmpReads.lays fun m os dk hs x y => ?_
      refine (cmpF_c x y _).mono ?_
      rintro e w' ⟨rfl, rfl⟩
      exact ⟨rfl, 0, rfl⟩
    have hc := Go.Proofs.Any.slices_SortFunc (P := Try.prog) (ρ := Try.mSortF_ren) Try.mSortF enF (fun _ => rfl) cfF swoF 174 #[] g 0 cap (fins xs).toArray w callF_cmp hcmp hH hblk (by rw [hd]; omega)
    rw [hd] at hc
    subst hv
    refine Calls.mono hc ?_
    rintro e w' ⟨rfl, d', n, os, hperm, hso, rfl⟩
    have hds : d'.size = xs.length := by have := hperm.1; omega
    have hpm : d'.toList.Perm (fins xs) := by
      have := hperm.2.2
      rw [show d'.extract 0 xs.length = d' by rw [← hds]; simp, show (fins xs).toArray.extract 0 xs.length = (fins xs).toArray by rw [← hd]; simp] at this
      simpa using this
    have hyl : (outF d'.toList).length = xs.length := by simp [outF, hds]
    refine ⟨outF d'.toList, rfl, ?_, ?_⟩
    · have := hpm.map (fun k : Fin 64 => (k.val : Int))
      have h5 := outF_fins hx
      unfold outF at h5 ⊢
      rw [h5] at this; exact this
    · refine hS.put i hi ?_ (row 2 (.slice (some ⟨g, 0, none⟩) xs.length cap) (iv (outF d'.toList))) (.inr (.inr ⟨rfl, g, cap, _, ?_, hB, heap_sortedE enF _ hh, ?_, h2, ?_, ?_⟩)) (.inl rfl)
      · exact grownBy_sortedE enF _
      · simp [row, iv_len, hyl]
      · simp [row, iv_len, hyl]; omega
      · simp [Go.Sort.putCells, h3]
      · have := take_putCellsE enF cur d' (by omega)
        rw [← outF_map, hds] at this
        simpa [row, iv, hyl] using this
end Go.Proofs.Ytcenabaklokhhaa
