/- A small library: slices that read as lists, and rows of memory that a call owns. -/
import Derived.WalkKit
import Derived.WalkSpells
import Derived.WalkLawsBesides
import Derived.BigQuiet
import Derived.Deep.QuietTactic
import Derived.Deep.LoopGhost
import Derived.StillTailTactics
import Derived.Lib.Hide
import Derived.Deep.DeepFit
import Derived.Deep.DeepMust
import Derived.Deep.OwnRows
import Derived.Deep.RegionWith
namespace Go.Proofs.Ytpfgbbbjldpnnaa
set_option linter.unusedSimpArgs false
set_option linter.unusedVariables false
open Go.RowKit

/-- the place of element i of a slice -/
def el (v : Value) (i : Nat) : Addr :=
  match v with
  | .slice (some a) _ _ => a.add i
  | _ => ⟨0, 0, none⟩

/-- a slice of n elements -/
def IsSl (v : Value) (n : Nat) : Prop := ∃ a cap, v = .slice a n cap ∧ n ≤ cap ∧ cap ≤ maxLen ∧ (n = 0 ∨ a ≠ none)

/-- a slice whose cells hold us -/
def Rd (w : World) (v : Value) (us : List Value) : Prop :=
  IsSl v us.length ∧ ∀ i u, us[i]? = some u → w.cell? (el v i) = some u

theorem add_mk (g i : Nat) : (⟨g, 0, none⟩ : Addr).add i = ⟨g, i, none⟩ := by
  unfold Addr.add; split <;> simp_all

theorem Rd.sl {w : World} {v : Value} {us : List Value} (h : Rd w v us) : IsSl v us.length := h.1

theorem IsSl.le {v : Value} {n : Nat} (h : IsSl v n) : n ≤ 9223372036854775807 := by
  obtain ⟨a, cap, _, h1, h2, _⟩ := h
  unfold maxLen at h2; omega

theorem Rd.cell {w : World} {v : Value} {us : List Value} (h : Rd w v us) {i : Nat} (hi : i < us.length) : w.cell? (el v i) = some (us.getD i undef) :=
  h.2 i _ (by simp [hi])

theorem Rd.lt {w : World} {v : Value} {us : List Value} (h : Rd w v us) {i : Nat} (hi : i < us.length) : (el v i).block < w.heap.size :=
  World.block_lt_of_cell? _ _ (h.cell hi)

/-- what was there stays readable -/
theorem Rd.keep {w w' : World} {v : Value} {us : List Value} (h : Rd w v us) (hb : Below w.heap.size w w') : Rd w' v us :=
  ⟨h.1, fun i u hu => by
    rw [hb.cell (World.block_lt_of_cell? _ _ (h.2 i u hu))]; exact h.2 i u hu⟩

theorem Rd.nil (w : World) : Rd w (.slice none 0 0) [] :=
  ⟨⟨none, 0, rfl, by simp, by simp, .inl rfl⟩, by simp⟩

theorem run_len_sl {P : Program} {v : Value} {n : Nat} {e : TypeId} (h : IsSl v n) (t ty : TypeId) (ht : P.underlying t = some (.slice e)) (w : World) :
    (Builtin.len_ #[t] ty #[v]).run P w = .ok (.int .i64 n) w := by
  obtain ⟨a, cap, rfl, h1, h2, _⟩ := h
  simp [Builtin.len_, run_underlying ht, goInt]

theorem run_ix_sl {P : Program} {v : Value} {n : Nat} {e : TypeId} (h : IsSl v n) (t : TypeId) (ht : P.underlying t = some (.slice e)) (he : (P.info? e).map (·.size) = some 1)
    (k : IntKind) (i : Int) (h0 : 0 ≤ i) (hi : i < n) (w : World) :
    (Instr.indexAt t v (.int k i)).run P w = .ok (.pointer (some (el v i.toNat))) w := by
  obtain ⟨a, cap, rfl, _, _, ha⟩ := h
  rcases a with _ | a
  · rcases ha with ha | ha
    · omega
    · exact absurd rfl ha
  · obtain ⟨inf, hinf, hs⟩ := Option.map_eq_some_iff.1 he
    simp [Instr.indexAt, run_underlying ht, asIntOf, h0, hi, sizeOf, typeInfo, hinf, hs, el]

/-- a call of a function value that is a plain function with a body -/
theorem callFunc_go {P : Program} {f : FuncId} {fn : Func} (h : P.funcs[f]? = some fn) (hn : (fn.name == "runtime.NumGoroutine") = false) (hb : fn.body.isNone = false) (args : Array Value) (W : World) :
    (callFunc f args).run P W = .ok (.enter f args) W := by
  have hn' : ¬ fn.name = "runtime.NumGoroutine" := by simpa using hn
  have hb' : ¬ fn.body = none := by cases hx : fn.body <;> simp_all
  simp [callFunc, program, Sem.run, h, hn', hb']

/-! ### Memory that a call owns -/

/-- an entry: a row behind a slice, or a block behind a pointer -/
structure Ent where
  ptr : Bool
  e : TypeId
  v : Value
  us : List Value

/-- a row of cells us of type e behind the slice v -/
def row (e : TypeId) (v : Value) (us : List Value) : Ent := ⟨false, e, v, us⟩
/-- a block of cells us of type e behind a pointer -/
def box (e : TypeId) (g : Nat) (us : List Value) : Ent := ⟨true, e, .pointer (some ⟨g, 0, none⟩), us⟩

def bk : Value → Option Nat
  | .slice (some a) _ _ => some a.block
  | .pointer (some a) => some a.block
  | _ => none

def Ent.ok (w : World) (B : Nat) (x : Ent) : Prop :=
  (x.ptr = true ∧ ∃ g, x.v = .pointer (some ⟨g, 0, none⟩) ∧ B ≤ g ∧ w.heap[g]? = some (.cells x.us.toArray x.e (0, 0))) ∨
  (x.ptr = false ∧ x.v = .slice none 0 0 ∧ x.us = []) ∨
  (x.ptr = false ∧ ∃ g cap cur, x.v = .slice (some ⟨g, 0, none⟩) x.us.length cap ∧ B ≤ g ∧ w.heap[g]? = some (.cells cur x.e (0, 0)) ∧ x.us.length ≤ cap ∧ cap ≤ maxLen ∧ cur.size = cap ∧ cur.toList.take x.us.length = x.us)

structure St (B : Nat) (w0 w : World) (L : List Ent) : Prop where
  below : Below B w0 w
  base : B ≤ w.heap.size
  ok : ∀ x ∈ L, x.ok w B
  apart : L.Pairwise fun x y => bk x.v = none ∨ bk x.v ≠ bk y.v

theorem Ent.ok.lt {w : World} {B : Nat} {x : Ent} (h : x.ok w B) {k : Nat} (hk : bk x.v = some k) : B ≤ k ∧ k < w.heap.size := by
  rcases h with ⟨_, g, hv, hB, hh⟩ | ⟨_, hv, _⟩ | ⟨_, g, cap, cur, hv, hB, hh, _⟩
  · rw [hv] at hk; simp only [bk, Option.some.injEq] at hk; subst hk; exact ⟨hB, (Array.getElem?_eq_some_iff.1 hh).1⟩
  · rw [hv] at hk; simp [bk] at hk
  · rw [hv] at hk; simp only [bk, Option.some.injEq] at hk; subst hk; exact ⟨hB, (Array.getElem?_eq_some_iff.1 hh).1⟩

theorem Ent.ok.of_block {w w' : World} {B : Nat} {x : Ent} (h : x.ok w B) (he : ∀ k, bk x.v = some k → w'.heap[k]? = w.heap[k]?) : x.ok w' B := by
  rcases h with ⟨hp, g, hv, hB, hh⟩ | h | ⟨hp, g, cap, cur, hv, hB, hh, r⟩
  · exact .inl ⟨hp, g, hv, hB, by rw [he g (by rw [hv]; rfl)]; exact hh⟩
  · exact .inr (.inl h)
  · exact .inr (.inr ⟨hp, g, cap, cur, hv, hB, by rw [he g (by rw [hv]; rfl)]; exact hh, r⟩)

theorem Ent.ok.mono {w : World} {B B' : Nat} {x : Ent} (h : x.ok w B) (hB' : B' ≤ B) : x.ok w B' := by
  rcases h with ⟨hp, g, hv, hB, hh⟩ | h | ⟨hp, g, cap, cur, hv, hB, hh, r⟩
  · exact .inl ⟨hp, g, hv, by omega, hh⟩
  · exact .inr (.inl h)
  · exact .inr (.inr ⟨hp, g, cap, cur, hv, by omega, hh, r⟩)

theorem St.refl (w : World) : St w.heap.size w w [] := ⟨Below.refl _ _, Nat.le_refl _, by simp, by simp⟩

theorem St.size {B : Nat} {w0 w : World} {L : List Ent} (h : St B w0 w L) : w0.heap.size ≤ w.heap.size := h.below.size

/-- nothing that is owned, and nothing old, is touched -/
theorem St.same {B : Nat} {w0 w w' : World} {L : List Ent} (h : St B w0 w L) (hg : w.grownBy w' none) : St B w0 w' L :=
  ⟨h.below.grown hg h.base (fun k hk => by cases hk), Nat.le_trans h.base hg.size,
   fun x hx => (h.ok x hx).of_block fun k hk => hg.block k ((h.ok x hx).lt hk).2 (by simp), h.apart⟩

theorem St.drew {B : Nat} {w0 w : World} {L : List Ent} (h : St B w0 w L) : St B w0 w.drew L :=
  h.same ⟨rfl, rfl, rfl, Nat.le_refl _, fun _ _ _ => rfl⟩
theorem St.drewN {B : Nat} {w0 w : World} {L : List Ent} (h : St B w0 w L) (n : Nat) : St B w0 (w.drewN n) L :=
  h.same ⟨rfl, rfl, rfl, Nat.le_refl _, fun _ _ _ => rfl⟩
theorem St.alloc' {B : Nat} {w0 w : World} {L : List Ent} (h : St B w0 w L) (o : Obj) : St B w0 (w.alloc o) L :=
  h.same (World.grownBy_alloc w o none)

/-- a new entry -/
theorem St.add {B : Nat} {w0 w w' : World} {L : List Ent} (h : St B w0 w L) (hg : w.grownBy w' none) (x : Ent) (hx : x.ok w' B)
    (hf : ∀ k, bk x.v = some k → w.heap.size ≤ k) : St B w0 w' (L ++ [x]) := by
  have h' := h.same hg
  refine ⟨h'.below, h'.base, ?_, ?_⟩
  · intro y hy
    rcases List.mem_append.1 hy with hy | hy
    · exact h'.ok y hy
    · simp at hy; subst hy; exact hx
  · rw [List.pairwise_append]
    refine ⟨h.apart, by simp, ?_⟩
    intro y hy z hz
    simp at hz; subst hz
    by_cases hb : bk y.v = none
    · exact .inl hb
    · right
      intro e
      obtain ⟨k, hk⟩ := Option.ne_none_iff_exists'.1 hb
      have := ((h.ok y hy).lt hk).2
      have := hf k (by rw [← e]; exact hk)
      omega

/-- entry i is written -/
theorem St.put {B : Nat} {w0 w w' : World} {L : List Ent} (h : St B w0 w L) (i : Nat) {x : Ent} (hi : L[i]? = some x) (hg : w.grownBy w' (bk x.v)) (x' : Ent) (hx' : x'.ok w' B)
    (hf : bk x'.v = bk x.v ∨ ∀ k, bk x'.v = some k → w.heap.size ≤ k) : St B w0 w' (L.set i x') := by
  have hil : i < L.length := (List.getElem?_eq_some_iff.1 hi).1
  have hie : L[i] = x := (List.getElem?_eq_some_iff.1 hi).2
  have hxm : x ∈ L := hie ▸ List.getElem_mem hil
  have hne : ∀ (j : Nat) (hj : j < L.length), j ≠ i → ∀ k, bk (L[j]).v = some k → w'.heap[k]? = w.heap[k]? := by
    intro j hj hji k hk
    refine hg.block k ((h.ok _ (List.getElem_mem hj)).lt hk).2 ?_
    intro e
    have hap := h.apart
    rw [List.pairwise_iff_getElem] at hap
    rcases Nat.lt_or_gt_of_ne hji with hlt | hgt
    · rcases hap j i hj hil hlt with h1 | h1
      · rw [h1] at hk; cases hk
      · exact h1 (by rw [hie, ← e, hk])
    · rcases hap i j hil hj hgt with h1 | h1
      · rw [hie] at h1; rw [h1] at e; cases e
      · exact h1 (by rw [hie, ← e, hk])
  refine ⟨h.below.grown hg h.base (fun k hk => ((h.ok x hxm).lt hk).1), Nat.le_trans h.base hg.size, ?_, ?_⟩
  · intro y hy
    obtain ⟨j, hj, rfl⟩ := List.getElem_of_mem hy
    simp only [List.length_set] at hj
    rw [List.getElem_set]
    split
    · exact hx'
    · rename_i hij
      exact (h.ok _ (List.getElem_mem hj)).of_block (hne j hj (fun e => hij e.symm))
  · rw [List.pairwise_iff_getElem]
    intro a b ha hb hab
    simp only [List.length_set] at ha hb
    have hap := h.apart
    rw [List.pairwise_iff_getElem] at hap
    rw [List.getElem_set, List.getElem_set]
    split
    · rename_i e1
      subst e1
      rw [if_neg (by omega)]
      rcases hf with hf | hf
      · rw [hf]; have := hap i b ha hb hab; rw [hie] at this; exact this
      · by_cases hn : bk x'.v = none
        · exact .inl hn
        · right
          intro e
          obtain ⟨k, hk⟩ := Option.ne_none_iff_exists'.1 hn
          have h1 := hf k hk
          have h2 := ((h.ok _ (List.getElem_mem hb)).lt (k := k) (by rw [← e]; exact hk)).2
          omega
    · split
      · rename_i e1
        subst e1
        rcases hf with hf | hf
        · rw [hf]; have := hap a i ha hb hab; rw [hie] at this; exact this
        · by_cases hn : bk (L[a]).v = none
          · exact .inl hn
          · right
            intro e
            obtain ⟨k, hk⟩ := Option.ne_none_iff_exists'.1 hn
            have h1 := hf k (by rw [← e]; exact hk)
            have h2 := ((h.ok _ (List.getElem_mem ha)).lt hk).2
            omega
      · exact hap a b ha hb hab

theorem St.sub {B : Nat} {w0 w : World} {L L' : List Ent} (h : St B w0 w L) (hs : L'.Sublist L) : St B w0 w L' :=
  ⟨h.below, h.base, fun x hx => h.ok x (hs.subset hx), h.apart.sublist hs⟩

theorem St.perm {B : Nat} {w0 w : World} {L L' : List Ent} (h : St B w0 w L) (hs : L.Perm L') : St B w0 w L' :=
  ⟨h.below, h.base, fun x hx => h.ok x (hs.mem_iff.2 hx), (hs.pairwise_iff (by
    intro x y hxy
    rcases hxy with h1 | h1
    · by_cases h2 : bk y.v = none
      · exact .inl h2
      · right; rw [h1]; exact h2
    · by_cases h2 : bk y.v = none
      · exact .inl h2
      · right; exact fun e => h1 e.symm)).1 h.apart⟩

/-- behind a call that keeps what there was, and hands over what it owns -/
theorem St.call {B : Nat} {w0 w w' : World} {L L' : List Ent} (h : St B w0 w L) (h' : St w.heap.size w w' L') : St B w0 w' (L ++ L') := by
  have hg : w.grownBy w' none := ⟨h'.below.os, h'.below.tape, h'.below.output, h'.below.size, fun k hk _ => h'.below.block k hk⟩
  have h1 := h.same hg
  refine ⟨h1.below, h1.base, ?_, ?_⟩
  · intro x hx
    rcases List.mem_append.1 hx with hx | hx
    · exact h1.ok x hx
    · exact (h'.ok x hx).mono h.base
  · rw [List.pairwise_append]
    refine ⟨h.apart, h'.apart, ?_⟩
    intro x hx y hy
    by_cases hb : bk x.v = none
    · exact .inl hb
    · right
      intro e
      obtain ⟨k, hk⟩ := Option.ne_none_iff_exists'.1 hb
      have h2 := ((h.ok x hx).lt hk).2
      have h3 := ((h'.ok y hy).lt (k := k) (by rw [← e]; exact hk)).1
      omega

/-- from an inner bound to an outer one -/
theorem St.trans {B : Nat} {w0 w w' : World} {L L' : List Ent} (h : St B w0 w L) (h' : St w.heap.size w w' L') : St B w0 w' L' :=
  (h.call h').sub (List.sublist_append_right _ _)

/-- an owned row reads -/
theorem St.rd {B : Nat} {w0 w : World} {L : List Ent} (h : St B w0 w L) (i : Nat) {e : TypeId} {v : Value} {us : List Value} (hi : L[i]? = some (row e v us)) : Rd w v us := by
  have h := h.ok _ (List.mem_of_getElem? hi)
  rcases h with ⟨hp, g, hv, _⟩ | ⟨_, hv, hu⟩ | ⟨_, g, cap, cur, hv, hB, hh, h1, h2, h3, h4⟩
  · simp [row] at hp
  · simp only [row] at hv hu; rw [hv, hu]; exact Rd.nil w
  · simp only [row] at hv h1 h4 hh
    refine ⟨⟨_, _, hv, h1, h2, .inr (by simp)⟩, ?_⟩
    intro i u hu
    rw [hv]
    simp only [el, add_mk, World.cell?, hh]
    have hi : i < us.length := (List.getElem?_eq_some_iff.1 hu).1
    rw [← h4, List.getElem?_take, if_pos hi] at hu
    simpa using hu

theorem St.old {w0 w : World} {L : List Ent} {v : Value} {us : List Value} (h : St w0.heap.size w0 w L) (hr : Rd w0 v us) : Rd w v us := hr.keep h.below

/-- a new row with known cells -/
theorem St.new {B : Nat} {w0 w : World} {L : List Ent} (h : St B w0 w L) (e : TypeId) (cs : Array Value) (hm : cs.size ≤ maxLen) :
    St B w0 (w.alloc (.cells cs e)) (L ++ [row e (.slice (some ⟨w.heap.size, 0, none⟩) cs.size cs.size) cs.toList]) :=
  h.add (World.grownBy_alloc w _ none) _ (.inr (.inr ⟨rfl, w.heap.size, cs.size, cs, by simp [row], h.base, heap_alloc_new w _, by simp [row], hm, rfl, by simp [row, -Array.length_toList]⟩))
    (fun k hk => by simp [bk, row] at hk; omega)

/-- a new block behind a pointer -/
theorem St.newbox {B : Nat} {w0 w : World} {L : List Ent} (h : St B w0 w L) (e : TypeId) (cs : Array Value) :
    St B w0 (w.alloc (.cells cs e)) (L ++ [box e w.heap.size cs.toList]) :=
  h.add (World.grownBy_alloc w _ none) _ (.inl ⟨rfl, w.heap.size, rfl, h.base, heap_alloc_new w _⟩) (fun k hk => by simp [bk, box] at hk; omega)

theorem grownBy_setCell (w : World) (a : Addr) (u : Value) (r : Option Nat) (h : r = some a.block) : w.grownBy (w.setCell a u) r :=
  ⟨rfl, rfl, rfl, by simp [World.setCell], fun k _ hk => Below.heap_setCell _ _ _ _ (by rintro rfl; exact hk h.symm)⟩

theorem heap_setCell_at (w : World) (g j : Nat) (u : Value) (cur : Array Value) (e : TypeId) (hh : w.heap[g]? = some (.cells cur e (0, 0))) :
    (w.setCell ⟨g, j, none⟩ u).heap[g]? = some (.cells (cur.setIfInBounds j u) e (0, 0)) := by
  simp [World.setCell, Array.getElem?_modify, hh]

theorem take_set (cur us : List Value) (j : Nat) (u : Value) (h4 : cur.take us.length = us) : (cur.set j u).take us.length = us.set j u := by
  rw [List.take_set, h4]

/-- a store into an owned row -/
theorem St.store {B : Nat} {w0 w : World} {L : List Ent} (h : St B w0 w L) (i : Nat) {e : TypeId} {v : Value} {us : List Value} (hi : L[i]? = some (row e v us))
    {j : Nat} (hj : j < us.length) (u : Value) : St B w0 (w.setCell (el v j) u) (L.set i (row e v (us.set j u))) := by
  have hx := h.ok _ (List.mem_of_getElem? hi)
  rcases hx with ⟨hp, _⟩ | ⟨_, hv, hu⟩ | ⟨_, g, cap, cur, hv, hB, hh, h1, h2, h3, h4⟩
  · simp [row] at hp
  · simp only [row] at hu; rw [hu] at hj; simp at hj
  · simp only [row] at hv h1 h4 hh
    have hel : el v j = ⟨g, j, none⟩ := by rw [hv]; simp [el, add_mk]
    have hbk : bk v = some g := by rw [hv]; rfl
    rw [hel]
    refine h.put i hi (grownBy_setCell w _ u _ (by simp [row, hbk])) _ (.inr (.inr ⟨rfl, g, cap, cur.setIfInBounds j u, ?_, hB, heap_setCell_at w g j u cur e hh, ?_, h2, by simpa using h3, ?_⟩)) (.inl rfl)
    · simpa [row] using hv
    · simpa [row] using h1
    · simp only [row, List.length_set, Array.toList_setIfInBounds]
      exact take_set _ _ _ _ h4

theorem St.unfrozen {B : Nat} {w0 w : World} {L : List Ent} (h : St B w0 w L) (i : Nat) {e : TypeId} {v : Value} {us : List Value} (hi : L[i]? = some (row e v us)) {j : Nat} (hj : j < us.length) :
    w.frozen? (el v j) = false := by
  have hx := h.ok _ (List.mem_of_getElem? hi)
  rcases hx with ⟨hp, _⟩ | ⟨_, hv, hu⟩ | ⟨_, g, cap, cur, hv, hB, hh, h1, h2, h3, h4⟩
  · simp [row] at hp
  · simp only [row] at hu; rw [hu] at hj; simp at hj
  · simp only [row] at hv hh
    rw [hv]; simp [el, add_mk, World.frozen?, hh]

/-- a cell of a block behind a pointer -/
theorem St.bcell {B : Nat} {w0 w : World} {L : List Ent} (h : St B w0 w L) (i : Nat) {e : TypeId} {g : Nat} {us : List Value} (hi : L[i]? = some (box e g us)) (j : Nat) {u : Value} (hj : us[j]? = some u) :
    w.cell? ⟨g, j, none⟩ = some u := by
  have hx := h.ok _ (List.mem_of_getElem? hi)
  rcases hx with ⟨_, g', hv, hB, hh⟩ | ⟨hp, _⟩ | ⟨hp, _⟩
  · simp only [box, Value.pointer.injEq, Option.some.injEq, Addr.mk.injEq, and_true] at hv hh
    subst hv
    simp [World.cell?, hh, hj]
  · simp [box] at hp
  · simp [box] at hp
theorem St.bfree {B : Nat} {w0 w : World} {L : List Ent} (h : St B w0 w L) (i : Nat) {e : TypeId} {g : Nat} {us : List Value} (hi : L[i]? = some (box e g us)) (j : Nat) :
    w.frozen? ⟨g, j, none⟩ = false := by
  have hx := h.ok _ (List.mem_of_getElem? hi)
  rcases hx with ⟨_, g', hv, hB, hh⟩ | ⟨hp, _⟩ | ⟨hp, _⟩
  · simp only [box, Value.pointer.injEq, Option.some.injEq, Addr.mk.injEq, and_true] at hv hh
    subst hv
    simp [World.frozen?, hh]
  · simp [box] at hp
  · simp [box] at hp
theorem St.blt {B : Nat} {w0 w : World} {L : List Ent} (h : St B w0 w L) (i : Nat) {e : TypeId} {g : Nat} {us : List Value} (hi : L[i]? = some (box e g us)) : B ≤ g ∧ g < w.heap.size :=
  (h.ok _ (List.mem_of_getElem? hi)).lt rfl

/-- a store into a block behind a pointer -/
theorem St.bstore {B : Nat} {w0 w : World} {L : List Ent} (h : St B w0 w L) (i : Nat) {e : TypeId} {g : Nat} {us : List Value} (hi : L[i]? = some (box e g us)) (j : Nat) (u : Value) :
    St B w0 (w.setCell ⟨g, j, none⟩ u) (L.set i (box e g (us.set j u))) := by
  have hx := h.ok _ (List.mem_of_getElem? hi)
  rcases hx with ⟨_, g', hv, hB, hh⟩ | ⟨hp, _⟩ | ⟨hp, _⟩
  · simp only [box, Value.pointer.injEq, Option.some.injEq, Addr.mk.injEq, and_true] at hv hh
    subst hv
    refine h.put i hi (grownBy_setCell w ⟨g, j, none⟩ u _ rfl) (box e g (us.set j u)) (.inl ⟨rfl, g, rfl, hB, ?_⟩) (.inl rfl)
    rw [heap_setCell_at w g j u _ e hh]
    simp [box]
  · simp [box] at hp
  · simp [box] at hp

theorem St.call0 {B : Nat} {w0 w w' : World} {L : List Ent} (h : St B w0 w L) (h' : St w.heap.size w w' []) : St B w0 w' L := by
  have := h.call h'; rwa [List.append_nil] at this

/-! ### Laws of the walk -/
/-- the worlds in which a state holds -/
def SS (B : Nat) (w0 : World) (L : List Ent) : Type := { w : World // St B w0 w L }
def SS.w {B : Nat} {w0 : World} {L : List Ent} (s : SS B w0 L) : World := s.1
theorem SS.st {B : Nat} {w0 : World} {L : List Ent} (s : SS B w0 L) : St B w0 s.w L := s.2

/-- a region that draws its order, walked once: its operations read, its calls leave the state as it is -/
theorem wp_region_st {P : Program} {id : Nat} {Q : Exit → Act → World → Prop} {a : Act} {w : World} {l : List Oper} {B : Nat} {w0 : World} {L : List Ent} (hm : P.follows .mixedOrders = true)
    (hB : Region.lexB .any l.toArray = true) (hS : St B w0 w L)
    (h : wpQuiet P l.toArray (fun w' => ∃ s : SS B w0 L, w' = s.w) (fun a' => ∀ w', (∃ s : SS B w0 L, w' = s.w) → Q .normal a' w') l a) : (Code.region id l.toArray true).wp P Q a w :=
  wp_region_quiet (C := fun w' => ∃ s : SS B w0 L, w' = s.w) hm hB ⟨⟨_, hS.drew⟩, rfl⟩ (by simpa using h)
theorem st_quiet {P : Program} {f : FuncId} {args : Array Value} {v : Value} {B : Nat} {w0 : World} {L : List Ent} {s : SS B w0 L}
    (h : Calls P f args s.w fun e w' => e = .returned v ∧ St s.w.heap.size s.w w' []) : Calls P f args s.w fun e w'' => e = .returned v ∧ ∃ s' : SS B w0 L, w'' = s'.w :=
  h.mono fun _ w' ⟨he, hw⟩ => ⟨he, ⟨w', s.st.call0 hw⟩, rfl⟩
theorem st_quiet0 {P : Program} {f : FuncId} {args : Array Value} {v : Value} {B : Nat} {w0 : World} {L : List Ent} {s : SS B w0 L}
    (h : Calls P f args s.w fun e w' => e = .returned v ∧ s.w = w') : Calls P f args s.w fun e w'' => e = .returned v ∧ ∃ s' : SS B w0 L, w'' = s'.w :=
  h.mono fun _ _ ⟨he, hw⟩ => ⟨he, s, hw.symm⟩
/-- the world behind a name -/
theorem abs_wp {P : Program} {c : Code} {Q : Exit → Act → World → Prop} {a : Act} {W w0 : World} {B : Nat} {L : List Ent} (h : St B w0 W L)
    (k : ∀ W', St B w0 W' L → c.wp P Q a W') : c.wp P Q a W := k W h
theorem abs_wl {P : Program} {ops : Array Oper} {l : List Oper} {Q : Exit → Act → World → Prop} {a : Act} {W w0 : World} {B : Nat} {L : List Ent} (h : St B w0 W L)
    (k : ∀ W', St B w0 W' L → wpList P ops Q l a W') : wpList P ops Q l a W := k W h
section
variable {P : Program} {ops : Array Oper} {rest : List Oper} {o : Oper} {a : Act} {Q : Exit → Act → World → Prop}

theorem wpList_st_store {B : Nat} {w0 w : World} {L : List Ent} (hg : o.guard = none) (x y : Operand) (T : TypeId) (hop : o.op = .store T x y) (hT : (P.info? T).map (·.size) = some 1)
    (hS : St B w0 w L) (i : Nat) {e : TypeId} {v : Value} {us : List Value} (hi : L[i]? = some (row e v us)) (j : Nat) (hj : j < us.length) (u : Value)
    (hx : a.eval x = .pointer (some (el v j))) (hy : a.eval y = u) (hu : u.cells = #[u]) (h1 : u.oneCell' = true)
    (hK : ∀ w', St B w0 w' (L.set i (row e v (us.set j u))) → wpList P ops Q rest (a.put o.dst undef) w') : wpList P ops Q (o :: rest) a w := by
  refine wpList_plain hg fun K hK' => ?_
  obtain ⟨inf, hinf, hs⟩ := Option.map_eq_some_iff.1 hT
  have hc := (hS.rd i hi).cell hj
  have hf := hS.unfrozen i hi hj
  have hrun : (Instr.storeAt T (.pointer (some (el v j))) u).run P w = .ok () (w.setCell (el v j) u) := by
    have hst : (Go.store (el v j) u).run P w = .ok () (w.setCell (el v j) u) := by
      rw [run_store P w _ u _ h1, hc]; simp [hf]
    have ha0 : (el v j).add 0 = el v j := by simp [Addr.add]
    simp [Instr.storeAt, Instr.sureAddr, storeVar, sizeOf, typeInfo, hinf, hs, hu, storeCells, ha0, hst]
  unfold Oper.wp execOp
  simp only [hop, hx, hy, Sem.run_bind, Sem.run_pure, Result.andThen_ok, hrun]
  exact hK' _ _ (hK _ (hS.store i hi hj u))

/-- what append comes to -/
theorem run_app {B : Nat} {w0 w : World} {L : List Ent} (t ty e : TypeId) (z : Value) (bytes : Nat) (ht : P.underlying t = some (.slice e)) (hz : (P.info? e).map (fun i => (i.zero, i.size, i.bytes)) = some (some z, 1, bytes)) (hzs : z.cells.size = 1)
    (hS : St B w0 w L) (i : Nat) {v : Value} {us : List Value} (hi : L[i]? = some (row e v us)) (ad : Addr) (m c : Nat) (news : List Value) (hl : news.length = m) (hnews : ∀ j u, news[j]? = some u → w.cell? (ad.add j) = some u)
    (h1 : ∀ u ∈ news, u.oneCell' = true) (hb : bytes ≤ 4096) (hN : us.length + m ≤ 4294967296) :
    ∃ v' w', (Builtin.append_ #[t, t] ty #[v, .slice (some ad) m c]).run P w = .ok v' w' ∧ St B w0 w' (L.set i (row e v' (us ++ news))) := by
  obtain ⟨inf, hinf, hzz⟩ := Option.map_eq_some_iff.1 hz
  simp only [Prod.mk.injEq] at hzz
  obtain ⟨hz0, hz1, hz2⟩ := hzz
  have hbytes : (us.length + m) * inf.bytes ≤ 140737488355328 := by
    rw [hz2]; have := Nat.mul_le_mul hN hb; omega
  have hx := hS.ok _ (List.mem_of_getElem? hi)
  rcases hx with ⟨hp, _⟩ | ⟨_, hv, hu⟩ | ⟨_, g, cap, cur, hv, hB, hh, hn1, hn2, hn3, hn4⟩
  · simp [row] at hp
  · simp only [row] at hu hv
    subst hu; subst hv
    by_cases hm : m = 0
    · subst hm
      have hn : news = [] := List.eq_nil_of_length_eq_zero hl
      subst hn
      refine ⟨.slice none 0 0, w, ?_, ?_⟩
      · simp [Builtin.append_, run_underlying ht, sizeOf, typeInfo, hinf, Builtin.lenOf, Builtin.firstCells, loadCells, loadCellsFrom]
      · have : L.set i (row e (.slice none 0 0) ([] ++ [])) = L := by
          obtain ⟨hlt, heq⟩ := List.getElem?_eq_some_iff.1 hi
          rw [List.append_nil, ← heq, List.set_getElem_self]
        rw [this]; exact hS
    · simp only [List.length_nil, Nat.zero_add] at hbytes hN
      have hr := run_append_nil (P := P) w t ty e inf z ht hinf hz0 ad m c news (by rw [hz1]; omega) hnews (by omega) (by omega) (by omega)
      refine ⟨_, _, hr, ?_⟩
      have hge := grownCap_ge w m 0 e
      have hcm := grownCap_le_maxLen w m 0 e (by unfold maxLen; omega)
      have hd := hS.drew
      refine hd.put i hi ?_ (row e _ _) (.inr (.inr ⟨rfl, w.heap.size, grownCap w m 0 e, _, ?_, hS.base, heap_alloc_new w.drew _, ?_, hcm, ?_, ?_⟩)) (.inr ?_)
      · exact World.grownBy_alloc w.drew _ _
      · simp [row, hl]
      · simp [row, hl]; omega
      · simp [size_zeroCells, hzs, hl]; omega
      · simp only [row, List.nil_append, Array.toList_append]; exact List.take_left
      · intro k hk; simp [row, bk] at hk; simp; omega
  · simp only [row] at hv hn1 hn4 hh
    have hsz : cur.size = cap := hn3
    by_cases hroom : us.length + m ≤ cap
    · have hfit : us.length * inf.size + news.length ≤ cur.size := by rw [hz1, hl, hsz]; omega
      have hr := run_append_room (P := P) w t ty e inf ht hinf g us.length cap cur hh ad m c news (by rw [hz1]; omega) hnews h1 hroom hfit
      rw [← hv] at hr
      refine ⟨_, _, hr, ?_⟩
      refine hS.put i hi ?_ (row e _ _) (.inr (.inr ⟨rfl, g, cap, _, ?_, hB, setRow_heap w g cur _ e _ hh, ?_, hn2, ?_, ?_⟩)) (.inl ?_)
      · exact ⟨rfl, rfl, rfl, by simp, fun k _ hk => setRow_other w g k _ (fun e => hk (by simp [row, bk, hv, e]))⟩
      · simp [row, hl]
      · simp [row, hl]; omega
      · simp only [List.size_toArray, List.length_append, List.length_take, List.length_drop, Array.length_toList, hz1]; omega
      · simp only [row, hz1, Nat.mul_one, hn4]; exact List.take_left
      · simp [row, bk, hv]
    · have holds : ∀ j u, us[j]? = some u → w.cell? ((⟨g, 0, none⟩ : Addr).add j) = some u := by
        intro j u hu
        have := (hS.rd i hi).2 j u hu
        rwa [hv] at this
      have hr := run_append_grow (P := P) w t ty e inf z ht hinf hz0 ⟨g, 0, none⟩ us.length cap us (by rw [hz1]; omega) holds ad m c news (by rw [hz1]; omega) hnews (by omega) (by omega) (growslice_fits (by omega) hbytes)
      rw [← hv] at hr
      refine ⟨_, _, hr, ?_⟩
      have hge := grownCap_ge w (us.length + m) cap e
      have hcm := grownCap_le_maxLen w (us.length + m) cap e (by unfold maxLen; omega)
      have hd := hS.drew
      refine hd.put i hi ?_ (row e _ _) (.inr (.inr ⟨rfl, w.heap.size, grownCap w (us.length + m) cap e, _, ?_, hS.base, heap_alloc_new w.drew _, ?_, hcm, ?_, ?_⟩)) (.inr ?_)
      · exact World.grownBy_alloc w.drew _ _
      · simp [row, hl]
      · simp [row, hl]; omega
      · simp [size_zeroCells, hzs, hl]; omega
      · simp only [row, Array.toList_append, List.append_assoc]
        rw [← List.append_assoc]; exact List.take_left
      · intro k hk; simp [row, bk] at hk; simp; omega

/-- append of a readable slice's elements to an owned row -/
theorem wpList_st_app {B : Nat} {w0 w : World} {L : List Ent} (hg : o.guard = none) (s x : Operand) (t : TypeId) (hop : o.op = .call { callee := .builtin .append, args := #[s, x], argTypes := #[t, t] })
    (e : TypeId) (z : Value) (bytes : Nat) (ht : P.underlying t = some (.slice e)) (hz : (P.info? e).map (fun i => (i.zero, i.size, i.bytes)) = some (some z, 1, bytes)) (hzs : z.cells.size = 1)
    (hS : St B w0 w L) (i : Nat) {v : Value} {us : List Value} (hi : L[i]? = some (row e v us)) (hs : a.eval s = v) (ad : Addr) (m c : Nat) (hx : a.eval x = .slice (some ad) m c)
    (news : List Value) (hl : news.length = m) (hnews : ∀ j u, news[j]? = some u → w.cell? (ad.add j) = some u)
    (h1 : ∀ u ∈ news, u.oneCell' = true) (hb : bytes ≤ 4096) (hN : us.length + m ≤ 4294967296)
    (hK : ∀ v' w', St B w0 w' (L.set i (row e v' (us ++ news))) → wpList P ops Q rest (a.put o.dst v') w') : wpList P ops Q (o :: rest) a w := by
  refine wpList_plain hg fun K hK' => ?_
  obtain ⟨v', w', hr, hS'⟩ := run_app (P := P) t o.type e z bytes ht hz hzs hS i hi ad m c news hl hnews h1 hb hN
  unfold Oper.wp execOp
  simp only [hop, resolve, invoke, builtin, Sem.run_bind, Sem.run_pure, Result.andThen_ok, List.map_toArray, List.map_cons, List.map_nil, hs, hx, hr]
  exact hK' _ _ (hK _ _ hS')

/-- append of no element -/
theorem run_app0 {B : Nat} {w0 w : World} {L : List Ent} (t ty e : TypeId) (ht : P.underlying t = some (.slice e)) (hz : (P.info? e).map (·.size) = some 1)
    (hS : St B w0 w L) (i : Nat) {v : Value} {us : List Value} (hi : L[i]? = some (row e v us)) (c : Nat) :
    (Builtin.append_ #[t, t] ty #[v, .slice none 0 c]).run P w = .ok v w := by
  obtain ⟨inf, hinf, hzz⟩ := Option.map_eq_some_iff.1 hz
  have hx := hS.ok _ (List.mem_of_getElem? hi)
  rcases hx with ⟨hp, _⟩ | ⟨_, hv, hu⟩ | ⟨_, g, cap, cur, hv, hB, hh, hn1, hn2, hn3, hn4⟩
  · simp [row] at hp
  · simp only [row] at hv
    rw [hv]
    simp [Builtin.append_, run_underlying ht, sizeOf, typeInfo, hinf, Builtin.lenOf, Builtin.firstCells]
  · simp only [row] at hv hn1
    rw [hv]
    simp [Builtin.append_, run_underlying ht, sizeOf, typeInfo, hinf, Builtin.lenOf, Builtin.firstCells, hn1, storeCells]

/-- append of what a slice reads as -/
theorem wpList_st_apps {B : Nat} {w0 w : World} {L : List Ent} (hg : o.guard = none) (s x : Operand) (t : TypeId) (hop : o.op = .call { callee := .builtin .append, args := #[s, x], argTypes := #[t, t] })
    (e : TypeId) (z : Value) (bytes : Nat) (ht : P.underlying t = some (.slice e)) (hz : (P.info? e).map (fun i => (i.zero, i.size, i.bytes)) = some (some z, 1, bytes)) (hzs : z.cells.size = 1)
    (hS : St B w0 w L) (i : Nat) {v : Value} {us : List Value} (hi : L[i]? = some (row e v us)) (hs : a.eval s = v) (vx : Value) (hx : a.eval x = vx)
    (news : List Value) (hr : Rd w vx news)
    (h1 : ∀ u ∈ news, u.oneCell' = true) (hb : bytes ≤ 4096) (hN : us.length + news.length ≤ 4294967296)
    (hK : ∀ v' w', St B w0 w' (L.set i (row e v' (us ++ news))) → wpList P ops Q rest (a.put o.dst v') w') : wpList P ops Q (o :: rest) a w := by
  obtain ⟨⟨ao, cap, rfl, hc1, hc2, hc3⟩, hcell⟩ := hr
  cases ao with
  | some ad =>
    refine wpList_st_app hg s x t hop e z bytes ht hz hzs hS i hi hs ad _ _ hx news rfl ?_ h1 hb hN hK
    intro j u hu
    exact hcell j u hu
  | none =>
    have hn : news = [] := by
      rcases hc3 with h | h
      · exact List.eq_nil_of_length_eq_zero h
      · exact absurd rfl h
    subst hn
    refine wpList_plain hg fun K hK' => ?_
    have hz' : (P.info? e).map (·.size) = some 1 := by
      obtain ⟨inf, hinf, hzz⟩ := Option.map_eq_some_iff.1 hz
      simp only [Prod.mk.injEq] at hzz
      rw [hinf]; simp [hzz.2.1]
    have hr := run_app0 (P := P) t o.type e ht hz' hS i hi cap
    have hK2 := hK v w (by
      have : L.set i (row e v (us ++ [])) = L := by
        obtain ⟨hlt, heq⟩ := List.getElem?_eq_some_iff.1 hi
        rw [List.append_nil, ← heq, List.set_getElem_self]
      rw [this]; exact hS)
    unfold Oper.wp execOp
    simp only [hop, resolve, invoke, builtin, Sem.run_bind, Sem.run_pure, Result.andThen_ok, List.map_toArray, List.map_cons, List.map_nil, hs, hx, hr, List.length_nil]
    exact hK' _ _ hK2

/-- append of one element, behind the new block in which it lies -/
theorem wpList_st_app1 {B : Nat} {w0 w : World} {L : List Ent} (hg : o.guard = none) (s x : Operand) (t : TypeId) (hop : o.op = .call { callee := .builtin .append, args := #[s, x], argTypes := #[t, t] })
    (e : TypeId) (z : Value) (bytes : Nat) (ht : P.underlying t = some (.slice e)) (hz : (P.info? e).map (fun i => (i.zero, i.size, i.bytes)) = some (some z, 1, bytes)) (hzs : z.cells.size = 1)
    (hS : St B w0 w L) (i : Nat) {v : Value} {us : List Value} (hi : L[i]? = some (row e v us)) (hs : a.eval s = v) (u : Value) (hx : a.eval x = .slice (some ⟨w.heap.size, 0, none⟩) 1 1)
    (h1 : u.oneCell' = true) (hb : bytes ≤ 4096) (hN : us.length < 4294967296)
    (hK : ∀ v' w', St B w0 w' (L.set i (row e v' (us ++ [u]))) → wpList P ops Q rest (a.put o.dst v') w') : wpList P ops Q (o :: rest) a (w.alloc (.cells #[u] e)) :=
  wpList_st_app hg s x t hop e z bytes ht hz hzs (hS.alloc' _) i hi hs ⟨w.heap.size, 0, none⟩ 1 1 hx [u] rfl (by
    intro j u' hu
    match j, hu with
    | 0, hu => simp at hu; subst hu; simp [Addr.add]) (by simpa using h1) hb (by omega) hK

/-- make -/
theorem wpList_st_make {B : Nat} {w0 w : World} {L : List Ent} (hg : o.guard = none) (x y : Operand) (t : TypeId) (hop : o.op = .makeSlice t x y) (e : TypeId) (z : Value) (bytes : Nat)
    (ht : P.underlying t = some (.slice e)) (hz : (P.info? e).map (fun i => (i.zero, i.size, i.bytes)) = some (some z, 1, bytes)) (hz1 : z.cells = #[z])
    (hS : St B w0 w L) (kl kc : IntKind) (n : Nat) (hx : a.eval x = .int kl n) (hy : a.eval y = .int kc n) (hb : bytes ≤ 4096) (hN : n ≤ 4294967296)
    (hK : ∀ v' w', St B w0 w' (L ++ [row e v' (List.replicate n z)]) → wpList P ops Q rest (a.put o.dst v') w') : wpList P ops Q (o :: rest) a w := by
  refine wpList_plain hg fun K hK' => ?_
  have hmul : bytes * n ≤ 281474976710656 := by have := Nat.mul_le_mul hb hN; omega
  have hrun := run_make_row' (P := P) t e z bytes ht hz hz1 kl kc n hmul (by omega) w
  have hsz : (madeCells #[z] n).size = n := size_madeCells _ _
  have hlist : (madeCells #[z] n).toList = List.replicate n z := by
    apply List.ext_getElem
    · simp [hsz]
    · intro i h1 h2; simp [madeCells, Nat.mod_one]
  have h2 := hS.new e (madeCells #[z] n) (by rw [hsz]; unfold maxLen; omega)
  rw [hsz, hlist] at h2
  unfold Oper.wp
  simp [execOp, hop, hx, hy, hrun, Result.andThen]
  exact hK' _ _ (hK _ _ h2)
end
end Go.Proofs.Ytpfgbbbjldpnnaa
