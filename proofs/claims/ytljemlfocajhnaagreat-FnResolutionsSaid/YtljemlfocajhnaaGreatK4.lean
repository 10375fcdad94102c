/- The texts of this claim, run 4: Mem Int II Reg Mrk Fx Dig Copy Num CF In. -/
import Derived.Test.YtljemlfocajhnaaGreatK1
import Derived.WalkKit
import Derived.WalkSpells
import Derived.WalkLawsBesides
import Derived.BigQuiet
import Derived.Deep.QuietTactic
import Derived.Deep.LoopGhost
import Derived.StillTailTactics
import Derived.Lib.Hide
import Derived.Deep.DeepFit
import Derived.Deep.DeepMust
import Derived.Deep.OwnRows
import Derived.Deep.RegionWith
import Derived.Test.YtljemlfocajhnaaGreatRows
import Derived.Deep.RegionLaw
import Derived.Lib.AppendZerosOnto
import Derived.Lib.SliceRun
section
/- A small library: slices that read as lists, and rows of memory that a call owns. -/
namespace Go.Proofs.YtljemlfocajhnaaGreat
set_option linter.unusedSimpArgs false
set_option linter.unusedVariables false
open Go.RowKit

/-- the place of element i of a slice -/
def el (v : Value) (i : Nat) : Addr :=
  match v with
  | .slice (some a) _ _ => a.add i
  | _ => ⟨0, 0, none⟩

/-- a slice of n elements -/
def IsSl (v : Value) (n : Nat) : Prop := ∃ a cap, v = .slice a n cap ∧ n ≤ cap ∧ cap ≤ maxLen ∧ (n = 0 ∨ a ≠ none)

/-- a slice whose cells hold us -/
def Rd (w : World) (v : Value) (us : List Value) : Prop :=
  IsSl v us.length ∧ ∀ i u, us[i]? = some u → w.cell? (el v i) = some u

theorem add_mk (g i : Nat) : (⟨g, 0, none⟩ : Addr).add i = ⟨g, i, none⟩ := by
  unfold Addr.add; split <;> simp_all

theorem Rd.sl {w : World} {v : Value} {us : List Value} (h : Rd w v us) : IsSl v us.length := h.1

theorem IsSl.le {v : Value} {n : Nat} (h : IsSl v n) : n ≤ 9223372036854775807 := by
  obtain ⟨a, cap, _, h1, h2, _⟩ := h
  unfold maxLen at h2; omega

theorem Rd.cell {w : World} {v : Value} {us : List Value} (h : Rd w v us) {i : Nat} (hi : i < us.length) : w.cell? (el v i) = some (us.getD i undef) :=
  h.2 i _ (by simp [hi])

theorem Rd.lt {w : World} {v : Value} {us : List Value} (h : Rd w v us) {i : Nat} (hi : i < us.length) : (el v i).block < w.heap.size :=
  World.block_lt_of_cell? _ _ (h.cell hi)

/-- what was there stays readable -/
theorem Rd.keep {w w' : World} {v : Value} {us : List Value} (h : Rd w v us) (hb : Below w.heap.size w w') : Rd w' v us :=
  ⟨h.1, fun i u hu => by
    rw [hb.cell (World.block_lt_of_cell? _ _ (h.2 i u hu))]; exact h.2 i u hu⟩

theorem Rd.nil (w : World) : Rd w (.slice none 0 0) [] :=
  ⟨⟨none, 0, rfl, by simp, by simp, .inl rfl⟩, by simp⟩

theorem run_len_sl {P : Program} {v : Value} {n : Nat} {e : TypeId} (h : IsSl v n) (t ty : TypeId) (ht : P.underlying t = some (.slice e)) (w : World) :
    (Builtin.len_ #[t] ty #[v]).run P w = .ok (.int .i64 n) w := by
  obtain ⟨a, cap, rfl, h1, h2, _⟩ := h
  simp [Builtin.len_, run_underlying ht, goInt]

theorem run_ix_sl {P : Program} {v : Value} {n : Nat} {e : TypeId} (h : IsSl v n) (t : TypeId) (ht : P.underlying t = some (.slice e)) (he : (P.info? e).map (·.size) = some 1)
    (k : IntKind) (i : Int) (h0 : 0 ≤ i) (hi : i < n) (w : World) :
    (Instr.indexAt t v (.int k i)).run P w = .ok (.pointer (some (el v i.toNat))) w := by
  obtain ⟨a, cap, rfl, _, _, ha⟩ := h
  rcases a with _ | a
  · rcases ha with ha | ha
    · omega
    · exact absurd rfl ha
  · obtain ⟨inf, hinf, hs⟩ := Option.map_eq_some_iff.1 he
    simp [Instr.indexAt, run_underlying ht, asIntOf, h0, hi, sizeOf, typeInfo, hinf, hs, el]

/-- a call of a function value that is a plain function with a body -/
theorem callFunc_go {P : Program} {f : FuncId} {fn : Func} (h : P.funcs[f]? = some fn) (hn : (fn.name == "runtime.NumGoroutine") = false) (hb : fn.body.isNone = false) (args : Array Value) (W : World) :
    (callFunc f args).run P W = .ok (.enter f args) W := by
  have hn' : ¬ fn.name = "runtime.NumGoroutine" := by simpa using hn
  have hb' : ¬ fn.body = none := by cases hx : fn.body <;> simp_all
  simp [callFunc, program, Sem.run, h, hn', hb']

/-! ### Memory that a call owns -/

/-- an entry: a row behind a slice, or a block behind a pointer -/
structure Ent where
  ptr : Bool
  e : TypeId
  v : Value
  us : List Value

/-- a row of cells us of type e behind the slice v -/
def row (e : TypeId) (v : Value) (us : List Value) : Ent := ⟨false, e, v, us⟩
/-- a block of cells us of type e behind a pointer -/
def box (e : TypeId) (g : Nat) (us : List Value) : Ent := ⟨true, e, .pointer (some ⟨g, 0, none⟩), us⟩

def bk : Value → Option Nat
  | .slice (some a) _ _ => some a.block
  | .pointer (some a) => some a.block
  | _ => none

def Ent.ok (w : World) (B : Nat) (x : Ent) : Prop :=
  (x.ptr = true ∧ ∃ g, x.v = .pointer (some ⟨g, 0, none⟩) ∧ B ≤ g ∧ w.heap[g]? = some (.cells x.us.toArray x.e (0, 0))) ∨
  (x.ptr = false ∧ x.v = .slice none 0 0 ∧ x.us = []) ∨
  (x.ptr = false ∧ ∃ g cap cur, x.v = .slice (some ⟨g, 0, none⟩) x.us.length cap ∧ B ≤ g ∧ w.heap[g]? = some (.cells cur x.e (0, 0)) ∧ x.us.length ≤ cap ∧ cap ≤ maxLen ∧ cur.size = cap ∧ cur.toList.take x.us.length = x.us)

structure St (B : Nat) (w0 w : World) (L : List Ent) : Prop where
  below : Below B w0 w
  base : B ≤ w.heap.size
  ok : ∀ x ∈ L, x.ok w B
  apart : L.Pairwise fun x y => bk x.v = none ∨ bk x.v ≠ bk y.v

theorem Ent.ok.lt {w : World} {B : Nat} {x : Ent} (h : x.ok w B) {k : Nat} (hk : bk x.v = some k) : B ≤ k ∧ k < w.heap.size := by
  rcases h with ⟨_, g, hv, hB, hh⟩ | ⟨_, hv, _⟩ | ⟨_, g, cap, cur, hv, hB, hh, _⟩
  · rw [hv] at hk; simp only [bk, Option.some.injEq] at hk; subst hk; exact ⟨hB, (Array.getElem?_eq_some_iff.1 hh).1⟩
  · rw [hv] at hk; simp [bk] at hk
  · rw [hv] at hk; simp only [bk, Option.some.injEq] at hk; subst hk; exact ⟨hB, (Array.getElem?_eq_some_iff.1 hh).1⟩

theorem Ent.ok.of_block {w w' : World} {B : Nat} {x : Ent} (h : x.ok w B) (he : ∀ k, bk x.v = some k → w'.heap[k]? = w.heap[k]?) : x.ok w' B := by
  rcases h with ⟨hp, g, hv, hB, hh⟩ | h | ⟨hp, g, cap, cur, hv, hB, hh, r⟩
  · exact .inl ⟨hp, g, hv, hB, by rw [he g (by rw [hv]; rfl)]; exact hh⟩
  · exact .inr (.inl h)
  · exact .inr (.inr ⟨hp, g, cap, cur, hv, hB, by rw [he g (by rw [hv]; rfl)]; exact hh, r⟩)

theorem Ent.ok.mono {w : World} {B B' : Nat} {x : Ent} (h : x.ok w B) (hB' : B' ≤ B) : x.ok w B' := by
  rcases h with ⟨hp, g, hv, hB, hh⟩ | h | ⟨hp, g, cap, cur, hv, hB, hh, r⟩
  · exact .inl ⟨hp, g, hv, by omega, hh⟩
  · exact .inr (.inl h)
  · exact .inr (.inr ⟨hp, g, cap, cur, hv, by omega, hh, r⟩)

theorem St.refl (w : World) : St w.heap.size w w [] := ⟨Below.refl _ _, Nat.le_refl _, by simp, by simp⟩

theorem St.size {B : Nat} {w0 w : World} {L : List Ent} (h : St B w0 w L) : w0.heap.size ≤ w.heap.size := h.below.size

/-- nothing that is owned, and nothing old, is touched -/
theorem St.same {B : Nat} {w0 w w' : World} {L : List Ent} (h : St B w0 w L) (hg : w.grownBy w' none) : St B w0 w' L :=
  ⟨h.below.grown hg h.base (fun k hk => by cases hk), Nat.le_trans h.base hg.size,
   fun x hx => (h.ok x hx).of_block fun k hk => hg.block k ((h.ok x hx).lt hk).2 (by simp), h.apart⟩

theorem St.drew {B : Nat} {w0 w : World} {L : List Ent} (h : St B w0 w L) : St B w0 w.drew L :=
  h.same ⟨rfl, rfl, rfl, Nat.le_refl _, fun _ _ _ => rfl⟩
theorem St.drewN {B : Nat} {w0 w : World} {L : List Ent} (h : St B w0 w L) (n : Nat) : St B w0 (w.drewN n) L :=
  h.same ⟨rfl, rfl, rfl, Nat.le_refl _, fun _ _ _ => rfl⟩
theorem St.alloc' {B : Nat} {w0 w : World} {L : List Ent} (h : St B w0 w L) (o : Obj) : St B w0 (w.alloc o) L :=
  h.same (World.grownBy_alloc w o none)

/-- a new entry -/
theorem St.add {B : Nat} {w0 w w' : World} {L : List Ent} (h : St B w0 w L) (hg : w.grownBy w' none) (x : Ent) (hx : x.ok w' B)
    (hf : ∀ k, bk x.v = some k → w.heap.size ≤ k) : St B w0 w' (L ++ [x]) := by
  have h' := h.same hg
  refine ⟨h'.below, h'.base, ?_, ?_⟩
  · intro y hy
    rcases List.mem_append.1 hy with hy | hy
    · exact h'.ok y hy
    · simp at hy; subst hy; exact hx
  · rw [List.pairwise_append]
    refine ⟨h.apart, by simp, ?_⟩
    intro y hy z hz
    simp at hz; subst hz
    by_cases hb : bk y.v = none
    · exact .inl hb
    · right
      intro e
      obtain ⟨k, hk⟩ := Option.ne_none_iff_exists'.1 hb
      have := ((h.ok y hy).lt hk).2
      have := hf k (by rw [← e]; exact hk)
      omega

/-- entry i is written -/
theorem St.put {B : Nat} {w0 w w' : World} {L : List Ent} (h : St B w0 w L) (i : Nat) {x : Ent} (hi : L[i]? = some x) (hg : w.grownBy w' (bk x.v)) (x' : Ent) (hx' : x'.ok w' B)
    (hf : bk x'.v = bk x.v ∨ ∀ k, bk x'.v = some k → w.heap.size ≤ k) : St B w0 w' (L.set i x') := by
  have hil : i < L.length := (List.getElem?_eq_some_iff.1 hi).1
  have hie : L[i] = x := (List.getElem?_eq_some_iff.1 hi).2
  have hxm : x ∈ L := hie ▸ List.getElem_mem hil
  have hne : ∀ (j : Nat) (hj : j < L.length), j ≠ i → ∀ k, bk (L[j]).v = some k → w'.heap[k]? = w.heap[k]? := by
    intro j hj hji k hk
    refine hg.block k ((h.ok _ (List.getElem_mem hj)).lt hk).2 ?_
    intro e
    have hap := h.apart
    rw [List.pairwise_iff_getElem] at hap
    rcases Nat.lt_or_gt_of_ne hji with hlt | hgt
    · rcases hap j i hj hil hlt with h1 | h1
      · rw [h1] at hk; cases hk
      · exact h1 (by rw [hie, ← e, hk])
    · rcases hap i j hil hj hgt with h1 | h1
      · rw [hie] at h1; rw [h1] at e; cases e
      · exact h1 (by rw [hie, ← e, hk])
  refine ⟨h.below.grown hg h.base (fun k hk => ((h.ok x hxm).lt hk).1), Nat.le_trans h.base hg.size, ?_, ?_⟩
  · intro y hy
    obtain ⟨j, hj, rfl⟩ := List.getElem_of_mem hy
    simp only [List.length_set] at hj
    rw [List.getElem_set]
    split
    · exact hx'
    · rename_i hij
      exact (h.ok _ (List.getElem_mem hj)).of_block (hne j hj (fun e => hij e.symm))
  · rw [List.pairwise_iff_getElem]
    intro a b ha hb hab
    simp only [List.length_set] at ha hb
    have hap := h.apart
    rw [List.pairwise_iff_getElem] at hap
    rw [List.getElem_set, List.getElem_set]
    split
    · rename_i e1
      subst e1
      rw [if_neg (by omega)]
      rcases hf with hf | hf
      · rw [hf]; have := hap i b ha hb hab; rw [hie] at this; exact this
      · by_cases hn : bk x'.v = none
        · exact .inl hn
        · right
          intro e
          obtain ⟨k, hk⟩ := Option.ne_none_iff_exists'.1 hn
          have h1 := hf k hk
          have h2 := ((h.ok _ (List.getElem_mem hb)).lt (k := k) (by rw [← e]; exact hk)).2
          omega
    · split
      · rename_i e1
        subst e1
        rcases hf with hf | hf
        · rw [hf]; have := hap a i ha hb hab; rw [hie] at this; exact this
        · by_cases hn : bk (L[a]).v = none
          · exact .inl hn
          · right
            intro e
            obtain ⟨k, hk⟩ := Option.ne_none_iff_exists'.1 hn
            have h1 := hf k (by rw [← e]; exact hk)
            have h2 := ((h.ok _ (List.getElem_mem ha)).lt hk).2
            omega
      · exact hap a b ha hb hab

theorem St.sub {B : Nat} {w0 w : World} {L L' : List Ent} (h : St B w0 w L) (hs : L'.Sublist L) : St B w0 w L' :=
  ⟨h.below, h.base, fun x hx => h.ok x (hs.subset hx), h.apart.sublist hs⟩

theorem St.perm {B : Nat} {w0 w : World} {L L' : List Ent} (h : St B w0 w L) (hs : L.Perm L') : St B w0 w L' :=
  ⟨h.below, h.base, fun x hx => h.ok x (hs.mem_iff.2 hx), (hs.pairwise_iff (by
    intro x y hxy
    rcases hxy with h1 | h1
    · by_cases h2 : bk y.v = none
      · exact .inl h2
      · right; rw [h1]; exact h2
    · by_cases h2 : bk y.v = none
      · exact .inl h2
      · right; exact fun e => h1 e.symm)).1 h.apart⟩

/-- behind a call that keeps what there was, and hands over what it owns -/
theorem St.call {B : Nat} {w0 w w' : World} {L L' : List Ent} (h : St B w0 w L) (h' : St w.heap.size w w' L') : St B w0 w' (L ++ L') := by
  have hg : w.grownBy w' none := ⟨h'.below.os, h'.below.tape, h'.below.output, h'.below.size, fun k hk _ => h'.below.block k hk⟩
  have h1 := h.same hg
  refine ⟨h1.below, h1.base, ?_, ?_⟩
  · intro x hx
    rcases List.mem_append.1 hx with hx | hx
    · exact h1.ok x hx
    · exact (h'.ok x hx).mono h.base
  · rw [List.pairwise_append]
    refine ⟨h.apart, h'.apart, ?_⟩
    intro x hx y hy
    by_cases hb : bk x.v = none
    · exact .inl hb
    · right
      intro e
      obtain ⟨k, hk⟩ := Option.ne_none_iff_exists'.1 hb
      have h2 := ((h.ok x hx).lt hk).2
      have h3 := ((h'.ok y hy).lt (k := k) (by rw [← e]; exact hk)).1
      omega

/-- from an inner bound to an outer one -/
theorem St.trans {B : Nat} {w0 w w' : World} {L L' : List Ent} (h : St B w0 w L) (h' : St w.heap.size w w' L') : St B w0 w' L' :=
  (h.call h').sub (List.sublist_append_right _ _)

/-- an owned row reads -/
theorem St.rd {B : Nat} {w0 w : World} {L : List Ent} (h : St B w0 w L) (i : Nat) {e : TypeId} {v : Value} {us : List Value} (hi : L[i]? = some (row e v us)) : Rd w v us := by
  have h := h.ok _ (List.mem_of_getElem? hi)
  rcases h with ⟨hp, g, hv, _⟩ | ⟨_, hv, hu⟩ | ⟨_, g, cap, cur, hv, hB, hh, h1, h2, h3, h4⟩
  · simp [row] at hp
  · simp only [row] at hv hu; rw [hv, hu]; exact Rd.nil w
  · simp only [row] at hv h1 h4 hh
    refine ⟨⟨_, _, hv, h1, h2, .inr (by simp)⟩, ?_⟩
    intro i u hu
    rw [hv]
    simp only [el, add_mk, World.cell?, hh]
    have hi : i < us.length := (List.getElem?_eq_some_iff.1 hu).1
    rw [← h4, List.getElem?_take, if_pos hi] at hu
    simpa using hu

/-- a new row with known cells -/
theorem St.new {B : Nat} {w0 w : World} {L : List Ent} (h : St B w0 w L) (e : TypeId) (cs : Array Value) (hm : cs.size ≤ maxLen) :
    St B w0 (w.alloc (.cells cs e)) (L ++ [row e (.slice (some ⟨w.heap.size, 0, none⟩) cs.size cs.size) cs.toList]) :=
  h.add (World.grownBy_alloc w _ none) _ (.inr (.inr ⟨rfl, w.heap.size, cs.size, cs, by simp [row], h.base, heap_alloc_new w _, by simp [row], hm, rfl, by simp [row, -Array.length_toList]⟩))
    (fun k hk => by simp [bk, row] at hk; omega)

/-- a new block behind a pointer -/
theorem St.newbox {B : Nat} {w0 w : World} {L : List Ent} (h : St B w0 w L) (e : TypeId) (cs : Array Value) :
    St B w0 (w.alloc (.cells cs e)) (L ++ [box e w.heap.size cs.toList]) :=
  h.add (World.grownBy_alloc w _ none) _ (.inl ⟨rfl, w.heap.size, rfl, h.base, heap_alloc_new w _⟩) (fun k hk => by simp [bk, box] at hk; omega)

theorem grownBy_setCell (w : World) (a : Addr) (u : Value) (r : Option Nat) (h : r = some a.block) : w.grownBy (w.setCell a u) r :=
  ⟨rfl, rfl, rfl, by simp [World.setCell], fun k _ hk => Below.heap_setCell _ _ _ _ (by rintro rfl; exact hk h.symm)⟩

theorem heap_setCell_at (w : World) (g j : Nat) (u : Value) (cur : Array Value) (e : TypeId) (hh : w.heap[g]? = some (.cells cur e (0, 0))) :
    (w.setCell ⟨g, j, none⟩ u).heap[g]? = some (.cells (cur.setIfInBounds j u) e (0, 0)) := by
  simp [World.setCell, Array.getElem?_modify, hh]

theorem take_set (cur us : List Value) (j : Nat) (u : Value) (h4 : cur.take us.length = us) : (cur.set j u).take us.length = us.set j u := by
  rw [List.take_set, h4]

/-- a store into an owned row -/
theorem St.store {B : Nat} {w0 w : World} {L : List Ent} (h : St B w0 w L) (i : Nat) {e : TypeId} {v : Value} {us : List Value} (hi : L[i]? = some (row e v us))
    {j : Nat} (hj : j < us.length) (u : Value) : St B w0 (w.setCell (el v j) u) (L.set i (row e v (us.set j u))) := by
  have hx := h.ok _ (List.mem_of_getElem? hi)
  rcases hx with ⟨hp, _⟩ | ⟨_, hv, hu⟩ | ⟨_, g, cap, cur, hv, hB, hh, h1, h2, h3, h4⟩
  · simp [row] at hp
  · simp only [row] at hu; rw [hu] at hj; simp at hj
  · simp only [row] at hv h1 h4 hh
    have hel : el v j = ⟨g, j, none⟩ := by rw [hv]; simp [el, add_mk]
    have hbk : bk v = some g := by rw [hv]; rfl
    rw [hel]
    refine h.put i hi (grownBy_setCell w _ u _ (by simp [row, hbk])) _ (.inr (.inr ⟨rfl, g, cap, cur.setIfInBounds j u, ?_, hB, heap_setCell_at w g j u cur e hh, ?_, h2, by simpa using h3, ?_⟩)) (.inl rfl)
    · simpa [row] using hv
    · simpa [row] using h1
    · simp only [row, List.length_set, Array.toList_setIfInBounds]
      exact take_set _ _ _ _ h4

theorem St.unfrozen {B : Nat} {w0 w : World} {L : List Ent} (h : St B w0 w L) (i : Nat) {e : TypeId} {v : Value} {us : List Value} (hi : L[i]? = some (row e v us)) {j : Nat} (hj : j < us.length) :
    w.frozen? (el v j) = false := by
  have hx := h.ok _ (List.mem_of_getElem? hi)
  rcases hx with ⟨hp, _⟩ | ⟨_, hv, hu⟩ | ⟨_, g, cap, cur, hv, hB, hh, h1, h2, h3, h4⟩
  · simp [row] at hp
  · simp only [row] at hu; rw [hu] at hj; simp at hj
  · simp only [row] at hv hh
    rw [hv]; simp [el, add_mk, World.frozen?, hh]

/-- a cell of a block behind a pointer -/
theorem St.bcell {B : Nat} {w0 w : World} {L : List Ent} (h : St B w0 w L) (i : Nat) {e : TypeId} {g : Nat} {us : List Value} (hi : L[i]? = some (box e g us)) (j : Nat) {u : Value} (hj : us[j]? = some u) :
    w.cell? ⟨g, j, none⟩ = some u := by
  have hx := h.ok _ (List.mem_of_getElem? hi)
  rcases hx with ⟨_, g', hv, hB, hh⟩ | ⟨hp, _⟩ | ⟨hp, _⟩
  · simp only [box, Value.pointer.injEq, Option.some.injEq, Addr.mk.injEq, and_true] at hv hh
    subst hv
    simp [World.cell?, hh, hj]
  · simp [box] at hp
  · simp [box] at hp
theorem St.bfree {B : Nat} {w0 w : World} {L : List Ent} (h : St B w0 w L) (i : Nat) {e : TypeId} {g : Nat} {us : List Value} (hi : L[i]? = some (box e g us)) (j : Nat) :
    w.frozen? ⟨g, j, none⟩ = false := by
  have hx := h.ok _ (List.mem_of_getElem? hi)
  rcases hx with ⟨_, g', hv, hB, hh⟩ | ⟨hp, _⟩ | ⟨hp, _⟩
  · simp only [box, Value.pointer.injEq, Option.some.injEq, Addr.mk.injEq, and_true] at hv hh
    subst hv
    simp [World.frozen?, hh]
  · simp [box] at hp
  · simp [box] at hp
theorem St.blt {B : Nat} {w0 w : World} {L : List Ent} (h : St B w0 w L) (i : Nat) {e : TypeId} {g : Nat} {us : List Value} (hi : L[i]? = some (box e g us)) : B ≤ g ∧ g < w.heap.size :=
  (h.ok _ (List.mem_of_getElem? hi)).lt rfl

/-- a store into a block behind a pointer -/
theorem St.bstore {B : Nat} {w0 w : World} {L : List Ent} (h : St B w0 w L) (i : Nat) {e : TypeId} {g : Nat} {us : List Value} (hi : L[i]? = some (box e g us)) (j : Nat) (u : Value) :
    St B w0 (w.setCell ⟨g, j, none⟩ u) (L.set i (box e g (us.set j u))) := by
  have hx := h.ok _ (List.mem_of_getElem? hi)
  rcases hx with ⟨_, g', hv, hB, hh⟩ | ⟨hp, _⟩ | ⟨hp, _⟩
  · simp only [box, Value.pointer.injEq, Option.some.injEq, Addr.mk.injEq, and_true] at hv hh
    subst hv
    refine h.put i hi (grownBy_setCell w ⟨g, j, none⟩ u _ rfl) (box e g (us.set j u)) (.inl ⟨rfl, g, rfl, hB, ?_⟩) (.inl rfl)
    rw [heap_setCell_at w g j u _ e hh]
    simp [box]
  · simp [box] at hp
  · simp [box] at hp

theorem St.call0 {B : Nat} {w0 w w' : World} {L : List Ent} (h : St B w0 w L) (h' : St w.heap.size w w' []) : St B w0 w' L := by
  have := h.call h'; rwa [List.append_nil] at this

/-! ### Laws of the walk -/
/-- the worlds in which a state holds -/
def SS (B : Nat) (w0 : World) (L : List Ent) : Type := { w : World // St B w0 w L }
def SS.w {B : Nat} {w0 : World} {L : List Ent} (s : SS B w0 L) : World := s.1
theorem SS.st {B : Nat} {w0 : World} {L : List Ent} (s : SS B w0 L) : St B w0 s.w L := s.2

/-- a region that draws its order, walked once: its operations read, its calls leave the state as it is -/
theorem wp_region_st {P : Program} {id : Nat} {Q : Exit → Act → World → Prop} {a : Act} {w : World} {l : List Oper} {B : Nat} {w0 : World} {L : List Ent} (hm : P.follows .mixedOrders = true)
    (hB : Region.lexB .any l.toArray = true) (hS : St B w0 w L)
    (h : wpQuiet P l.toArray (fun w' => ∃ s : SS B w0 L, w' = s.w) (fun a' => ∀ w', (∃ s : SS B w0 L, w' = s.w) → Q .normal a' w') l a) : (Code.region id l.toArray true).wp P Q a w :=
  wp_region_quiet (C := fun w' => ∃ s : SS B w0 L, w' = s.w) hm hB ⟨⟨_, hS.drew⟩, rfl⟩ (by simpa using h)
theorem st_quiet {P : Program} {f : FuncId} {args : Array Value} {v : Value} {B : Nat} {w0 : World} {L : List Ent} {s : SS B w0 L}
    (h : Calls P f args s.w fun e w' => e = .returned v ∧ St s.w.heap.size s.w w' []) : Calls P f args s.w fun e w'' => e = .returned v ∧ ∃ s' : SS B w0 L, w'' = s'.w :=
  h.mono fun _ w' ⟨he, hw⟩ => ⟨he, ⟨w', s.st.call0 hw⟩, rfl⟩
theorem st_quiet0 {P : Program} {f : FuncId} {args : Array Value} {v : Value} {B : Nat} {w0 : World} {L : List Ent} {s : SS B w0 L}
    (h : Calls P f args s.w fun e w' => e = .returned v ∧ s.w = w') : Calls P f args s.w fun e w'' => e = .returned v ∧ ∃ s' : SS B w0 L, w'' = s'.w :=
  h.mono fun _ _ ⟨he, hw⟩ => ⟨he, s, hw.symm⟩
/-- the world behind a name -/
theorem abs_wp {P : Program} {c : Code} {Q : Exit → Act → World → Prop} {a : Act} {W w0 : World} {B : Nat} {L : List Ent} (h : St B w0 W L)
    (k : ∀ W', St B w0 W' L → c.wp P Q a W') : c.wp P Q a W := k W h
section
variable {P : Program} {ops : Array Oper} {rest : List Oper} {o : Oper} {a : Act} {Q : Exit → Act → World → Prop}

theorem wpList_st_store {B : Nat} {w0 w : World} {L : List Ent} (hg : o.guard = none) (x y : Operand) (T : TypeId) (hop : o.op = .store T x y) (hT : (P.info? T).map (·.size) = some 1)
    (hS : St B w0 w L) (i : Nat) {e : TypeId} {v : Value} {us : List Value} (hi : L[i]? = some (row e v us)) (j : Nat) (hj : j < us.length) (u : Value)
    (hx : a.eval x = .pointer (some (el v j))) (hy : a.eval y = u) (hu : u.cells = #[u]) (h1 : u.oneCell' = true)
    (hK : ∀ w', St B w0 w' (L.set i (row e v (us.set j u))) → wpList P ops Q rest (a.put o.dst undef) w') : wpList P ops Q (o :: rest) a w := by
  refine wpList_plain hg fun K hK' => ?_
  obtain ⟨inf, hinf, hs⟩ := Option.map_eq_some_iff.1 hT
  have hc := (hS.rd i hi).cell hj
  have hf := hS.unfrozen i hi hj
  have hrun : (Instr.storeAt T (.pointer (some (el v j))) u).run P w = .ok () (w.setCell (el v j) u) := by
    have hst : (Go.store (el v j) u).run P w = .ok () (w.setCell (el v j) u) := by
      rw [run_store P w _ u _ h1, hc]; simp [hf]
    have ha0 : (el v j).add 0 = el v j := by simp [Addr.add]
    simp [Instr.storeAt, Instr.sureAddr, storeVar, sizeOf, typeInfo, hinf, hs, hu, storeCells, ha0, hst]
  unfold Oper.wp execOp
  simp only [hop, hx, hy, Sem.run_bind, Sem.run_pure, Result.andThen_ok, hrun]
  exact hK' _ _ (hK _ (hS.store i hi hj u))

/-- what append comes to -/
theorem run_app {B : Nat} {w0 w : World} {L : List Ent} (t ty e : TypeId) (z : Value) (bytes : Nat) (ht : P.underlying t = some (.slice e)) (hz : (P.info? e).map (fun i => (i.zero, i.size, i.bytes)) = some (some z, 1, bytes)) (hzs : z.cells.size = 1)
    (hS : St B w0 w L) (i : Nat) {v : Value} {us : List Value} (hi : L[i]? = some (row e v us)) (ad : Addr) (m c : Nat) (news : List Value) (hl : news.length = m) (hnews : ∀ j u, news[j]? = some u → w.cell? (ad.add j) = some u)
    (h1 : ∀ u ∈ news, u.oneCell' = true) (hb : bytes ≤ 4096) (hN : us.length + m ≤ 4294967296) :
    ∃ v' w', (Builtin.append_ #[t, t] ty #[v, .slice (some ad) m c]).run P w = .ok v' w' ∧ St B w0 w' (L.set i (row e v' (us ++ news))) := by
  obtain ⟨inf, hinf, hzz⟩ := Option.map_eq_some_iff.1 hz
  simp only [Prod.mk.injEq] at hzz
  obtain ⟨hz0, hz1, hz2⟩ := hzz
  have hbytes : (us.length + m) * inf.bytes ≤ 140737488355328 := by
    rw [hz2]; have := Nat.mul_le_mul hN hb; omega
  have hx := hS.ok _ (List.mem_of_getElem? hi)
  rcases hx with ⟨hp, _⟩ | ⟨_, hv, hu⟩ | ⟨_, g, cap, cur, hv, hB, hh, hn1, hn2, hn3, hn4⟩
  · simp [row] at hp
  · simp only [row] at hu hv
    subst hu; subst hv
    by_cases hm : m = 0
    · subst hm
      have hn : news = [] := List.eq_nil_of_length_eq_zero hl
      subst hn
      refine ⟨.slice none 0 0, w, ?_, ?_⟩
      · simp [Builtin.append_, run_underlying ht, sizeOf, typeInfo, hinf, Builtin.lenOf, Builtin.firstCells, loadCells, loadCellsFrom]
      · have : L.set i (row e (.slice none 0 0) ([] ++ [])) = L := by
          obtain ⟨hlt, heq⟩ := List.getElem?_eq_some_iff.1 hi
          rw [List.append_nil, ← heq, List.set_getElem_self]
        rw [this]; exact hS
    · simp only [List.length_nil, Nat.zero_add] at hbytes hN
      have hr := run_append_nil (P := P) w t ty e inf z ht hinf hz0 ad m c news (by rw [hz1]; omega) hnews (by omega) (by omega) (by omega)
      refine ⟨_, _, hr, ?_⟩
      have hge := grownCap_ge w m 0 e
      have hcm := grownCap_le_maxLen w m 0 e (by unfold maxLen; omega)
      have hd := hS.drew
      refine hd.put i hi ?_ (row e _ _) (.inr (.inr ⟨rfl, w.heap.size, grownCap w m 0 e, _, ?_, hS.base, heap_alloc_new w.drew _, ?_, hcm, ?_, ?_⟩)) (.inr ?_)
      · exact World.grownBy_alloc w.drew _ _
      · simp [row, hl]
      · simp [row, hl]; omega
      · simp [size_zeroCells, hzs, hl]; omega
      · simp only [row, List.nil_append, Array.toList_append]; exact List.take_left
      · intro k hk; simp [row, bk] at hk; simp; omega
  · simp only [row] at hv hn1 hn4 hh
    have hsz : cur.size = cap := hn3
    by_cases hroom : us.length + m ≤ cap
    · have hfit : us.length * inf.size + news.length ≤ cur.size := by rw [hz1, hl, hsz]; omega
      have hr := run_append_room (P := P) w t ty e inf ht hinf g us.length cap cur hh ad m c news (by rw [hz1]; omega) hnews h1 hroom hfit
      rw [← hv] at hr
      refine ⟨_, _, hr, ?_⟩
      refine hS.put i hi ?_ (row e _ _) (.inr (.inr ⟨rfl, g, cap, _, ?_, hB, setRow_heap w g cur _ e _ hh, ?_, hn2, ?_, ?_⟩)) (.inl ?_)
      · exact ⟨rfl, rfl, rfl, by simp, fun k _ hk => setRow_other w g k _ (fun e => hk (by simp [row, bk, hv, e]))⟩
      · simp [row, hl]
      · simp [row, hl]; omega
      · simp only [List.size_toArray, List.length_append, List.length_take, List.length_drop, Array.length_toList, hz1]; omega
      · simp only [row, hz1, Nat.mul_one, hn4]; exact List.take_left
      · simp [row, bk, hv]
    · have holds : ∀ j u, us[j]? = some u → w.cell? ((⟨g, 0, none⟩ : Addr).add j) = some u := by
        intro j u hu
        have := (hS.rd i hi).2 j u hu
        rwa [hv] at this
      have hr := run_append_grow (P := P) w t ty e inf z ht hinf hz0 ⟨g, 0, none⟩ us.length cap us (by rw [hz1]; omega) holds ad m c news (by rw [hz1]; omega) hnews (by omega) (by omega) (growslice_fits (by omega) hbytes)
      rw [← hv] at hr
      refine ⟨_, _, hr, ?_⟩
      have hge := grownCap_ge w (us.length + m) cap e
      have hcm := grownCap_le_maxLen w (us.length + m) cap e (by unfold maxLen; omega)
      have hd := hS.drew
      refine hd.put i hi ?_ (row e _ _) (.inr (.inr ⟨rfl, w.heap.size, grownCap w (us.length + m) cap e, _, ?_, hS.base, heap_alloc_new w.drew _, ?_, hcm, ?_, ?_⟩)) (.inr ?_)
      · exact World.grownBy_alloc w.drew _ _
      · simp [row, hl]
      · simp [row, hl]; omega
      · simp [size_zeroCells, hzs, hl]; omega
      · simp only [row, Array.toList_append, List.append_assoc]
        rw [← List.append_assoc]; exact List.take_left
      · intro k hk; simp [row, bk] at hk; simp; omega

/-- append of a readable slice's elements to an owned row -/
theorem wpList_st_app {B : Nat} {w0 w : World} {L : List Ent} (hg : o.guard = none) (s x : Operand) (t : TypeId) (hop : o.op = .call { callee := .builtin .append, args := #[s, x], argTypes := #[t, t] })
    (e : TypeId) (z : Value) (bytes : Nat) (ht : P.underlying t = some (.slice e)) (hz : (P.info? e).map (fun i => (i.zero, i.size, i.bytes)) = some (some z, 1, bytes)) (hzs : z.cells.size = 1)
    (hS : St B w0 w L) (i : Nat) {v : Value} {us : List Value} (hi : L[i]? = some (row e v us)) (hs : a.eval s = v) (ad : Addr) (m c : Nat) (hx : a.eval x = .slice (some ad) m c)
    (news : List Value) (hl : news.length = m) (hnews : ∀ j u, news[j]? = some u → w.cell? (ad.add j) = some u)
    (h1 : ∀ u ∈ news, u.oneCell' = true) (hb : bytes ≤ 4096) (hN : us.length + m ≤ 4294967296)
    (hK : ∀ v' w', St B w0 w' (L.set i (row e v' (us ++ news))) → wpList P ops Q rest (a.put o.dst v') w') : wpList P ops Q (o :: rest) a w := by
  refine wpList_plain hg fun K hK' => ?_
  obtain ⟨v', w', hr, hS'⟩ := run_app (P := P) t o.type e z bytes ht hz hzs hS i hi ad m c news hl hnews h1 hb hN
  unfold Oper.wp execOp
  simp only [hop, resolve, invoke, builtin, Sem.run_bind, Sem.run_pure, Result.andThen_ok, List.map_toArray, List.map_cons, List.map_nil, hs, hx, hr]
  exact hK' _ _ (hK _ _ hS')

/-- append of no element -/
theorem run_app0 {B : Nat} {w0 w : World} {L : List Ent} (t ty e : TypeId) (ht : P.underlying t = some (.slice e)) (hz : (P.info? e).map (·.size) = some 1)
    (hS : St B w0 w L) (i : Nat) {v : Value} {us : List Value} (hi : L[i]? = some (row e v us)) (c : Nat) :
    (Builtin.append_ #[t, t] ty #[v, .slice none 0 c]).run P w = .ok v w := by
  obtain ⟨inf, hinf, hzz⟩ := Option.map_eq_some_iff.1 hz
  have hx := hS.ok _ (List.mem_of_getElem? hi)
  rcases hx with ⟨hp, _⟩ | ⟨_, hv, hu⟩ | ⟨_, g, cap, cur, hv, hB, hh, hn1, hn2, hn3, hn4⟩
  · simp [row] at hp
  · simp only [row] at hv
    rw [hv]
    simp [Builtin.append_, run_underlying ht, sizeOf, typeInfo, hinf, Builtin.lenOf, Builtin.firstCells]
  · simp only [row] at hv hn1
    rw [hv]
    simp [Builtin.append_, run_underlying ht, sizeOf, typeInfo, hinf, Builtin.lenOf, Builtin.firstCells, hn1, storeCells]

/-- append of what a slice reads as -/
theorem wpList_st_apps {B : Nat} {w0 w : World} {L : List Ent} (hg : o.guard = none) (s x : Operand) (t : TypeId) (hop : o.op = .call { callee := .builtin .append, args := #[s, x], argTypes := #[t, t] })
    (e : TypeId) (z : Value) (bytes : Nat) (ht : P.underlying t = some (.slice e)) (hz : (P.info? e).map (fun i => (i.zero, i.size, i.bytes)) = some (some z, 1, bytes)) (hzs : z.cells.size = 1)
    (hS : St B w0 w L) (i : Nat) {v : Value} {us : List Value} (hi : L[i]? = some (row e v us)) (hs : a.eval s = v) (vx : Value) (hx : a.eval x = vx)
    (news : List Value) (hr : Rd w vx news)
    (h1 : ∀ u ∈ news, u.oneCell' = true) (hb : bytes ≤ 4096) (hN : us.length + news.length ≤ 4294967296)
    (hK : ∀ v' w', St B w0 w' (L.set i (row e v' (us ++ news))) → wpList P ops Q rest (a.put o.dst v') w') : wpList P ops Q (o :: rest) a w := by
  obtain ⟨⟨ao, cap, rfl, hc1, hc2, hc3⟩, hcell⟩ := hr
  cases ao with
  | some ad =>
    refine wpList_st_app hg s x t hop e z bytes ht hz hzs hS i hi hs ad _ _ hx news rfl ?_ h1 hb hN hK
    intro j u hu
    exact hcell j u hu
  | none =>
    have hn : news = [] := by
      rcases hc3 with h | h
      · exact List.eq_nil_of_length_eq_zero h
      · exact absurd rfl h
    subst hn
    refine wpList_plain hg fun K hK' => ?_
    have hz' : (P.info? e).map (·.size) = some 1 := by
      obtain ⟨inf, hinf, hzz⟩ := Option.map_eq_some_iff.1 hz
      simp only [Prod.mk.injEq] at hzz
      rw [hinf]; simp [hzz.2.1]
    have hr := run_app0 (P := P) t o.type e ht hz' hS i hi cap
    have hK2 := hK v w (by
      have : L.set i (row e v (us ++ [])) = L := by
        obtain ⟨hlt, heq⟩ := List.getElem?_eq_some_iff.1 hi
        rw [List.append_nil, ← heq, List.set_getElem_self]
      rw [this]; exact hS)
    unfold Oper.wp execOp
    simp only [hop, resolve, invoke, builtin, Sem.run_bind, Sem.run_pure, Result.andThen_ok, List.map_toArray, List.map_cons, List.map_nil, hs, hx, hr, List.length_nil]
    exact hK' _ _ hK2

/-- append of one element, behind the new block in which it lies -/
theorem wpList_st_app1 {B : Nat} {w0 w : World} {L : List Ent} (hg : o.guard = none) (s x : Operand) (t : TypeId) (hop : o.op = .call { callee := .builtin .append, args := #[s, x], argTypes := #[t, t] })
    (e : TypeId) (z : Value) (bytes : Nat) (ht : P.underlying t = some (.slice e)) (hz : (P.info? e).map (fun i => (i.zero, i.size, i.bytes)) = some (some z, 1, bytes)) (hzs : z.cells.size = 1)
    (hS : St B w0 w L) (i : Nat) {v : Value} {us : List Value} (hi : L[i]? = some (row e v us)) (hs : a.eval s = v) (u : Value) (hx : a.eval x = .slice (some ⟨w.heap.size, 0, none⟩) 1 1)
    (h1 : u.oneCell' = true) (hb : bytes ≤ 4096) (hN : us.length < 4294967296)
    (hK : ∀ v' w', St B w0 w' (L.set i (row e v' (us ++ [u]))) → wpList P ops Q rest (a.put o.dst v') w') : wpList P ops Q (o :: rest) a (w.alloc (.cells #[u] e)) :=
  wpList_st_app hg s x t hop e z bytes ht hz hzs (hS.alloc' _) i hi hs ⟨w.heap.size, 0, none⟩ 1 1 hx [u] rfl (by
    intro j u' hu
    match j, hu with
    | 0, hu => simp at hu; subst hu; simp [Addr.add]) (by simpa using h1) hb (by omega) hK

/-- make -/
theorem wpList_st_make {B : Nat} {w0 w : World} {L : List Ent} (hg : o.guard = none) (x y : Operand) (t : TypeId) (hop : o.op = .makeSlice t x y) (e : TypeId) (z : Value) (bytes : Nat)
    (ht : P.underlying t = some (.slice e)) (hz : (P.info? e).map (fun i => (i.zero, i.size, i.bytes)) = some (some z, 1, bytes)) (hz1 : z.cells = #[z])
    (hS : St B w0 w L) (kl kc : IntKind) (n : Nat) (hx : a.eval x = .int kl n) (hy : a.eval y = .int kc n) (hb : bytes ≤ 4096) (hN : n ≤ 4294967296)
    (hK : ∀ v' w', St B w0 w' (L ++ [row e v' (List.replicate n z)]) → wpList P ops Q rest (a.put o.dst v') w') : wpList P ops Q (o :: rest) a w := by
  refine wpList_plain hg fun K hK' => ?_
  have hmul : bytes * n ≤ 281474976710656 := by have := Nat.mul_le_mul hb hN; omega
  have hrun := run_make_row' (P := P) t e z bytes ht hz hz1 kl kc n hmul (by omega) w
  have hsz : (madeCells #[z] n).size = n := size_madeCells _ _
  have hlist : (madeCells #[z] n).toList = List.replicate n z := by
    apply List.ext_getElem
    · simp [hsz]
    · intro i h1 h2; simp [madeCells, Nat.mod_one]
  have h2 := hS.new e (madeCells #[z] n) (by rw [hsz]; unfold maxLen; omega)
  rw [hsz, hlist] at h2
  unfold Oper.wp
  simp [execOp, hop, hx, hy, hrun, Result.andThen]
  exact hK' _ _ (hK _ _ h2)
end
end Go.Proofs.YtljemlfocajhnaaGreat
end

section
/- Slices of integers, over this seat's program. -/
namespace Go.Proofs.YtljemlfocajhnaaGreat
set_option linter.unusedSimpArgs false
set_option linter.unusedVariables false
open Go.RowKit

/-- the cells of a list of integers -/
def iv (xs : List Int) : List Value := xs.map (Value.int .i64)
/-- element j -/
def nth (xs : List Int) (j : Nat) : Int := xs.getD j 0

theorem ret_bool {a b : Bool} (h : a = b) : Ending.returned (.bool a) = .returned (.bool b) := by rw [h]
theorem ret_i64 {a b : Int} (h : a = b) : Ending.returned (.int .i64 a) = .returned (.int .i64 b) := by rw [h]
theorem ret_2i {a b c d : Int} (h : a = b) (h' : c = d) : Ending.returned (.tuple #[.int .i64 a, .int .i64 c]) = .returned (.tuple #[.int .i64 b, .int .i64 d]) := by rw [h, h']

theorem eq_f {a b : Int} (h : a ≠ b) : (a == b) = false := by simpa using h
theorem eq_t {a b : Int} (h : a = b) : (a == b) = true := by simpa using h
theorem ne_t {a b : Int} (h : a ≠ b) : (a != b) = true := by simpa using h
theorem ne_f {a b : Int} (h : a = b) : (a != b) = false := by simpa using h
theorem iv_len (xs : List Int) : (iv xs).length = xs.length := by simp [iv]
theorem iv_get {xs : List Int} {j : Nat} (h : j < xs.length) : (iv xs).getD j undef = .int .i64 (nth xs j) := by
  simp [iv, nth, List.getD, List.getElem?_eq_getElem h]
theorem iv_app (xs ys : List Int) : iv (xs ++ ys) = iv xs ++ iv ys := by simp [iv]
theorem iv_one (x : Int) : iv [x] = [.int .i64 x] := rfl
theorem iv_set (xs : List Int) (j : Nat) (x : Int) : (iv xs).set j (.int .i64 x) = iv (xs.set j x) := by simp [iv, List.map_set]
theorem iv_rep (n : Nat) : List.replicate n (Value.int .i64 0) = iv (List.replicate n 0) := by simp [iv]
theorem nth_eq {xs : List Int} {j : Nat} (h : j < xs.length) : nth xs j = xs[j] := by simp [nth, h]
theorem nth_mem {xs : List Int} {j : Nat} (h : j < xs.length) : nth xs j ∈ xs := by rw [nth_eq h]; exact List.getElem_mem h
theorem drop_nth {xs : List Int} {k : Nat} (hk : k < xs.length) : xs.drop k = nth xs k :: xs.drop (k + 1) := by
  rw [List.drop_eq_getElem_cons hk, nth_eq hk]
theorem take_nth {xs : List Int} {k : Nat} (hk : k < xs.length) : xs.take (k + 1) = xs.take k ++ [nth xs k] := by
  rw [List.take_succ_eq_append_getElem hk, nth_eq hk]

def RdI (w : World) (v : Value) (xs : List Int) : Prop := Rd w v (iv xs)

theorem Tryz.info_i : (Tryz.prog.info? 2).map (fun i => (i.zero, i.size, i.bytes)) = some (some (.int .i64 0), 1, 8) := by kernel_rfl
theorem Tryz.size_i : (Tryz.prog.info? 2).map (·.size) = some 1 := by kernel_rfl
theorem Tryz.und_is : Tryz.prog.underlying 46 = some (.slice 2) := by kernel_rfl

section
variable {w w' : World} {v : Value} {xs : List Int}
theorem RdI.le (h : RdI w v xs) : xs.length ≤ 9223372036854775807 := by have := h.sl.le; rwa [iv_len] at this
theorem RdI.len (h : RdI w v xs) (ty : TypeId) (W : World) : (Builtin.len_ #[46] ty #[v]).run Tryz.prog W = .ok (.int .i64 xs.length) W := by
  have := run_len_sl (P := Tryz.prog) h.sl 46 ty Tryz.und_is W; rwa [iv_len] at this
theorem RdI.ix (h : RdI w v xs) (k : IntKind) (i : Int) (h0 : 0 ≤ i) (hi : i < xs.length) (W : World) :
    (Instr.indexAt 46 v (.int k i)).run Tryz.prog W = .ok (.pointer (some (el v i.toNat))) W :=
  run_ix_sl (P := Tryz.prog) h.sl 46 Tryz.und_is Tryz.size_i k i h0 (by rw [iv_len]; exact hi) W
theorem RdI.ixe (h : RdI w v xs) (i : Int) (j : Nat) (hij : i = (j : Int)) (hj : j < xs.length) (W : World) :
    (Instr.indexAt 46 v (.int .i64 i)).run Tryz.prog W = .ok (.pointer (some (el v j))) W := by
  have := h.ix .i64 i (by omega) (by omega) W
  rwa [hij, Int.toNat_natCast, ← hij] at this
theorem RdI.cell (h : RdI w v xs) (j : Nat) (hj : j < xs.length) : w.cell? (el v j) = some (.int .i64 (nth xs j)) := by
  rw [Rd.cell h (by rw [iv_len]; exact hj), iv_get hj]
theorem RdI.lt (h : RdI w v xs) (j : Nat) (hj : j < xs.length) : (el v j).block < w.heap.size := Rd.lt h (by rw [iv_len]; exact hj)
theorem RdI.keep (h : RdI w v xs) (hb : Below w.heap.size w w') : RdI w' v xs := Rd.keep h hb
theorem RdI.nil (w : World) : RdI w (.slice none 0 0) [] := Rd.nil w
end

theorem St.rdI {B : Nat} {w0 w : World} {L : List Ent} (h : St B w0 w L) (i : Nat) {e : TypeId} {v : Value} {xs : List Int} (hi : L[i]? = some (row e v (iv xs))) : RdI w v xs := h.rd i hi
theorem St.oldI {w0 w : World} {L : List Ent} {v : Value} {xs : List Int} (h : St w0.heap.size w0 w L) (hr : RdI w0 v xs) : RdI w v xs := Rd.keep hr h.below

/-- it answers a bool, and leaves what there was -/
def GivesB (w : World) (b : Bool) (e : Ending) (w' : World) : Prop := e = .returned (.bool b) ∧ St w.heap.size w w' []
/-- it answers a number, and leaves what there was -/
def GivesI (w : World) (n : Int) (e : Ending) (w' : World) : Prop := e = .returned (.int .i64 n) ∧ St w.heap.size w w' []
/-- it hands over a row of integers -/
def MakesI (w : World) (xs : List Int) (e : Ending) (w' : World) : Prop := ∃ v, e = .returned v ∧ St w.heap.size w w' [row 2 v (iv xs)]
theorem St.out {B : Nat} {w0 w : World} {L : List Ent} (h : St B w0 w L) : St B w0 w [] := h.sub (List.nil_sublist _)

section
variable {ops : Array Oper} {rest : List Oper} {o : Oper} {a : Act} {Q : Exit → Act → World → Prop} {B : Nat} {w0 w : World} {L : List Ent}

/-- append of one integer to an owned row of integers -/
theorem appI (hS : St B w0 w L) (i : Nat) {v : Value} {xs : List Int} (hi : L[i]? = some (row 2 v (iv xs))) (hN : xs.length < 4294967296) (hg : o.guard = none) (s x : Operand)
    (hop : o.op = .call { callee := .builtin .append, args := #[s, x], argTypes := #[46, 46] }) (hs : a.eval s = v) (n : Int) (hx : a.eval x = .slice (some ⟨w.heap.size, 0, none⟩) 1 1)
    (hK : ∀ v' w', St B w0 w' (L.set i (row 2 v' (iv (xs ++ [n])))) → wpList Tryz.prog ops Q rest (a.put o.dst v') w') :
    wpList Tryz.prog ops Q (o :: rest) a (w.alloc (.cells #[.int .i64 n] 2)) :=
  wpList_st_app1 hg s x 46 hop 2 (.int .i64 0) 8 Tryz.und_is Tryz.info_i rfl hS i hi hs (.int .i64 n) hx rfl (by omega) (by rw [iv_len]; exact hN)
    (fun v' w' h => hK v' w' (by rw [iv_app, iv_one]; exact h))

/-- append of the integers of a slice to an owned row of integers -/
theorem appsI (hS : St B w0 w L) (i : Nat) {v : Value} {xs : List Int} (hi : L[i]? = some (row 2 v (iv xs))) (vx : Value) (ys : List Int) (hr : RdI w vx ys) (hN : xs.length + ys.length ≤ 4294967296) (hg : o.guard = none) (s x : Operand)
    (hop : o.op = .call { callee := .builtin .append, args := #[s, x], argTypes := #[46, 46] }) (hs : a.eval s = v) (hx : a.eval x = vx)
    (hK : ∀ v' w', St B w0 w' (L.set i (row 2 v' (iv (xs ++ ys)))) → wpList Tryz.prog ops Q rest (a.put o.dst v') w') :
    wpList Tryz.prog ops Q (o :: rest) a w :=
  wpList_st_apps hg s x 46 hop 2 (.int .i64 0) 8 Tryz.und_is Tryz.info_i rfl hS i hi hs vx hx (iv ys) hr (by intro u hu; simp only [iv, List.mem_map] at hu; obtain ⟨n, _, rfl⟩ := hu; rfl) (by omega) (by rw [iv_len, iv_len]; exact hN)
    (fun v' w' h => hK v' w' (by rw [iv_app]; exact h))

/-- a store into an owned row of integers -/
theorem stoI (hS : St B w0 w L) (i : Nat) {v : Value} {xs : List Int} (hi : L[i]? = some (row 2 v (iv xs))) (j : Nat) (hj : j < xs.length) (hg : o.guard = none) (x y : Operand)
    (hop : o.op = .store 2 x y) (hx : a.eval x = .pointer (some (el v j))) (n : Int) (hy : a.eval y = .int .i64 n)
    (hK : ∀ w', St B w0 w' (L.set i (row 2 v (iv (xs.set j n)))) → wpList Tryz.prog ops Q rest (a.put o.dst undef) w') :
    wpList Tryz.prog ops Q (o :: rest) a w :=
  wpList_st_store hg x y 2 hop Tryz.size_i hS i hi j (by rw [iv_len]; exact hj) (.int .i64 n) hx hy rfl rfl (fun w' h => hK w' (by rw [← iv_set]; exact h))

/-- make([]int64, n) -/
theorem mkI (hS : St B w0 w L) (hg : o.guard = none) (x y : Operand) (hop : o.op = .makeSlice 46 x y) (kl kc : IntKind) (n : Nat) (hx : a.eval x = .int kl n) (hy : a.eval y = .int kc n) (hN : n ≤ 4294967296)
    (hK : ∀ v' w', St B w0 w' (L ++ [row 2 v' (iv (List.replicate n 0))]) → wpList Tryz.prog ops Q rest (a.put o.dst v') w') :
    wpList Tryz.prog ops Q (o :: rest) a w :=
  wpList_st_make hg x y 46 hop 2 (.int .i64 0) 8 Tryz.und_is Tryz.info_i rfl hS kl kc n hx hy (by omega) hN (fun v' w' h => hK v' w' (by rw [← iv_rep]; exact h))
end
end Go.Proofs.YtljemlfocajhnaaGreat
end

section
/- Slices of slices of integers. -/
namespace Go.Proofs.YtljemlfocajhnaaGreat
set_option linter.unusedSimpArgs false
set_option linter.unusedVariables false
open Go.RowKit

def vat (us : List Value) (j : Nat) : Value := us.getD j undef
def xat (xss : List (List Int)) (j : Nat) : List Int := xss.getD j []
theorem xat_eq {xss : List (List Int)} {j : Nat} (h : j < xss.length) : xat xss j = xss[j] := by simp [xat, h]
theorem vat_eq {us : List Value} {j : Nat} (h : j < us.length) : vat us j = us[j] := by simp [vat, h]
theorem xat_mem {xss : List (List Int)} {j : Nat} (h : j < xss.length) : xat xss j ∈ xss := by rw [xat_eq h]; exact List.getElem_mem h
theorem drop_xat {xss : List (List Int)} {k : Nat} (hk : k < xss.length) : xss.drop k = xat xss k :: xss.drop (k + 1) := by
  rw [List.drop_eq_getElem_cons hk, xat_eq hk]
theorem take_xat {xss : List (List Int)} {k : Nat} (hk : k < xss.length) : xss.take (k + 1) = xss.take k ++ [xat xss k] := by
  rw [List.take_succ_eq_append_getElem hk, xat_eq hk]

/-- a slice with the cells us, each of which reads as a list of integers -/
def RII (w : World) (v : Value) (us : List Value) (xss : List (List Int)) : Prop :=
  Rd w v us ∧ us.length = xss.length ∧ ∀ j, j < xss.length → RdI w (vat us j) (xat xss j)

theorem Tryz.size_is : (Tryz.prog.info? 46).map (·.size) = some 1 := by kernel_rfl
theorem Tryz.info_is : (Tryz.prog.info? 46).map (fun i => (i.zero, i.size, i.bytes)) = some (some (.slice none 0 0), 1, 24) := by kernel_rfl
theorem Tryz.und_iss : Tryz.prog.underlying 24 = some (.slice 46) := by kernel_rfl

theorem IsSl.sh {v : Value} {n : Nat} (h : IsSl v n) : ∃ a c, v = .slice a n c := by obtain ⟨a, c, hv, _⟩ := h; exact ⟨a, c, hv⟩
theorem IsSl.cells {v : Value} {n : Nat} (h : IsSl v n) : v.cells = #[v] := by obtain ⟨a, c, rfl, _⟩ := h; rfl
theorem IsSl.one {v : Value} {n : Nat} (h : IsSl v n) : v.oneCell' = true := by obtain ⟨a, c, rfl, _⟩ := h; rfl

section
variable {w w' : World} {v : Value} {us : List Value} {xss : List (List Int)}
theorem RII.le (h : RII w v us xss) : xss.length ≤ 9223372036854775807 := by have := h.1.sl.le; rwa [h.2.1] at this
theorem RII.len (h : RII w v us xss) (ty : TypeId) (W : World) : (Builtin.len_ #[24] ty #[v]).run Tryz.prog W = .ok (.int .i64 xss.length) W := by
  have := run_len_sl (P := Tryz.prog) h.1.sl 24 ty Tryz.und_iss W; rwa [h.2.1] at this
theorem RII.ix (h : RII w v us xss) (k : IntKind) (i : Int) (h0 : 0 ≤ i) (hi : i < xss.length) (W : World) :
    (Instr.indexAt 24 v (.int k i)).run Tryz.prog W = .ok (.pointer (some (el v i.toNat))) W :=
  run_ix_sl (P := Tryz.prog) h.1.sl 24 Tryz.und_iss Tryz.size_is k i h0 (by rw [h.2.1]; exact hi) W
theorem RII.ixe (h : RII w v us xss) (i : Int) (j : Nat) (hij : i = (j : Int)) (hj : j < xss.length) (W : World) :
    (Instr.indexAt 24 v (.int .i64 i)).run Tryz.prog W = .ok (.pointer (some (el v j))) W := by
  have := h.ix .i64 i (by omega) (by omega) W
  rwa [hij, Int.toNat_natCast, ← hij] at this
theorem RII.cell (h : RII w v us xss) (j : Nat) (hj : j < xss.length) : w.cell? (el v j) = some (vat us j) :=
  Rd.cell h.1 (by rw [h.2.1]; exact hj)
theorem RII.row (h : RII w v us xss) (j : Nat) (hj : j < xss.length) : RdI w (vat us j) (xat xss j) := h.2.2 j hj
theorem RII.keep (h : RII w v us xss) (hb : Below w.heap.size w w') : RII w' v us xss := ⟨h.1.keep hb, h.2.1, fun j hj => (h.2.2 j hj).keep hb⟩
end
theorem St.oldII {w0 w : World} {L : List Ent} {v : Value} {us : List Value} {xss : List (List Int)} (h : St w0.heap.size w0 w L) (hr : RII w0 v us xss) : RII w v us xss := hr.keep h.below

/-- the rows behind the cells us -/
def rowsI (us : List Value) (xss : List (List Int)) : List Ent := List.zipWith (fun u xs => row 2 u (iv xs)) us xss
/-- all that a slice of slices of integers owns -/
def own2 (v : Value) (us : List Value) (xss : List (List Int)) : List Ent := row 46 v us :: rowsI us xss

theorem rowsI_get {us : List Value} {xss : List (List Int)} (hl : us.length = xss.length) {j : Nat} (hj : j < xss.length) : (rowsI us xss)[j]? = some (row 2 (vat us j) (iv (xat xss j))) := by
  rw [rowsI, List.getElem?_zipWith, List.getElem?_eq_getElem (show j < us.length by omega), List.getElem?_eq_getElem hj]
  simp [vat_eq (show j < us.length by omega), xat_eq hj]
theorem rowsI_len {us : List Value} {xss : List (List Int)} (hl : us.length = xss.length) : (rowsI us xss).length = xss.length := by simp [rowsI, hl]
theorem rowsI_app {us : List Value} {xss : List (List Int)} (hl : us.length = xss.length) (u : Value) (xs : List Int) : rowsI (us ++ [u]) (xss ++ [xs]) = rowsI us xss ++ [row 2 u (iv xs)] := by
  unfold rowsI; rw [List.zipWith_append hl]; rfl

theorem St.rii {B : Nat} {w0 w : World} {v : Value} {us : List Value} {xss : List (List Int)} (h : St B w0 w (own2 v us xss)) (hl : us.length = xss.length) : RII w v us xss :=
  ⟨h.rd 0 rfl, hl, fun j hj => h.rdI (j + 1) (e := 2) (by rw [own2, List.getElem?_cons_succ]; exact rowsI_get hl hj)⟩

/-- it hands over a slice of slices of integers -/
def MakesII (w : World) (xss : List (List Int)) (e : Ending) (w' : World) : Prop := ∃ v us, e = .returned v ∧ us.length = xss.length ∧ St w.heap.size w w' (own2 v us xss)

section
variable {ops : Array Oper} {rest : List Oper} {o : Oper} {a : Act} {Q : Exit → Act → World → Prop} {B : Nat} {w0 w : World} {L : List Ent}
/-- append of one slice to an owned row of slices -/
theorem appII (hS : St B w0 w L) (i : Nat) {v : Value} {us : List Value} (hi : L[i]? = some (row 46 v us)) (hN : us.length < 4294967296) (hg : o.guard = none) (s x : Operand)
    (hop : o.op = .call { callee := .builtin .append, args := #[s, x], argTypes := #[24, 24] }) (hs : a.eval s = v) (u : Value) (hu : u.oneCell' = true) (hx : a.eval x = .slice (some ⟨w.heap.size, 0, none⟩) 1 1)
    (hK : ∀ v' w', St B w0 w' (L.set i (row 46 v' (us ++ [u]))) → wpList Tryz.prog ops Q rest (a.put o.dst v') w') :
    wpList Tryz.prog ops Q (o :: rest) a (w.alloc (.cells #[u] 46)) :=
  wpList_st_app1 hg s x 24 hop 46 (.slice none 0 0) 24 Tryz.und_iss Tryz.info_is rfl hS i hi hs u hx hu (by omega) hN hK

end
end Go.Proofs.YtljemlfocajhnaaGreat
end

section
/- append inside a region that draws its order. -/
namespace Go.Proofs.YtljemlfocajhnaaGreat
set_option linter.unusedSimpArgs false
set_option linter.unusedVariables false
open Go.RowKit

/-- a new block, ahead of the others -/
theorem St.newboxF {B : Nat} {w0 w : World} {L : List Ent} (h : St B w0 w L) (e : TypeId) (cs : Array Value) : St B w0 (w.alloc (.cells cs e)) (box e w.heap.size cs.toList :: L) :=
  (h.newbox e cs).perm (List.perm_append_comm (l₂ := [_]))

section
variable {P : Program} {ops : Array Oper} {o : Oper} {a : Act} {K : Act → World → Prop} {Q : Exit → Act → World → Prop} {E : Prop}

/-- append of a readable slice's elements to an owned row, as a step -/
theorem step_st_app {B : Nat} {w0 w : World} {L : List Ent} (hg : o.guard = none) (s x : Operand) (t : TypeId) (hop : o.op = .call { callee := .builtin .append, args := #[s, x], argTypes := #[t, t] })
    (e : TypeId) (z : Value) (bytes : Nat) (ht : P.underlying t = some (.slice e)) (hz : (P.info? e).map (fun i => (i.zero, i.size, i.bytes)) = some (some z, 1, bytes)) (hzs : z.cells.size = 1)
    (hS : St B w0 w L) (i : Nat) {v : Value} {us : List Value} (hi : L[i]? = some (row e v us)) (hs : a.eval s = v) (ad : Addr) (m c : Nat) (hx : a.eval x = .slice (some ad) m c)
    (news : List Value) (hl : news.length = m) (hnews : ∀ j u, news[j]? = some u → w.cell? (ad.add j) = some u)
    (h1 : ∀ u ∈ news, u.oneCell' = true) (hb : bytes ≤ 4096) (hN : us.length + m ≤ 4294967296)
    (hK : ∀ v' w', St B w0 w' (L.set i (row e v' (us ++ news))) → K (a.put o.dst v') w') :
    if Region.wanted o (yielded ops a.tmps) = true then Oper.wp P o a w K Q else E := by
  have hw : Region.wanted o (yielded ops a.tmps) = true := by simp [Region.wanted, hg]
  rw [if_pos hw]
  obtain ⟨v', w', hr, hS'⟩ := run_app (P := P) t o.type e z bytes ht hz hzs hS i hi ad m c news hl hnews h1 hb hN
  unfold Oper.wp execOp
  simp only [hop, resolve, invoke, builtin, Sem.run_bind, Sem.run_pure, Result.andThen_ok, List.map_toArray, List.map_cons, List.map_nil, hs, hx, hr]
  exact hK _ _ hS'
/-- append of what a slice reads as, as a step -/
theorem step_st_apps {B : Nat} {w0 w : World} {L : List Ent} (hg : o.guard = none) (s x : Operand) (t : TypeId) (hop : o.op = .call { callee := .builtin .append, args := #[s, x], argTypes := #[t, t] })
    (e : TypeId) (z : Value) (bytes : Nat) (ht : P.underlying t = some (.slice e)) (hz : (P.info? e).map (fun i => (i.zero, i.size, i.bytes)) = some (some z, 1, bytes)) (hzs : z.cells.size = 1)
    (hS : St B w0 w L) (i : Nat) {v : Value} {us : List Value} (hi : L[i]? = some (row e v us)) (hs : a.eval s = v) (vx : Value) (hx : a.eval x = vx)
    (news : List Value) (hr : Rd w vx news)
    (h1 : ∀ u ∈ news, u.oneCell' = true) (hb : bytes ≤ 4096) (hN : us.length + news.length ≤ 4294967296)
    (hK : ∀ v' w', St B w0 w' (L.set i (row e v' (us ++ news))) → K (a.put o.dst v') w') :
    if Region.wanted o (yielded ops a.tmps) = true then Oper.wp P o a w K Q else E := by
  obtain ⟨⟨ao, cap, rfl, hc1, hc2, hc3⟩, hcell⟩ := hr
  cases ao with
  | some ad =>
    refine step_st_app hg s x t hop e z bytes ht hz hzs hS i hi hs ad _ _ hx news rfl ?_ h1 hb hN hK
    intro j u hu
    exact hcell j u hu
  | none =>
    have hn : news = [] := by
      rcases hc3 with h | h
      · exact List.eq_nil_of_length_eq_zero h
      · exact absurd rfl h
    subst hn
    have hw : Region.wanted o (yielded ops a.tmps) = true := by simp [Region.wanted, hg]
    rw [if_pos hw]
    have hz' : (P.info? e).map (·.size) = some 1 := by
      obtain ⟨inf, hinf, hzz⟩ := Option.map_eq_some_iff.1 hz
      simp only [Prod.mk.injEq] at hzz
      rw [hinf]; simp [hzz.2.1]
    have hr := run_app0 (P := P) t o.type e ht hz' hS i hi cap
    have hK2 := hK v w (by
      have : L.set i (row e v (us ++ [])) = L := by
        obtain ⟨hlt, heq⟩ := List.getElem?_eq_some_iff.1 hi
        rw [List.append_nil, ← heq, List.set_getElem_self]
      rw [this]; exact hS)
    unfold Oper.wp execOp
    simp only [hop, resolve, invoke, builtin, Sem.run_bind, Sem.run_pure, Result.andThen_ok, List.map_toArray, List.map_cons, List.map_nil, hs, hx, hr, List.length_nil]
    exact hK2
theorem step_st_app1 {B : Nat} {w0 w : World} {L : List Ent} (hg : o.guard = none) (s x : Operand) (t : TypeId) (hop : o.op = .call { callee := .builtin .append, args := #[s, x], argTypes := #[t, t] })
    (e : TypeId) (z : Value) (bytes : Nat) (ht : P.underlying t = some (.slice e)) (hz : (P.info? e).map (fun i => (i.zero, i.size, i.bytes)) = some (some z, 1, bytes)) (hzs : z.cells.size = 1)
    (hS : St B w0 w L) (i : Nat) {v : Value} {us : List Value} (hi : L[i]? = some (row e v us)) (hs : a.eval s = v) (u : Value) (hx : a.eval x = .slice (some ⟨w.heap.size, 0, none⟩) 1 1)
    (h1 : u.oneCell' = true) (hb : bytes ≤ 4096) (hN : us.length < 4294967296)
    (hK : ∀ v' w', St B w0 w' (L.set i (row e v' (us ++ [u]))) → K (a.put o.dst v') w') :
    if Region.wanted o (yielded ops a.tmps) = true then Oper.wp P o a (w.alloc (.cells #[u] e)) K Q else E :=
  step_st_app hg s x t hop e z bytes ht hz hzs (hS.alloc' _) i hi hs ⟨w.heap.size, 0, none⟩ 1 1 hx [u] rfl (by
    intro j u' hu
    match j, hu with
    | 0, hu => simp at hu; subst hu; simp [Addr.add]) (by simpa using h1) hb (by omega) hK
end
section
variable {ops : Array Oper} {o : Oper} {a : Act} {K : Act → World → Prop} {Q : Exit → Act → World → Prop} {E : Prop} {B : Nat} {w0 w : World} {L : List Ent}
/-- append of one slice to an owned row of slices, as a step -/
theorem stepII (hS : St B w0 w L) (i : Nat) {v : Value} {us : List Value} (hi : L[i]? = some (row 46 v us)) (hN : us.length < 4294967296) (hg : o.guard = none) (s x : Operand)
    (hop : o.op = .call { callee := .builtin .append, args := #[s, x], argTypes := #[24, 24] }) (hs : a.eval s = v) (u : Value) (hu : u.oneCell' = true) (hx : a.eval x = .slice (some ⟨w.heap.size, 0, none⟩) 1 1)
    (hK : ∀ v' w', St B w0 w' (L.set i (row 46 v' (us ++ [u]))) → K (a.put o.dst v') w') :
    if Region.wanted o (yielded ops a.tmps) = true then Oper.wp Tryz.prog o a (w.alloc (.cells #[u] 46)) K Q else E :=
  step_st_app1 hg s x 24 hop 46 (.slice none 0 0) 24 Tryz.und_iss Tryz.info_is rfl hS i hi hs u hx hu (by omega) hN hK
/-- append of the slices of a slice to an owned row of slices, as a step -/
theorem stepsII (hS : St B w0 w L) (i : Nat) {v : Value} {us : List Value} (hi : L[i]? = some (row 46 v us)) (vx : Value) (ws : List Value) (hr : Rd w vx ws) (h1 : ∀ u ∈ ws, u.oneCell' = true) (hN : us.length + ws.length ≤ 4294967296) (hg : o.guard = none) (s x : Operand)
    (hop : o.op = .call { callee := .builtin .append, args := #[s, x], argTypes := #[24, 24] }) (hs : a.eval s = v) (hx : a.eval x = vx)
    (hK : ∀ v' w', St B w0 w' (L.set i (row 46 v' (us ++ ws))) → K (a.put o.dst v') w') :
    if Region.wanted o (yielded ops a.tmps) = true then Oper.wp Tryz.prog o a w K Q else E :=
  step_st_apps hg s x 24 hop 46 (.slice none 0 0) 24 Tryz.und_iss Tryz.info_is rfl hS i hi hs vx hx ws hr h1 (by omega) hN hK
end
end Go.Proofs.YtljemlfocajhnaaGreat
end

section
/- Walks: marks into memory that one owns, and what it holds. -/
namespace Go.Proofs.YtljemlfocajhnaaGreat
set_option linter.unusedSimpArgs false
set_option linter.unusedVariables false
open Go.RowKit

def tot : List (List Int) → Nat
  | [] => 0
  | x :: r => x.length + tot r
theorem St.at_row {B : Nat} {w0 w : World} {v : Value} {us : List Value} {xss : List (List Int)} {L2 : List Ent} (h : St B w0 w (own2 v us xss ++ L2)) (hl : us.length = xss.length) {j : Nat} (hj : j < xss.length) :
    (own2 v us xss ++ L2)[j + 1]? = some (row 2 (vat us j) (iv (xat xss j))) := by
  rw [List.getElem?_append_left (by simp [own2, rowsI_len hl]; exact hj), own2, List.getElem?_cons_succ]
  exact rowsI_get hl hj
theorem own2_set {v : Value} {us : List Value} {xss : List (List Int)} {L2 : List Ent} (hl : us.length = xss.length) {j : Nat} (hj : j < xss.length) (xs : List Int) :
    (own2 v us xss ++ L2).set (j + 1) (row 2 (vat us j) (iv xs)) = own2 v us (xss.set j xs) ++ L2 := by
  rw [List.set_append_left _ _ (by simp [own2, rowsI_len hl]; exact hj)]
  congr 1
  simp only [own2, List.set_cons_succ]
  congr 1
  unfold rowsI
  apply List.ext_getElem?
  intro m
  rw [List.getElem?_set, List.getElem?_zipWith, List.getElem?_zipWith, List.getElem?_set]
  by_cases e : j = m
  · subst e
    simp [hl, hj, vat]
  · simp [e]
theorem rii2 {B : Nat} {w0 w : World} {v : Value} {us : List Value} {xss : List (List Int)} {L2 : List Ent} (h : St B w0 w (own2 v us xss ++ L2)) (hl : us.length = xss.length) : RII w v us xss := (h.sub (List.sublist_append_left _ _)).rii hl

end Go.Proofs.YtljemlfocajhnaaGreat
end

section
/- Walks: fields by value: the helpers of the exact laws. -/
namespace Go.Proofs.YtljemlfocajhnaaGreat
set_option linter.unusedSimpArgs false
set_option linter.unusedVariables false
open Go.RowKit

/-- a field as a value -/
def fv (p d : Int) (v : Value) : Value := .agg #[.int .i64 p, .int .i64 d, v]
theorem RdI.shp' {w : World} {v : Value} {xs : List Int} (h : RdI w v xs) : ∃ a c, v = .slice a xs.length c := by
  obtain ⟨a, c, hv⟩ := h.sl.sh
  rw [iv_len] at hv
  exact ⟨a, c, hv⟩

theorem RII.shp' {w : World} {v : Value} {us : List Value} {xss : List (List Int)} (h : RII w v us xss) : ∃ a c, v = .slice a xss.length c := by
  obtain ⟨a, c, hv⟩ := h.1.sl.sh
  rw [h.2.1] at hv
  exact ⟨a, c, hv⟩
/-- it hands over a field of its own -/
def MakesF (w : World) (p d : Int) (xs : List Int) (e : Ending) (w' : World) : Prop := ∃ v, e = .returned (fv p d v) ∧ St w.heap.size w w' [row 2 v (iv xs)]

end Go.Proofs.YtljemlfocajhnaaGreat
end

section
/- Walks: digits of numbers, bounded powers. Walks: bounded powers. -/
namespace Go.Proofs.YtljemlfocajhnaaGreat
set_option linter.unusedSimpArgs false
set_option linter.unusedVariables false
open Go.RowKit


def dgv (base : Int) : Nat → Int → Int
  | 0, n => n
  | j + 1, n => dgv base j n / base
/-- the digits of a number, the lowest one first -/
def lows (base : Int) (m : Nat) (n : Int) : List Int := (List.range m).map fun (j : Nat) => dgv base j n % base
theorem lows_len (base : Int) (m : Nat) (n : Int) : (lows base m n).length = m := by simp [lows]
theorem dv_le {base n : Int} (hb : 2 ≤ base) (hn : 0 ≤ n) : ∀ j, 0 ≤ dgv base j n ∧ dgv base j n ≤ n
  | 0 => ⟨hn, Int.le_refl _⟩
  | j + 1 => by
    have := dv_le hb hn j
    have h1 : 0 ≤ dgv base j n / base := Int.ediv_nonneg this.1 (by omega)
    have h2 : dgv base j n / base ≤ dgv base j n := Int.ediv_le_self _ this.1
    exact ⟨h1, by simp only [dgv]; omega⟩

end Go.Proofs.YtljemlfocajhnaaGreat
end

section
/- Walks: copies of slices, reslices, Concat. -/
namespace Go.Proofs.YtljemlfocajhnaaGreat
set_option linter.unusedSimpArgs false
set_option linter.unusedVariables false
open Go.RowKit

/-- v[lo:hi], the capacity kept -/
def rsl (v : Value) (lo hi : Nat) : Value :=
  match v with
  | .slice a _ c => sliced a lo hi c 1
  | _ => v
theorem Tryz.und_isss : Tryz.prog.underlying 63 = some (.slice 24) := by kernel_rfl
theorem Tryz.size_iss : (Tryz.prog.info? 24).map (·.size) = some 1 := by kernel_rfl
theorem und_elem_is : Tryz.prog.underlying 46 = some (.slice (Tryz.prog.elem 46)) := by kernel_rfl
theorem elem_is_size : (Tryz.prog.info? (Tryz.prog.elem 46)).map (·.size) = some 1 := by kernel_rfl
theorem run_size_elem (W : World) : (sizeOf (Tryz.prog.elem 46)).run Tryz.prog W = .ok 1 W := by
  obtain ⟨inf, hinf, hs⟩ := Option.map_eq_some_iff.1 elem_is_size
  simp [sizeOf, typeInfo, hinf, hs]

theorem rsl_Rd {w : World} {v : Value} {us : List Value} (h : Rd w v us) {lo hi : Nat} (h1 : lo ≤ hi) (h2 : hi ≤ us.length) : Rd w (rsl v lo hi) ((us.take hi).drop lo) := by
  obtain ⟨⟨a, cap, rfl, hc1, hc2, ha⟩, hcell⟩ := h
  have hlen : ((us.take hi).drop lo).length = hi - lo := by simp; omega
  refine ⟨⟨if cap = lo then a else a.map (·.add (lo * 1)), cap - lo, ?_, ?_, by omega, ?_⟩, ?_⟩
  · show sliced a lo hi cap 1 = _
    rw [hlen]; rfl
  · rw [hlen]; omega
  · rw [hlen]
    rcases ha with ha | ha
    · left; omega
    · right; split
      · exact ha
      · simpa using ha
  · intro i u hu
    have hi' : i < hi - lo := by have := (List.getElem?_eq_some_iff.1 hu).1; rw [hlen] at this; exact this
    have hu' : us[lo + i]? = some u := by
      simp only [List.getElem?_drop, List.getElem?_take, show lo + i < hi by omega, if_true] at hu ⊢
      exact hu
    have hc := hcell (lo + i) u hu'
    rcases ha with ha | ha
    · omega
    · obtain ⟨b, rfl⟩ := Option.ne_none_iff_exists'.1 ha
      have hne : cap ≠ lo := by omega
      simp only [rsl, sliced, hne, if_false, Option.map_some, el, Nat.mul_one]
      rw [Addr.add_add]
      simpa [el] using hc
section
variable {w : World} {v : Value} {xs : List Int}
theorem rsl_rd (h : RdI w v xs) {lo hi : Nat} (h1 : lo ≤ hi) (h2 : hi ≤ xs.length) : RdI w (rsl v lo hi) ((xs.take hi).drop lo) := by
  have := rsl_Rd h h1 (show hi ≤ (iv xs).length by rw [iv_len]; exact h2)
  simpa [RdI, iv] using this
theorem rsl_hi (h : RdI w v xs) (hi : Nat) (h2 : hi ≤ xs.length) (W : World) :
    (Instr.slice 46 v none (some (.int .i64 (hi : Int))) none).run Tryz.prog W = .ok (rsl v 0 hi) W := by
  obtain ⟨⟨a, cap, rfl, hc1, hc2, ha⟩, hcell⟩ := h
  rw [iv_len] at hc1
  rw [run_slice_h W 46 a _ cap und_elem_is .i64 hi (by omega) (by omega), run_size_elem]
  rfl
theorem rsl_lo (h : RdI w v xs) (lo : Nat) (h2 : lo ≤ xs.length) (W : World) :
    (Instr.slice 46 v (some (.int .i64 (lo : Int))) none none).run Tryz.prog W = .ok (rsl v lo xs.length) W := by
  obtain ⟨⟨a, cap, rfl, hc1, hc2, ha⟩, hcell⟩ := h
  rw [iv_len] at hc1
  rw [run_slice_l W 46 a _ cap und_elem_is .i64 lo (by omega) (by rw [iv_len]; omega), run_size_elem]
  rw [iv_len]
  rfl
end

theorem St.newnil {B : Nat} {w0 w : World} {L : List Ent} (h : St B w0 w L) (e : TypeId) : St B w0 w (L ++ [row e (.slice none 0 0) []]) :=
  h.add ⟨rfl, rfl, rfl, Nat.le_refl _, fun _ _ _ => rfl⟩ _ (.inr (.inl ⟨rfl, rfl, rfl⟩)) (fun k hk => by simp [bk, row] at hk)

set_option maxRecDepth 100000 in
theorem l00Own_c (v : Value) (xs : List Int) (w : World) (hv : RdI w v xs) (hN : xs.length ≤ 1048576) :
    Calls Tryz.prog 61 #[v] w (MakesI w xs) := by
  have hS1 := (St.refl w).new 2 #[] (by simp)
  go_enter Tryz.func61, Tryz.ntmps61
  go_wp2_with (at_builtin; refine appsI hS1 0 (xs := []) rfl v xs (hS1.oldI hv) (by simp; omega) rfl _ _ rfl rfl rfl ?_; intro v2 w2 hS2)
  go_ret
  exact ⟨v2, rfl, hS2⟩

def totV : List (List Value) → Nat
  | [] => 0
  | x :: r => x.length + totV r
def vsat (uss : List (List Value)) (j : Nat) : List Value := uss.getD j []
theorem vsat_eq {uss : List (List Value)} {j : Nat} (h : j < uss.length) : vsat uss j = uss[j] := by simp [vsat, h]
theorem take_vsat {uss : List (List Value)} {k : Nat} (hk : k < uss.length) : uss.take (k + 1) = uss.take k ++ [vsat uss k] := by
  rw [List.take_succ_eq_append_getElem hk, vsat_eq hk]
theorem totV_flat (uss : List (List Value)) : uss.flatten.length = totV uss := by
  induction uss with
  | nil => rfl
  | cons x r ih => simp [totV, ih]

/-- a slice of slices of cells -/
def RVV (w : World) (v : Value) (vs : List Value) (uss : List (List Value)) : Prop :=
  Rd w v vs ∧ vs.length = uss.length ∧ ∀ j, j < uss.length → Rd w (vat vs j) (vsat uss j)
theorem RVV.keep {w w' : World} {v : Value} {vs : List Value} {uss : List (List Value)} (h : RVV w v vs uss) (hb : Below w.heap.size w w') : RVV w' v vs uss := ⟨h.1.keep hb, h.2.1, fun j hj => (h.2.2 j hj).keep hb⟩


theorem own2_nil' : own2 (.slice none 0 0) [] [] = [row 46 (.slice none 0 0) []] := rfl
/-- behind the append of a row of its own -/
theorem own2_snoc {B : Nat} {w0 w : World} {v v' : Value} {us : List Value} {xss : List (List Int)} {u : Value} {xs : List Int} (hl : us.length = xss.length)
    (h : St B w0 w ((own2 v us xss ++ [row 2 u (iv xs)]).set 0 (row 46 v' (us ++ [u])))) : St B w0 w (own2 v' (us ++ [u]) (xss ++ [xs])) := by
  rw [own2, rowsI_app hl]
  exact h
set_option maxHeartbeats 1000000 in
set_option maxRecDepth 100000 in
theorem l06Own_c (v : Value) (us : List Value) (xss : List (List Int)) (w : World) (hv : RII w v us xss) (hN : xss.length ≤ 1048576) (hN2 : ∀ xs ∈ xss, xs.length ≤ 1048576) :
    Calls Tryz.prog 34 #[v] w (MakesII w xss) := by
  have hln := hv.len
  have hix := hv.ix
  have Hz := Lib.hid hN2
  clear hN2
  have hS1 := ((St.refl w).new 46 #[] (by simp))
  go_enter Tryz.func34, Tryz.ntmps34
  go_wp2_with fail
  go_loopw [3, 4] (fun o i wr => ∃ (k : Nat) (us' : List Value), k ≤ xss.length ∧ i = .int .i64 k ∧ Hid (us'.length = k) ∧ St w.heap.size w wr (own2 o us' (xss.take k))) (fun o i _ => xss.length - (intOf i).toNat)
  case atStart => exact ⟨0, [], by omega, rfl, rfl, hS1⟩
  case round =>
    obtain ⟨k, us', hk, rfl, hl, hS⟩ := hrel
    have hlk : Hid (us'.length = (xss.take k).length) := by unfold Hid; rw [hl.out, List.length_take]; omega
    by_cases hlt : k < xss.length
    · have hc := (hS.oldII hv).cell k hlt
      have hr := Lib.hid ((hS.oldII hv).row k hlt)
      have hcall := Lib.hid (l00Own_c _ _ _ hr.out (Hz.out _ (xat_mem hlt)))
      go_wp2_with fail
      refine hcall.out.mono ?_
      rintro e w2 ⟨u, rfl, h2⟩
      have hsl := (h2.rdI 0 rfl).sl
      have hone := Lib.hid hsl.one
      obtain ⟨ua, uc, rfl⟩ := hsl.sh
      have hS2 := hS.call h2
      clear hsl
      go_wp2_with (at_builtin; refine appII hS2 0 rfl (by rw [hl.out]; omega) rfl _ _ rfl rfl _ hone.out rfl ?_; intro v3 w3 hS3)
      go_roundw
      case rel => exact ⟨k + 1, us' ++ [_], by omega, by go_num, by simp [Hid, hl.out], by rw [take_xat hlt]; exact own2_snoc hlk.out hS3⟩
      case measure => simp [intOf]; omega
    · obtain rfl : k = xss.length := by omega
      rw [List.take_length] at hS
      go_wp2_with fail
      go_ret
      exact ⟨_, us', rfl, hl.out, hS⟩
theorem und_elem_iis : Tryz.prog.underlying 24 = some (.slice (Tryz.prog.elem 24)) := by kernel_rfl
theorem elem_iis_size : (Tryz.prog.info? (Tryz.prog.elem 24)).map (·.size) = some 1 := by kernel_rfl
theorem run_size_elemII (W : World) : (sizeOf (Tryz.prog.elem 24)).run Tryz.prog W = .ok 1 W := by
  obtain ⟨inf, hinf, hs⟩ := Option.map_eq_some_iff.1 elem_iis_size
  simp [sizeOf, typeInfo, hinf, hs]
theorem rslII_hi {w : World} {v : Value} {us : List Value} (h : Rd w v us) (hi : Nat) (h2 : hi ≤ us.length) (W : World) :
    (Instr.slice 24 v none (some (.int .i64 (hi : Int))) none).run Tryz.prog W = .ok (rsl v 0 hi) W := by
  obtain ⟨⟨a, cap, rfl, hc1, hc2, ha⟩, hcell⟩ := h
  rw [run_slice_h W 24 a _ cap und_elem_iis .i64 hi (by omega) (by omega), run_size_elemII]
  rfl
end Go.Proofs.YtljemlfocajhnaaGreat
end

section
/- Walks: numbers. -/
namespace Go.Proofs.YtljemlfocajhnaaGreat
set_option linter.unusedSimpArgs false
set_option linter.unusedVariables false
open Go.RowKit

def inB (n a b : Int) : Bool := decide (a ≤ n) && decide (n ≤ b)
theorem inB_true {n a b : Int} (h : a ≤ n ∧ n ≤ b) : inB n a b = true := by simp [inB, h.1, h.2]
theorem inB_false {n a b : Int} (h : ¬ (a ≤ n ∧ n ≤ b)) : inB n a b = false := by simp only [inB, Bool.and_eq_false_iff, decide_eq_false_iff_not]; omega

theorem within_c (n a b : Int) (w : World) :
    Calls Tryz.prog 37 #[.int .i64 n, .int .i64 a, .int .i64 b] w fun e w' => e = .returned (.bool (inB n a b)) ∧ w = w' := by
  go_enter Tryz.func37, Tryz.ntmps37
  by_cases h : a ≤ n
  · go_wp2
    go_ret
    exact ⟨ret_bool (by simp [inB, h]), rfl⟩
  · go_wp2
    go_ret
    exact ⟨ret_bool (by simp [inB, show ¬ a ≤ n by omega]), rfl⟩
theorem size_c (v : Value) (xs : List Int) (w : World) (hv : RdI w v xs) : Calls Tryz.prog 78 #[v] w fun e w' => e = .returned (.int .i64 xs.length) ∧ w = w' := by
  have hln := hv.len
  go_enter Tryz.func78, Tryz.ntmps78
  go_wp2_with fail
  go_ret
  exact ⟨rfl, rfl⟩

def pp (xs : List Int) : Int × Int := match xs with
  | [] => (0, 0)
  | x :: xs => if xs.all (· == x) then (x, xs.length + 1) else (0, 0)
end Go.Proofs.YtljemlfocajhnaaGreat
end

section
/- Walks: slices.IndexFunc and slices.ContainsFunc on integers, for any function that only answers. -/
namespace Go.Proofs.YtljemlfocajhnaaGreat
set_option linter.unusedSimpArgs false
set_option linter.unusedVariables false
open Go.RowKit

/-- the first place from k on at which p holds, or -1 -/
def idxP (p : Int → Bool) (xs : List Int) (k : Nat) : Int := match (xs.drop k).findIdx? p with | some j => (k + j : Nat) | none => -1
def anyP (p : Int → Bool) (xs : List Int) : Bool := xs.any p

theorem idxP_step {p : Int → Bool} {xs : List Int} {k : Nat} (hk : k < xs.length) (h : p (nth xs k) = false) : idxP p xs k = idxP p xs (k + 1) := by
  rw [idxP, drop_nth hk, List.findIdx?_cons, h]
  simp only [idxP]
  cases (xs.drop (k + 1)).findIdx? p <;> simp <;> omega
theorem idxP_hit {p : Int → Bool} {xs : List Int} {k : Nat} (hk : k < xs.length) (h : p (nth xs k) = true) : idxP p xs k = k := by
  rw [idxP, drop_nth hk, List.findIdx?_cons, h]; simp
theorem idxP_end {p : Int → Bool} {xs : List Int} {k : Nat} (hk : xs.length ≤ k) : idxP p xs k = -1 := by
  rw [idxP, List.drop_of_length_le hk]; rfl
theorem idxP_any {p : Int → Bool} {xs : List Int} : decide (0 ≤ idxP p xs 0) = anyP p xs := by
  unfold idxP anyP
  rw [List.drop_zero]
  cases h : xs.findIdx? p with
  | none =>
    have hn : xs.any p = false := by
      rw [Bool.eq_false_iff]; intro hc
      obtain ⟨x, hx, hp⟩ := List.any_eq_true.1 hc
      have := List.findIdx?_eq_none_iff.1 h x hx
      rw [this] at hp; cases hp
    rw [hn]; simp
  | some j =>
    have hy : xs.any p = true := by
      obtain ⟨hj, hp, _⟩ := List.findIdx?_eq_some_iff_getElem.1 h
      exact List.any_eq_true.2 ⟨_, List.getElem_mem hj, hp⟩
    rw [hy]; simp

set_option maxHeartbeats 1000000 in
theorem IndexFunc_c (K : FuncId) (caps : Array Value) (p : Int → Bool) (v : Value) (xs : List Int) (w : World) (hv : RdI w v xs)
    (hcf : ∀ (args : Array Value) (W : World), (callFunc K args).run Tryz.prog W = .ok (.enter K args) W)
    (hK : ∀ (x : Int) (W : World), St w.heap.size w W [] → x ∈ xs → Calls Tryz.prog K (#[.int .i64 x] ++ caps) W (GivesB W (p x))) :
    Calls Tryz.prog 104 #[v, .func (.func K) #[] caps] w (GivesI w (idxP p xs 0)) := by
  have HK := Lib.hid hK
  clear hK
  have hln := hv.len
  have hix := hv.ix
  have hm := hv.le
  go_enter Tryz.func104, Tryz.ntmps104
  go_wp2_with fail
  go_loopw [5, 8] (fun _ i wr => ∃ k : Nat, k ≤ xs.length ∧ i = .int .i64 k ∧ Hid (idxP p xs 0 = idxP p xs k) ∧ St w.heap.size w wr []) (fun _ i _ => xs.length - (intOf i).toNat)
  case atStart => exact ⟨0, by omega, rfl, rfl, St.refl w⟩
  case round =>
    obtain ⟨k, hk, rfl, hI, hS⟩ := hrel
    by_cases hlt : k < xs.length
    · have hc := (hS.oldI hv).cell k hlt
      go_wp2_with fail
      refine (HK.out _ _ hS (nth_mem hlt)).mono ?_
      cases hp : p (nth xs k)
      · have Hp := Lib.hid hp; clear hp
        rintro e w2 ⟨rfl, h2⟩
        have hS2 := hS.call0 h2
        go_wp2_with fail
        go_roundw
        case rel => exact ⟨k + 1, by omega, by go_num, by rw [Hid, hI.out, idxP_step hlt Hp.out], hS2⟩
        case measure => simp [intOf]; omega
      · have Hp := Lib.hid hp; clear hp
        rintro e w2 ⟨rfl, h2⟩
        have hS2 := hS.call0 h2
        go_wp2_with fail
        go_ret
        exact ⟨ret_i64 (by rw [hI.out, idxP_hit hlt Hp.out]), hS2⟩
    · go_wp2_with fail
      go_ret
      exact ⟨ret_i64 (by rw [hI.out, idxP_end (by omega)]), hS⟩

theorem ContainsFunc_c (K : FuncId) (caps : Array Value) (p : Int → Bool) (v : Value) (xs : List Int) (w : World) (hv : RdI w v xs)
    (hcf : ∀ (args : Array Value) (W : World), (callFunc K args).run Tryz.prog W = .ok (.enter K args) W)
    (hK : ∀ (x : Int) (W : World), St w.heap.size w W [] → x ∈ xs → Calls Tryz.prog K (#[.int .i64 x] ++ caps) W (GivesB W (p x))) :
    Calls Tryz.prog 94 #[v, .func (.func K) #[] caps] w (GivesB w (anyP p xs)) := by
  have HK := Lib.hid hK
  clear hK
  go_enter Tryz.func94, Tryz.ntmps94
  go_wp2_with fail
  refine (IndexFunc_c K caps p v xs w hv hcf HK.out).mono ?_
  rintro e w1 ⟨rfl, h1⟩
  go_wp2_with fail
  go_ret
  exact ⟨ret_bool idxP_any, h1⟩
end Go.Proofs.YtljemlfocajhnaaGreat
end

section
/- Walks: bounds of numbers, of the reference. -/
namespace Go.Proofs.YtljemlfocajhnaaGreat
set_option linter.unusedSimpArgs false
set_option linter.unusedVariables false
open Go.RowKit

theorem l00In_c (n a b : Int) (w : World) :
    Calls Tryz.prog 84 #[.int .i64 n, .int .i64 a, .int .i64 b] w fun e w' => e = .returned (.bool (inB n a b)) ∧ w = w' := by
  go_enter Tryz.func84, Tryz.ntmps84
  by_cases h : a ≤ n
  · go_wp2
    go_ret
    exact ⟨ret_bool (by simp [inB, h]), rfl⟩
  · go_wp2
    go_ret
    exact ⟨ret_bool (by simp [inB, show ¬ a ≤ n by omega]), rfl⟩

end Go.Proofs.YtljemlfocajhnaaGreat
end
