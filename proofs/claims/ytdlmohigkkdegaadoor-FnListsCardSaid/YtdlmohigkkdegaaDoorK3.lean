/- The texts of this claim, run 3: Mem Int Num Tx1 CF In Tx2 Src Tx3. -/
import Derived.Test.YtdlmohigkkdegaaDoorK1
import Derived.WalkKit
import Derived.WalkSpells
import Derived.WalkLawsBesides
import Derived.BigQuiet
import Derived.Deep.QuietTactic
import Derived.Deep.LoopGhost
import Derived.StillTailTactics
import Derived.Lib.Hide
import Derived.Deep.DeepFit
import Derived.Deep.DeepMust
import Derived.Deep.OwnRows
import Derived.Deep.RegionWith
import Derived.Test.YtdlmohigkkdegaaDoorRows
import Derived.Shelf.Strconv.Itoa4
import Derived.Shelf.Strconv.ParseIntPublic10
import Derived.Shelf.Strings.Prefix
import Derived.Shelf.Strings.Split
import Derived.Shelf.Strings.OnBuilder
import Derived.Lib.AppendIntMem
import Derived.Lib.SlBytesRow
section
/- A small library: slices that read as lists, and rows of memory that a call owns. -/
namespace Go.Proofs.YtdlmohigkkdegaaDoor
set_option linter.unusedSimpArgs false
set_option linter.unusedVariables false
open Go.RowKit

/-- the place of element i of a slice -/
def el (v : Value) (i : Nat) : Addr :=
  match v with
  | .slice (some a) _ _ => a.add i
  | _ => ⟨0, 0, none⟩

/-- a slice of n elements -/
def IsSl (v : Value) (n : Nat) : Prop := ∃ a cap, v = .slice a n cap ∧ n ≤ cap ∧ cap ≤ maxLen ∧ (n = 0 ∨ a ≠ none)

/-- a slice whose cells hold us -/
def Rd (w : World) (v : Value) (us : List Value) : Prop :=
  IsSl v us.length ∧ ∀ i u, us[i]? = some u → w.cell? (el v i) = some u

theorem add_mk (g i : Nat) : (⟨g, 0, none⟩ : Addr).add i = ⟨g, i, none⟩ := by
  unfold Addr.add; split <;> simp_all

theorem Rd.sl {w : World} {v : Value} {us : List Value} (h : Rd w v us) : IsSl v us.length := h.1

theorem IsSl.le {v : Value} {n : Nat} (h : IsSl v n) : n ≤ 9223372036854775807 := by
  obtain ⟨a, cap, _, h1, h2, _⟩ := h
  unfold maxLen at h2; omega

theorem Rd.cell {w : World} {v : Value} {us : List Value} (h : Rd w v us) {i : Nat} (hi : i < us.length) : w.cell? (el v i) = some (us.getD i undef) :=
  h.2 i _ (by simp [hi])

theorem Rd.lt {w : World} {v : Value} {us : List Value} (h : Rd w v us) {i : Nat} (hi : i < us.length) : (el v i).block < w.heap.size :=
  World.block_lt_of_cell? _ _ (h.cell hi)

/-- what was there stays readable -/
theorem Rd.keep {w w' : World} {v : Value} {us : List Value} (h : Rd w v us) (hb : Below w.heap.size w w') : Rd w' v us :=
  ⟨h.1, fun i u hu => by
    rw [hb.cell (World.block_lt_of_cell? _ _ (h.2 i u hu))]; exact h.2 i u hu⟩

theorem Rd.nil (w : World) : Rd w (.slice none 0 0) [] :=
  ⟨⟨none, 0, rfl, by simp, by simp, .inl rfl⟩, by simp⟩

theorem run_len_sl {P : Program} {v : Value} {n : Nat} {e : TypeId} (h : IsSl v n) (t ty : TypeId) (ht : P.underlying t = some (.slice e)) (w : World) :
    (Builtin.len_ #[t] ty #[v]).run P w = .ok (.int .i64 n) w := by
  obtain ⟨a, cap, rfl, h1, h2, _⟩ := h
  simp [Builtin.len_, run_underlying ht, goInt]

theorem run_ix_sl {P : Program} {v : Value} {n : Nat} {e : TypeId} (h : IsSl v n) (t : TypeId) (ht : P.underlying t = some (.slice e)) (he : (P.info? e).map (·.size) = some 1)
    (k : IntKind) (i : Int) (h0 : 0 ≤ i) (hi : i < n) (w : World) :
    (Instr.indexAt t v (.int k i)).run P w = .ok (.pointer (some (el v i.toNat))) w := by
  obtain ⟨a, cap, rfl, _, _, ha⟩ := h
  rcases a with _ | a
  · rcases ha with ha | ha
    · omega
    · exact absurd rfl ha
  · obtain ⟨inf, hinf, hs⟩ := Option.map_eq_some_iff.1 he
    simp [Instr.indexAt, run_underlying ht, asIntOf, h0, hi, sizeOf, typeInfo, hinf, hs, el]

/-- a call of a function value that is a plain function with a body -/
theorem callFunc_go {P : Program} {f : FuncId} {fn : Func} (h : P.funcs[f]? = some fn) (hn : (fn.name == "runtime.NumGoroutine") = false) (hb : fn.body.isNone = false) (args : Array Value) (W : World) :
    (callFunc f args).run P W = .ok (.enter f args) W := by
  have hn' : ¬ fn.name = "runtime.NumGoroutine" := by simpa using hn
  have hb' : ¬ fn.body = none := by cases hx : fn.body <;> simp_all
  simp [callFunc, program, Sem.run, h, hn', hb']

/-! ### Memory that a call owns -/

/-- an entry: a row behind a slice, or a block behind a pointer -/
structure Ent where
  ptr : Bool
  e : TypeId
  v : Value
  us : List Value

/-- a row of cells us of type e behind the slice v -/
def row (e : TypeId) (v : Value) (us : List Value) : Ent := ⟨false, e, v, us⟩
/-- a block of cells us of type e behind a pointer -/
def box (e : TypeId) (g : Nat) (us : List Value) : Ent := ⟨true, e, .pointer (some ⟨g, 0, none⟩), us⟩

def bk : Value → Option Nat
  | .slice (some a) _ _ => some a.block
  | .pointer (some a) => some a.block
  | _ => none

def Ent.ok (w : World) (B : Nat) (x : Ent) : Prop :=
  (x.ptr = true ∧ ∃ g, x.v = .pointer (some ⟨g, 0, none⟩) ∧ B ≤ g ∧ w.heap[g]? = some (.cells x.us.toArray x.e (0, 0))) ∨
  (x.ptr = false ∧ x.v = .slice none 0 0 ∧ x.us = []) ∨
  (x.ptr = false ∧ ∃ g cap cur, x.v = .slice (some ⟨g, 0, none⟩) x.us.length cap ∧ B ≤ g ∧ w.heap[g]? = some (.cells cur x.e (0, 0)) ∧ x.us.length ≤ cap ∧ cap ≤ maxLen ∧ cur.size = cap ∧ cur.toList.take x.us.length = x.us)

structure St (B : Nat) (w0 w : World) (L : List Ent) : Prop where
  below : Below B w0 w
  base : B ≤ w.heap.size
  ok : ∀ x ∈ L, x.ok w B
  apart : L.Pairwise fun x y => bk x.v = none ∨ bk x.v ≠ bk y.v

theorem Ent.ok.lt {w : World} {B : Nat} {x : Ent} (h : x.ok w B) {k : Nat} (hk : bk x.v = some k) : B ≤ k ∧ k < w.heap.size := by
  rcases h with ⟨_, g, hv, hB, hh⟩ | ⟨_, hv, _⟩ | ⟨_, g, cap, cur, hv, hB, hh, _⟩
  · rw [hv] at hk; simp only [bk, Option.some.injEq] at hk; subst hk; exact ⟨hB, (Array.getElem?_eq_some_iff.1 hh).1⟩
  · rw [hv] at hk; simp [bk] at hk
  · rw [hv] at hk; simp only [bk, Option.some.injEq] at hk; subst hk; exact ⟨hB, (Array.getElem?_eq_some_iff.1 hh).1⟩

theorem Ent.ok.of_block {w w' : World} {B : Nat} {x : Ent} (h : x.ok w B) (he : ∀ k, bk x.v = some k → w'.heap[k]? = w.heap[k]?) : x.ok w' B := by
  rcases h with ⟨hp, g, hv, hB, hh⟩ | h | ⟨hp, g, cap, cur, hv, hB, hh, r⟩
  · exact .inl ⟨hp, g, hv, hB, by rw [he g (by rw [hv]; rfl)]; exact hh⟩
  · exact .inr (.inl h)
  · exact .inr (.inr ⟨hp, g, cap, cur, hv, hB, by rw [he g (by rw [hv]; rfl)]; exact hh, r⟩)

theorem Ent.ok.mono {w : World} {B B' : Nat} {x : Ent} (h : x.ok w B) (hB' : B' ≤ B) : x.ok w B' := by
  rcases h with ⟨hp, g, hv, hB, hh⟩ | h | ⟨hp, g, cap, cur, hv, hB, hh, r⟩
  · exact .inl ⟨hp, g, hv, by omega, hh⟩
  · exact .inr (.inl h)
  · exact .inr (.inr ⟨hp, g, cap, cur, hv, by omega, hh, r⟩)

theorem St.refl (w : World) : St w.heap.size w w [] := ⟨Below.refl _ _, Nat.le_refl _, by simp, by simp⟩

theorem St.size {B : Nat} {w0 w : World} {L : List Ent} (h : St B w0 w L) : w0.heap.size ≤ w.heap.size := h.below.size

/-- nothing that is owned, and nothing old, is touched -/
theorem St.same {B : Nat} {w0 w w' : World} {L : List Ent} (h : St B w0 w L) (hg : w.grownBy w' none) : St B w0 w' L :=
  ⟨h.below.grown hg h.base (fun k hk => by cases hk), Nat.le_trans h.base hg.size,
   fun x hx => (h.ok x hx).of_block fun k hk => hg.block k ((h.ok x hx).lt hk).2 (by simp), h.apart⟩

theorem St.drew {B : Nat} {w0 w : World} {L : List Ent} (h : St B w0 w L) : St B w0 w.drew L :=
  h.same ⟨rfl, rfl, rfl, Nat.le_refl _, fun _ _ _ => rfl⟩
theorem St.drewN {B : Nat} {w0 w : World} {L : List Ent} (h : St B w0 w L) (n : Nat) : St B w0 (w.drewN n) L :=
  h.same ⟨rfl, rfl, rfl, Nat.le_refl _, fun _ _ _ => rfl⟩
theorem St.alloc' {B : Nat} {w0 w : World} {L : List Ent} (h : St B w0 w L) (o : Obj) : St B w0 (w.alloc o) L :=
  h.same (World.grownBy_alloc w o none)

/-- a new entry -/
theorem St.add {B : Nat} {w0 w w' : World} {L : List Ent} (h : St B w0 w L) (hg : w.grownBy w' none) (x : Ent) (hx : x.ok w' B)
    (hf : ∀ k, bk x.v = some k → w.heap.size ≤ k) : St B w0 w' (L ++ [x]) := by
  have h' := h.same hg
  refine ⟨h'.below, h'.base, ?_, ?_⟩
  · intro y hy
    rcases List.mem_append.1 hy with hy | hy
    · exact h'.ok y hy
    · simp at hy; subst hy; exact hx
  · rw [List.pairwise_append]
    refine ⟨h.apart, by simp, ?_⟩
    intro y hy z hz
    simp at hz; subst hz
    by_cases hb : bk y.v = none
    · exact .inl hb
    · right
      intro e
      obtain ⟨k, hk⟩ := Option.ne_none_iff_exists'.1 hb
      have := ((h.ok y hy).lt hk).2
      have := hf k (by rw [← e]; exact hk)
      omega

/-- entry i is written -/
theorem St.put {B : Nat} {w0 w w' : World} {L : List Ent} (h : St B w0 w L) (i : Nat) {x : Ent} (hi : L[i]? = some x) (hg : w.grownBy w' (bk x.v)) (x' : Ent) (hx' : x'.ok w' B)
    (hf : bk x'.v = bk x.v ∨ ∀ k, bk x'.v = some k → w.heap.size ≤ k) : St B w0 w' (L.set i x') := by
  have hil : i < L.length := (List.getElem?_eq_some_iff.1 hi).1
  have hie : L[i] = x := (List.getElem?_eq_some_iff.1 hi).2
  have hxm : x ∈ L := hie ▸ List.getElem_mem hil
  have hne : ∀ (j : Nat) (hj : j < L.length), j ≠ i → ∀ k, bk (L[j]).v = some k → w'.heap[k]? = w.heap[k]? := by
    intro j hj hji k hk
    refine hg.block k ((h.ok _ (List.getElem_mem hj)).lt hk).2 ?_
    intro e
    have hap := h.apart
    rw [List.pairwise_iff_getElem] at hap
    rcases Nat.lt_or_gt_of_ne hji with hlt | hgt
    · rcases hap j i hj hil hlt with h1 | h1
      · rw [h1] at hk; cases hk
      · exact h1 (by rw [hie, ← e, hk])
    · rcases hap i j hil hj hgt with h1 | h1
      · rw [hie] at h1; rw [h1] at e; cases e
      · exact h1 (by rw [hie, ← e, hk])
  refine ⟨h.below.grown hg h.base (fun k hk => ((h.ok x hxm).lt hk).1), Nat.le_trans h.base hg.size, ?_, ?_⟩
  · intro y hy
    obtain ⟨j, hj, rfl⟩ := List.getElem_of_mem hy
    simp only [List.length_set] at hj
    rw [List.getElem_set]
    split
    · exact hx'
    · rename_i hij
      exact (h.ok _ (List.getElem_mem hj)).of_block (hne j hj (fun e => hij e.symm))
  · rw [List.pairwise_iff_getElem]
    intro a b ha hb hab
    simp only [List.length_set] at ha hb
    have hap := h.apart
    rw [List.pairwise_iff_getElem] at hap
    rw [List.getElem_set, List.getElem_set]
    split
    · rename_i e1
      subst e1
      rw [if_neg (by omega)]
      rcases hf with hf | hf
      · rw [hf]; have := hap i b ha hb hab; rw [hie] at this; exact this
      · by_cases hn : bk x'.v = none
        · exact .inl hn
        · right
          intro e
          obtain ⟨k, hk⟩ := Option.ne_none_iff_exists'.1 hn
          have h1 := hf k hk
          have h2 := ((h.ok _ (List.getElem_mem hb)).lt (k := k) (by rw [← e]; exact hk)).2
          omega
    · split
      · rename_i e1
        subst e1
        rcases hf with hf | hf
        · rw [hf]; have := hap a i ha hb hab; rw [hie] at this; exact this
        · by_cases hn : bk (L[a]).v = none
          · exact .inl hn
          · right
            intro e
            obtain ⟨k, hk⟩ := Option.ne_none_iff_exists'.1 hn
            have h1 := hf k (by rw [← e]; exact hk)
            have h2 := ((h.ok _ (List.getElem_mem ha)).lt hk).2
            omega
      · exact hap a b ha hb hab

theorem St.sub {B : Nat} {w0 w : World} {L L' : List Ent} (h : St B w0 w L) (hs : L'.Sublist L) : St B w0 w L' :=
  ⟨h.below, h.base, fun x hx => h.ok x (hs.subset hx), h.apart.sublist hs⟩

theorem St.perm {B : Nat} {w0 w : World} {L L' : List Ent} (h : St B w0 w L) (hs : L.Perm L') : St B w0 w L' :=
  ⟨h.below, h.base, fun x hx => h.ok x (hs.mem_iff.2 hx), (hs.pairwise_iff (by
    intro x y hxy
    rcases hxy with h1 | h1
    · by_cases h2 : bk y.v = none
      · exact .inl h2
      · right; rw [h1]; exact h2
    · by_cases h2 : bk y.v = none
      · exact .inl h2
      · right; exact fun e => h1 e.symm)).1 h.apart⟩

/-- behind a call that keeps what there was, and hands over what it owns -/
theorem St.call {B : Nat} {w0 w w' : World} {L L' : List Ent} (h : St B w0 w L) (h' : St w.heap.size w w' L') : St B w0 w' (L ++ L') := by
  have hg : w.grownBy w' none := ⟨h'.below.os, h'.below.tape, h'.below.output, h'.below.size, fun k hk _ => h'.below.block k hk⟩
  have h1 := h.same hg
  refine ⟨h1.below, h1.base, ?_, ?_⟩
  · intro x hx
    rcases List.mem_append.1 hx with hx | hx
    · exact h1.ok x hx
    · exact (h'.ok x hx).mono h.base
  · rw [List.pairwise_append]
    refine ⟨h.apart, h'.apart, ?_⟩
    intro x hx y hy
    by_cases hb : bk x.v = none
    · exact .inl hb
    · right
      intro e
      obtain ⟨k, hk⟩ := Option.ne_none_iff_exists'.1 hb
      have h2 := ((h.ok x hx).lt hk).2
      have h3 := ((h'.ok y hy).lt (k := k) (by rw [← e]; exact hk)).1
      omega

/-- from an inner bound to an outer one -/
theorem St.trans {B : Nat} {w0 w w' : World} {L L' : List Ent} (h : St B w0 w L) (h' : St w.heap.size w w' L') : St B w0 w' L' :=
  (h.call h').sub (List.sublist_append_right _ _)

/-- an owned row reads -/
theorem St.rd {B : Nat} {w0 w : World} {L : List Ent} (h : St B w0 w L) (i : Nat) {e : TypeId} {v : Value} {us : List Value} (hi : L[i]? = some (row e v us)) : Rd w v us := by
  have h := h.ok _ (List.mem_of_getElem? hi)
  rcases h with ⟨hp, g, hv, _⟩ | ⟨_, hv, hu⟩ | ⟨_, g, cap, cur, hv, hB, hh, h1, h2, h3, h4⟩
  · simp [row] at hp
  · simp only [row] at hv hu; rw [hv, hu]; exact Rd.nil w
  · simp only [row] at hv h1 h4 hh
    refine ⟨⟨_, _, hv, h1, h2, .inr (by simp)⟩, ?_⟩
    intro i u hu
    rw [hv]
    simp only [el, add_mk, World.cell?, hh]
    have hi : i < us.length := (List.getElem?_eq_some_iff.1 hu).1
    rw [← h4, List.getElem?_take, if_pos hi] at hu
    simpa using hu

/-- a new row with known cells -/
theorem St.new {B : Nat} {w0 w : World} {L : List Ent} (h : St B w0 w L) (e : TypeId) (cs : Array Value) (hm : cs.size ≤ maxLen) :
    St B w0 (w.alloc (.cells cs e)) (L ++ [row e (.slice (some ⟨w.heap.size, 0, none⟩) cs.size cs.size) cs.toList]) :=
  h.add (World.grownBy_alloc w _ none) _ (.inr (.inr ⟨rfl, w.heap.size, cs.size, cs, by simp [row], h.base, heap_alloc_new w _, by simp [row], hm, rfl, by simp [row, -Array.length_toList]⟩))
    (fun k hk => by simp [bk, row] at hk; omega)

/-- a new block behind a pointer -/
theorem St.newbox {B : Nat} {w0 w : World} {L : List Ent} (h : St B w0 w L) (e : TypeId) (cs : Array Value) :
    St B w0 (w.alloc (.cells cs e)) (L ++ [box e w.heap.size cs.toList]) :=
  h.add (World.grownBy_alloc w _ none) _ (.inl ⟨rfl, w.heap.size, rfl, h.base, heap_alloc_new w _⟩) (fun k hk => by simp [bk, box] at hk; omega)

theorem grownBy_setCell (w : World) (a : Addr) (u : Value) (r : Option Nat) (h : r = some a.block) : w.grownBy (w.setCell a u) r :=
  ⟨rfl, rfl, rfl, by simp [World.setCell], fun k _ hk => Below.heap_setCell _ _ _ _ (by rintro rfl; exact hk h.symm)⟩

theorem heap_setCell_at (w : World) (g j : Nat) (u : Value) (cur : Array Value) (e : TypeId) (hh : w.heap[g]? = some (.cells cur e (0, 0))) :
    (w.setCell ⟨g, j, none⟩ u).heap[g]? = some (.cells (cur.setIfInBounds j u) e (0, 0)) := by
  simp [World.setCell, Array.getElem?_modify, hh]

/-- a cell of a block behind a pointer -/
theorem St.bcell {B : Nat} {w0 w : World} {L : List Ent} (h : St B w0 w L) (i : Nat) {e : TypeId} {g : Nat} {us : List Value} (hi : L[i]? = some (box e g us)) (j : Nat) {u : Value} (hj : us[j]? = some u) :
    w.cell? ⟨g, j, none⟩ = some u := by
  have hx := h.ok _ (List.mem_of_getElem? hi)
  rcases hx with ⟨_, g', hv, hB, hh⟩ | ⟨hp, _⟩ | ⟨hp, _⟩
  · simp only [box, Value.pointer.injEq, Option.some.injEq, Addr.mk.injEq, and_true] at hv hh
    subst hv
    simp [World.cell?, hh, hj]
  · simp [box] at hp
  · simp [box] at hp
theorem St.bfree {B : Nat} {w0 w : World} {L : List Ent} (h : St B w0 w L) (i : Nat) {e : TypeId} {g : Nat} {us : List Value} (hi : L[i]? = some (box e g us)) (j : Nat) :
    w.frozen? ⟨g, j, none⟩ = false := by
  have hx := h.ok _ (List.mem_of_getElem? hi)
  rcases hx with ⟨_, g', hv, hB, hh⟩ | ⟨hp, _⟩ | ⟨hp, _⟩
  · simp only [box, Value.pointer.injEq, Option.some.injEq, Addr.mk.injEq, and_true] at hv hh
    subst hv
    simp [World.frozen?, hh]
  · simp [box] at hp
  · simp [box] at hp
/-- a store into a block behind a pointer -/
theorem St.bstore {B : Nat} {w0 w : World} {L : List Ent} (h : St B w0 w L) (i : Nat) {e : TypeId} {g : Nat} {us : List Value} (hi : L[i]? = some (box e g us)) (j : Nat) (u : Value) :
    St B w0 (w.setCell ⟨g, j, none⟩ u) (L.set i (box e g (us.set j u))) := by
  have hx := h.ok _ (List.mem_of_getElem? hi)
  rcases hx with ⟨_, g', hv, hB, hh⟩ | ⟨hp, _⟩ | ⟨hp, _⟩
  · simp only [box, Value.pointer.injEq, Option.some.injEq, Addr.mk.injEq, and_true] at hv hh
    subst hv
    refine h.put i hi (grownBy_setCell w ⟨g, j, none⟩ u _ rfl) (box e g (us.set j u)) (.inl ⟨rfl, g, rfl, hB, ?_⟩) (.inl rfl)
    rw [heap_setCell_at w g j u _ e hh]
    simp [box]
  · simp [box] at hp
  · simp [box] at hp

theorem St.call0 {B : Nat} {w0 w w' : World} {L : List Ent} (h : St B w0 w L) (h' : St w.heap.size w w' []) : St B w0 w' L := by
  have := h.call h'; rwa [List.append_nil] at this

/-! ### Laws of the walk -/
/-- the worlds in which a state holds -/
def SS (B : Nat) (w0 : World) (L : List Ent) : Type := { w : World // St B w0 w L }
def SS.w {B : Nat} {w0 : World} {L : List Ent} (s : SS B w0 L) : World := s.1
theorem SS.st {B : Nat} {w0 : World} {L : List Ent} (s : SS B w0 L) : St B w0 s.w L := s.2

/-- a region that draws its order, walked once: its operations read, its calls leave the state as it is -/
theorem wp_region_st {P : Program} {id : Nat} {Q : Exit → Act → World → Prop} {a : Act} {w : World} {l : List Oper} {B : Nat} {w0 : World} {L : List Ent} (hm : P.follows .mixedOrders = true)
    (hB : Region.lexB .any l.toArray = true) (hS : St B w0 w L)
    (h : wpQuiet P l.toArray (fun w' => ∃ s : SS B w0 L, w' = s.w) (fun a' => ∀ w', (∃ s : SS B w0 L, w' = s.w) → Q .normal a' w') l a) : (Code.region id l.toArray true).wp P Q a w :=
  wp_region_quiet (C := fun w' => ∃ s : SS B w0 L, w' = s.w) hm hB ⟨⟨_, hS.drew⟩, rfl⟩ (by simpa using h)
/-- the world behind a name -/
theorem abs_wp {P : Program} {c : Code} {Q : Exit → Act → World → Prop} {a : Act} {W w0 : World} {B : Nat} {L : List Ent} (h : St B w0 W L)
    (k : ∀ W', St B w0 W' L → c.wp P Q a W') : c.wp P Q a W := k W h
section
variable {P : Program} {ops : Array Oper} {rest : List Oper} {o : Oper} {a : Act} {Q : Exit → Act → World → Prop}
/-- what append comes to -/
theorem run_app {B : Nat} {w0 w : World} {L : List Ent} (t ty e : TypeId) (z : Value) (bytes : Nat) (ht : P.underlying t = some (.slice e)) (hz : (P.info? e).map (fun i => (i.zero, i.size, i.bytes)) = some (some z, 1, bytes)) (hzs : z.cells.size = 1)
    (hS : St B w0 w L) (i : Nat) {v : Value} {us : List Value} (hi : L[i]? = some (row e v us)) (ad : Addr) (m c : Nat) (news : List Value) (hl : news.length = m) (hnews : ∀ j u, news[j]? = some u → w.cell? (ad.add j) = some u)
    (h1 : ∀ u ∈ news, u.oneCell' = true) (hb : bytes ≤ 4096) (hN : us.length + m ≤ 4294967296) :
    ∃ v' w', (Builtin.append_ #[t, t] ty #[v, .slice (some ad) m c]).run P w = .ok v' w' ∧ St B w0 w' (L.set i (row e v' (us ++ news))) := by
  obtain ⟨inf, hinf, hzz⟩ := Option.map_eq_some_iff.1 hz
  simp only [Prod.mk.injEq] at hzz
  obtain ⟨hz0, hz1, hz2⟩ := hzz
  have hbytes : (us.length + m) * inf.bytes ≤ 140737488355328 := by
    rw [hz2]; have := Nat.mul_le_mul hN hb; omega
  have hx := hS.ok _ (List.mem_of_getElem? hi)
  rcases hx with ⟨hp, _⟩ | ⟨_, hv, hu⟩ | ⟨_, g, cap, cur, hv, hB, hh, hn1, hn2, hn3, hn4⟩
  · simp [row] at hp
  · simp only [row] at hu hv
    subst hu; subst hv
    by_cases hm : m = 0
    · subst hm
      have hn : news = [] := List.eq_nil_of_length_eq_zero hl
      subst hn
      refine ⟨.slice none 0 0, w, ?_, ?_⟩
      · simp [Builtin.append_, run_underlying ht, sizeOf, typeInfo, hinf, Builtin.lenOf, Builtin.firstCells, loadCells, loadCellsFrom]
      · have : L.set i (row e (.slice none 0 0) ([] ++ [])) = L := by
          obtain ⟨hlt, heq⟩ := List.getElem?_eq_some_iff.1 hi
          rw [List.append_nil, ← heq, List.set_getElem_self]
        rw [this]; exact hS
    · simp only [List.length_nil, Nat.zero_add] at hbytes hN
      have hr := run_append_nil (P := P) w t ty e inf z ht hinf hz0 ad m c news (by rw [hz1]; omega) hnews (by omega) (by omega) (by omega)
      refine ⟨_, _, hr, ?_⟩
      have hge := grownCap_ge w m 0 e
      have hcm := grownCap_le_maxLen w m 0 e (by unfold maxLen; omega)
      have hd := hS.drew
      refine hd.put i hi ?_ (row e _ _) (.inr (.inr ⟨rfl, w.heap.size, grownCap w m 0 e, _, ?_, hS.base, heap_alloc_new w.drew _, ?_, hcm, ?_, ?_⟩)) (.inr ?_)
      · exact World.grownBy_alloc w.drew _ _
      · simp [row, hl]
      · simp [row, hl]; omega
      · simp [size_zeroCells, hzs, hl]; omega
      · simp only [row, List.nil_append, Array.toList_append]; exact List.take_left
      · intro k hk; simp [row, bk] at hk; simp; omega
  · simp only [row] at hv hn1 hn4 hh
    have hsz : cur.size = cap := hn3
    by_cases hroom : us.length + m ≤ cap
    · have hfit : us.length * inf.size + news.length ≤ cur.size := by rw [hz1, hl, hsz]; omega
      have hr := run_append_room (P := P) w t ty e inf ht hinf g us.length cap cur hh ad m c news (by rw [hz1]; omega) hnews h1 hroom hfit
      rw [← hv] at hr
      refine ⟨_, _, hr, ?_⟩
      refine hS.put i hi ?_ (row e _ _) (.inr (.inr ⟨rfl, g, cap, _, ?_, hB, setRow_heap w g cur _ e _ hh, ?_, hn2, ?_, ?_⟩)) (.inl ?_)
      · exact ⟨rfl, rfl, rfl, by simp, fun k _ hk => setRow_other w g k _ (fun e => hk (by simp [row, bk, hv, e]))⟩
      · simp [row, hl]
      · simp [row, hl]; omega
      · simp only [List.size_toArray, List.length_append, List.length_take, List.length_drop, Array.length_toList, hz1]; omega
      · simp only [row, hz1, Nat.mul_one, hn4]; exact List.take_left
      · simp [row, bk, hv]
    · have holds : ∀ j u, us[j]? = some u → w.cell? ((⟨g, 0, none⟩ : Addr).add j) = some u := by
        intro j u hu
        have := (hS.rd i hi).2 j u hu
        rwa [hv] at this
      have hr := run_append_grow (P := P) w t ty e inf z ht hinf hz0 ⟨g, 0, none⟩ us.length cap us (by rw [hz1]; omega) holds ad m c news (by rw [hz1]; omega) hnews (by omega) (by omega) (growslice_fits (by omega) hbytes)
      rw [← hv] at hr
      refine ⟨_, _, hr, ?_⟩
      have hge := grownCap_ge w (us.length + m) cap e
      have hcm := grownCap_le_maxLen w (us.length + m) cap e (by unfold maxLen; omega)
      have hd := hS.drew
      refine hd.put i hi ?_ (row e _ _) (.inr (.inr ⟨rfl, w.heap.size, grownCap w (us.length + m) cap e, _, ?_, hS.base, heap_alloc_new w.drew _, ?_, hcm, ?_, ?_⟩)) (.inr ?_)
      · exact World.grownBy_alloc w.drew _ _
      · simp [row, hl]
      · simp [row, hl]; omega
      · simp [size_zeroCells, hzs, hl]; omega
      · simp only [row, Array.toList_append, List.append_assoc]
        rw [← List.append_assoc]; exact List.take_left
      · intro k hk; simp [row, bk] at hk; simp; omega

/-- append of a readable slice's elements to an owned row -/
theorem wpList_st_app {B : Nat} {w0 w : World} {L : List Ent} (hg : o.guard = none) (s x : Operand) (t : TypeId) (hop : o.op = .call { callee := .builtin .append, args := #[s, x], argTypes := #[t, t] })
    (e : TypeId) (z : Value) (bytes : Nat) (ht : P.underlying t = some (.slice e)) (hz : (P.info? e).map (fun i => (i.zero, i.size, i.bytes)) = some (some z, 1, bytes)) (hzs : z.cells.size = 1)
    (hS : St B w0 w L) (i : Nat) {v : Value} {us : List Value} (hi : L[i]? = some (row e v us)) (hs : a.eval s = v) (ad : Addr) (m c : Nat) (hx : a.eval x = .slice (some ad) m c)
    (news : List Value) (hl : news.length = m) (hnews : ∀ j u, news[j]? = some u → w.cell? (ad.add j) = some u)
    (h1 : ∀ u ∈ news, u.oneCell' = true) (hb : bytes ≤ 4096) (hN : us.length + m ≤ 4294967296)
    (hK : ∀ v' w', St B w0 w' (L.set i (row e v' (us ++ news))) → wpList P ops Q rest (a.put o.dst v') w') : wpList P ops Q (o :: rest) a w := by
  refine wpList_plain hg fun K hK' => ?_
  obtain ⟨v', w', hr, hS'⟩ := run_app (P := P) t o.type e z bytes ht hz hzs hS i hi ad m c news hl hnews h1 hb hN
  unfold Oper.wp execOp
  simp only [hop, resolve, invoke, builtin, Sem.run_bind, Sem.run_pure, Result.andThen_ok, List.map_toArray, List.map_cons, List.map_nil, hs, hx, hr]
  exact hK' _ _ (hK _ _ hS')

/-- append of no element -/
theorem run_app0 {B : Nat} {w0 w : World} {L : List Ent} (t ty e : TypeId) (ht : P.underlying t = some (.slice e)) (hz : (P.info? e).map (·.size) = some 1)
    (hS : St B w0 w L) (i : Nat) {v : Value} {us : List Value} (hi : L[i]? = some (row e v us)) (c : Nat) :
    (Builtin.append_ #[t, t] ty #[v, .slice none 0 c]).run P w = .ok v w := by
  obtain ⟨inf, hinf, hzz⟩ := Option.map_eq_some_iff.1 hz
  have hx := hS.ok _ (List.mem_of_getElem? hi)
  rcases hx with ⟨hp, _⟩ | ⟨_, hv, hu⟩ | ⟨_, g, cap, cur, hv, hB, hh, hn1, hn2, hn3, hn4⟩
  · simp [row] at hp
  · simp only [row] at hv
    rw [hv]
    simp [Builtin.append_, run_underlying ht, sizeOf, typeInfo, hinf, Builtin.lenOf, Builtin.firstCells]
  · simp only [row] at hv hn1
    rw [hv]
    simp [Builtin.append_, run_underlying ht, sizeOf, typeInfo, hinf, Builtin.lenOf, Builtin.firstCells, hn1, storeCells]

/-- append of what a slice reads as -/
theorem wpList_st_apps {B : Nat} {w0 w : World} {L : List Ent} (hg : o.guard = none) (s x : Operand) (t : TypeId) (hop : o.op = .call { callee := .builtin .append, args := #[s, x], argTypes := #[t, t] })
    (e : TypeId) (z : Value) (bytes : Nat) (ht : P.underlying t = some (.slice e)) (hz : (P.info? e).map (fun i => (i.zero, i.size, i.bytes)) = some (some z, 1, bytes)) (hzs : z.cells.size = 1)
    (hS : St B w0 w L) (i : Nat) {v : Value} {us : List Value} (hi : L[i]? = some (row e v us)) (hs : a.eval s = v) (vx : Value) (hx : a.eval x = vx)
    (news : List Value) (hr : Rd w vx news)
    (h1 : ∀ u ∈ news, u.oneCell' = true) (hb : bytes ≤ 4096) (hN : us.length + news.length ≤ 4294967296)
    (hK : ∀ v' w', St B w0 w' (L.set i (row e v' (us ++ news))) → wpList P ops Q rest (a.put o.dst v') w') : wpList P ops Q (o :: rest) a w := by
  obtain ⟨⟨ao, cap, rfl, hc1, hc2, hc3⟩, hcell⟩ := hr
  cases ao with
  | some ad =>
    refine wpList_st_app hg s x t hop e z bytes ht hz hzs hS i hi hs ad _ _ hx news rfl ?_ h1 hb hN hK
    intro j u hu
    exact hcell j u hu
  | none =>
    have hn : news = [] := by
      rcases hc3 with h | h
      · exact List.eq_nil_of_length_eq_zero h
      · exact absurd rfl h
    subst hn
    refine wpList_plain hg fun K hK' => ?_
    have hz' : (P.info? e).map (·.size) = some 1 := by
      obtain ⟨inf, hinf, hzz⟩ := Option.map_eq_some_iff.1 hz
      simp only [Prod.mk.injEq] at hzz
      rw [hinf]; simp [hzz.2.1]
    have hr := run_app0 (P := P) t o.type e ht hz' hS i hi cap
    have hK2 := hK v w (by
      have : L.set i (row e v (us ++ [])) = L := by
        obtain ⟨hlt, heq⟩ := List.getElem?_eq_some_iff.1 hi
        rw [List.append_nil, ← heq, List.set_getElem_self]
      rw [this]; exact hS)
    unfold Oper.wp execOp
    simp only [hop, resolve, invoke, builtin, Sem.run_bind, Sem.run_pure, Result.andThen_ok, List.map_toArray, List.map_cons, List.map_nil, hs, hx, hr, List.length_nil]
    exact hK' _ _ hK2

/-- append of one element, behind the new block in which it lies -/
theorem wpList_st_app1 {B : Nat} {w0 w : World} {L : List Ent} (hg : o.guard = none) (s x : Operand) (t : TypeId) (hop : o.op = .call { callee := .builtin .append, args := #[s, x], argTypes := #[t, t] })
    (e : TypeId) (z : Value) (bytes : Nat) (ht : P.underlying t = some (.slice e)) (hz : (P.info? e).map (fun i => (i.zero, i.size, i.bytes)) = some (some z, 1, bytes)) (hzs : z.cells.size = 1)
    (hS : St B w0 w L) (i : Nat) {v : Value} {us : List Value} (hi : L[i]? = some (row e v us)) (hs : a.eval s = v) (u : Value) (hx : a.eval x = .slice (some ⟨w.heap.size, 0, none⟩) 1 1)
    (h1 : u.oneCell' = true) (hb : bytes ≤ 4096) (hN : us.length < 4294967296)
    (hK : ∀ v' w', St B w0 w' (L.set i (row e v' (us ++ [u]))) → wpList P ops Q rest (a.put o.dst v') w') : wpList P ops Q (o :: rest) a (w.alloc (.cells #[u] e)) :=
  wpList_st_app hg s x t hop e z bytes ht hz hzs (hS.alloc' _) i hi hs ⟨w.heap.size, 0, none⟩ 1 1 hx [u] rfl (by
    intro j u' hu
    match j, hu with
    | 0, hu => simp at hu; subst hu; simp [Addr.add]) (by simpa using h1) hb (by omega) hK

end
end Go.Proofs.YtdlmohigkkdegaaDoor
end

section
/- Slices of integers, over this seat's program. -/
namespace Go.Proofs.YtdlmohigkkdegaaDoor
set_option linter.unusedSimpArgs false
set_option linter.unusedVariables false
open Go.RowKit

/-- the cells of a list of integers -/
def iv (xs : List Int) : List Value := xs.map (Value.int .i64)
/-- element j -/
def nth (xs : List Int) (j : Nat) : Int := xs.getD j 0

theorem ret_bool {a b : Bool} (h : a = b) : Ending.returned (.bool a) = .returned (.bool b) := by rw [h]
theorem ret_i64 {a b : Int} (h : a = b) : Ending.returned (.int .i64 a) = .returned (.int .i64 b) := by rw [h]
theorem eq_f {a b : Int} (h : a ≠ b) : (a == b) = false := by simpa using h
theorem eq_t {a b : Int} (h : a = b) : (a == b) = true := by simpa using h
theorem ne_t {a b : Int} (h : a ≠ b) : (a != b) = true := by simpa using h
theorem ne_f {a b : Int} (h : a = b) : (a != b) = false := by simpa using h
theorem iv_len (xs : List Int) : (iv xs).length = xs.length := by simp [iv]
theorem iv_get {xs : List Int} {j : Nat} (h : j < xs.length) : (iv xs).getD j undef = .int .i64 (nth xs j) := by
  simp [iv, nth, List.getD, List.getElem?_eq_getElem h]
theorem iv_app (xs ys : List Int) : iv (xs ++ ys) = iv xs ++ iv ys := by simp [iv]
theorem iv_one (x : Int) : iv [x] = [.int .i64 x] := rfl
theorem nth_eq {xs : List Int} {j : Nat} (h : j < xs.length) : nth xs j = xs[j] := by simp [nth, h]
theorem nth_mem {xs : List Int} {j : Nat} (h : j < xs.length) : nth xs j ∈ xs := by rw [nth_eq h]; exact List.getElem_mem h
theorem drop_nth {xs : List Int} {k : Nat} (hk : k < xs.length) : xs.drop k = nth xs k :: xs.drop (k + 1) := by
  rw [List.drop_eq_getElem_cons hk, nth_eq hk]
theorem take_nth {xs : List Int} {k : Nat} (hk : k < xs.length) : xs.take (k + 1) = xs.take k ++ [nth xs k] := by
  rw [List.take_succ_eq_append_getElem hk, nth_eq hk]

def RdI (w : World) (v : Value) (xs : List Int) : Prop := Rd w v (iv xs)

theorem Tryd.info_i : (Tryd.prog.info? 2).map (fun i => (i.zero, i.size, i.bytes)) = some (some (.int .i64 0), 1, 8) := by kernel_rfl
theorem Tryd.size_i : (Tryd.prog.info? 2).map (·.size) = some 1 := by kernel_rfl
theorem Tryd.und_is : Tryd.prog.underlying 24 = some (.slice 2) := by kernel_rfl

section
variable {w w' : World} {v : Value} {xs : List Int}
theorem RdI.le (h : RdI w v xs) : xs.length ≤ 9223372036854775807 := by have := h.sl.le; rwa [iv_len] at this
theorem RdI.len (h : RdI w v xs) (ty : TypeId) (W : World) : (Builtin.len_ #[24] ty #[v]).run Tryd.prog W = .ok (.int .i64 xs.length) W := by
  have := run_len_sl (P := Tryd.prog) h.sl 24 ty Tryd.und_is W; rwa [iv_len] at this
theorem RdI.ix (h : RdI w v xs) (k : IntKind) (i : Int) (h0 : 0 ≤ i) (hi : i < xs.length) (W : World) :
    (Instr.indexAt 24 v (.int k i)).run Tryd.prog W = .ok (.pointer (some (el v i.toNat))) W :=
  run_ix_sl (P := Tryd.prog) h.sl 24 Tryd.und_is Tryd.size_i k i h0 (by rw [iv_len]; exact hi) W
theorem RdI.ixe (h : RdI w v xs) (i : Int) (j : Nat) (hij : i = (j : Int)) (hj : j < xs.length) (W : World) :
    (Instr.indexAt 24 v (.int .i64 i)).run Tryd.prog W = .ok (.pointer (some (el v j))) W := by
  have := h.ix .i64 i (by omega) (by omega) W
  rwa [hij, Int.toNat_natCast, ← hij] at this
theorem RdI.cell (h : RdI w v xs) (j : Nat) (hj : j < xs.length) : w.cell? (el v j) = some (.int .i64 (nth xs j)) := by
  rw [Rd.cell h (by rw [iv_len]; exact hj), iv_get hj]
theorem RdI.lt (h : RdI w v xs) (j : Nat) (hj : j < xs.length) : (el v j).block < w.heap.size := Rd.lt h (by rw [iv_len]; exact hj)
theorem RdI.keep (h : RdI w v xs) (hb : Below w.heap.size w w') : RdI w' v xs := Rd.keep h hb
theorem RdI.nil (w : World) : RdI w (.slice none 0 0) [] := Rd.nil w
end

theorem St.rdI {B : Nat} {w0 w : World} {L : List Ent} (h : St B w0 w L) (i : Nat) {e : TypeId} {v : Value} {xs : List Int} (hi : L[i]? = some (row e v (iv xs))) : RdI w v xs := h.rd i hi
theorem St.oldI {w0 w : World} {L : List Ent} {v : Value} {xs : List Int} (h : St w0.heap.size w0 w L) (hr : RdI w0 v xs) : RdI w v xs := Rd.keep hr h.below

/-- it answers a bool, and leaves what there was -/
def GivesB (w : World) (b : Bool) (e : Ending) (w' : World) : Prop := e = .returned (.bool b) ∧ St w.heap.size w w' []
/-- it answers a number, and leaves what there was -/
def GivesI (w : World) (n : Int) (e : Ending) (w' : World) : Prop := e = .returned (.int .i64 n) ∧ St w.heap.size w w' []
theorem St.out {B : Nat} {w0 w : World} {L : List Ent} (h : St B w0 w L) : St B w0 w [] := h.sub (List.nil_sublist _)

section
variable {ops : Array Oper} {rest : List Oper} {o : Oper} {a : Act} {Q : Exit → Act → World → Prop} {B : Nat} {w0 w : World} {L : List Ent}

/-- append of one integer to an owned row of integers -/
theorem appI (hS : St B w0 w L) (i : Nat) {v : Value} {xs : List Int} (hi : L[i]? = some (row 2 v (iv xs))) (hN : xs.length < 4294967296) (hg : o.guard = none) (s x : Operand)
    (hop : o.op = .call { callee := .builtin .append, args := #[s, x], argTypes := #[24, 24] }) (hs : a.eval s = v) (n : Int) (hx : a.eval x = .slice (some ⟨w.heap.size, 0, none⟩) 1 1)
    (hK : ∀ v' w', St B w0 w' (L.set i (row 2 v' (iv (xs ++ [n])))) → wpList Tryd.prog ops Q rest (a.put o.dst v') w') :
    wpList Tryd.prog ops Q (o :: rest) a (w.alloc (.cells #[.int .i64 n] 2)) :=
  wpList_st_app1 hg s x 24 hop 2 (.int .i64 0) 8 Tryd.und_is Tryd.info_i rfl hS i hi hs (.int .i64 n) hx rfl (by omega) (by rw [iv_len]; exact hN)
    (fun v' w' h => hK v' w' (by rw [iv_app, iv_one]; exact h))

end
end Go.Proofs.YtdlmohigkkdegaaDoor
end

section
/- Walks: numbers. -/
namespace Go.Proofs.YtdlmohigkkdegaaDoor
set_option linter.unusedSimpArgs false
set_option linter.unusedVariables false
open Go.RowKit

def inB (n a b : Int) : Bool := decide (a ≤ n) && decide (n ≤ b)
theorem within_c (n a b : Int) (w : World) :
    Calls Tryd.prog 19 #[.int .i64 n, .int .i64 a, .int .i64 b] w fun e w' => e = .returned (.bool (inB n a b)) ∧ w = w' := by
  go_enter Tryd.func19, Tryd.ntmps19
  by_cases h : a ≤ n
  · go_wp2
    go_ret
    exact ⟨ret_bool (by simp [inB, h]), rfl⟩
  · go_wp2
    go_ret
    exact ⟨ret_bool (by simp [inB, show ¬ a ≤ n by omega]), rfl⟩
end Go.Proofs.YtdlmohigkkdegaaDoor
end

section
/- Walks: decimal numerals written and read; the kit's layings of FormatInt, Join, Split, ParseInt, TrimPrefix in plain words. The numbers of package-level variables are those of the seat of FnLists. -/
namespace Go.Proofs.YtdlmohigkkdegaaDoor
set_option linter.unusedSimpArgs false
set_option linter.unusedVariables false
open Go Go.RowKit Go.Sort

def Tryd.mFmt_ren : Go.Shelf.Ren := ⟨fun | 173 => 26 | 246 => 37 | 283 => 49 | 284 => 50 | 285 => 51 | 286 => 52 | 129 => 65 | 317 => 64 | 318 => 66 | 319 => 67 | 320 => 68 | 337 => 75 | 338 => 76 | n => n, fun | 2 => 2 | 3 => 3 | 9 => 9 | 4 => 4 | 171 => 77 | 0 => 0 | 53 => 50 | 37 => 22 | 5 => 5 | 173 => 80 | 212 => 97 | 51 => 98 | 20 => 20 | 213 => 99 | 46 => 65 | 232 => 112 | 233 => 113 | n => n, fun | 17 => 2 | 18 => 6 | 19 => 7 | n => n⟩
theorem Tryd.mFmt : Go.Proofs.LaysM.n173 Tryd.prog Tryd.mFmt_ren := {
  mixed := by kernel_rfl
  f129 := Tryd.func65.trans (congrArg some (by kernel_rfl))
  f173 := Tryd.func26.trans (congrArg some (by kernel_rfl))
  f246 := Tryd.func37.trans (congrArg some (by kernel_rfl))
  f283 := Tryd.func49.trans (congrArg some (by kernel_rfl))
  f284 := Tryd.func50.trans (congrArg some (by kernel_rfl))
  f285 := Tryd.func51.trans (congrArg some (by kernel_rfl))
  f286 := Tryd.func52.trans (congrArg some (by kernel_rfl))
  f317 := Tryd.func64.trans (congrArg some (by kernel_rfl))
  f318 := Tryd.func66.trans (congrArg some (by kernel_rfl))
  f319 := Tryd.func67.trans (congrArg some (by kernel_rfl))
  f320 := Tryd.func68.trans (congrArg some (by kernel_rfl))
  f337 := Tryd.func75.trans (congrArg some (by kernel_rfl))
  f338 := Tryd.func76.trans (congrArg some (by kernel_rfl))
  t0 := Tryd.underlying0
  a0 := Tryd.isAgg0
  z0 := Tryd.sizeOf0
  v0 := Tryd.zeroValue0
  t2 := Tryd.underlying2
  a2 := Tryd.isAgg2
  z2 := Tryd.sizeOf2
  v2 := Tryd.zeroValue2
  t3 := Tryd.underlying3
  a3 := Tryd.isAgg3
  z3 := Tryd.sizeOf3
  v3 := Tryd.zeroValue3
  t4 := Tryd.underlying4
  a4 := Tryd.isAgg4
  z4 := Tryd.sizeOf4
  v4 := Tryd.zeroValue4
  t5 := Tryd.underlying5
  a5 := Tryd.isAgg5
  z5 := Tryd.sizeOf5
  v5 := Tryd.zeroValue5
  t9 := Tryd.underlying9
  a9 := Tryd.isAgg9
  z9 := Tryd.sizeOf9
  v9 := Tryd.zeroValue9
  t20 := Tryd.underlying20
  a20 := Tryd.isAgg20
  z20 := Tryd.sizeOf20
  v20 := Tryd.zeroValue20
  t37 := Tryd.underlying22
  a37 := Tryd.isAgg22
  z37 := Tryd.sizeOf22
  v37 := Tryd.zeroValue22
  t46 := Tryd.underlying65
  a46 := Tryd.isAgg65
  z46 := Tryd.sizeOf65
  v46 := Tryd.zeroValue65
  t51 := Tryd.underlying98
  a51 := Tryd.isAgg98
  z51 := Tryd.sizeOf98
  v51 := Tryd.zeroValue98
  t53 := Tryd.underlying50
  a53 := Tryd.isAgg50
  z53 := Tryd.sizeOf50
  v53 := Tryd.zeroValue50
  t171 := Tryd.underlying77
  a171 := Tryd.isAgg77
  z171 := Tryd.sizeOf77
  v171 := Tryd.zeroValue77
  t173 := Tryd.underlying80
  a173 := Tryd.isAgg80
  z173 := Tryd.sizeOf80
  v173 := Tryd.zeroValue80
  t212 := Tryd.underlying97
  a212 := Tryd.isAgg97
  z212 := Tryd.sizeOf97
  v212 := Tryd.zeroValue97
  t213 := Tryd.underlying99
  a213 := Tryd.isAgg99
  z213 := Tryd.sizeOf99
  t232 := Tryd.underlying112
  a232 := Tryd.isAgg112
  z232 := Tryd.sizeOf112
  v232 := Tryd.zeroValue112
  t233 := Tryd.underlying113
  a233 := Tryd.isAgg113
  z233 := Tryd.sizeOf113
  v233 := Tryd.zeroValue113
  g17 := by kernel_rfl
  g18 := by kernel_rfl
  g19 := by kernel_rfl
  i0 := by kernel_rfl
  i2 := by kernel_rfl
  i3 := by kernel_rfl
  i4 := by kernel_rfl
  i5 := by kernel_rfl
  i9 := by kernel_rfl
  i20 := by kernel_rfl
  i37 := by kernel_rfl
  i46 := by kernel_rfl
  i51 := by kernel_rfl
  i53 := by kernel_rfl
  i171 := by kernel_rfl
  i173 := by kernel_rfl
  i212 := by kernel_rfl
  i232 := by kernel_rfl
  i233 := by kernel_rfl
  m17 := by kernel_rfl
  m18 := by kernel_rfl
  m19 := by kernel_rfl
}

def Tryd.mJoin_ren : Go.Shelf.Ren := ⟨fun | 156 => 20 | 165 => 30 | 166 => 31 | 169 => 32 | 240 => 38 | 241 => 39 | 276 => 53 | 277 => 54 | n => n, fun | 31 => 41 | 9 => 9 | 3 => 3 | 4 => 4 | 0 => 0 | 20 => 20 | 72 => 58 | 76 => 60 | 70 => 56 | 37 => 22 | 75 => 46 | 127 => 66 | 164 => 82 | 5 => 5 | 80 => 62 | n => n, fun | n => n⟩
theorem Tryd.mJoin : Go.Proofs.Lays.n156 Tryd.prog Tryd.mJoin_ren := {
  mixed := by kernel_rfl
  f156 := Tryd.func20.trans (congrArg some (by kernel_rfl))
  f165 := Tryd.func30.trans (congrArg some (by kernel_rfl))
  f166 := Tryd.func31.trans (congrArg some (by kernel_rfl))
  f169 := Tryd.func32.trans (congrArg some (by kernel_rfl))
  f240 := Tryd.func38.trans (congrArg some (by kernel_rfl))
  f241 := Tryd.func39.trans (congrArg some (by kernel_rfl))
  f276 := Tryd.func53.trans (congrArg some (by kernel_rfl))
  f277 := Tryd.func54.trans (congrArg some (by kernel_rfl))
  t0 := Tryd.underlying0
  a0 := Tryd.isAgg0
  z0 := Tryd.sizeOf0
  v0 := Tryd.zeroValue0
  t3 := Tryd.underlying3
  a3 := Tryd.isAgg3
  z3 := Tryd.sizeOf3
  v3 := Tryd.zeroValue3
  t4 := Tryd.underlying4
  a4 := Tryd.isAgg4
  z4 := Tryd.sizeOf4
  v4 := Tryd.zeroValue4
  t9 := Tryd.underlying9
  a9 := Tryd.isAgg9
  z9 := Tryd.sizeOf9
  v9 := Tryd.zeroValue9
  t20 := Tryd.underlying20
  a20 := Tryd.isAgg20
  z20 := Tryd.sizeOf20
  v20 := Tryd.zeroValue20
  t31 := Tryd.underlying41
  a31 := Tryd.isAgg41
  z31 := Tryd.sizeOf41
  v31 := Tryd.zeroValue41
  t37 := Tryd.underlying22
  a37 := Tryd.isAgg22
  z37 := Tryd.sizeOf22
  v37 := Tryd.zeroValue22
  t70 := Tryd.underlying56
  a70 := Tryd.isAgg56
  z70 := Tryd.sizeOf56
  v70 := Tryd.zeroValue56
  t72 := Tryd.underlying58
  a72 := Tryd.isAgg58
  z72 := Tryd.sizeOf58
  v72 := Tryd.zeroValue58
  t75 := Tryd.underlying46
  a75 := Tryd.isAgg46
  z75 := Tryd.sizeOf46
  v75 := Tryd.zeroValue46
  t76 := Tryd.underlying60
  a76 := Tryd.isAgg60
  z76 := Tryd.sizeOf60
  v76 := Tryd.zeroValue60
  t127 := Tryd.underlying66
  a127 := Tryd.isAgg66
  z127 := Tryd.sizeOf66
  v127 := Tryd.zeroValue66
  t164 := Tryd.underlying82
  a164 := Tryd.isAgg82
  z164 := Tryd.sizeOf82
  v164 := Tryd.zeroValue82
}

def Tryd.mSplit_ren : Go.Shelf.Ren := ⟨fun | 146 => 21 | 221 => 33 | 268 => 40 | 138 => 41 | 143 => 42 | 195 => 55 | 197 => 56 | 218 => 57 | 219 => 58 | 260 => 69 | 217 => 70 | 225 => 71 | 224 => 72 | 267 => 73 | 266 => 77 | 314 => 78 | n => n, fun | 9 => 9 | 31 => 41 | 3 => 3 | 4 => 4 | 0 => 0 | 105 => 86 | 21 => 21 | 5 => 5 | 46 => 65 | 119 => 106 | 139 => 109 | 138 => 108 | 146 => 110 | 51 => 98 | n => n, fun | 1 => 3 | 3 => 4 | 4 => 5 | n => n⟩
theorem Tryd.mSplit : Go.Proofs.Lays.n146 Tryd.prog Tryd.mSplit_ren := {
  mixed := by kernel_rfl
  f138 := Tryd.func41.trans (congrArg some (by kernel_rfl))
  f143 := Tryd.func42.trans (congrArg some (by kernel_rfl))
  f146 := Tryd.func21.trans (congrArg some (by kernel_rfl))
  f195 := Tryd.func55.trans (congrArg some (by kernel_rfl))
  f197 := Tryd.func56.trans (congrArg some (by kernel_rfl))
  f217 := Tryd.func70.trans (congrArg some (by kernel_rfl))
  f218 := Tryd.func57.trans (congrArg some (by kernel_rfl))
  f219 := Tryd.func58.trans (congrArg some (by kernel_rfl))
  f221 := Tryd.func33.trans (congrArg some (by kernel_rfl))
  f224 := Tryd.func72.trans (congrArg some (by kernel_rfl))
  f225 := Tryd.func71.trans (congrArg some (by kernel_rfl))
  f260 := Tryd.func69.trans (congrArg some (by kernel_rfl))
  f266 := Tryd.func77.trans (congrArg some (by kernel_rfl))
  f267 := Tryd.func73.trans (congrArg some (by kernel_rfl))
  f268 := Tryd.func40.trans (congrArg some (by kernel_rfl))
  f314 := Tryd.func78.trans (congrArg some (by kernel_rfl))
  t0 := Tryd.underlying0
  a0 := Tryd.isAgg0
  z0 := Tryd.sizeOf0
  v0 := Tryd.zeroValue0
  t3 := Tryd.underlying3
  a3 := Tryd.isAgg3
  z3 := Tryd.sizeOf3
  v3 := Tryd.zeroValue3
  t4 := Tryd.underlying4
  a4 := Tryd.isAgg4
  z4 := Tryd.sizeOf4
  v4 := Tryd.zeroValue4
  t5 := Tryd.underlying5
  a5 := Tryd.isAgg5
  z5 := Tryd.sizeOf5
  v5 := Tryd.zeroValue5
  t9 := Tryd.underlying9
  a9 := Tryd.isAgg9
  z9 := Tryd.sizeOf9
  v9 := Tryd.zeroValue9
  t21 := Tryd.underlying21
  a21 := Tryd.isAgg21
  z21 := Tryd.sizeOf21
  v21 := Tryd.zeroValue21
  t31 := Tryd.underlying41
  a31 := Tryd.isAgg41
  z31 := Tryd.sizeOf41
  v31 := Tryd.zeroValue41
  t46 := Tryd.underlying65
  a46 := Tryd.isAgg65
  z46 := Tryd.sizeOf65
  v46 := Tryd.zeroValue65
  t51 := Tryd.underlying98
  a51 := Tryd.isAgg98
  z51 := Tryd.sizeOf98
  v51 := Tryd.zeroValue98
  t105 := Tryd.underlying86
  a105 := Tryd.isAgg86
  z105 := Tryd.sizeOf86
  v105 := Tryd.zeroValue86
  t119 := Tryd.underlying106
  a119 := Tryd.isAgg106
  z119 := Tryd.sizeOf106
  t138 := Tryd.underlying108
  a138 := Tryd.isAgg108
  z138 := Tryd.sizeOf108
  v138 := Tryd.zeroValue108
  t139 := Tryd.underlying109
  a139 := Tryd.isAgg109
  z139 := Tryd.sizeOf109
  v139 := Tryd.zeroValue109
  t146 := Tryd.underlying110
  a146 := Tryd.isAgg110
  z146 := Tryd.sizeOf110
  v146 := Tryd.zeroValue110
  g1 := by kernel_rfl
  g3 := by kernel_rfl
  g4 := by kernel_rfl
}

def Tryd.mParse_ren : Go.Shelf.Ren := ⟨fun | 174 => 25 | 247 => 35 | 245 => 36 | 287 => 44 | 279 => 45 | 280 => 46 | 281 => 47 | 282 => 48 | 321 => 59 | 322 => 60 | 316 => 61 | 171 => 63 | 205 => 62 | 243 => 74 | 246 => 37 | 283 => 49 | 284 => 50 | 285 => 51 | 286 => 52 | 129 => 65 | 317 => 64 | 318 => 66 | 319 => 67 | 320 => 68 | 337 => 75 | 338 => 76 | n => n, fun | 9 => 9 | 3 => 3 | 2 => 2 | 75 => 46 | 85 => 47 | 4 => 4 | 167 => 70 | 5 => 5 | 53 => 50 | 175 => 71 | 46 => 65 | 168 => 73 | 37 => 22 | 0 => 0 | 210 => 93 | 21 => 21 | 127 => 66 | 145 => 104 | 143 => 102 | 171 => 77 | 173 => 80 | 212 => 97 | 51 => 98 | 20 => 20 | 213 => 99 | 232 => 112 | 233 => 113 | 80 => 62 | n => n, fun | 15 => 0 | 16 => 1 | 17 => 2 | 18 => 6 | 19 => 7 | n => n⟩
theorem Tryd.mParse : Go.Proofs.LaysC.n174 Tryd.prog Tryd.mParse_ren := {
  mixed := by kernel_rfl
  f129 := Tryd.func65.trans (congrArg some (by kernel_rfl))
  f171 := Tryd.func63.trans (congrArg some (by kernel_rfl))
  f174 := Tryd.func25.trans (congrArg some (by kernel_rfl))
  f205 := Tryd.func62.trans (congrArg some (by kernel_rfl))
  f243 := Tryd.func74.trans (congrArg some (by kernel_rfl))
  f245 := Tryd.func36.trans (congrArg some (by kernel_rfl))
  f246 := Tryd.func37.trans (congrArg some (by kernel_rfl))
  f247 := Tryd.func35.trans (congrArg some (by kernel_rfl))
  f279 := Tryd.func45.trans (congrArg some (by kernel_rfl))
  f280 := Tryd.func46.trans (congrArg some (by kernel_rfl))
  f281 := Tryd.func47.trans (congrArg some (by kernel_rfl))
  f282 := Tryd.func48.trans (congrArg some (by kernel_rfl))
  f283 := Tryd.func49.trans (congrArg some (by kernel_rfl))
  f284 := Tryd.func50.trans (congrArg some (by kernel_rfl))
  f285 := Tryd.func51.trans (congrArg some (by kernel_rfl))
  f286 := Tryd.func52.trans (congrArg some (by kernel_rfl))
  f287 := Tryd.func44.trans (congrArg some (by kernel_rfl))
  f316 := Tryd.func61.trans (congrArg some (by kernel_rfl))
  f317 := Tryd.func64.trans (congrArg some (by kernel_rfl))
  f318 := Tryd.func66.trans (congrArg some (by kernel_rfl))
  f319 := Tryd.func67.trans (congrArg some (by kernel_rfl))
  f320 := Tryd.func68.trans (congrArg some (by kernel_rfl))
  f321 := Tryd.func59.trans (congrArg some (by kernel_rfl))
  f322 := Tryd.func60.trans (congrArg some (by kernel_rfl))
  f337 := Tryd.func75.trans (congrArg some (by kernel_rfl))
  f338 := Tryd.func76.trans (congrArg some (by kernel_rfl))
  t0 := Tryd.underlying0
  a0 := Tryd.isAgg0
  z0 := Tryd.sizeOf0
  v0 := Tryd.zeroValue0
  t2 := Tryd.underlying2
  a2 := Tryd.isAgg2
  z2 := Tryd.sizeOf2
  v2 := Tryd.zeroValue2
  t3 := Tryd.underlying3
  a3 := Tryd.isAgg3
  z3 := Tryd.sizeOf3
  v3 := Tryd.zeroValue3
  t4 := Tryd.underlying4
  a4 := Tryd.isAgg4
  z4 := Tryd.sizeOf4
  v4 := Tryd.zeroValue4
  t5 := Tryd.underlying5
  a5 := Tryd.isAgg5
  z5 := Tryd.sizeOf5
  v5 := Tryd.zeroValue5
  t9 := Tryd.underlying9
  a9 := Tryd.isAgg9
  z9 := Tryd.sizeOf9
  v9 := Tryd.zeroValue9
  t20 := Tryd.underlying20
  a20 := Tryd.isAgg20
  z20 := Tryd.sizeOf20
  v20 := Tryd.zeroValue20
  t21 := Tryd.underlying21
  a21 := Tryd.isAgg21
  z21 := Tryd.sizeOf21
  v21 := Tryd.zeroValue21
  t37 := Tryd.underlying22
  a37 := Tryd.isAgg22
  z37 := Tryd.sizeOf22
  v37 := Tryd.zeroValue22
  t46 := Tryd.underlying65
  a46 := Tryd.isAgg65
  z46 := Tryd.sizeOf65
  v46 := Tryd.zeroValue65
  t51 := Tryd.underlying98
  a51 := Tryd.isAgg98
  z51 := Tryd.sizeOf98
  v51 := Tryd.zeroValue98
  t53 := Tryd.underlying50
  a53 := Tryd.isAgg50
  z53 := Tryd.sizeOf50
  v53 := Tryd.zeroValue50
  t75 := Tryd.underlying46
  a75 := Tryd.isAgg46
  z75 := Tryd.sizeOf46
  v75 := Tryd.zeroValue46
  t85 := Tryd.underlying47
  a85 := Tryd.isAgg47
  z85 := Tryd.sizeOf47
  v85 := Tryd.zeroValue47
  t127 := Tryd.underlying66
  a127 := Tryd.isAgg66
  z127 := Tryd.sizeOf66
  v127 := Tryd.zeroValue66
  t143 := Tryd.underlying102
  a143 := Tryd.isAgg102
  z143 := Tryd.sizeOf102
  v143 := Tryd.zeroValue102
  t145 := Tryd.underlying104
  a145 := Tryd.isAgg104
  z145 := Tryd.sizeOf104
  v145 := Tryd.zeroValue104
  t167 := Tryd.underlying70
  a167 := Tryd.isAgg70
  z167 := Tryd.sizeOf70
  v167 := Tryd.zeroValue70
  t168 := Tryd.underlying73
  a168 := Tryd.isAgg73
  z168 := Tryd.sizeOf73
  v168 := Tryd.zeroValue73
  t171 := Tryd.underlying77
  a171 := Tryd.isAgg77
  z171 := Tryd.sizeOf77
  v171 := Tryd.zeroValue77
  t173 := Tryd.underlying80
  a173 := Tryd.isAgg80
  z173 := Tryd.sizeOf80
  v173 := Tryd.zeroValue80
  t175 := Tryd.underlying71
  a175 := Tryd.isAgg71
  z175 := Tryd.sizeOf71
  v175 := Tryd.zeroValue71
  t210 := Tryd.underlying93
  a210 := Tryd.isAgg93
  z210 := Tryd.sizeOf93
  v210 := Tryd.zeroValue93
  t212 := Tryd.underlying97
  a212 := Tryd.isAgg97
  z212 := Tryd.sizeOf97
  v212 := Tryd.zeroValue97
  t213 := Tryd.underlying99
  a213 := Tryd.isAgg99
  z213 := Tryd.sizeOf99
  t232 := Tryd.underlying112
  a232 := Tryd.isAgg112
  z232 := Tryd.sizeOf112
  v232 := Tryd.zeroValue112
  t233 := Tryd.underlying113
  a233 := Tryd.isAgg113
  z233 := Tryd.sizeOf113
  v233 := Tryd.zeroValue113
  g15 := by kernel_rfl
  g16 := by kernel_rfl
  g17 := by kernel_rfl
  g18 := by kernel_rfl
  g19 := by kernel_rfl
  t80 := Tryd.underlying62
  a80 := Tryd.isAgg62
  z80 := Tryd.sizeOf62
  v80 := Tryd.zeroValue62
  i0 := by kernel_rfl
  i2 := by kernel_rfl
  i3 := by kernel_rfl
  i4 := by kernel_rfl
  i5 := by kernel_rfl
  i9 := by kernel_rfl
  i20 := by kernel_rfl
  i21 := by kernel_rfl
  i37 := by kernel_rfl
  i46 := by kernel_rfl
  i51 := by kernel_rfl
  i53 := by kernel_rfl
  i75 := by kernel_rfl
  i80 := by kernel_rfl
  i85 := by kernel_rfl
  i127 := by kernel_rfl
  i143 := by kernel_rfl
  i145 := by kernel_rfl
  i167 := by kernel_rfl
  i168 := by kernel_rfl
  i171 := by kernel_rfl
  i173 := by kernel_rfl
  i175 := by kernel_rfl
  i210 := by kernel_rfl
  i212 := by kernel_rfl
  i232 := by kernel_rfl
  i233 := by kernel_rfl
  m15 := by kernel_rfl
  m16 := by kernel_rfl
  m17 := by kernel_rfl
  m18 := by kernel_rfl
  m19 := by kernel_rfl
  c0 := by kernel_rfl
  c2 := by kernel_rfl
  c3 := by kernel_rfl
  c4 := by kernel_rfl
  c5 := by kernel_rfl
  c9 := by kernel_rfl
  c20 := by kernel_rfl
  c21 := by kernel_rfl
  c37 := by kernel_rfl
  c46 := by kernel_rfl
  c51 := by kernel_rfl
  c53 := by kernel_rfl
  c75 := by kernel_rfl
  c80 := by kernel_rfl
  c85 := by kernel_rfl
  c127 := by kernel_rfl
  c143 := by kernel_rfl
  c145 := by kernel_rfl
  c167 := by kernel_rfl
  c168 := by kernel_rfl
  c171 := by kernel_rfl
  c173 := by kernel_rfl
  c175 := by kernel_rfl
  c210 := by kernel_rfl
  c212 := by kernel_rfl
  c213 := by kernel_rfl
  c232 := by kernel_rfl
  c233 := by kernel_rfl
}

def Tryd.mTrim_ren : Go.Shelf.Ren := ⟨fun | 101 => 24 | 208 => 34 | 206 => 43 | n => n, fun | 9 => 9 | 4 => 4 | 3 => 3 | n => n, fun | n => n⟩
theorem Tryd.mTrim : Go.Proofs.Lays.n101 Tryd.prog Tryd.mTrim_ren := {
  mixed := by kernel_rfl
  f101 := Tryd.func24.trans (congrArg some (by kernel_rfl))
  f206 := Tryd.func43.trans (congrArg some (by kernel_rfl))
  f208 := Tryd.func34.trans (congrArg some (by kernel_rfl))
  t3 := Tryd.underlying3
  a3 := Tryd.isAgg3
  z3 := Tryd.sizeOf3
  v3 := Tryd.zeroValue3
  t4 := Tryd.underlying4
  a4 := Tryd.isAgg4
  z4 := Tryd.sizeOf4
  v4 := Tryd.zeroValue4
  t9 := Tryd.underlying9
  a9 := Tryd.isAgg9
  z9 := Tryd.sizeOf9
  v9 := Tryd.zeroValue9
}

theorem Tryd.mJoinX : Builder.Extra Tryd.prog Tryd.mJoin_ren := {
  sizeBuilder := by kernel_rfl
  liesBuilder := by kernel_rfl
  t5 := Tryd.underlying5
  a5 := Tryd.isAgg5
  z5 := Tryd.sizeOf5
  v5 := Tryd.zeroValue5
  infoByte := by kernel_rfl
  cellsByte := by kernel_rfl
  sizeByte := by kernel_rfl
  neB5 := by decide
}

/-- bytes as a string -/
def bb (l : List UInt8) : ByteArray := ⟨l.toArray⟩
theorem bb_data (l : List UInt8) : (bb l).data.toList = l := by simp [bb]
theorem bb_size (l : List UInt8) : (bb l).size = l.length := by simp [bb, ByteArray.size]
theorem st_below {w w' : World} (h : Below w.heap.size w w') : St w.heap.size w w' [] := ⟨h, h.size, by simp, by simp⟩
theorem below_grow (w : World) (k : Nat) (os : Array Obj) : Below w.heap.size w (grow (w.drewN k) os) := ⟨rfl, rfl, rfl, by simp [grow], fun b hb => by
  have hb' : b < (w.drewN k).heap.size := hb
  simp only [grow]
  rw [Array.getElem?_append_left hb']; rfl⟩
/-- what the library's functions read -/
def Tabs (w : World) : Prop := Lib.TabIs Tryd.prog w "internal/strconv.uint64pow10" .u64 Lib.pow10Tab ∧ ∃ m, w.cell? ⟨3, 0, none⟩ = some (.int .i64 m)
theorem Tabs.keep {w w' : World} (h : Tabs w) (hb : Below w.heap.size w w') : Tabs w' :=
  ⟨Lib.tabBelow_of_tabIs h.1 w' hb, by
    obtain ⟨m, hm⟩ := h.2
    exact ⟨m, by rw [hb.cell (World.block_lt_of_cell? _ _ hm)]; exact hm⟩⟩
def GivesS (s : List UInt8) (w0 : World) (e : Ending) (w' : World) : Prop := e = .returned (.string (bb s)) ∧ St w0.heap.size w0 w' []
theorem FormatInt_c (n : Int) (w : World) (hT : Tabs w) (h : InT n) : Calls Tryd.prog 26 #[.int .i64 n, .int .i64 10] w (GivesS (Lib.itoa n) w) := by
  have c : Calls Tryd.prog 26 #[.int .i64 n, .int .i64 10] w _ := Any.strconv_FormatInt_10 Tryd.mFmt n (by have := h.1; omega) (by have := h.2; omega) w hT.1
  refine c.mono ?_
  rintro e w' ⟨rfl, k, os, rfl⟩
  exact ⟨rfl, st_below (below_grow w k os)⟩
theorem Decimal_c (n : Int) (w : World) (hT : Tabs w) (h : InT n) : Calls Tryd.prog 11 #[.int .i64 n] w (GivesS (Lib.itoa n) w) := by
  go_enter Tryd.func11, Tryd.ntmps11
  go_wp2_with fail
  refine (FormatInt_c n w hT h).mono ?_
  rintro e w1 ⟨rfl, h1⟩
  go_wp2_with fail
  go_ret
  exact ⟨rfl, h1⟩
theorem TrimPrefix_c (s : List UInt8) (w : World) : Calls Tryd.prog 24 #[.string (bb s), .string ⟨#[45]⟩] w fun e w' => e = .returned (.string (bb (Lib.trimPrefix s [45]))) ∧ w' = w := by
  have c : Calls Tryd.prog 24 #[.string (bb s), .string ⟨#[45]⟩] w _ := Any.strings_TrimPrefix Tryd.mTrim (bb s) ⟨#[45]⟩ w
  rw [bb_data] at c
  exact c
theorem ParseInt_c (n : Int) (w : World) (h : InT n) : Calls Tryd.prog 25 #[.string (bb (Lib.itoa n)), .int .i64 10, .int .i64 64] w fun e w' => e = .returned (.tuple #[.int .i64 n, .nilIface]) ∧ St w.heap.size w w' [] := by
  have c : Calls Tryd.prog 25 #[.string (bb (Lib.itoa n)), .int .i64 10, .int .i64 64] w _ := Any.strconv_ParseInt_10_at64_ok Tryd.mParse (bb (Lib.itoa n)) (by rw [bb_size]; have := (itoa_size h.1 h.2).2.2; omega) n (by rw [bb_data]; exact itoa_parse h.1 h.2) w
  refine c.mono ?_
  rintro e w' ⟨rfl, rfl | ⟨t, rfl⟩⟩
  · exact ⟨rfl, St.refl _⟩
  · exact ⟨rfl, st_below (Lib.bytesWorld_below _ _ _)⟩
set_option maxHeartbeats 4000000 in
set_option maxRecDepth 100000 in
theorem ReadDecimal_c (n : Int) (w : World) (hT : Tabs w) (h : InT n) :
    Calls Tryd.prog 10 #[.string (bb (Lib.itoa n))] w fun e w' => e = .returned (.tuple #[.int .i64 n, .bool true]) ∧ St w.heap.size w w' [] := by
  have hP := Lib.hid (fun W => ParseInt_c n W h)
  have hD := Lib.hid (fun W (hW : Tabs W) => Decimal_c n W hW h)
  have hR := Lib.hid (TrimPrefix_c (Lib.itoa n) w)
  rw [itoa_trim] at hR
  have z1 : ((bb (Lib.decDigits n.natAbs)).size : Int) < 1 ↔ False := by rw [bb_size]; have := (itoa_size h.1 h.2).1; exact ⟨fun q => by omega, False.elim⟩
  have z2 : (18 : Int) < ((bb (Lib.decDigits n.natAbs)).size : Int) ↔ False := by rw [bb_size]; have := (itoa_size h.1 h.2).2.1; exact ⟨fun q => by omega, False.elim⟩
  generalize bb (Lib.decDigits n.natAbs) = D at hR z1 z2
  generalize hE : bb (Lib.itoa n) = S at hP hD hR ⊢
  go_enter Tryd.func10, Tryd.ntmps10
  go_wp2_with fail
  refine hR.out.mono ?_
  rintro e w1 ⟨rfl, rfl⟩
  clear hR
  go_wp2_with fail
  refine (hP.out _).mono ?_
  rintro e w2 ⟨rfl, h2⟩
  go_wp2_with fail
  refine (hD.out _ (hT.keep h2.below)).mono ?_
  rintro e w3 ⟨rfl, h3⟩
  rw [hE]
  go_wp2_with fail
  go_ret2
  exact ⟨rfl, h2.call0 h3⟩
set_option maxHeartbeats 4000000 in
set_option maxRecDepth 100000 in
theorem ReadDecimal_e (w : World) : Calls Tryd.prog 10 #[.string (bb [])] w fun e w' => e = .returned (.tuple #[.int .i64 0, .bool false]) ∧ w' = w := by
  have hR := Lib.hid (TrimPrefix_c [] w)
  have e1 : Lib.trimPrefix [] [45] = [] := by decide
  rw [e1] at hR
  have z1 : ((bb []).size : Int) < 1 ↔ True := by rw [bb_size]; simp
  generalize bb [] = S at hR z1 ⊢
  go_enter Tryd.func10, Tryd.ntmps10
  go_wp2_with fail
  refine hR.out.mono ?_
  rintro e w1 ⟨rfl, rfl⟩
  clear hR
  go_wp2_with fail
  go_ret2
  exact ⟨rfl, rfl⟩
end Go.Proofs.YtdlmohigkkdegaaDoor
end

section
/- Walks: slices.IndexFunc and slices.ContainsFunc on integers, for any function that only answers. -/
namespace Go.Proofs.YtdlmohigkkdegaaDoor
set_option linter.unusedSimpArgs false
set_option linter.unusedVariables false
open Go.RowKit

/-- the first place from k on at which p holds, or -1 -/
def idxP (p : Int → Bool) (xs : List Int) (k : Nat) : Int := match (xs.drop k).findIdx? p with | some j => (k + j : Nat) | none => -1
def anyP (p : Int → Bool) (xs : List Int) : Bool := xs.any p

theorem idxP_step {p : Int → Bool} {xs : List Int} {k : Nat} (hk : k < xs.length) (h : p (nth xs k) = false) : idxP p xs k = idxP p xs (k + 1) := by
  rw [idxP, drop_nth hk, List.findIdx?_cons, h]
  simp only [idxP]
  cases (xs.drop (k + 1)).findIdx? p <;> simp <;> omega
theorem idxP_hit {p : Int → Bool} {xs : List Int} {k : Nat} (hk : k < xs.length) (h : p (nth xs k) = true) : idxP p xs k = k := by
  rw [idxP, drop_nth hk, List.findIdx?_cons, h]; simp
theorem idxP_end {p : Int → Bool} {xs : List Int} {k : Nat} (hk : xs.length ≤ k) : idxP p xs k = -1 := by
  rw [idxP, List.drop_of_length_le hk]; rfl
theorem idxP_any {p : Int → Bool} {xs : List Int} : decide (0 ≤ idxP p xs 0) = anyP p xs := by
  unfold idxP anyP
  rw [List.drop_zero]
  cases h : xs.findIdx? p with
  | none =>
    have hn : xs.any p = false := by
      rw [Bool.eq_false_iff]; intro hc
      obtain ⟨x, hx, hp⟩ := List.any_eq_true.1 hc
      have := List.findIdx?_eq_none_iff.1 h x hx
      rw [this] at hp; cases hp
    rw [hn]; simp
  | some j =>
    have hy : xs.any p = true := by
      obtain ⟨hj, hp, _⟩ := List.findIdx?_eq_some_iff_getElem.1 h
      exact List.any_eq_true.2 ⟨_, List.getElem_mem hj, hp⟩
    rw [hy]; simp

set_option maxHeartbeats 1000000 in
theorem IndexFunc_c (K : FuncId) (caps : Array Value) (p : Int → Bool) (v : Value) (xs : List Int) (w : World) (hv : RdI w v xs)
    (hcf : ∀ (args : Array Value) (W : World), (callFunc K args).run Tryd.prog W = .ok (.enter K args) W)
    (hK : ∀ (x : Int) (W : World), St w.heap.size w W [] → x ∈ xs → Calls Tryd.prog K (#[.int .i64 x] ++ caps) W (GivesB W (p x))) :
    Calls Tryd.prog 29 #[v, .func (.func K) #[] caps] w (GivesI w (idxP p xs 0)) := by
  have HK := Lib.hid hK
  clear hK
  have hln := hv.len
  have hix := hv.ix
  have hm := hv.le
  go_enter Tryd.func29, Tryd.ntmps29
  go_wp2_with fail
  go_loopw [5, 8] (fun _ i wr => ∃ k : Nat, k ≤ xs.length ∧ i = .int .i64 k ∧ Hid (idxP p xs 0 = idxP p xs k) ∧ St w.heap.size w wr []) (fun _ i _ => xs.length - (intOf i).toNat)
  case atStart => exact ⟨0, by omega, rfl, rfl, St.refl w⟩
  case round =>
    obtain ⟨k, hk, rfl, hI, hS⟩ := hrel
    by_cases hlt : k < xs.length
    · have hc := (hS.oldI hv).cell k hlt
      go_wp2_with fail
      refine (HK.out _ _ hS (nth_mem hlt)).mono ?_
      cases hp : p (nth xs k)
      · have Hp := Lib.hid hp; clear hp
        rintro e w2 ⟨rfl, h2⟩
        have hS2 := hS.call0 h2
        go_wp2_with fail
        go_roundw
        case rel => exact ⟨k + 1, by omega, by go_num, by rw [Hid, hI.out, idxP_step hlt Hp.out], hS2⟩
        case measure => simp [intOf]; omega
      · have Hp := Lib.hid hp; clear hp
        rintro e w2 ⟨rfl, h2⟩
        have hS2 := hS.call0 h2
        go_wp2_with fail
        go_ret
        exact ⟨ret_i64 (by rw [hI.out, idxP_hit hlt Hp.out]), hS2⟩
    · go_wp2_with fail
      go_ret
      exact ⟨ret_i64 (by rw [hI.out, idxP_end (by omega)]), hS⟩

theorem ContainsFunc_c (K : FuncId) (caps : Array Value) (p : Int → Bool) (v : Value) (xs : List Int) (w : World) (hv : RdI w v xs)
    (hcf : ∀ (args : Array Value) (W : World), (callFunc K args).run Tryd.prog W = .ok (.enter K args) W)
    (hK : ∀ (x : Int) (W : World), St w.heap.size w W [] → x ∈ xs → Calls Tryd.prog K (#[.int .i64 x] ++ caps) W (GivesB W (p x))) :
    Calls Tryd.prog 17 #[v, .func (.func K) #[] caps] w (GivesB w (anyP p xs)) := by
  have HK := Lib.hid hK
  clear hK
  go_enter Tryd.func17, Tryd.ntmps17
  go_wp2_with fail
  refine (IndexFunc_c K caps p v xs w hv hcf HK.out).mono ?_
  rintro e w1 ⟨rfl, h1⟩
  go_wp2_with fail
  go_ret
  exact ⟨ret_bool idxP_any, h1⟩
end Go.Proofs.YtdlmohigkkdegaaDoor
end

section
/- Walks: bounds of numbers, of the reference. -/
namespace Go.Proofs.YtdlmohigkkdegaaDoor
set_option linter.unusedSimpArgs false
set_option linter.unusedVariables false
open Go.RowKit

theorem l00In_c (n a b : Int) (w : World) :
    Calls Tryd.prog 22 #[.int .i64 n, .int .i64 a, .int .i64 b] w fun e w' => e = .returned (.bool (inB n a b)) ∧ w = w' := by
  go_enter Tryd.func22, Tryd.ntmps22
  by_cases h : a ≤ n
  · go_wp2
    go_ret
    exact ⟨ret_bool (by simp [inB, h]), rfl⟩
  · go_wp2
    go_ret
    exact ⟨ret_bool (by simp [inB, show ¬ a ≤ n by omega]), rfl⟩

end Go.Proofs.YtdlmohigkkdegaaDoor
end

section
/- Walks: lists of numbers written as text (ListText of both sides). -/
namespace Go.Proofs.YtdlmohigkkdegaaDoor
set_option linter.unusedSimpArgs false
set_option linter.unusedVariables false
open Go Go.RowKit

/-- strings as values -/
def sv (ws : List (List UInt8)) : List Value := ws.map fun l => Value.string (bb l)
theorem sv_len (ws : List (List UInt8)) : (sv ws).length = ws.length := by simp [sv]
theorem sv_app (ws vs : List (List UInt8)) : sv (ws ++ vs) = sv ws ++ sv vs := by simp [sv]
theorem Tryd.und_ss : Tryd.prog.underlying 41 = some (.slice 9) := by kernel_rfl
theorem Tryd.info_s : (Tryd.prog.info? 9).map (fun i => (i.zero, i.size, i.bytes)) = some (some (.string ByteArray.empty), 1, 16) := by kernel_rfl
theorem emp_s {B : Nat} {w0 w : World} {L : List Ent} (h : St B w0 w L) : St B w0 w (row 9 (.slice none 0 0) [] :: L) :=
  ⟨h.below, h.base, fun x hx => by
    rcases List.mem_cons.1 hx with rfl | hx
    · exact .inr (.inl ⟨rfl, rfl, rfl⟩)
    · exact h.ok x hx, List.pairwise_cons.2 ⟨fun _ _ => .inl rfl, h.apart⟩⟩
theorem Join_c {B : Nat} {w0 w : World} {L : List Ent} (hS : St B w0 w L) (i : Nat) {v : Value} {ws : List (List UInt8)} (hi : L[i]? = some (row 9 v (sv ws))) (hne : ws ≠ []) (hl : ws.length ≤ 1000) (hb : (Lib.join ws [44]).length ≤ 100000) :
    Calls Tryd.prog 20 #[v, .string ⟨#[44]⟩] w (GivesS (Lib.join ws [44]) w) := by
  have hr := hS.rd i hi
  rcases hS.ok _ (List.mem_of_getElem? hi) with ⟨hp, _⟩ | ⟨_, hv, hu⟩ | ⟨_, g, cap, cur, hv, hB, hh, h1, h2, h3, h4⟩
  · simp [row] at hp
  · simp only [row] at hu
    have : ws = [] := by simpa [sv] using hu
    exact absurd this hne
  · simp only [row] at hv h1 hh
    subst hv
    have hg : g < w.heap.size := (Array.getElem?_eq_some_iff.1 hh).1
    have hcell : ∀ j l, ws[j]? = some l → w.cell? ⟨g, 0 + j, none⟩ = some (.string (bb l)) := fun j l hj => by
      have := hr.2 j (.string (bb l)) (by simp [sv, hj])
      simpa [el, add_mk] using this
    match ws, hne, hl, hb, hr, h1, hcell with
    | [x], _, _, _, _, _, hcell =>
      have c : Calls Tryd.prog 20 #[.slice (some ⟨g, 0, none⟩) 1 cap, .string ⟨#[44]⟩] w _ := Any.strings_Join_one Tryd.mJoin Tryd.mJoinX g 0 cap (bb x) ⟨#[44]⟩ w (hcell 0 x rfl)
      refine c.mono ?_
      rintro e w' ⟨rfl, rfl⟩
      exact ⟨by rw [Lib.join_one], St.refl _⟩
    | x :: y :: r, _, hl, hb, hr, h1, hcell =>
      have hm : ((x :: y :: r).map bb).map (·.data.toList) = x :: y :: r := by rw [List.map_map]; exact (List.map_congr_left fun l _ => bb_data l).trans (List.map_id _)
      have c : Calls Tryd.prog 20 #[.slice (some ⟨g, 0, none⟩) ((x :: y :: r).map bb).length cap, .string ⟨#[44]⟩] w _ := Any.strings_Join_many Tryd.mJoin Tryd.mJoinX g 0 cap ((x :: y :: r).map bb) ⟨#[44]⟩ w
        (fun j b hj => by
          rw [List.getElem?_map] at hj
          obtain ⟨l, hl2, rfl⟩ := Option.map_eq_some_iff.1 hj
          exact hcell j l hl2) hg (by simp) (by rw [List.length_map]; omega) (by rw [List.length_map]; rw [sv_len] at h1; exact h1) (by rw [hm]; exact Nat.le_trans hb (by decide))
      rw [hm] at c
      rw [sv_len]
      rw [List.length_map] at c
      refine c.mono ?_
      rintro e w' ⟨rfl, h⟩
      exact ⟨rfl, st_below h⟩

theorem ListText1_c (n : Int) (w : World) : Calls Tryd.prog 18 #[.int .i64 n] w (GivesB w (!inB n (-999999999) 999999999)) := by
  go_enter Tryd.func18, Tryd.ntmps18
  go_wp2_with fail
  refine (within_c n _ _ w).mono ?_
  rintro e w1 ⟨rfl, rfl⟩
  go_wp2_with fail
  go_ret
  exact ⟨ret_bool rfl, St.refl _⟩
theorem anyT {xs : List Int} (h : ∀ x ∈ xs, InT x) : anyP (fun n => !inB n (-999999999) 999999999) xs = false := by
  unfold anyP
  rw [List.any_eq_false]
  intro x hx
  have := h x hx
  simp [inB, this.1, this.2]
theorem anyT_no {xs : List Int} (hl : xs.length ≤ 100) (h : ¬ TxOk xs) : anyP (fun n => !inB n (-999999999) 999999999) xs = true := by
  cases e : anyP (fun n => !inB n (-999999999) 999999999) xs with
  | true => rfl
  | false =>
    refine absurd ⟨hl, fun x hx => ?_⟩ h
    unfold anyP at e
    have := List.any_eq_false.1 e x hx
    simp [inB] at this
    exact ⟨this.1, this.2⟩
set_option maxHeartbeats 4000000 in
set_option maxRecDepth 100000 in
theorem ListText_c (v : Value) (xs : List Int) (w : World) (hT : Tabs w) (hv : RdI w v xs) : Calls Tryd.prog 6 #[v] w (GivesS (txt xs) w) := by
  have hcf := callFunc_go Tryd.func18 (by kernel_rfl) (by kernel_rfl)
  have hC := Lib.hid (ContainsFunc_c 18 #[] (fun n => !inB n (-999999999) 999999999) v xs w hv hcf (fun x W _ _ => ListText1_c x W))
  clear hcf
  have e1 := hv.len
  by_cases hl : xs.length ≤ 100
  · have f1 : ¬ (100 : Int) < (xs.length : Int) := by omega
    by_cases hk : TxOk xs
    · rw [anyT hk.2] at hC
      have Hk := Lib.hid hk
      clear hk
      by_cases h0 : xs = []
      · subst h0
        rw [txt_nil]
        go_enter Tryd.func6, Tryd.ntmps6
        go_wp2_with fail
        refine hC.out.mono ?_
        rintro e w1 ⟨rfl, h1⟩
        clear hC
        go_wp2_with fail
        go_ret
        exact ⟨rfl, h1⟩
      · have hp : ¬ xs.length = 0 := fun e => h0 (List.eq_nil_of_length_eq_zero e)
        have f2 : ((xs.length : Int) == 0) = false := eq_f (by omega)
        have hJ := Lib.hid (show txt xs = Lib.join (xs.map Lib.itoa) [44] ∧ (txt xs).length ≤ 1200 from ⟨by unfold txt; rw [if_pos Hk.out, if_neg h0], txt_len xs⟩)
        generalize txt xs = T at hJ ⊢
        have hne := Lib.hid h0
        clear h0
        go_enter Tryd.func6, Tryd.ntmps6
        go_wp2_with fail
        refine hC.out.mono ?_
        rintro e w1 ⟨rfl, h1⟩
        clear hC
        go_wp2_with fail
        go_loopw [3, 18] (fun wv iv' wr => ∃ k : Nat, k ≤ xs.length ∧ iv' = .int .i64 k ∧ St w.heap.size w wr [row 9 wv (sv ((xs.take k).map Lib.itoa))]) (fun _ i _ => xs.length - (intOf i).toNat)
        case atStart => exact ⟨0, by omega, rfl, by simpa [sv] using emp_s h1⟩
        case round =>
          clear h1
          obtain ⟨k, hk, rfl, hS⟩ := hrel
          by_cases hlt : k < xs.length
          · have hki : (k : Int) < (xs.length : Int) := by omega
            have hr1 := (hS.oldI hv).ixe (k : Int) k rfl hlt
            have hc := (hS.oldI hv).cell k hlt
            have hx : InT (nth xs k) := Hk.out.2 _ (nth_mem hlt)
            have hD := Lib.hid (fun W (hW : Tabs W) => Decimal_c (nth xs k) W hW hx)
            have Hx := Lib.hid hx
            clear hx
            have hN := Lib.hid (show (sv ((xs.take k).map Lib.itoa)).length < 4294967296 by rw [sv_len]; simp; omega)
            go_wp2_with fail
            refine (hD.out _ (hT.keep hS.below)).mono ?_
            rintro e w2 ⟨rfl, h2⟩
            have hS2 := hS.call0 h2
            clear h2
            go_wp2_with (at_builtin; refine wpList_st_app1 rfl _ _ 41 rfl 9 (.string ByteArray.empty) 16 Tryd.und_ss Tryd.info_s rfl hS2 0 rfl rfl _ rfl rfl (by omega) hN.out ?_; intro v5 w5 hS5; simp only [List.set_cons_zero] at hS5)
            have e5 : sv ((xs.take k).map Lib.itoa) ++ [Value.string (bb (Lib.itoa (nth xs k)))] = sv ((xs.take (k + 1)).map Lib.itoa) := by rw [take_nth hlt, List.map_append, sv_app]; rfl
            rw [e5] at hS5
            go_roundw
            case rel => exact ⟨k + 1, by omega, by go_num, hS5⟩
            case measure => simp [intOf]; omega
          · obtain rfl : k = xs.length := by omega
            rw [List.take_length] at hS
            have c := Lib.hid (fun (v' : Value) (h : St w.heap.size w wr [row 9 v' (sv (xs.map Lib.itoa))]) => Join_c h 0 rfl (by simpa using hne.out) (by rw [List.length_map]; omega) (by rw [← hJ.out.1]; have := hJ.out.2; omega))
            go_wp2_with fail
            refine (c.out _ hS).mono ?_
            rintro e w2 ⟨rfl, h2⟩
            go_wp2_with fail
            go_ret
            exact ⟨by rw [hJ.out.1]; rfl, (hS.call0 h2).out⟩
    · rw [anyT_no hl hk] at hC
      rw [txt_no hk]
      go_enter Tryd.func6, Tryd.ntmps6
      go_wp2_with fail
      refine hC.out.mono ?_
      rintro e w1 ⟨rfl, h1⟩
      clear hC
      go_wp2_with fail
      go_ret
      exact ⟨rfl, h1⟩
  · have f1 : (100 : Int) < (xs.length : Int) := by omega
    have hk : ¬ TxOk xs := fun h => hl h.1
    rw [txt_no hk]
    clear hC
    go_enter Tryd.func6, Tryd.ntmps6
    go_wp2_with fail
    go_ret
    exact ⟨rfl, St.refl _⟩
end Go.Proofs.YtdlmohigkkdegaaDoor
end

section
/- The source of choices that the laws draw from. -/
namespace Go.Proofs.YtdlmohigkkdegaaDoor
set_option linter.unusedSimpArgs false
set_option linter.unusedVariables false
open Go.RowKit

/-- the cells of some bytes -/
def bv (bs : List UInt8) : List Value := bs.map fun b => Value.int .u8 b.toNat
def RdB (w : World) (v : Value) (bs : List UInt8) : Prop := Rd w v (bv bs)
theorem bv_len (bs : List UInt8) : (bv bs).length = bs.length := by simp [bv]
def bnth (bs : List UInt8) (j : Nat) : Int := ((bs.getD j 0).toNat : Int)
theorem bnth_bd (bs : List UInt8) (j : Nat) : 0 ≤ bnth bs j ∧ bnth bs j ≤ 255 := by
  unfold bnth; have := (bs.getD j 0).toNat_lt; omega
theorem bv_get {bs : List UInt8} {j : Nat} (h : j < bs.length) : (bv bs).getD j undef = .int .u8 (bnth bs j) := by
  simp [bv, bnth, List.getD, List.getElem?_eq_getElem h]

theorem Tryd.und_bs : Tryd.prog.underlying 22 = some (.slice 5) := by kernel_rfl
theorem Tryd.size_b : (Tryd.prog.info? 5).map (·.size) = some 1 := by kernel_rfl

section
variable {w w' : World} {v : Value} {bs : List UInt8}
theorem RdB.le (h : RdB w v bs) : bs.length ≤ 9223372036854775807 := by have := h.sl.le; rwa [bv_len] at this
theorem RdB.len (h : RdB w v bs) (ty : TypeId) (W : World) : (Builtin.len_ #[22] ty #[v]).run Tryd.prog W = .ok (.int .i64 bs.length) W := by
  have := run_len_sl (P := Tryd.prog) h.sl 22 ty Tryd.und_bs W; rwa [bv_len] at this
theorem RdB.ix (h : RdB w v bs) (k : IntKind) (i : Int) (h0 : 0 ≤ i) (hi : i < bs.length) (W : World) :
    (Instr.indexAt 22 v (.int k i)).run Tryd.prog W = .ok (.pointer (some (el v i.toNat))) W :=
  run_ix_sl (P := Tryd.prog) h.sl 22 Tryd.und_bs Tryd.size_b k i h0 (by rw [bv_len]; exact hi) W
theorem RdB.cell (h : RdB w v bs) (j : Nat) (hj : j < bs.length) : w.cell? (el v j) = some (.int .u8 (bnth bs j)) := by
  rw [Rd.cell h (by rw [bv_len]; exact hj), bv_get hj]
theorem RdB.keep (h : RdB w v bs) (hb : Below w.heap.size w w') : RdB w' v bs := Rd.keep h hb
theorem RdB.sh (h : RdB w v bs) : ∃ a n c, v = .slice a n c := by obtain ⟨a, c, hv, _⟩ := h.sl; exact ⟨a, _, c, hv⟩
end
theorem St.oldB {w0 w : World} {L : List Ent} {v : Value} {bs : List UInt8} (h : St w0.heap.size w0 w L) (hr : RdB w0 v bs) : RdB w v bs := Rd.keep hr h.below

/-- the source lies at the head of what is owned, at most K bytes were drawn -/
def Src (w0 w : World) (cv : Value) (g : Nat) (K : Nat) (L : List Ent) : Prop :=
  ∃ p seed : Int, 0 ≤ p ∧ p ≤ K ∧ St w0.heap.size w0 w (box 52 g [cv, .int .i64 p, .int .u64 seed] :: L)

def AnInt (lo hi : Int) (R : World → Prop) (e : Ending) (w' : World) : Prop := ∃ x : Int, lo ≤ x ∧ x ≤ hi ∧ e = .returned (.int .i64 x) ∧ R w'

theorem Src.mono {w0 w : World} {cv : Value} {g K K' : Nat} {L : List Ent} (h : Src w0 w cv g K L) (hk : K ≤ K') : Src w0 w cv g K' L := by
  obtain ⟨p, s, h0, h1, h2⟩ := h; exact ⟨p, s, h0, by omega, h2⟩
theorem Src.st {w0 w : World} {cv : Value} {g K : Nat} {L : List Ent} (h : Src w0 w cv g K L) : St w0.heap.size w0 w L := by
  obtain ⟨p, s, h0, h1, h2⟩ := h; exact h2.sub (List.sublist_cons_self _ _)

theorem and255 (x : Int) : 0 ≤ wrap64 (bits BinOp.and IntKind.u64 (IntKind.u64.wrap x / 1099511627776) 255) ∧ wrap64 (bits BinOp.and IntKind.u64 (IntKind.u64.wrap x / 1099511627776) 255) ≤ 255 := by
  have h1 : 0 ≤ IntKind.u64.wrap x / 1099511627776 ∧ IntKind.u64.wrap x / 1099511627776 < 18446744073709551616 := by
    simp [IntKind.wrap, IntKind.bits, IntKind.signed]; omega
  rw [u64_and _ _ h1.1 h1.2 (by omega) (by omega)]
  have e255 : (255 : Int).toNat = 255 := rfl
  have h2 := Nat.and_le_right (n := (IntKind.u64.wrap x / 1099511627776).toNat) (m := (255 : Int).toNat)
  rw [e255] at h2 ⊢
  unfold wrap64
  omega

set_option maxHeartbeats 1000000 in
theorem next_c (w0 w : World) (cv : Value) (bs : List UInt8) (g K : Nat) (L : List Ent) (hb : RdB w0 cv bs) (h : Src w0 w cv g K L) (hK : K < 1099511627776) :
    Calls Tryd.prog 28 #[.pointer (some ⟨g, 0, none⟩)] w (AnInt 0 255 fun w' => Src w0 w' cv g (K + 1) L) := by
  obtain ⟨p, seed, h0, h1, hS⟩ := h
  obtain ⟨q, rfl⟩ := Int.eq_ofNat_of_zero_le h0
  have hc0 := hS.bcell 0 rfl 0 rfl
  have hc1 := hS.bcell 0 rfl 1 rfl
  have hc2 := hS.bcell 0 rfl 2 rfl
  have hf := hS.bfree 0 rfl
  have hbw := hS.oldB hb
  have hln := hb.len
  have hix := hb.ix
  have hcell := hbw.cell
  have hle := hb.le
  have hbd := bnth_bd bs q
  obtain ⟨hb0, hb1⟩ := hbd
  by_cases hlt : q < bs.length
  · have hlt' : q + 1 ≤ bs.length := hlt
    go_enter Tryd.func28, Tryd.ntmps28
    go_wp2_with fail
    go_quiet (fail)
    go_wp2_with fail
    go_quiet (fail)
    go_wp2_with fail
    refine abs_wp (((hS.drewN _).bstore 0 rfl 1 _).bstore 0 rfl 2 _) ?_
    intro w2 hS2
    clear hc0 hc1 hc2 hf
    have hc0 := hS2.bcell 0 rfl 0 rfl
    have hc1 := hS2.bcell 0 rfl 1 rfl
    go_quiet (fail)
    go_wp2_with fail
    go_ret
    exact ⟨_, hb0, hb1, rfl, _, _, by omega, by omega, hS2.drewN _⟩
  · have hlt' : ¬ q + 1 ≤ bs.length := by omega
    go_enter Tryd.func28, Tryd.ntmps28
    go_wp2_with fail
    go_quiet (fail)
    go_wp2_with fail
    refine abs_wp (((hS.drewN _).bstore 0 rfl 1 _).bstore 0 rfl 2 _) ?_
    intro w2 hS2
    clear hc0 hc1 hc2 hf
    have hc0 := hS2.bcell 0 rfl 0 rfl
    have hc1 := hS2.bcell 0 rfl 1 rfl
    have hc2 := hS2.bcell 0 rfl 2 rfl
    go_quiet (fail)
    go_wp2_with fail
    go_ret
    exact ⟨_, (and255 _).1, (and255 _).2, rfl, _, _, by omega, by omega, hS2.drewN _⟩

set_option maxHeartbeats 1000000 in
theorem pick_c (w0 w : World) (cv : Value) (bs : List UInt8) (g K : Nat) (L : List Ent) (n : Int) (hb : RdB w0 cv bs) (h : Src w0 w cv g K L) (hK : K < 1000000000000) :
    Calls Tryd.prog 16 #[.pointer (some ⟨g, 0, none⟩), .int .i64 n] w (AnInt 0 (max (n - 1) 0) fun w' => Src w0 w' cv g (K + 2) L) := by
  by_cases h1 : n ≤ 1
  · go_enter Tryd.func16, Tryd.ntmps16
    go_wp2_with fail
    go_ret
    exact ⟨0, by omega, by omega, rfl, h.mono (by omega)⟩
  · by_cases h2 : n ≤ 200
    · go_enter Tryd.func16, Tryd.ntmps16
      go_wp2_with fail
      refine (next_c w0 w cv bs g K L hb h (by omega)).mono ?_
      rintro e w1 ⟨x, hx0, hx1, rfl, h3⟩
      go_wp2_with fail
      go_ret
      have := Int.emod_nonneg x (show n ≠ 0 by omega)
      have := Int.emod_lt_of_pos x (show 0 < n by omega)
      exact ⟨_, by omega, by omega, rfl, h3.mono (by omega)⟩
    · go_enter Tryd.func16, Tryd.ntmps16
      go_wp2_with fail
      refine (next_c w0 w cv bs g K L hb h (by omega)).mono ?_
      rintro e w1 ⟨x, hx0, hx1, rfl, h3⟩
      go_wp2_with fail
      refine (next_c w0 w1 cv bs g (K + 1) L hb h3 (by omega)).mono ?_
      rintro e w2 ⟨y, hy0, hy1, rfl, h4⟩
      go_wp2_with fail
      go_ret
      have := Int.emod_nonneg (x * 256 + y) (show n ≠ 0 by omega)
      have := Int.emod_lt_of_pos (x * 256 + y) (show 0 < n by omega)
      exact ⟨_, by omega, by omega, rfl, h4.mono (by omega)⟩

def ABool (R : World → Prop) (e : Ending) (w' : World) : Prop := ∃ x : Bool, e = .returned (.bool x) ∧ R w'

theorem one_c (w0 w : World) (cv : Value) (bs : List UInt8) (g K : Nat) (L : List Ent) (n : Int) (hb : RdB w0 cv bs) (h : Src w0 w cv g K L) (hK : K < 1000000000000) :
    Calls Tryd.prog 14 #[.pointer (some ⟨g, 0, none⟩), .int .i64 n] w (ABool fun w' => Src w0 w' cv g (K + 2) L) := by
  go_enter Tryd.func14, Tryd.ntmps14
  go_wp2_with fail
  refine (pick_c w0 w cv bs g K L n hb h hK).mono ?_
  rintro e w1 ⟨x, hx0, hx1, rfl, h3⟩
  go_wp2_with fail
  go_ret
  exact ⟨_, rfl, h3⟩

/-- one of some numbers: whatever holds of all of them holds of it -/
def AmongPost (xs : List Int) (R : World → Prop) (e : Ending) (w' : World) : Prop := ∃ x ∈ xs, e = .returned (.int .i64 x) ∧ R w'

theorem among_c (w0 w : World) (cv : Value) (bs : List UInt8) (g K : Nat) (L : List Ent) (v : Value) (xs : List Int) (hb : RdB w0 cv bs) (h : Src w0 w cv g K (row 2 v (iv xs) :: L)) (hne : 0 < xs.length)
    (hK : K < 1000000000000) :
    Calls Tryd.prog 15 #[.pointer (some ⟨g, 0, none⟩), v] w (AmongPost xs fun w' => Src w0 w' cv g (K + 2) L) := by
  have hr : RdI w v xs := by obtain ⟨p, s, h0, h1, h2⟩ := h; exact h2.rdI 1 rfl
  have hln := hr.len
  have hix := hr.ix
  have hle := hr.le
  go_enter Tryd.func15, Tryd.ntmps15
  go_wp2_with fail
  refine (pick_c w0 w cv bs g K _ _ hb h hK).mono ?_
  rintro e w1 ⟨x, hx0, hx1, rfl, h3⟩
  obtain ⟨k, rfl⟩ := Int.eq_ofNat_of_zero_le hx0
  have hk : k < xs.length := by omega
  have hr1 : RdI w1 v xs := by obtain ⟨p, s, h0, h1, h2⟩ := h3; exact h2.rdI 1 rfl
  have hc := hr1.cell
  go_wp2_with fail
  go_ret
  obtain ⟨p, s, h0, h1, h2⟩ := h3
  exact ⟨nth xs k, nth_mem hk, rfl, p, s, h0, h1, h2.sub (List.Sublist.cons_cons _ (List.sublist_cons_self _ _))⟩

theorem l00From_c (w : World) (cv : Value) (bs : List UInt8) (hb : RdB w cv bs) :
    Calls Tryd.prog 12 #[cv] w fun e w' => e = .returned (.pointer (some ⟨w.heap.size, 0, none⟩)) ∧ Src w w' cv w.heap.size 0 [] := by
  obtain ⟨av, n, c, rfl⟩ := hb.sh
  go_enter Tryd.func12, Tryd.ntmps12
  go_wp2_with fail
  go_ret
  exact ⟨rfl, 0, 0, by omega, by omega, (St.refl w).newbox _ _⟩
end Go.Proofs.YtdlmohigkkdegaaDoor
end

section
/- Walks: ListText of the specification where it says no. -/
namespace Go.Proofs.YtdlmohigkkdegaaDoor
set_option linter.unusedSimpArgs false
set_option linter.unusedVariables false
open Go Go.RowKit

theorem Tryd.info_b : (Tryd.prog.info? 5).map (fun i => (i.zero, i.size, i.bytes)) = some (some (.int .u8 0), 1, 1) := by kernel_rfl
/-- the text of owned bytes -/
theorem conv_b {B : Nat} {w0 w : World} {L : List Ent} (hS : St B w0 w L) (i : Nat) {v : Value} {bs : List UInt8} (hi : L[i]? = some (row 5 v (bv bs))) (hne : bs ≠ []) :
    (convert 22 9 v).run Tryd.prog w = .ok (.string (bb bs)) w := by
  have hr := hS.rd i hi
  rcases hS.ok _ (List.mem_of_getElem? hi) with ⟨hp, _⟩ | ⟨_, hv, hu⟩ | ⟨_, g, cap, cur, hv, hB, hh, h1, h2, h3, h4⟩
  · simp [row] at hp
  · simp only [row] at hu
    exact absurd (by simpa [bv] using hu) hne
  · simp only [row] at hv
    subst hv
    have e : (bv bs).length = (bb bs).size := by rw [bv_len, bb_size]
    rw [e]
    refine Lib.run_convert_whole w 22 5 9 Tryd.und_bs Tryd.underlying5 Tryd.underlying9 g 0 (bb bs) (fun j hj => ?_) cap
    have hj' : j < bs.length := by rwa [bb_size] at hj
    have := hr.2 j (.int .u8 (bs[j].toNat : Int)) (by simp [bv, hj'])
    have e3 : w.cell? ⟨g, 0 + j, none⟩ = some (.int .u8 (bs[j].toNat : Int)) := by simpa [el, add_mk] using this
    exact e3
def SomeS (m : Nat) (w0 : World) (e : Ending) (w' : World) : Prop := ∃ s : ByteArray, e = .returned (.string s) ∧ s.size ≤ m ∧ St w0.heap.size w0 w' []
theorem ten_pow {k : Int} {m : Nat} (h : k ≠ 0) (hk : k.natAbs < 10 ^ (9 - m)) (hm : m ≤ 9) : m + 1 ≤ 9 ∧ (k.tdiv 10).natAbs < 10 ^ (9 - (m + 1)) := by
  have h1 : m ≠ 9 := fun e => by subst e; simp at hk; omega
  refine ⟨by omega, ?_⟩
  rw [show 9 - m = (9 - (m + 1)) + 1 by omega, Nat.pow_succ] at hk
  rw [Int.natAbs_tdiv]
  show k.natAbs / 10 < _
  omega
theorem bv_hd {B : Nat} {w0 w : World} {e : TypeId} {v : Value} {y : Int} {bs : List UInt8} (h : St B w0 w [row e v (Value.int .u8 (y % 256) :: bv bs)]) : St B w0 w [row e v (bv (UInt8.ofNat (y % 256).toNat :: bs))] := by
  have e1 : bv (UInt8.ofNat (y % 256).toNat :: bs) = Value.int .u8 (y % 256) :: bv bs := by
    have : ((UInt8.ofNat (y % 256).toNat).toNat : Int) = y % 256 := by simp; omega
    simp only [bv, List.map_cons, this]
  rw [e1]; exact h
set_option maxHeartbeats 4000000 in
set_option maxRecDepth 100000 in
theorem l01Dec_c (n : Int) (w : World) (h : InT n) : Calls Tryd.prog 23 #[.int .i64 n] w (SomeS 10 w) := by
  have hS0 := (St.refl w).new 5 #[] (by simp)
  have hn0 : -999999999 ≤ n := h.1
  have hn1 : n ≤ 999999999 := h.2
  go_enter Tryd.func23, Tryd.ntmps23
  go_wp2_with fail
  go_loopw [3, 4] (fun o kv wr => ∃ (k : Int) (v : Value) (bs : List UInt8), v = o ∧ kv = .int .i64 k ∧ Hid (k.natAbs < 10 ^ (9 - bs.length)) ∧ Hid (bs.length ≤ 9) ∧ -999999999 ≤ k ∧ k ≤ 999999999 ∧ St w.heap.size w wr [row 5 v (bv bs)]) (fun _ kv _ => (intOf kv).natAbs)
  case atStart => exact ⟨n, _, [], rfl, rfl, by simp [Hid]; omega, by simp [Hid], hn0, hn1, hS0⟩
  case round =>
    clear hS0
    obtain ⟨k, v, bs, rfl, rfl, hk, hl, k0, k1, hS⟩ := hrel
    have e1 := (show RdB wr v bs from hS.rd 0 rfl).len
    by_cases hk0 : k = 0
    · subst hk0
      by_cases hb0 : bs.length = 0
      · have f0 : ((bs.length : Int) == 0) = true := eq_t (by omega)
        go_wp2_with fail
        go_ret
        exact ⟨_, rfl, by decide, hS.out⟩
      · have f0 : ((bs.length : Int) == 0) = false := eq_f (by omega)
        have hc := Lib.hid (fun (W : World) (h : St w.heap.size w W [row 5 v (bv bs)]) => conv_b h 0 rfl (fun e => hb0 (by rw [e]; rfl)))
        have hsz := Lib.hid (show (bb bs).size ≤ 9 from by rw [bb_size]; exact hl.out)
        have hc1 := hc.out _ hS
        clear hc
        generalize bb bs = D at hsz hc1
        by_cases hn : n < 0
        · have hb9 : 1 + D.size ≤ 9223372036854775807 := by have := hsz.out; omega
          go_wp2_with fail
          have hE : (({ data := #[45] } : ByteArray) ++ D).size ≤ 10 := by rw [ByteArray.size_append]; have := hsz.out; have : ({ data := #[45] } : ByteArray).size = 1 := rfl; omega
          generalize ({ data := #[45] } : ByteArray) ++ D = E at hE ⊢
          go_ret
          exact ⟨_, rfl, hE, hS.out⟩
        · go_wp2_with fail
          go_ret
          exact ⟨_, rfl, by have := hsz.out; omega, hS.out⟩
    · have f0 : (k != 0) = true := ne_t hk0
      obtain ⟨hl9, hk9⟩ := ten_pow hk0 hk.out hl.out
      have Hl := Lib.hid hl9
      have Hk := Lib.hid hk9
      clear hl9 hk9
      have hq : -999999999 ≤ k.tdiv 10 ∧ k.tdiv 10 ≤ 999999999 ∧ (k.tdiv 10).natAbs < k.natAbs := by
        have : (k.tdiv 10).natAbs = k.natAbs / 10 := Int.natAbs_tdiv k 10
        omega
      have hN := Lib.hid (show (1 : Nat) + (bv bs).length ≤ 4294967296 by rw [bv_len]; have := hl.out; omega)
      have hone := Lib.hid (show ∀ u ∈ bv bs, u.oneCell' = true by intro u hu; simp only [bv, List.mem_map] at hu; obtain ⟨x, _, rfl⟩ := hu; rfl)
      have hnew := Lib.hid (fun X : Int => (⟨hS.new 5 #[.int .u8 X] (by simp [maxLen]), (hS.new 5 #[.int .u8 X] (by simp [maxLen])).rd 0 rfl⟩ : _ ∧ _))
      by_cases hdn : k.tmod 10 < 0
      · go_wp2_with (at_builtin; refine wpList_st_apps rfl _ _ 22 rfl 5 (.int .u8 0) 1 Tryd.und_bs Tryd.info_b rfl (hnew.out _).1 1 rfl rfl _ rfl (bv bs) (hnew.out _).2 hone.out (by decide) hN.out ?_; intro v5 w5 hS5; simp only [List.cons_append, List.nil_append, List.set_cons_succ, List.set_cons_zero] at hS5)
        have h5 := bv_hd (hS5.sub (List.sublist_cons_self _ _))
        clear hS5 hnew
        go_roundw
        case rel => exact ⟨_, _, _ :: bs, rfl, rfl, Hk, Hl, hq.1, hq.2.1, h5⟩
        case measure => simpa [intOf] using hq.2.2
      · go_wp2_with (at_builtin; refine wpList_st_apps rfl _ _ 22 rfl 5 (.int .u8 0) 1 Tryd.und_bs Tryd.info_b rfl (hnew.out _).1 1 rfl rfl _ rfl (bv bs) (hnew.out _).2 hone.out (by decide) hN.out ?_; intro v5 w5 hS5; simp only [List.cons_append, List.nil_append, List.set_cons_succ, List.set_cons_zero] at hS5)
        have h5 := bv_hd (hS5.sub (List.sublist_cons_self _ _))
        clear hS5 hnew
        go_roundw
        case rel => exact ⟨_, _, _ :: bs, rfl, rfl, Hk, Hl, hq.1, hq.2.1, h5⟩
        case measure => simpa [intOf] using hq.2.2
set_option maxHeartbeats 4000000 in
set_option maxRecDepth 100000 in
/-- the specification's text of a list that has none -/
theorem sListText_no (v : Value) (xs : List Int) (w : World) (hv : RdI w v xs) (h : ¬ TxOk xs) : Calls Tryd.prog 8 #[v] w (GivesS [] w) := by
  have e1 := hv.len
  by_cases hl : xs.length ≤ 100
  · have f1 : ¬ (100 : Int) < (xs.length : Int) := by omega
    have hx : ∃ x ∈ xs, ¬ InT x := by
      rcases Classical.em (∃ x ∈ xs, ¬ InT x) with h1 | h1
      · exact h1
      · exact absurd ⟨hl, fun x hx => Classical.byContradiction fun h2 => h1 ⟨x, hx, h2⟩⟩ h
    have Hx := Lib.hid hx
    have hp : xs.length ≠ 0 := fun e => by
      obtain ⟨x, hx, _⟩ := hx
      rw [List.eq_nil_of_length_eq_zero e] at hx; simp at hx
    clear hx h
    have f2 : ((xs.length : Int) == 0) = false := eq_f (by omega)
    go_enter Tryd.func8, Tryd.ntmps8
    go_wp2_with fail
    go_loopw [3, 4] (fun o iv' wr => ∃ (k : Nat) (s : ByteArray), k ≤ xs.length ∧ iv' = .int .i64 k ∧ o = .string s ∧ Hid (∀ x ∈ xs.take k, InT x) ∧ Hid (s.size ≤ 20 * k) ∧ St w.heap.size w wr []) (fun _ i _ => xs.length - (intOf i).toNat)
    case atStart => exact ⟨0, _, by omega, rfl, rfl, by simp [Hid], Lib.hid (by decide), St.refl _⟩
    case round =>
      obtain ⟨k, s, hk, rfl, rfl, hA, hs, hS⟩ := hrel
      by_cases hlt : k < xs.length
      · have hki : (k : Int) < (xs.length : Int) := by omega
        have hr1 := (hS.oldI hv).ixe (k : Int) k rfl hlt
        have hc := (hS.oldI hv).cell k hlt
        go_wp2_with fail
        refine (l00In_c (nth xs k) _ _ _).mono ?_
        rintro e w2 ⟨rfl, rfl⟩
        by_cases hin : InT (nth xs k)
        · have hb : inB (nth xs k) (-999999999) 999999999 = true := by simp [inB, hin.1, hin.2]
          rw [hb]
          have hD := Lib.hid (fun W => l01Dec_c (nth xs k) W hin)
          have Hin := Lib.hid hin
          clear hin
          have hA2 : Hid (∀ x ∈ xs.take (k + 1), InT x) := Lib.hid (by rw [take_nth hlt]; intro x hx; rcases List.mem_append.1 hx with h | h; exact hA.out x h; rw [List.mem_singleton.1 h]; exact Hin.out)
          have hb0 : s.size + 1 ≤ 9223372036854775807 := by have := hs.out; omega
          by_cases hk0 : 0 < k
          · have hki0 : (0 : Int) < (k : Int) := by omega
            go_wp2_with (go_at_call 23; refine (hD.out _).mono ?_; rintro e w3 ⟨t, rfl, ht, h3⟩; have Ht := Lib.hid ht; clear ht; have hb1 : s.size + 1 + t.size ≤ 9223372036854775807 := by have := hs.out; have := Ht.out; omega)
            go_roundw
            case rel => exact ⟨k + 1, s ++ { data := #[44] } ++ t, by omega, by go_num, rfl, hA2, Lib.hid (by rw [ByteArray.size_append, ByteArray.size_append, show ({ data := #[44] } : ByteArray).size = 1 from rfl]; have := hs.out; have := Ht.out; omega), (hS.call0 h3)⟩
            case measure => simp [intOf]; omega
          · have hki0 : ¬ (0 : Int) < (k : Int) := by omega
            go_wp2_with (go_at_call 23; refine (hD.out _).mono ?_; rintro e w3 ⟨t, rfl, ht, h3⟩; have Ht := Lib.hid ht; clear ht; have hb1 : s.size + t.size ≤ 9223372036854775807 := by have := hs.out; have := Ht.out; omega)
            go_roundw
            case rel => exact ⟨k + 1, s ++ t, by omega, by go_num, rfl, hA2, Lib.hid (by rw [ByteArray.size_append]; have := hs.out; have := Ht.out; omega), (hS.call0 h3)⟩
            case measure => simp [intOf]; omega
        · have hb : inB (nth xs k) (-999999999) 999999999 = false := by
            cases e : inB (nth xs k) (-999999999) 999999999 with
            | false => rfl
            | true => exact absurd (by simp [inB] at e; exact e) hin
          rw [hb]
          go_wp2_with fail
          go_ret
          exact ⟨rfl, hS⟩
      · exfalso
        obtain rfl : k = xs.length := by omega
        obtain ⟨x, hx, hn⟩ := Hx.out
        rw [Hid, List.take_length] at hA
        exact hn (hA x hx)
  · have f1 : (100 : Int) < (xs.length : Int) := by omega
    go_enter Tryd.func8, Tryd.ntmps8
    go_wp2_with fail
    go_ret
    exact ⟨rfl, St.refl _⟩
end Go.Proofs.YtdlmohigkkdegaaDoor
end
