/- The texts of this claim, run 5: Sq PLat PTy AnyR Mk Srt Has Src Drw Src2 Pm1 At Pm3 Bo Set. -/
import Derived.Test.YtdlmohigkkdegaaGreatDoorK1
import Derived.Test.YtdlmohigkkdegaaGreatDoorK3
import Derived.Test.YtdlmohigkkdegaaGreatDoorK4
import Derived.Deep.RegionHeld3
import Derived.Deep.DrawnRows
import Derived.Shelf.SortM.Plain
import Derived.Shelf.SortM.SortNone
import Derived.Sort.OwnSortedInts
section
/- Walks: squares that are made. -/
namespace Go.Proofs.YtdlmohigkkdegaaGreatDoor
set_option linter.unusedSimpArgs false
set_option linter.unusedVariables false
open Go.RowKit
section
variable {ops : Array Oper} {rest : List Oper} {o : Oper} {a : Act} {Q : Exit → Act → World → Prop} {B : Nat} {w0 w : World} {L : List Ent}
end
theorem RdI.shq {w : World} {v : Value} {xs : List Int} (h : RdI w v xs) : ∃ a c, v = .slice a xs.length c := by
  obtain ⟨a, c, hv⟩ := h.sl.sh
  rw [iv_len] at hv
  exact ⟨a, c, hv⟩
/-- a square by its entries -/
def sqF (n : Nat) (f : Nat → Nat → Int) : List (List Int) := (List.range n).map fun x => tab n (f x)
theorem sqF_len (n : Nat) (f : Nat → Nat → Int) : (sqF n f).length = n := by simp [sqF]
theorem xat_sqF {n : Nat} {f : Nat → Nat → Int} {x : Nat} (h : x < n) : xat (sqF n f) x = tab n (f x) := by simp [sqF, xat, h]
theorem sqF_take {n : Nat} {f : Nat → Nat → Int} {k : Nat} (h : k < n) : (sqF n f).take (k + 1) = (sqF n f).take k ++ [tab n (f k)] := by
  rw [take_xat (by rw [sqF_len]; exact h), xat_sqF h]
theorem tab_succ (k : Nat) (f : Nat → Int) : tab (k + 1) f = tab k f ++ [f k] := by simp [tab, List.range_succ]
set_option maxHeartbeats 2000000 in
set_option maxRecDepth 100000 in
theorem filledSquare_c (K : FuncId) (caps : Array Value) (f : Nat → Nat → Int) (n : Nat) (w : World) (hn : n ≤ 4096)
    (hcf : ∀ (args : Array Value) (W : World), (callFunc K args).run Tryz.prog W = .ok (.enter K args) W)
    (hK : ∀ (x y : Nat) (W : World), St w.heap.size w W [] → x < n → y < n → Calls Tryz.prog K (#[.int .i64 x, .int .i64 y] ++ caps) W (GivesI W (f x y))) :
    Calls Tryz.prog 55 #[.int .i64 n, .func (.func K) #[] caps] w (MakesII w (sqF n f)) := by
  have HK := Lib.hid hK
  clear hK
  have hS0 := (St.refl w).newnil 33
  go_enter Tryz.func55, Tryz.ntmps55
  go_wp2_with fail
  go_loopw [5, 6, 7, 8] (fun o ii _ _ wr => ∃ (k : Nat) (us : List Value), k ≤ n ∧ ii = .int .i64 k ∧ Hid (us.length = k) ∧ St w.heap.size w wr (own2 o us ((sqF n f).take k))) (fun _ ii _ _ _ => n - (intOf ii).toNat)
  case atStart => exact ⟨0, [], by omega, rfl, rfl, hS0⟩
  case round =>
    obtain ⟨k, us, hk, rfl, hl, hS⟩ := hrel
    have Hlu := Lib.hid (show us.length = ((sqF n f).take k).length by rw [List.length_take, sqF_len, hl.out]; omega)
    by_cases hlt : k < n
    · have hS1 := (hS.newnil 2).perm List.perm_append_comm
      simp only [List.cons_append, List.nil_append] at hS1
      have Hst := Lib.hid (sqF_take (f := f) hlt)
      go_wp2_with fail
      go_loopw [7, 8] (fun r jj wx => ∃ j : Nat, j ≤ n ∧ jj = .int .i64 j ∧ St w.heap.size w wx (row 2 r (iv (tab j (f k))) :: own2 u5 us ((sqF n f).take k))) (fun _ jj _ => n - (intOf jj).toNat)
      case atStart => exact ⟨0, by omega, rfl, hS1⟩
      case round =>
        obtain ⟨j, hj, rfl, hS2⟩ := hrel
        by_cases hjn : j < n
        · have Hts := Lib.hid (tab_succ j (f k))
          have Htl := Lib.hid (show (tab j (f k)).length < 4294967296 by rw [tab_len]; omega)
          go_wp2_with fail
          refine (HK.out k j _ hS2.out hlt hjn).mono ?_
          rintro e w3 ⟨rfl, h3⟩
          have hS3 := hS2.call0 h3
          go_wp2_with (at_builtin; refine appI hS3 0 rfl Htl.out rfl _ _ rfl rfl _ rfl ?_; intro v4 w4 hS4)
          go_roundw
          case rel => exact ⟨j + 1, by omega, by go_num, by rw [Hts.out]; exact hS4⟩
          case measure => simp [intOf]; omega
        · have hje : j = n := by omega
          rw [hje] at hS2
          clear hje
          obtain ⟨ar, cr, hre⟩ := (hS2.rdI 0 rfl).shq
          subst hre
          have Htl := Lib.hid (show (tab n (f k)).length = n from tab_len _ _)
          go_wp2_with (at_builtin; refine appII hS2 1 rfl (by rw [hl.out]; omega) rfl _ _ rfl rfl _ rfl rfl ?_; intro v4 w4 hS4)
          go_roundw
          case rel =>
            refine ⟨k + 1, us ++ [.slice ar (tab n (f k)).length cr], by omega, by go_num, by simp [Hid, hl.out], ?_⟩
            rw [Hst.out, own2, rowsI_app Hlu.out]
            simp only [own2, List.set_cons_succ, List.set_cons_zero] at hS4
            exact hS4.perm (by (try simp only [own2, List.cons_append, List.nil_append, List.append_nil]); classical exact List.perm_iff_count.2 (fun a => by simp only [List.cons_append, List.nil_append, List.append_nil, List.count_append, List.count_cons, List.count_nil] <;> omega))
          case measure => simp [intOf]; omega
    · have hke : k = n := by omega
      have HL := Lib.hid (show us.length = (sqF n f).length by rw [hl.out, sqF_len, hke])
      rw [hke, List.take_of_length_le (by rw [sqF_len]; exact Nat.le_refl _)] at hS
      clear hke
      go_wp2_with fail
      go_ret
      exact ⟨_, us, rfl, HL.out, hS⟩
theorem emptySquare1_c (x y : Int) (w : World) : Calls Tryz.prog 56 #[.int .i64 x, .int .i64 y] w (GivesI w 0) := by
  go_enter Tryz.func56, Tryz.ntmps56
  go_wp2_with fail
  go_ret
  exact ⟨rfl, St.refl w⟩
theorem emptySquare_c (n : Nat) (w : World) (hn : n ≤ 4096) : Calls Tryz.prog 37 #[.int .i64 n] w (MakesII w (sqF n fun _ _ => 0)) := by
  have hcf := callFunc_go Tryz.func56 (by kernel_rfl) (by kernel_rfl)
  have hcall := Lib.hid (filledSquare_c 56 #[] (fun _ _ => 0) n w hn hcf (fun x y W _ _ _ => emptySquare1_c x y W))
  clear hcf
  go_enter Tryz.func37, Tryz.ntmps37
  go_wp2_with fail
  refine hcall.out.mono ?_
  rintro e w1 ⟨v, us, rfl, hl, h1⟩
  have Hl := Lib.hid hl
  clear hl
  go_wp2_with fail
  go_ret
  exact ⟨v, us, rfl, Hl.out, h1⟩
set_option maxHeartbeats 2000000 in
set_option maxRecDepth 100000 in
theorem l06Zero_c (n : Nat) (w : World) (hn : n ≤ 4096) : Calls Tryz.prog 75 #[.int .i64 n, .int .i64 n] w (MakesII w (sqF n fun _ _ => 0)) := by
  have hS0 := (St.refl w).new 33 #[] (by simp)
  have Hrep := Lib.hid (show List.replicate n (0 : Int) = tab n fun _ => 0 by
    refine cf_ext (by rw [tab_len]; simp) fun j hj => ?_
    have : j < n := by simpa using hj
    rw [cf_tab this]; simp [cf, this])
  go_enter Tryz.func75, Tryz.ntmps75
  go_wp2_with fail
  go_loopw [5, 6] (fun o ii wr => ∃ (k : Nat) (us : List Value), k ≤ n ∧ ii = .int .i64 k ∧ Hid (us.length = k) ∧ St w.heap.size w wr (own2 o us ((sqF n fun _ _ => 0).take k))) (fun _ ii _ => n - (intOf ii).toNat)
  case atStart => exact ⟨0, [], by omega, rfl, rfl, hS0⟩
  case round =>
    obtain ⟨k, us, hk, rfl, hl, hS⟩ := hrel
    have Hlu := Lib.hid (show us.length = ((sqF n fun _ _ => 0).take k).length by rw [List.length_take, sqF_len, hl.out]; omega)
    by_cases hlt : k < n
    · have Hst := Lib.hid (sqF_take (f := fun _ _ => 0) hlt)
      have Hul := Lib.hid (show us.length < 4294967296 by rw [hl.out]; omega)
      go_wp2_with (first
        | (at_make
           refine mkI hS rfl _ _ rfl _ _ n rfl rfl (by omega) ?_
           intro v3 w3 hS3
           rw [Hrep.out] at hS3
           obtain ⟨a3, c3, he3⟩ := ((hS3.perm List.perm_append_comm).rdI 0 rfl).shq
           subst he3)
        | (at_builtin
           refine appII hS3 0 rfl Hul.out rfl _ _ rfl rfl _ rfl rfl ?_
           intro v4 w4 hS4))
      go_roundw
      case rel =>
        refine ⟨k + 1, us ++ [.slice a3 (tab n fun _ => 0).length c3], by omega, by go_num, by simp [Hid, hl.out], ?_⟩
        rw [Hst.out]
        exact own2_snoc Hlu.out hS4
      case measure => simp [intOf]; omega
    · have hke : k = n := by omega
      have HL := Lib.hid (show us.length = (sqF n fun _ _ => 0).length by rw [hl.out, sqF_len, hke])
      rw [hke, List.take_of_length_le (by rw [sqF_len]; exact Nat.le_refl _)] at hS
      clear hke
      go_wp2_with fail
      go_ret
      exact ⟨_, us, rfl, HL.out, hS⟩
end Go.Proofs.YtdlmohigkkdegaaGreatDoor
end

section
/- Latin squares as lists of lists, their isotopes. In plain terms. -/
namespace Go.Proofs.YtdlmohigkkdegaaGreatDoor
set_option linter.unusedSimpArgs false
set_option linter.unusedVariables false
/-- the entry of a place -/
def at2 (A : List (List Int)) (x y : Nat) : Int := nth (xat A x) y
/-- a square of n rows and columns -/
structure Sqr (n : Nat) (A : List (List Int)) : Prop where
  len : A.length = n
  row : ∀ x, x < n → (xat A x).length = n
/-- its entries are below n -/
structure Sq0 (n : Nat) (A : List (List Int)) : Prop extends Sqr n A where
  el : ∀ x y, x < n → y < n → 0 ≤ at2 A x y ∧ at2 A x y < n
def colL (A : List (List Int)) (y : Nat) : List Int := A.map fun r => nth r y
theorem colL_len (A : List (List Int)) (y : Nat) : (colL A y).length = A.length := by simp [colL]
theorem nth_colL {A : List (List Int)} {y x : Nat} (h : x < A.length) : nth (colL A y) x = at2 A x y := by simp [colL, nth, at2, xat, h]
/-- a Latin square of at most 10 rows -/
structure Lat (A : List (List Int)) : Prop where
  pos : 1 ≤ A.length
  le : A.length ≤ 10
  len : ∀ x, x < A.length → (xat A x).length = A.length
  row : ∀ x, x < A.length → IsP (xat A x)
  col : ∀ y, y < A.length → IsP (colL A y)
open Classical in
noncomputable def latB (A : List (List Int)) : Bool := decide (Lat A)
theorem latB_t {A : List (List Int)} (h : latB A = true) : Lat A := by simpa [latB] using h
theorem latB_yes {A : List (List Int)} (h : Lat A) : latB A = true := by simp [latB, h]
theorem latB_no {A : List (List Int)} (h : ¬ Lat A) : latB A = false := by simp [latB, h]
theorem Lat.sq0 {A : List (List Int)} (h : Lat A) : Sq0 A.length A where
  len := rfl
  row := h.len
  el x y hx hy := by have := (h.row x hx).lt y (by rw [h.len x hx]; exact hy); rw [h.len x hx] at this; exact this
theorem sq_ext {n : Nat} {A B : List (List Int)} (hA : Sqr n A) (hB : Sqr n B) (h : ∀ x y, x < n → y < n → at2 A x y = at2 B x y) : A = B := by
  apply List.ext_getElem (hA.len.trans hB.len.symm)
  intro x h1 h2
  have hx : x < n := by rw [← hA.len]; exact h1
  have e1 : A[x] = xat A x := by simp [xat, h1]
  have e2 : B[x] = xat B x := by simp [xat, h2]
  rw [e1, e2]
  refine nth_ext (by rw [hA.row x hx, hB.row x hx]) fun y hy => h x y hx (by rw [← hA.row x hx]; exact hy)
theorem sq_ext2 {n : Nat} {A B : List (List Int)} {r c : List Int} (hr : IsP r) (hc : IsP c) (hrl : r.length = n) (hcl : c.length = n) (hA : Sqr n A) (hB : Sqr n B)
    (h : ∀ x y, x < n → y < n → at2 A (pf r x) (pf c y) = at2 B (pf r x) (pf c y)) : A = B := by
  refine sq_ext hA hB fun x y hx hy => ?_
  obtain ⟨x', hx', rfl⟩ := hr.bij.onto (y := x) (by omega)
  obtain ⟨y', hy', rfl⟩ := hc.bij.onto (y := y) (by omega)
  exact h x' y' (by omega) (by omega)
theorem at2_sqF {n : Nat} {f : Nat → Nat → Int} {x y : Nat} (hx : x < n) (hy : y < n) : at2 (sqF n f) x y = f x y := by
  unfold at2; rw [xat_sqF hx]; simp [tab, nth, hy]
theorem sqF_sqr (n : Nat) (f : Nat → Nat → Int) : Sqr n (sqF n f) := ⟨sqF_len n f, fun x hx => by rw [xat_sqF hx, tab_len]⟩
/-- one entry anew -/
def putS (S : List (List Int)) (x y : Nat) (v : Int) : List (List Int) := S.set x ((xat S x).set y v)
theorem xat_putS {n : Nat} {S : List (List Int)} (h : Sqr n S) {x : Nat} (hx : x < n) (y : Nat) (v : Int) (t : Nat) : xat (putS S x y v) t = if x = t then (xat S x).set y v else xat S t := by
  unfold putS xat
  rw [List.getD_eq_getElem?_getD, List.getElem?_set]
  split
  · rename_i e; subst e; rw [if_pos (by rw [h.len]; exact hx)]; rfl
  · simp
theorem putS_sqr {n : Nat} {S : List (List Int)} (h : Sqr n S) {x : Nat} (hx : x < n) (y : Nat) (v : Int) : Sqr n (putS S x y v) := by
  refine ⟨by unfold putS; rw [List.length_set]; exact h.len, fun t ht => ?_⟩
  rw [xat_putS h hx]
  split
  · rw [List.length_set]; exact h.row x hx
  · exact h.row t ht
theorem at2_putS {n : Nat} {S : List (List Int)} (h : Sqr n S) {x y : Nat} (hx : x < n) (hy : y < n) (v : Int) (t u : Nat) : at2 (putS S x y v) t u = if x = t ∧ y = u then v else at2 S t u := by
  unfold at2
  rw [xat_putS h hx]
  by_cases e : x = t
  · subst e
    rw [if_pos rfl, nth_set (by rw [h.row x hx]; exact hy)]
    by_cases e2 : y = u
    · rw [if_pos e2, if_pos ⟨rfl, e2⟩]
    · rw [if_neg e2, if_neg fun h => e2 h.2]
  · rw [if_neg e, if_neg fun h => e h.1]
theorem putS_sq0 {n : Nat} {S : List (List Int)} (h : Sq0 n S) {x y : Nat} (hx : x < n) (hy : y < n) {v : Int} (h0 : 0 ≤ v) (h1 : v < n) : Sq0 n (putS S x y v) := by
  refine ⟨putS_sqr h.toSqr hx y v, fun t u ht hu => ?_⟩
  rw [at2_putS h.toSqr hx hy]
  split
  · exact ⟨h0, h1⟩
  · exact h.el t u ht hu
/-! ### isotopes -/
def isoL (A : List (List Int)) (r c s : List Int) : List (List Int) := sqF A.length fun x y => nth s (at2 A (pf (invL r) x) (pf (invL c) y)).toNat
theorem pf_invL {xs : List Int} (h : IsP xs) {j : Nat} (hj : j < xs.length) : pf (invL xs) (pf xs j) = j := by unfold pf; rw [show nth (invL xs) (nth xs j).toNat = j from nth_invL h hj]; rfl
theorem isoL_sqr (A : List (List Int)) (r c s : List Int) : Sqr A.length (isoL A r c s) := sqF_sqr _ _
theorem isoL_at {A : List (List Int)} {r c s : List Int} (hr : IsP r) (hc : IsP c) (hrl : r.length = A.length) (hcl : c.length = A.length) {x y : Nat} (hx : x < A.length) (hy : y < A.length) :
    at2 (isoL A r c s) (pf r x) (pf c y) = nth s (at2 A x y).toNat := by
  have h1 : pf r x < A.length := by rw [← hrl]; exact hr.pf_lt (by omega)
  have h2 : pf c y < A.length := by rw [← hcl]; exact hc.pf_lt (by omega)
  unfold isoL
  rw [at2_sqF h1 h2, pf_invL hr (by omega), pf_invL hc (by omega)]
/-- the isotope, made as far as place y of row x -/
structure IsoP (A : List (List Int)) (r c s : List Int) (x y : Nat) (S : List (List Int)) : Prop where
  sqr : Sqr A.length S
  at' : ∀ x' y', x' < A.length → y' < A.length → (x' < x ∨ x' = x ∧ y' < y) → at2 S (pf r x') (pf c y') = nth s (at2 A x' y').toNat
section
variable {A : List (List Int)} {r c s : List Int}
theorem IsoP.start : IsoP A r c s 0 0 (sqF A.length fun _ _ => 0) := ⟨sqF_sqr _ _, fun _ _ _ _ h => by omega⟩
theorem IsoP.step (hr : IsP r) (hc : IsP c) (hrl : r.length = A.length) (hcl : c.length = A.length) {x y : Nat} {S : List (List Int)} (h : IsoP A r c s x y S) (hx : x < A.length) (hy : y < A.length) :
    IsoP A r c s x (y + 1) (putS S (pf r x) (pf c y) (nth s (at2 A x y).toNat)) := by
  have h1 : pf r x < A.length := by rw [← hrl]; exact hr.pf_lt (by omega)
  have h2 : pf c y < A.length := by rw [← hcl]; exact hc.pf_lt (by omega)
  refine ⟨putS_sqr h.sqr h1 _ _, fun x' y' hx' hy' hl => ?_⟩
  rw [at2_putS h.sqr h1 h2]
  split
  · rename_i e
    rw [hr.bij.inj x x' (by omega) (by omega) e.1, hc.bij.inj y y' (by omega) (by omega) e.2]
  · rename_i e
    refine h.at' x' y' hx' hy' ?_
    rcases hl with hl | ⟨rfl, hl⟩
    · exact .inl hl
    · refine .inr ⟨rfl, ?_⟩
      by_cases e2 : y' = y
      · subst e2; exact absurd ⟨rfl, rfl⟩ e
      · omega
theorem IsoP.next {x : Nat} {S : List (List Int)} (h : IsoP A r c s x A.length S) : IsoP A r c s (x + 1) 0 S :=
  ⟨h.sqr, fun x' y' hx' hy' hl => h.at' x' y' hx' hy' (by omega)⟩
theorem IsoP.done (hr : IsP r) (hc : IsP c) (hrl : r.length = A.length) (hcl : c.length = A.length) {S : List (List Int)} (h : IsoP A r c s A.length 0 S) : S = isoL A r c s :=
  sq_ext2 hr hc hrl hcl h.sqr (isoL_sqr A r c s) fun x y hx hy => by
    rw [h.at' x y hx hy (.inl hx), isoL_at hr hc hrl hcl hx hy]
theorem isoL_len (A : List (List Int)) (r c s : List Int) : (isoL A r c s).length = A.length := (isoL_sqr A r c s).len
theorem isoL_sq0 (hs : IsP s) (hr : IsP r) (hc : IsP c) (hrl : r.length = A.length) (hcl : c.length = A.length) (hsl : s.length = A.length) (h : Sq0 A.length A) : Sq0 A.length (isoL A r c s) := by
  refine ⟨isoL_sqr A r c s, fun x y hx hy => ?_⟩
  obtain ⟨x', hx', rfl⟩ := hr.bij.onto (y := x) (by omega)
  obtain ⟨y', hy', rfl⟩ := hc.bij.onto (y := y) (by omega)
  rw [isoL_at hr hc hrl hcl (by omega) (by omega)]
  have := h.el x' y' (by omega) (by omega)
  have := hs.lt (at2 A x' y').toNat (by omega)
  omega
/-- isotopes of Latin squares are Latin squares -/
theorem Lat.iso (h : Lat A) (hr : IsP r) (hc : IsP c) (hs : IsP s) (hrl : r.length = A.length) (hcl : c.length = A.length) (hsl : s.length = A.length) : Lat (isoL A r c s) := by
  have h0 := h.sq0
  have hq := isoL_sqr A r c s
  have hz := isoL_sq0 hs hr hc hrl hcl hsl h0
  have hb := isoL_len A r c s
  have key : ∀ x y, x < A.length → y < A.length → at2 (isoL A r c s) (pf r x) (pf c y) = nth s (at2 A x y).toNat := fun x y hx hy => isoL_at hr hc hrl hcl hx hy
  have hsi : ∀ a b : Int, 0 ≤ a → a < A.length → 0 ≤ b → b < A.length → nth s a.toNat = nth s b.toNat → a = b := fun a b ha ha' hb hb' e => by
    have := hs.inj a.toNat b.toNat (by omega) (by omega) e; omega
  refine ⟨by rw [hb]; exact h.pos, by rw [hb]; exact h.le, fun x hx => by rw [hb] at hx ⊢; exact hq.row x hx, fun x hx => ?_, fun y hy => ?_⟩
  · rw [hb] at hx
    refine ⟨fun y hy => ?_, fun y z hy hz' e => ?_⟩
    · rw [hq.row x hx] at hy ⊢; exact hz.el x y hx hy
    · rw [hq.row x hx] at hy hz'
      obtain ⟨x', hx', rfl⟩ := hr.bij.onto (y := x) (by omega)
      obtain ⟨y', hy', rfl⟩ := hc.bij.onto (y := y) (by omega)
      obtain ⟨z', hz', rfl⟩ := hc.bij.onto (y := z) (by omega)
      have e' : at2 (isoL A r c s) (pf r x') (pf c y') = at2 (isoL A r c s) (pf r x') (pf c z') := e
      rw [key _ _ (by omega) (by omega), key _ _ (by omega) (by omega)] at e'
      have a1 := h0.el x' y' (by omega) (by omega)
      have a2 := h0.el x' z' (by omega) (by omega)
      rw [(h.row x' (by omega)).inj y' z' (by rw [h.len x' (by omega)]; omega) (by rw [h.len x' (by omega)]; omega) (hsi _ _ a1.1 a1.2 a2.1 a2.2 e')]
  · rw [hb] at hy
    refine ⟨fun x hx => ?_, fun x z hx hz' e => ?_⟩
    · rw [colL_len, hb] at hx ⊢; rw [nth_colL (by rw [hb]; exact hx)]; exact hz.el x y hx hy
    · rw [colL_len, hb] at hx hz'
      rw [nth_colL (by rw [hb]; exact hx), nth_colL (by rw [hb]; exact hz')] at e
      obtain ⟨x', hx', rfl⟩ := hr.bij.onto (y := x) (by omega)
      obtain ⟨y', hy', rfl⟩ := hc.bij.onto (y := y) (by omega)
      obtain ⟨z', hz', rfl⟩ := hr.bij.onto (y := z) (by omega)
      rw [key _ _ (by omega) (by omega), key _ _ (by omega) (by omega)] at e
      have a1 := h0.el x' y' (by omega) (by omega)
      have a2 := h0.el z' y' (by omega) (by omega)
      have e' := hsi _ _ a1.1 a1.2 a2.1 a2.2 e
      rw [← nth_colL (by omega), ← nth_colL (by omega)] at e'
      rw [(h.col y' (by omega)).inj x' z' (by rw [colL_len]; omega) (by rw [colL_len]; omega) e']
end
end Go.Proofs.YtdlmohigkkdegaaGreatDoor
end

section
/- Plain: squares of digits as text. -/
namespace Go.Proofs.YtdlmohigkkdegaaGreatDoor
set_option linter.unusedSimpArgs false
set_option linter.unusedVariables false
open Go

theorem sep_miss {c : UInt8} {x : List UInt8} (h : c ∉ x) : Lib.index x [c] = -1 := by rw [Lib.index_one, indexByte_no x c h]
theorem sep_hit {c : UInt8} {x : List UInt8} (r : List UInt8) (h : c ∉ x) : Lib.index (x ++ c :: r) [c] = x.length := by rw [Lib.index_one, indexByte_at x c r h]
theorem sep_two (c : UInt8) (x y : List UInt8) (r : List (List UInt8)) : Lib.join (x :: y :: r) [c] = x ++ c :: Lib.join (y :: r) [c] := by
  rw [Lib.join_cons, Lib.join_cons]; simp [Lib.joinTail]
theorem sep_count (c : UInt8) : ∀ (r : List (List UInt8)) (x : List UInt8), (∀ y ∈ x :: r, c ∉ y) → Lib.count (Lib.join (x :: r) [c]) [c] = r.length
  | [], x, h => by rw [Lib.join_one, Lib.count_miss (sep_miss (h x (by simp)))]; rfl
  | y :: r, x, h => by
    rw [sep_two, Lib.count_hit (by simp) (sep_hit _ (h x (by simp)))]
    have e : (x ++ c :: Lib.join (y :: r) [c]).drop (x.length + [c].length) = Lib.join (y :: r) [c] := by simp
    rw [e, sep_count c r y (fun z hz => h z (List.mem_cons_of_mem _ hz)), List.length_cons]; omega
theorem sep_split (c : UInt8) : ∀ (r : List (List UInt8)) (x : List UInt8), (∀ y ∈ x :: r, c ∉ y) → Lib.splitK [c] 0 r.length (Lib.join (x :: r) [c]) = x :: r
  | [], x, h => by rw [Lib.join_one]; rfl
  | y :: r, x, h => by
    rw [sep_two, List.length_cons, Lib.splitK, sep_hit _ (h x (by simp)), if_neg (by intro e; have := beq_iff_eq.1 e; omega)]
    have e : (x ++ c :: Lib.join (y :: r) [c]).drop ((x.length : Int).toNat + [c].length) = Lib.join (y :: r) [c] := by simp
    have e2 : (x ++ c :: Lib.join (y :: r) [c]).take ((x.length : Int).toNat + 0) = x := by simp
    rw [e, e2, sep_split c r y (fun z hz => h z (List.mem_cons_of_mem _ hz))]

def Dig (r : List Int) : Prop := r.length ≤ 10 ∧ ∀ x ∈ r, 0 ≤ x ∧ x < 10
def dig (x : Int) : UInt8 := UInt8.ofNat (48 + x.toNat)
theorem dig_nat {x : Int} (h0 : 0 ≤ x) (h1 : x < 10) : ((dig x).toNat : Int) = 48 + x := by
  have : (dig x).toNat = 48 + x.toNat := by simp [dig]; omega
  omega
theorem dig_itoa {x : Int} (h0 : 0 ≤ x) (h1 : x < 10) : Lib.itoa x = [dig x] := by
  unfold Lib.itoa
  rw [if_neg (by omega), Lib.decDigits_one (by omega)]; rfl
/-- the text of a row -/
def rt (r : List Int) : List UInt8 := r.map dig
theorem rt_len (r : List Int) : (rt r).length = r.length := by simp [rt]
theorem rt_slash {r : List Int} (h : Dig r) : (47 : UInt8) ∉ rt r := fun hm => by
  obtain ⟨x, hx, e⟩ := List.mem_map.1 hm
  have := dig_nat (h.2 x hx).1 (h.2 x hx).2
  rw [e] at this
  have e47 : (47 : UInt8).toNat = 47 := by decide
  have := (h.2 x hx).1
  omega
/-- the text of a square -/
def sqT (A : List (List Int)) : List UInt8 := Lib.join (A.map rt) [47]
theorem sqT_parts {A : List (List Int)} (hA : A ≠ []) (hD : ∀ r ∈ A, Dig r) : Lib.count (sqT A) [47] + 1 = A.length ∧ Lib.splitK [47] 0 (Lib.count (sqT A) [47]) (sqT A) = A.map rt := by
  cases A with
  | nil => exact absurd rfl hA
  | cons r A =>
    have hw : ∀ y ∈ rt r :: A.map rt, (47 : UInt8) ∉ y := fun y hy => by
      rw [← List.map_cons] at hy
      obtain ⟨x, hx, rfl⟩ := List.mem_map.1 hy
      exact rt_slash (hD x hx)
    have h1 := sep_count 47 (A.map rt) (rt r) hw
    have h2 := sep_split 47 (A.map rt) (rt r) hw
    rw [List.length_map] at h1 h2
    unfold sqT
    rw [List.map_cons, h1]
    exact ⟨by simp, h2⟩
theorem lens_rt : ∀ (A : List (List Int)), (∀ r ∈ A, Dig r) → Lib.lens (A.map rt) ≤ 10 * A.length
  | [], _ => by simp [Lib.lens]
  | r :: A, h => by
    have h1 := lens_rt A (fun y hy => h y (List.mem_cons_of_mem _ hy))
    have h2 := (h r (List.mem_cons_self ..)).1
    have h3 := rt_len r
    simp only [Lib.lens, List.map_cons, List.sum_cons, List.length_cons] at h1 ⊢
    omega
theorem sqT_len {A : List (List Int)} (hl : A.length ≤ 10) (hD : ∀ r ∈ A, Dig r) : (sqT A).length ≤ 200 := by
  cases A with
  | nil => simp [sqT, Lib.join_nil]
  | cons r A =>
    have h1 := lens_rt (r :: A) hD
    unfold sqT
    rw [List.map_cons] at h1 ⊢
    rw [Lib.join_length]
    simp only [List.length_cons, List.length_map, List.length_nil] at *
    omega
theorem Lat.dig {A : List (List Int)} (h : Lat A) : ∀ r ∈ A, Dig r := fun r hr => by
  obtain ⟨x, hx, rfl⟩ := List.getElem_of_mem hr
  have e : xat A x = A[x] := xat_eq hx
  have hl := h.len x hx
  have hp := h.row x hx
  rw [e] at hl hp
  have hA := h.le
  refine ⟨by omega, fun y hy => ?_⟩
  obtain ⟨j, hj, rfl⟩ := List.getElem_of_mem hy
  have := hp.lt j hj
  rw [nth_eq hj] at this
  omega
end Go.Proofs.YtdlmohigkkdegaaGreatDoor
end

section
/- Walks: slices.ContainsFunc on rows of integers. -/
namespace Go.Proofs.YtdlmohigkkdegaaGreatDoor
set_option linter.unusedSimpArgs false
set_option linter.unusedVariables false
open Go.RowKit

/-! slices.ContainsFunc on rows -/
def anyR (p : List Int → Bool) (xss : List (List Int)) : Bool := xss.any p
def idxR (p : List Int → Bool) (xss : List (List Int)) (k : Nat) : Int := match (xss.drop k).findIdx? p with | some j => (k + j : Nat) | none => -1
theorem idxR_step {p : List Int → Bool} {xs : List (List Int)} {k : Nat} (hk : k < xs.length) (h : p (xat xs k) = false) : idxR p xs k = idxR p xs (k + 1) := by
  unfold idxR
  rw [drop_xat hk, List.findIdx?_cons, h]
  cases (xs.drop (k + 1)).findIdx? p with
  | none => rfl
  | some j => simp; omega
theorem idxR_hit {p : List Int → Bool} {xs : List (List Int)} {k : Nat} (hk : k < xs.length) (h : p (xat xs k) = true) : idxR p xs k = k := by
  unfold idxR; rw [drop_xat hk, List.findIdx?_cons, h]; simp
theorem idxR_end {p : List Int → Bool} {xs : List (List Int)} {k : Nat} (hk : xs.length ≤ k) : idxR p xs k = -1 := by
  unfold idxR; rw [List.drop_of_length_le hk]; rfl
theorem idxR_any {p : List Int → Bool} {xs : List (List Int)} : decide (0 ≤ idxR p xs 0) = anyR p xs := by
  unfold idxR anyR
  rw [List.drop_zero]
  cases h : xs.findIdx? p with
  | none =>
    have hy : xs.any p = false := by
      rw [List.any_eq_false]
      intro x hx
      have := List.findIdx?_eq_none_iff.1 h x hx
      simp [this]
    rw [hy]; simp
  | some j =>
    have hy : xs.any p = true := by
      obtain ⟨hj, hp, _⟩ := List.findIdx?_eq_some_iff_getElem.1 h
      exact List.any_eq_true.2 ⟨_, List.getElem_mem hj, hp⟩
    rw [hy]; simp

set_option maxHeartbeats 1000000 in
set_option maxRecDepth 100000 in
theorem IndexFuncR_c (K : FuncId) (caps : Array Value) (p : List Int → Bool) (v : Value) (us : List Value) (xss : List (List Int)) (w : World) (hv : RII w v us xss)
    (hcf : ∀ (args : Array Value) (W : World), (callFunc K args).run Tryz.prog W = .ok (.enter K args) W)
    (hK : ∀ (j : Nat) (W : World), St w.heap.size w W [] → j < xss.length → Calls Tryz.prog K (#[vat us j] ++ caps) W (GivesB W (p (xat xss j)))) :
    Calls Tryz.prog 62 #[v, .func (.func K) #[] caps] w (GivesI w (idxR p xss 0)) := by
  have HK := Lib.hid hK
  clear hK
  have hln := hv.len
  have hix := hv.ix
  have hm := hv.le
  go_enter Tryz.func62, Tryz.ntmps62
  go_wp2_with fail
  go_loopw [5, 8] (fun _ i wr => ∃ k : Nat, k ≤ xss.length ∧ i = .int .i64 k ∧ Hid (idxR p xss 0 = idxR p xss k) ∧ St w.heap.size w wr []) (fun _ i _ => xss.length - (intOf i).toNat)
  case atStart => exact ⟨0, by omega, rfl, rfl, St.refl w⟩
  case round =>
    obtain ⟨k, hk, rfl, hI, hS⟩ := hrel
    by_cases hlt : k < xss.length
    · have hc := (hS.oldII hv).cell k hlt
      go_wp2_with fail
      refine (HK.out _ _ hS hlt).mono ?_
      cases hp : p (xat xss k)
      · have Hp := Lib.hid hp; clear hp
        rintro e w2 ⟨rfl, h2⟩
        have hS2 := hS.call0 h2
        go_wp2_with fail
        go_roundw
        case rel => exact ⟨k + 1, by omega, by go_num, by rw [Hid, hI.out, idxR_step hlt Hp.out], hS2⟩
        case measure => simp [intOf]; omega
      · have Hp := Lib.hid hp; clear hp
        rintro e w2 ⟨rfl, h2⟩
        have hS2 := hS.call0 h2
        go_wp2_with fail
        go_ret
        exact ⟨ret_i64 (by rw [hI.out, idxR_hit hlt Hp.out]), hS2⟩
    · go_wp2_with fail
      go_ret
      exact ⟨ret_i64 (by rw [hI.out, idxR_end (by omega)]), hS⟩
theorem ContainsFuncR_c (K : FuncId) (caps : Array Value) (p : List Int → Bool) (v : Value) (us : List Value) (xss : List (List Int)) (w : World) (hv : RII w v us xss)
    (hcf : ∀ (args : Array Value) (W : World), (callFunc K args).run Tryz.prog W = .ok (.enter K args) W)
    (hK : ∀ (j : Nat) (W : World), St w.heap.size w W [] → j < xss.length → Calls Tryz.prog K (#[vat us j] ++ caps) W (GivesB W (p (xat xss j)))) :
    Calls Tryz.prog 43 #[v, .func (.func K) #[] caps] w (GivesB w (anyR p xss)) := by
  have HK := Lib.hid hK
  clear hK
  go_enter Tryz.func43, Tryz.ntmps43
  go_wp2_with fail
  refine (IndexFuncR_c K caps p v us xss w hv hcf HK.out).mono ?_
  rintro e w1 ⟨rfl, h1⟩
  go_wp2_with fail
  go_ret
  exact ⟨ret_bool idxR_any, h1⟩

theorem szII_c (v : Value) (us : List Value) (xss : List (List Int)) (w : World) (hv : RII w v us xss) :
    Calls Tryz.prog 22 #[v] w fun e w' => e = .returned (.int .i64 xss.length) ∧ w = w' := by
  have hln := hv.len
  go_enter Tryz.func22, Tryz.ntmps22
  go_wp2_with fail
  go_ret
  exact ⟨rfl, rfl⟩
end Go.Proofs.YtdlmohigkkdegaaGreatDoor
end

section
/- make inside a region that draws its order. A region that loads cells and writes them by its last stores: what is held of the world is asked until the first of these stores alone. A region that loads cells and writes them at its end: an operation taken first, by a chain of operations that wait for each other. -/
namespace Go.Proofs.YtdlmohigkkdegaaGreatDoor
set_option linter.unusedSimpArgs false
set_option linter.unusedVariables false
open Go.RowKit
theorem cell_al {w : World} {o : Obj} {a : Addr} {v : Value} (h : w.cell? a = some v) : (w.alloc o).cell? a = some v := by
  rw [World.cell?_alloc_some _ _ _ (by rw [h]; rfl)]; exact h
theorem cell_dr {w : World} {a : Addr} {v : Value} (h : w.cell? a = some v) : w.drew.cell? a = some v := h
theorem cell_sc {w : World} {p a : Addr} {u v : Value} (hp : p.block ≠ a.block) (h : w.cell? a = some v) : (w.setCell p u).cell? a = some v := by
  rw [World.cell?_setCell_far _ _ _ _ hp]; exact h
section
variable {P : Program} {ops : Array Oper} {o : Oper} {a : Act} {K : Act → World → Prop} {Q : Exit → Act → World → Prop} {E : Prop}
end
section
variable {ops : Array Oper} {o : Oper} {a : Act} {K : Act → World → Prop} {Q : Exit → Act → World → Prop} {E : Prop} {B : Nat} {w0 w : World} {L : List Ent}
end

section
variable {P : Program} {ops : Array Oper} {Q : Exit → Act → World → Prop} {md : Region.Mode} {S : World → Prop} {st : Nat}

/-- whichever order is picked; S is shown behind every operation till operation st has come up -/
def anyG (P : Program) (md : Region.Mode) (ops : Array Oper) (Q : Exit → Act → World → Prop) (S : World → Prop) (st : Nat) : Nat → Array Bool → Act → World → Prop
  | 0, listed, a, w => Region.ready md ops listed = [] ∧ Q .normal a w
  | n + 1, listed, a, w => (Region.ready md ops listed = [] → Q .normal a w) ∧
    ∀ i ∈ Region.ready md ops listed, wpOp P ops Q i (fun a' w' => ((listed.setIfInBounds i true).getD st true = false → S w') ∧ anyG P md ops Q S st n (listed.setIfInBounds i true) a' w') a w

theorem wpAny_of_G : ∀ (n : Nat) (listed : Array Bool) (a : Act) (w : World), anyG P md ops Q S st n listed a w → wpAny P md ops Q n listed a w
  | 0, _, _, _, h => h
  | n + 1, _, _, _, h => ⟨h.1, fun i hi => wpOp_mono (fun a' w' h' => wpAny_of_G n _ a' w' h'.2) (h.2 i hi)⟩

theorem set_un {listed : Array Bool} {j k : Nat} (hne : j ≠ k) (h : listed.getD k true = false) : (listed.setIfInBounds j true).getD k true = false := by rw [getD_set_ne true hne]; exact h
/-- what waits for an operation that has not come up cannot come up -/
theorem not_ready {listed : Array Bool} {j k : Nat} (hk : listed.getD k true = false) (hw : ∃ o, ops[j]? = some o ∧ ∃ e ∈ o.after, Region.binds md e = true ∧ e.on = k) : j ∉ Region.ready md ops listed := by
  intro h
  obtain ⟨_, o, ho, hall⟩ := mem_ready.1 h
  obtain ⟨o', ho', e, he, hb, rfl⟩ := hw
  rw [ho] at ho'; cases ho'
  have h1 := hall e he hb
  rcases Nat.lt_or_ge e.on listed.size with h' | h'
  · simp [h'] at hk h1; rw [hk] at h1; cases h1
  · simp [Array.getElem?_eq_none h'] at h1

/-- an operation that yields in whatever world may be taken first -/
theorem anyG_pure {i : Nat} {oi : Oper} {v : Value} (hi : ops[i]? = some oi) (hsel : ∀ (j : Nat) (o : Oper) cs b, ops[j]? = some o → o.op ≠ .select cs b)
    (hQ : ∀ c a w, Q (.panic c) (a.put oi.dst v) w → Q (.panic c) a w) (hne : i ≠ st) :
    ∀ (n : Nat) (listed : Array Bool) (a : Act) (w : World),
      (∀ j oj, ops[j]? = some oj → j ≠ i → listed.getD j true = false → (∀ e ∈ oj.after, Region.binds md e = true → e.on ≠ i) → oi.apart ops oj = true) →
      i ∈ Region.ready md ops listed → YieldsIf P ops (fun _ => True) oi v a → (listed.getD st true = false → S w) →
      anyG P md ops Q S st n (listed.setIfInBounds i true) (a.put oi.dst v) w → anyG P md ops Q S st (n + 1) listed a w := by
  intro n
  induction n with
  | zero =>
    intro listed a w _ hr hy hS H
    refine ⟨fun h => (by rw [h] at hr; cases hr), fun j hj => ?_⟩
    by_cases hji : j = i
    · subst hji; exact hy.wpOp hi trivial ⟨fun e => hS (by rwa [getD_set_ne true hne] at e), H⟩
    · have := ready_mono hj hji
      rw [H.1] at this
      cases this
  | succ n ih =>
    intro listed a w hfree hr hy hS H
    have hiu : listed.getD i true = false := (mem_ready.1 hr).1
    refine ⟨fun h => (by rw [h] at hr; cases hr), fun j hj => ?_⟩
    by_cases hji : j = i
    · subst hji; exact hy.wpOp hi trivial ⟨fun e => hS (by rwa [getD_set_ne true hne] at e), H⟩
    · have h1 := H.2 j (ready_mono hj hji)
      obtain ⟨hjun, oj, hoj, hall⟩ := mem_ready.1 hj
      have hnot : ∀ e ∈ oj.after, Region.binds md e = true → e.on ≠ i := fun e he hb heq => not_ready hiu ⟨oj, hoj, e, he, hb, heq⟩ hj
      have h2 := wpOp_putIf hoj (hfree j oj hoj hji hjun hnot) (fun cs b => hsel i oi cs b hi) (fun cs b => hsel j oj cs b hoj) hQ hy h1
      refine wpOp_mono (fun a' w' h3 => ?_) h2
      have hSw : (listed.setIfInBounds j true).getD st true = false → S w' := fun e => h3.2.1 (by rw [Array.setIfInBounds_comm _ _ (Ne.symm hji), getD_set_ne true hne]; exact e)
      refine ⟨hSw, ih (listed.setIfInBounds j true) a' w' ?_ (ready_mono hr (Ne.symm hji)) h3.1 hSw ?_⟩
      · intro m om hm hmi hun hno
        refine hfree m om hm hmi ?_ hno
        by_cases hjm : j = m
        · subst hjm; exact hjun
        · rwa [getD_set_ne true hjm] at hun
      · rw [Array.setIfInBounds_comm _ _ hji]
        exact h3.2.2
/-- number i is taken first, whatever the world -/
theorem takeP {i : Nat} {oi : Oper} {v : Value} {n : Nat} {listed : Array Bool} {a : Act} {w : World} (hi : ops[i]? = some oi)
    (hs : (Region.noSelect ops && Region.free md ops listed i && (Region.ready md ops listed).contains i && (!(i == st))) = true)
    (hQ : ∀ c a w, Q (.panic c) (a.put oi.dst v) w → Q (.panic c) a w) (hw : Region.wanted oi (yielded ops a.tmps) = true) (hy : ∀ w, (execOp a.eval oi).run P w = .ok (.value v) w) (hS : S w)
    (h : anyG P md ops Q S st n (listed.setIfInBounds i true) (a.put oi.dst v) w) : anyG P md ops Q S st (n + 1) listed a w := by
  simp only [Bool.and_eq_true, Bool.not_eq_true', beq_eq_false_iff_ne] at hs
  obtain ⟨⟨⟨h1, h2⟩, h3⟩, h4⟩ := hs
  exact anyG_pure hi (Region.noSelect_spec h1) hQ h4 n listed a w (Region.free_spec hi h2) (by simpa using h3) (.inl ⟨hw, fun w _ => hy w⟩) (fun _ => hS) h

def waits (md : Region.Mode) (ops : Array Oper) (j k : Nat) : Bool := match ops[j]? with
  | some o => o.after.any fun e => Region.binds md e && e.on == k
  | none => false
theorem waits_spec {j k : Nat} (h : waits md ops j k = true) : ∃ o, ops[j]? = some o ∧ ∃ e ∈ o.after, Region.binds md e = true ∧ e.on = k := by
  unfold waits at h
  cases ho : ops[j]? with
  | none => rw [ho] at h; cases h
  | some o =>
    rw [ho] at h
    simp only [Array.any_eq_true', Bool.and_eq_true, beq_iff_eq] at h
    obtain ⟨e, he, hb, hk⟩ := h
    exact ⟨o, rfl, e, he, hb, hk⟩
def AllG (P : Program) (md : Region.Mode) (ops : Array Oper) (Q : Exit → Act → World → Prop) (S : World → Prop) (st n : Nat) (listed : Array Bool) (a : Act) (w : World) (rs : List Nat) : Prop :=
  ∀ i ∈ rs, wpOp P ops Q i (fun a' w' => ((listed.setIfInBounds i true).getD st true = false → S w') ∧ anyG P md ops Q S st n (listed.setIfInBounds i true) a' w') a w
theorem AllG.nil {n : Nat} {listed : Array Bool} {a : Act} {w : World} : AllG P md ops Q S st n listed a w [] := fun _ h => by cases h
/-- an operation ahead of st -/
theorem AllG.cons {n : Nat} {listed : Array Bool} {a : Act} {w : World} {i : Nat} {o : Oper} {rs : List Nat} (ho : ops[i]? = some o)
    (h : ∀ K' : Act → World → Prop, Shut (∀ a w, S w → (S w → anyG P md ops Q S st n (listed.setIfInBounds i true) a w) → K' a w) → if Region.wanted o (yielded ops a.tmps) = true then Oper.wp P o a w K' Q else K' (a.put o.dst undef) w)
    (hs : AllG P md ops Q S st n listed a w rs) : AllG P md ops Q S st n listed a w (i :: rs) := fun j hj => by
  rcases List.mem_cons.1 hj with rfl | hj
  · exact wpOp_step ho (fun K' hK => h K' (fun a w hS hW => hK a w ⟨fun _ => hS, hW hS⟩))
  · exact hs j hj
/-- st itself, or one behind it -/
theorem AllG.last {n : Nat} {listed : Array Bool} {a : Act} {w : World} {i : Nat} {o : Oper} {rs : List Nat} (ho : ops[i]? = some o) (hl : (listed.setIfInBounds i true).getD st true = true)
    (h : ∀ K' : Act → World → Prop, Shut (∀ a w, anyG P md ops Q S st n (listed.setIfInBounds i true) a w → K' a w) → if Region.wanted o (yielded ops a.tmps) = true then Oper.wp P o a w K' Q else K' (a.put o.dst undef) w)
    (hs : AllG P md ops Q S st n listed a w rs) : AllG P md ops Q S st n listed a w (i :: rs) := fun j hj => by
  rcases List.mem_cons.1 hj with rfl | hj
  · exact wpOp_step ho (fun K' hK => h K' (fun a w hW => hK a w ⟨fun e => (by rw [hl] at e; cases e), hW⟩))
  · exact hs j hj
theorem readyG {rs : List Nat} {n : Nat} {listed : Array Bool} {a : Act} {w : World} (hr : Region.ready md ops listed = rs) (hne : rs ≠ [])
    (h : AllG P md ops Q S st n listed a w rs) : anyG P md ops Q S st (n + 1) listed a w := ⟨fun h0 => absurd (hr ▸ h0) hne, hr ▸ h⟩
theorem doneG {listed : Array Bool} {a : Act} {w : World} (hr : Region.ready md ops listed = []) (h : Q .normal a w) : ∀ n, anyG P md ops Q S st n listed a w
  | 0 => ⟨hr, h⟩
  | _ + 1 => ⟨fun _ => h, by rw [hr]; simp⟩
/-- the beginning -/
theorem regionG {id : Nat} {a : Act} {w : World} (S : World → Prop) (st : Nat) (hm : P.follows .mixedOrders = true) (hS : S w.drew)
    (h : S w.drew → anyG P .any ops (NoPanic Q) S st ops.size (Array.replicate ops.size false) a w.drew) : (Code.region id ops true).wp P Q a w :=
  wp_region_noPanic (wp_region_any hm (wpAny_of_G _ _ _ _ (h hS)))
end

section
variable {P : Program} {ops : Array Oper} {Q : Exit → Act → World → Prop} {md : Region.Mode} {S : World → Prop} {st : Nat}
theorem anyG_firstL {i : Nat} {oi : Oper} {v : Value} (ks : List Nat) (hi : ops[i]? = some oi) (hsel : ∀ (j : Nat) (o : Oper) cs b, ops[j]? = some o → o.op ≠ .select cs b)
    (hQ : ∀ c a w, Q (.panic c) (a.put oi.dst v) w → Q (.panic c) a w)
    (hks : ∀ k ∈ ks, k = i ∨ ∃ m ∈ i :: ks, ∃ o, ops[k]? = some o ∧ ∃ e ∈ o.after, Region.binds md e = true ∧ e.on = m) (hst : ∃ m ∈ i :: ks, ∃ o, ops[st]? = some o ∧ ∃ e ∈ o.after, Region.binds md e = true ∧ e.on = m) :
    ∀ (n : Nat) (listed : Array Bool) (a : Act) (w : World), (∀ k ∈ ks, listed.getD k true = false) → listed.getD st true = false →
      (∀ j oj, ops[j]? = some oj → j ≠ i → listed.getD j true = false → (∀ e ∈ oj.after, Region.binds md e = true → e.on ≠ i) → oi.apart ops oj = true) →
      i ∈ Region.ready md ops listed → YieldsIf P ops S oi v a → S w →
      anyG P md ops Q S st n (listed.setIfInBounds i true) (a.put oi.dst v) w → anyG P md ops Q S st (n + 1) listed a w := by
  intro n
  induction n with
  | zero =>
    intro listed a w hk hs _ hr hy hS H
    refine ⟨fun h => (by rw [h] at hr; cases hr), fun j hj => ?_⟩
    by_cases hji : j = i
    · subst hji; exact hy.wpOp hi hS ⟨fun _ => hS, H⟩
    · have := ready_mono hj hji
      rw [H.1] at this
      cases this
  | succ n ih =>
    intro listed a w hk hs hfree hr hy hS H
    have hiu : listed.getD i true = false := (mem_ready.1 hr).1
    have hun : ∀ m ∈ i :: ks, listed.getD m true = false := fun m hm => by
      rcases List.mem_cons.1 hm with rfl | hm
      · exact hiu
      · exact hk m hm
    refine ⟨fun h => (by rw [h] at hr; cases hr), fun j hj => ?_⟩
    by_cases hji : j = i
    · subst hji; exact hy.wpOp hi hS ⟨fun _ => hS, H⟩
    · have hjk : j ∉ ks := by
        intro hjm
        rcases hks j hjm with e | ⟨m, hm, hw⟩
        · exact hji e
        · exact not_ready (hun m hm) hw hj
      obtain ⟨ms, hms, hws⟩ := hst
      have hjs : j ≠ st := by
        rintro rfl
        exact not_ready (hun ms hms) hws hj
      have h1 := H.2 j (ready_mono hj hji)
      obtain ⟨hjun, oj, hoj, hall⟩ := mem_ready.1 hj
      have hnot : ∀ e ∈ oj.after, Region.binds md e = true → e.on ≠ i := fun e he hb heq => not_ready hiu ⟨oj, hoj, e, he, hb, heq⟩ hj
      have h2 := wpOp_putIf hoj (hfree j oj hoj hji hjun hnot) (fun cs b => hsel i oi cs b hi) (fun cs b => hsel j oj cs b hoj) hQ hy h1
      have hsj : (listed.setIfInBounds j true).getD st true = false := set_un hjs hs
      refine wpOp_mono (fun a' w' h3 => ?_) h2
      have hSw : S w' := h3.2.1 (set_un hjs (set_un (fun e => by subst e; exact not_ready (hun ms hms) hws hr) hs))
      refine ⟨fun _ => hSw, ih (listed.setIfInBounds j true) a' w' (fun k hkm => set_un (fun e => hjk (e ▸ hkm)) (hk k hkm)) hsj ?_ (ready_mono hr (Ne.symm hji)) h3.1 hSw ?_⟩
      · intro m om hm hmi hun hno
        refine hfree m om hm hmi ?_ hno
        by_cases hjm : j = m
        · subst hjm; exact hjun
        · rwa [getD_set_ne true hjm] at hun
      · rw [Array.setIfInBounds_comm _ _ hji]
        exact h3.2.2
/-- number i is taken first; ks: operations that wait for it, for each other, and st for one of them -/
theorem takeH {i : Nat} (ks : List Nat) {oi : Oper} {v : Value} {n : Nat} {listed : Array Bool} {a : Act} {w : World} (hi : ops[i]? = some oi)
    (hs : (Region.noSelect ops && Region.free md ops listed i && (Region.ready md ops listed).contains i && (ks.all fun k => k == i || (i :: ks).any fun m => waits md ops k m) && ((i :: ks).any fun m => waits md ops st m) && (ks.all fun k => !listed.getD k true) && (!listed.getD st true)) = true)
    (hQ : ∀ c a w, Q (.panic c) (a.put oi.dst v) w → Q (.panic c) a w) (hw : Region.wanted oi (yielded ops a.tmps) = true) (hy : ∀ w, S w → (execOp a.eval oi).run P w = .ok (.value v) w) (hS : S w)
    (h : anyG P md ops Q S st n (listed.setIfInBounds i true) (a.put oi.dst v) w) : anyG P md ops Q S st (n + 1) listed a w := by
  simp only [Bool.and_eq_true, Bool.not_eq_true', Bool.or_eq_true, beq_iff_eq, List.all_eq_true] at hs
  obtain ⟨⟨⟨⟨⟨⟨h1, h2⟩, h3⟩, h4⟩, h5⟩, h6⟩, h7⟩ := hs
  refine anyG_firstL ks hi (Region.noSelect_spec h1) hQ (fun k hk => ?_) ?_ n listed a w h6 h7 (Region.free_spec hi h2) (by simpa using h3) (.inl ⟨hw, hy⟩) hS h
  · rcases h4 k hk with e | e
    · exact .inl e
    · obtain ⟨m, hm, hmw⟩ := List.any_eq_true.1 e
      exact .inr ⟨m, hm, waits_spec hmw⟩
  · obtain ⟨m, hm, hmw⟩ := List.any_eq_true.1 h5
    exact ⟨m, hm, waits_spec hmw⟩
end

end Go.Proofs.YtdlmohigkkdegaaGreatDoor
end

section
/- slices.Sort at []int64: a row that a call owns, sorted. -/
namespace Go.Proofs.YtdlmohigkkdegaaGreatDoor
set_option linter.unusedSimpArgs false
set_option linter.unusedVariables false
open Go.RowKit

def Tryz.mSort_ren : Go.Shelf.Ren := ⟨fun | 5 => 32 | 8 => 48 | 7 => 47 | 19 => 73 | 20 => 74 | 10 => 64 | 11 => 65 | 12 => 66 | 13 => 67 | 14 => 68 | 15 => 69 | 16 => 70 | 17 => 71 | 18 => 72 | 30 => 84 | 31 => 85 | 32 => 86 | 33 => 87 | 34 => 88 | 35 => 89 | 40 => 100 | n => n, fun | 23 => 33 | 25 => 2 | 3 => 3 | 32 => 78 | 22 => 33 | 0 => 0 | 44 => 101 | 46 => 55 | 4 => 4 | 36 => 93 | 35 => 92 | 41 => 98 | 5 => 5 | 9 => 9 | 53 => 109 | 57 => 113 | 63 => 125 | 64 => 126 | n => n, fun | n => n⟩
theorem Tryz.mSort : Go.Proofs.SlLaysM.n5 Tryz.prog Tryz.mSort_ren := {
  mixed := by kernel_rfl
  f5 := ⟨Tryz.f32.name, by decide, Tryz.func32.trans (congrArg some (by kernel_rfl))⟩
  f7 := ⟨Tryz.f47.name, by decide, Tryz.func47.trans (congrArg some (by kernel_rfl))⟩
  f8 := Tryz.func48.trans (congrArg some (by kernel_rfl))
  f10 := ⟨Tryz.f64.name, by decide, Tryz.func64.trans (congrArg some (by kernel_rfl))⟩
  f11 := ⟨Tryz.f65.name, by decide, Tryz.func65.trans (congrArg some (by kernel_rfl))⟩
  f12 := ⟨Tryz.f66.name, by decide, Tryz.func66.trans (congrArg some (by kernel_rfl))⟩
  f13 := ⟨Tryz.f67.name, by decide, Tryz.func67.trans (congrArg some (by kernel_rfl))⟩
  f14 := ⟨Tryz.f68.name, by decide, Tryz.func68.trans (congrArg some (by kernel_rfl))⟩
  f15 := ⟨Tryz.f69.name, by decide, Tryz.func69.trans (congrArg some (by kernel_rfl))⟩
  f16 := ⟨Tryz.f70.name, by decide, Tryz.func70.trans (congrArg some (by kernel_rfl))⟩
  f17 := ⟨Tryz.f71.name, by decide, Tryz.func71.trans (congrArg some (by kernel_rfl))⟩
  f18 := ⟨Tryz.f72.name, by decide, Tryz.func72.trans (congrArg some (by kernel_rfl))⟩
  f19 := Tryz.func73.trans (congrArg some (by kernel_rfl))
  f20 := Tryz.func74.trans (congrArg some (by kernel_rfl))
  f30 := ⟨Tryz.f84.name, by decide, Tryz.func84.trans (congrArg some (by kernel_rfl))⟩
  f31 := Tryz.func85.trans (congrArg some (by kernel_rfl))
  f32 := Tryz.func86.trans (congrArg some (by kernel_rfl))
  f33 := ⟨Tryz.f87.name, by decide, Tryz.func87.trans (congrArg some (by kernel_rfl))⟩
  f34 := ⟨Tryz.f88.name, by decide, Tryz.func88.trans (congrArg some (by kernel_rfl))⟩
  f35 := ⟨Tryz.f89.name, by decide, Tryz.func89.trans (congrArg some (by kernel_rfl))⟩
  f40 := ⟨Tryz.f100.name, by decide, Tryz.func100.trans (congrArg some (by kernel_rfl))⟩
  t0 := Tryz.underlying0
  a0 := Tryz.isAgg0
  z0 := Tryz.sizeOf0
  v0 := Tryz.zeroValue0
  t3 := Tryz.underlying3
  a3 := Tryz.isAgg3
  z3 := Tryz.sizeOf3
  v3 := Tryz.zeroValue3
  t4 := Tryz.underlying4
  a4 := Tryz.isAgg4
  z4 := Tryz.sizeOf4
  v4 := Tryz.zeroValue4
  t5 := Tryz.underlying5
  a5 := Tryz.isAgg5
  z5 := Tryz.sizeOf5
  v5 := Tryz.zeroValue5
  t9 := Tryz.underlying9
  a9 := Tryz.isAgg9
  z9 := Tryz.sizeOf9
  v9 := Tryz.zeroValue9
  t22 := Tryz.underlying33
  a22 := Tryz.isAgg33
  z22 := Tryz.sizeOf33
  v22 := Tryz.zeroValue33
  t23 := Tryz.underlying33
  a23 := Tryz.isAgg33
  z23 := Tryz.sizeOf33
  v23 := Tryz.zeroValue33
  t25 := Tryz.underlying2
  a25 := Tryz.isAgg2
  z25 := Tryz.sizeOf2
  v25 := Tryz.zeroValue2
  t32 := Tryz.underlying78
  a32 := Tryz.isAgg78
  z32 := Tryz.sizeOf78
  v32 := Tryz.zeroValue78
  t35 := Tryz.underlying92
  a35 := Tryz.isAgg92
  z35 := Tryz.sizeOf92
  v35 := Tryz.zeroValue92
  t36 := Tryz.underlying93
  a36 := Tryz.isAgg93
  z36 := Tryz.sizeOf93
  v36 := Tryz.zeroValue93
  t41 := Tryz.underlying98
  a41 := Tryz.isAgg98
  z41 := Tryz.sizeOf98
  v41 := Tryz.zeroValue98
  t44 := Tryz.underlying101
  a44 := Tryz.isAgg101
  z44 := Tryz.sizeOf101
  v44 := Tryz.zeroValue101
  t46 := Tryz.underlying55
  a46 := Tryz.isAgg55
  z46 := Tryz.sizeOf55
  v46 := Tryz.zeroValue55
  t53 := Tryz.underlying109
  a53 := Tryz.isAgg109
  z53 := Tryz.sizeOf109
  v53 := Tryz.zeroValue109
  t57 := Tryz.underlying113
  a57 := Tryz.isAgg113
  z57 := Tryz.sizeOf113
  v57 := Tryz.zeroValue113
  t63 := Tryz.underlying125
  a63 := Tryz.isAgg125
  z63 := Tryz.sizeOf125
  v63 := Tryz.zeroValue125
  t64 := Tryz.underlying126
  a64 := Tryz.isAgg126
  z64 := Tryz.sizeOf126
  v64 := Tryz.zeroValue126
  }

/-- in rising order -/
def srt (xs : List Int) : List Int := xs.mergeSort fun x y => decide (x ≤ y)
theorem srt_len (xs : List Int) : (srt xs).length = xs.length := List.length_mergeSort _
theorem Sort_c {B : Nat} {w0 w : World} {L : List Ent} (hS : St B w0 w L) (i : Nat) {v : Value} {xs : List Int} (hi : L[i]? = some (row 2 v (iv xs))) (hl : xs.length < 4611686018427387904) :
    Calls Tryz.prog 32 #[v] w fun e w' => e = .returned (.tuple #[]) ∧ St B w0 w' (L.set i (row 2 v (iv (srt xs)))) := by
  have hx := hS.ok _ (List.mem_of_getElem? hi)
  rcases hx with ⟨hp, _⟩ | ⟨_, hv, hu⟩ | ⟨_, g, cap, cur, hv, hB, hh, h1, h2, h3, h4⟩
  · simp [row] at hp
  · simp only [row] at hv hu
    have hx : xs = [] := by cases xs with
      | nil => rfl
      | cons a r => simp [iv] at hu
    subst hx
    subst hv
    have hc := AnyM.slices_Sort_int_none Tryz.mSort none 0 w
    refine Calls.mono hc ?_
    rintro e w' ⟨rfl, rfl⟩
    refine ⟨rfl, ?_⟩
    have : L.set i (row 2 (.slice none 0 0) (iv (srt []))) = L := by
      obtain ⟨hlt, heq⟩ := List.getElem?_eq_some_iff.1 hi
      have e : srt [] = [] := by simp [srt]
      rw [e, ← heq, List.set_getElem_self]
    rw [this]; exact hS
  · simp only [row] at hv h1 h4 hh
    rw [iv_len] at hv h1 h4
    have hblk : g < w.heap.size := (Array.getElem?_eq_some_iff.1 hh).1
    have hH : Go.Sort.Holds (Value.int .i64) w g 0 xs.toArray := holds_of_blockI hh h4
    have hc := AnyM.slices_Sort_int Tryz.mSort g 0 cap xs w hH hblk hl
    subst hv
    refine Calls.mono hc ?_
    rintro e w' ⟨rfl, n, os, rfl⟩
    refine ⟨rfl, ?_⟩
    have hlen : (srt xs).length = xs.length := srt_len xs
    refine hS.put i hi ?_ (row 2 (.slice (some ⟨g, 0, none⟩) xs.length cap) (iv (srt xs))) (.inr (.inr ⟨rfl, g, cap, _, ?_, hB, heap_sortedI _ hh, ?_, h2, ?_, ?_⟩)) (.inl rfl)
    · exact grownBy_sortedI _
    · simp [row, iv_len, hlen]
    · simp [row, iv_len, hlen]; omega
    · simp [Go.Sort.putCells, h3]
    · have := take_putCellsI cur (srt xs) (by omega)
      rw [hlen] at this
      have hlen' : (xs.mergeSort fun x y => decide (x ≤ y)).length = xs.length := hlen
      simpa [row, iv, srt, hlen'] using this
end Go.Proofs.YtdlmohigkkdegaaGreatDoor
end

section
/- Walks: whether a list holds a number. -/
namespace Go.Proofs.YtdlmohigkkdegaaGreatDoor
set_option linter.unusedSimpArgs false
set_option linter.unusedVariables false
open Go.RowKit
set_option maxHeartbeats 1000000 in
set_option maxRecDepth 100000 in
theorem Index_c (v : Value) (xs : List Int) (n : Int) (w : World) (hv : RdI w v xs) :
    Calls Tryz.prog 29 #[v, .int .i64 n] w fun e w' => e = .returned (.int .i64 (idxP (fun x => n == x) xs 0)) ∧ w = w' := by
  have hln := hv.len
  have hix := hv.ix
  have hm := hv.le
  go_enter Tryz.func29, Tryz.ntmps29
  go_wp2_with fail
  go_loopw [5, 8] (fun _ i wr => ∃ k : Nat, k ≤ xs.length ∧ i = .int .i64 k ∧ Hid (idxP (fun x => n == x) xs 0 = idxP (fun x => n == x) xs k) ∧ wr = w) (fun _ i _ => xs.length - (intOf i).toNat)
  case atStart => exact ⟨0, by omega, rfl, rfl, rfl⟩
  case round =>
    obtain ⟨k, hk, rfl, hI, rfl⟩ := hrel
    by_cases hlt : k < xs.length
    · have hc := hv.cell k hlt
      by_cases hp : n = nth xs k
      · have f1 := eq_t hp
        have Hp := Lib.hid (show (fun x => n == x) (nth xs k) = true by simpa using hp)
        clear hp
        go_wp2_with fail
        go_ret
        exact ⟨ret_i64 (by rw [hI.out, idxP_hit hlt Hp.out]), rfl⟩
      · have f1 := eq_f hp
        have Hp := Lib.hid (show (fun x => n == x) (nth xs k) = false by simpa using hp)
        clear hp
        go_wp2_with fail
        go_roundw
        case rel => exact ⟨k + 1, by omega, by go_num, by rw [Hid, hI.out, idxP_step hlt Hp.out], by first | rfl | trivial⟩
        case measure => simp [intOf]; omega
    · go_wp2_with fail
      go_ret
      exact ⟨ret_i64 (by rw [hI.out, idxP_end (by omega)]), rfl⟩
set_option maxHeartbeats 1000000 in
set_option maxRecDepth 100000 in
theorem l00Has_c (v : Value) (xs : List Int) (n : Int) (w : World) (hv : RdI w v xs) :
    Calls Tryz.prog 58 #[v, .int .i64 n] w fun e w' => e = .returned (.bool (decide (n ∈ xs))) ∧ w = w' := by
  have hln := hv.len
  have hix := hv.ix
  have hm := hv.le
  go_enter Tryz.func58, Tryz.ntmps58
  go_wp2_with fail
  go_loopw [5] (fun i wr => ∃ k : Nat, k ≤ xs.length ∧ i = .int .i64 k ∧ Hid (n ∉ xs.take k) ∧ wr = w) (fun i _ => xs.length - (intOf i).toNat)
  case atStart => exact ⟨0, by omega, rfl, by simp [Hid], rfl⟩
  case round =>
    obtain ⟨k, hk, rfl, hI, rfl⟩ := hrel
    by_cases hlt : k < xs.length
    · have hc := hv.cell k hlt
      by_cases hp : nth xs k = n
      · have f1 := eq_t hp
        have Hp := Lib.hid (show decide (n ∈ xs) = true by rw [decide_eq_true_iff, ← hp]; exact nth_mem hlt)
        clear hp
        go_wp2_with fail
        go_ret
        exact ⟨ret_bool Hp.out.symm, rfl⟩
      · have f1 := eq_f hp
        have Hp := Lib.hid (show n ∉ xs.take (k + 1) by rw [take_nth hlt, List.mem_append, not_or]; exact ⟨hI.out, by simp; exact fun e => hp e.symm⟩)
        clear hp
        go_wp2_with fail
        go_roundw
        case rel => exact ⟨k + 1, by omega, by go_num, Hp, by first | rfl | trivial⟩
        case measure => simp [intOf]; omega
    · have Hn := Lib.hid (show decide (n ∈ xs) = false by rw [decide_eq_false_iff_not]; have := hI.out; rwa [List.take_of_length_le (by omega)] at this)
      go_wp2_with fail
      go_ret
      exact ⟨ret_bool Hn.out.symm, rfl⟩
end Go.Proofs.YtdlmohigkkdegaaGreatDoor
end

section
/- The source of choices that the laws draw from. -/
namespace Go.Proofs.YtdlmohigkkdegaaGreatDoor
set_option linter.unusedSimpArgs false
set_option linter.unusedVariables false
open Go.RowKit

/-- the cells of some bytes -/
def bv (bs : List UInt8) : List Value := bs.map fun b => Value.int .u8 b.toNat
def RdB (w : World) (v : Value) (bs : List UInt8) : Prop := Rd w v (bv bs)
theorem bv_len (bs : List UInt8) : (bv bs).length = bs.length := by simp [bv]
def bnth (bs : List UInt8) (j : Nat) : Int := ((bs.getD j 0).toNat : Int)
theorem bnth_bd (bs : List UInt8) (j : Nat) : 0 ≤ bnth bs j ∧ bnth bs j ≤ 255 := by
  unfold bnth; have := (bs.getD j 0).toNat_lt; omega
theorem bv_get {bs : List UInt8} {j : Nat} (h : j < bs.length) : (bv bs).getD j undef = .int .u8 (bnth bs j) := by
  simp [bv, bnth, List.getD, List.getElem?_eq_getElem h]

theorem Tryz.und_bs : Tryz.prog.underlying 22 = some (.slice 5) := by kernel_rfl
theorem Tryz.size_b : (Tryz.prog.info? 5).map (·.size) = some 1 := by kernel_rfl

section
variable {w w' : World} {v : Value} {bs : List UInt8}
theorem RdB.le (h : RdB w v bs) : bs.length ≤ 9223372036854775807 := by have := h.sl.le; rwa [bv_len] at this
theorem RdB.len (h : RdB w v bs) (ty : TypeId) (W : World) : (Builtin.len_ #[22] ty #[v]).run Tryz.prog W = .ok (.int .i64 bs.length) W := by
  have := run_len_sl (P := Tryz.prog) h.sl 22 ty Tryz.und_bs W; rwa [bv_len] at this
theorem RdB.ix (h : RdB w v bs) (k : IntKind) (i : Int) (h0 : 0 ≤ i) (hi : i < bs.length) (W : World) :
    (Instr.indexAt 22 v (.int k i)).run Tryz.prog W = .ok (.pointer (some (el v i.toNat))) W :=
  run_ix_sl (P := Tryz.prog) h.sl 22 Tryz.und_bs Tryz.size_b k i h0 (by rw [bv_len]; exact hi) W
theorem RdB.cell (h : RdB w v bs) (j : Nat) (hj : j < bs.length) : w.cell? (el v j) = some (.int .u8 (bnth bs j)) := by
  rw [Rd.cell h (by rw [bv_len]; exact hj), bv_get hj]
theorem RdB.keep (h : RdB w v bs) (hb : Below w.heap.size w w') : RdB w' v bs := Rd.keep h hb
theorem RdB.sh (h : RdB w v bs) : ∃ a n c, v = .slice a n c := by obtain ⟨a, c, hv, _⟩ := h.sl; exact ⟨a, _, c, hv⟩
end
theorem St.oldB {w0 w : World} {L : List Ent} {v : Value} {bs : List UInt8} (h : St w0.heap.size w0 w L) (hr : RdB w0 v bs) : RdB w v bs := Rd.keep hr h.below

/-- the source lies at the head of what is owned, at most K bytes were drawn -/
def Src (w0 w : World) (cv : Value) (g : Nat) (K : Nat) (L : List Ent) : Prop :=
  ∃ p seed : Int, 0 ≤ p ∧ p ≤ K ∧ St w0.heap.size w0 w (box 57 g [cv, .int .i64 p, .int .u64 seed] :: L)

def AnInt (lo hi : Int) (R : World → Prop) (e : Ending) (w' : World) : Prop := ∃ x : Int, lo ≤ x ∧ x ≤ hi ∧ e = .returned (.int .i64 x) ∧ R w'

theorem Src.mono {w0 w : World} {cv : Value} {g K K' : Nat} {L : List Ent} (h : Src w0 w cv g K L) (hk : K ≤ K') : Src w0 w cv g K' L := by
  obtain ⟨p, s, h0, h1, h2⟩ := h; exact ⟨p, s, h0, by omega, h2⟩
theorem Src.st {w0 w : World} {cv : Value} {g K : Nat} {L : List Ent} (h : Src w0 w cv g K L) : St w0.heap.size w0 w L := by
  obtain ⟨p, s, h0, h1, h2⟩ := h; exact h2.sub (List.sublist_cons_self _ _)

theorem and255 (x : Int) : 0 ≤ wrap64 (bits BinOp.and IntKind.u64 (IntKind.u64.wrap x / 1099511627776) 255) ∧ wrap64 (bits BinOp.and IntKind.u64 (IntKind.u64.wrap x / 1099511627776) 255) ≤ 255 := by
  have h1 : 0 ≤ IntKind.u64.wrap x / 1099511627776 ∧ IntKind.u64.wrap x / 1099511627776 < 18446744073709551616 := by
    simp [IntKind.wrap, IntKind.bits, IntKind.signed]; omega
  rw [u64_and _ _ h1.1 h1.2 (by omega) (by omega)]
  have e255 : (255 : Int).toNat = 255 := rfl
  have h2 := Nat.and_le_right (n := (IntKind.u64.wrap x / 1099511627776).toNat) (m := (255 : Int).toNat)
  rw [e255] at h2 ⊢
  unfold wrap64
  omega

set_option maxHeartbeats 1000000 in
theorem next_c (w0 w : World) (cv : Value) (bs : List UInt8) (g K : Nat) (L : List Ent) (hb : RdB w0 cv bs) (h : Src w0 w cv g K L) (hK : K < 1099511627776) :
    Calls Tryz.prog 49 #[.pointer (some ⟨g, 0, none⟩)] w (AnInt 0 255 fun w' => Src w0 w' cv g (K + 1) L) := by
  obtain ⟨p, seed, h0, h1, hS⟩ := h
  obtain ⟨q, rfl⟩ := Int.eq_ofNat_of_zero_le h0
  have hc0 := hS.bcell 0 rfl 0 rfl
  have hc1 := hS.bcell 0 rfl 1 rfl
  have hc2 := hS.bcell 0 rfl 2 rfl
  have hf := hS.bfree 0 rfl
  have hbw := hS.oldB hb
  have hln := hb.len
  have hix := hb.ix
  have hcell := hbw.cell
  have hle := hb.le
  have hbd := bnth_bd bs q
  obtain ⟨hb0, hb1⟩ := hbd
  by_cases hlt : q < bs.length
  · have hlt' : q + 1 ≤ bs.length := hlt
    go_enter Tryz.func49, Tryz.ntmps49
    go_wp2_with fail
    go_quiet (fail)
    go_wp2_with fail
    go_quiet (fail)
    go_wp2_with fail
    refine abs_wp (((hS.drewN _).bstore 0 rfl 1 _).bstore 0 rfl 2 _) ?_
    intro w2 hS2
    clear hc0 hc1 hc2 hf
    have hc0 := hS2.bcell 0 rfl 0 rfl
    have hc1 := hS2.bcell 0 rfl 1 rfl
    go_quiet (fail)
    go_wp2_with fail
    go_ret
    exact ⟨_, hb0, hb1, rfl, _, _, by omega, by omega, hS2.drewN _⟩
  · have hlt' : ¬ q + 1 ≤ bs.length := by omega
    go_enter Tryz.func49, Tryz.ntmps49
    go_wp2_with fail
    go_quiet (fail)
    go_wp2_with fail
    refine abs_wp (((hS.drewN _).bstore 0 rfl 1 _).bstore 0 rfl 2 _) ?_
    intro w2 hS2
    clear hc0 hc1 hc2 hf
    have hc0 := hS2.bcell 0 rfl 0 rfl
    have hc1 := hS2.bcell 0 rfl 1 rfl
    have hc2 := hS2.bcell 0 rfl 2 rfl
    go_quiet (fail)
    go_wp2_with fail
    go_ret
    exact ⟨_, (and255 _).1, (and255 _).2, rfl, _, _, by omega, by omega, hS2.drewN _⟩

set_option maxHeartbeats 1000000 in
theorem pick_c (w0 w : World) (cv : Value) (bs : List UInt8) (g K : Nat) (L : List Ent) (n : Int) (hb : RdB w0 cv bs) (h : Src w0 w cv g K L) (hK : K < 1000000000000) :
    Calls Tryz.prog 33 #[.pointer (some ⟨g, 0, none⟩), .int .i64 n] w (AnInt 0 (max (n - 1) 0) fun w' => Src w0 w' cv g (K + 2) L) := by
  by_cases h1 : n ≤ 1
  · go_enter Tryz.func33, Tryz.ntmps33
    go_wp2_with fail
    go_ret
    exact ⟨0, by omega, by omega, rfl, h.mono (by omega)⟩
  · by_cases h2 : n ≤ 200
    · go_enter Tryz.func33, Tryz.ntmps33
      go_wp2_with fail
      refine (next_c w0 w cv bs g K L hb h (by omega)).mono ?_
      rintro e w1 ⟨x, hx0, hx1, rfl, h3⟩
      go_wp2_with fail
      go_ret
      have := Int.emod_nonneg x (show n ≠ 0 by omega)
      have := Int.emod_lt_of_pos x (show 0 < n by omega)
      exact ⟨_, by omega, by omega, rfl, h3.mono (by omega)⟩
    · go_enter Tryz.func33, Tryz.ntmps33
      go_wp2_with fail
      refine (next_c w0 w cv bs g K L hb h (by omega)).mono ?_
      rintro e w1 ⟨x, hx0, hx1, rfl, h3⟩
      go_wp2_with fail
      refine (next_c w0 w1 cv bs g (K + 1) L hb h3 (by omega)).mono ?_
      rintro e w2 ⟨y, hy0, hy1, rfl, h4⟩
      go_wp2_with fail
      go_ret
      have := Int.emod_nonneg (x * 256 + y) (show n ≠ 0 by omega)
      have := Int.emod_lt_of_pos (x * 256 + y) (show 0 < n by omega)
      exact ⟨_, by omega, by omega, rfl, h4.mono (by omega)⟩

def ABool (R : World → Prop) (e : Ending) (w' : World) : Prop := ∃ x : Bool, e = .returned (.bool x) ∧ R w'

theorem one_c (w0 w : World) (cv : Value) (bs : List UInt8) (g K : Nat) (L : List Ent) (n : Int) (hb : RdB w0 cv bs) (h : Src w0 w cv g K L) (hK : K < 1000000000000) :
    Calls Tryz.prog 34 #[.pointer (some ⟨g, 0, none⟩), .int .i64 n] w (ABool fun w' => Src w0 w' cv g (K + 2) L) := by
  go_enter Tryz.func34, Tryz.ntmps34
  go_wp2_with fail
  refine (pick_c w0 w cv bs g K L n hb h hK).mono ?_
  rintro e w1 ⟨x, hx0, hx1, rfl, h3⟩
  go_wp2_with fail
  go_ret
  exact ⟨_, rfl, h3⟩

/-- one of some numbers: whatever holds of all of them holds of it -/
def AmongPost (xs : List Int) (R : World → Prop) (e : Ending) (w' : World) : Prop := ∃ x ∈ xs, e = .returned (.int .i64 x) ∧ R w'

theorem among_c (w0 w : World) (cv : Value) (bs : List UInt8) (g K : Nat) (L : List Ent) (v : Value) (xs : List Int) (hb : RdB w0 cv bs) (h : Src w0 w cv g K (row 2 v (iv xs) :: L)) (hne : 0 < xs.length)
    (hK : K < 1000000000000) :
    Calls Tryz.prog 36 #[.pointer (some ⟨g, 0, none⟩), v] w (AmongPost xs fun w' => Src w0 w' cv g (K + 2) L) := by
  have hr : RdI w v xs := by obtain ⟨p, s, h0, h1, h2⟩ := h; exact h2.rdI 1 rfl
  have hln := hr.len
  have hix := hr.ix
  have hle := hr.le
  go_enter Tryz.func36, Tryz.ntmps36
  go_wp2_with fail
  refine (pick_c w0 w cv bs g K _ _ hb h hK).mono ?_
  rintro e w1 ⟨x, hx0, hx1, rfl, h3⟩
  obtain ⟨k, rfl⟩ := Int.eq_ofNat_of_zero_le hx0
  have hk : k < xs.length := by omega
  have hr1 : RdI w1 v xs := by obtain ⟨p, s, h0, h1, h2⟩ := h3; exact h2.rdI 1 rfl
  have hc := hr1.cell
  go_wp2_with fail
  go_ret
  obtain ⟨p, s, h0, h1, h2⟩ := h3
  exact ⟨nth xs k, nth_mem hk, rfl, p, s, h0, h1, h2.sub (List.Sublist.cons_cons _ (List.sublist_cons_self _ _))⟩

theorem l00From_c (w : World) (cv : Value) (bs : List UInt8) (hb : RdB w cv bs) :
    Calls Tryz.prog 19 #[cv] w fun e w' => e = .returned (.pointer (some ⟨w.heap.size, 0, none⟩)) ∧ Src w w' cv w.heap.size 0 [] := by
  obtain ⟨av, n, c, rfl⟩ := hb.sh
  go_enter Tryz.func19, Tryz.ntmps19
  go_wp2_with fail
  go_ret
  exact ⟨rfl, 0, 0, by omega, by omega, (St.refl w).newbox _ _⟩
end Go.Proofs.YtdlmohigkkdegaaGreatDoor
end

section
/- Walks: what the laws on numbers draw. -/
namespace Go.Proofs.YtdlmohigkkdegaaGreatDoor
set_option linter.unusedSimpArgs false
set_option linter.unusedVariables false
open Go.RowKit

theorem Src.lit {w0 w : World} {cv : Value} {g K : Nat} {L : List Ent} (h : Src w0 w cv g K L) (xs : List Int) (hm : xs.length ≤ 1000) :
    Src w0 (w.alloc (.cells (iv xs).toArray 2)) cv g K (row 2 (.slice (some ⟨w.heap.size, 0, none⟩) xs.length xs.length) (iv xs) :: L) := by
  obtain ⟨p, s, h0, h1, hS⟩ := h
  refine ⟨p, s, h0, h1, ?_⟩
  have h2 := hS.new 2 (iv xs).toArray (by simp [iv_len]; unfold maxLen; omega)
  simp only [List.size_toArray, iv_len] at h2
  refine h2.perm ?_
  refine List.Perm.trans (List.perm_append_comm) ?_
  simp only [List.cons_append, List.nil_append]
  exact List.Perm.swap _ _ _

/-- one of some numbers that are written out -/
theorem among_lit (xs : List Int) (w0 w : World) (cv : Value) (bs : List UInt8) (g K : Nat) (L : List Ent) (hb : RdB w0 cv bs) (h : Src w0 w cv g K L) (hne : 0 < xs.length ∧ xs.length ≤ 1000)
    (hK : K < 1000000000000) :
    Calls Tryz.prog 36 #[.pointer (some ⟨g, 0, none⟩), .slice (some ⟨w.heap.size, 0, none⟩) xs.length xs.length] (w.alloc (.cells (iv xs).toArray 2)) (AmongPost xs fun w' => Src w0 w' cv g (K + 2) L) :=
  among_c w0 _ cv bs g K L _ xs hb (h.lit xs hne.2) hne.1 hK

theorem b10Long_c (w : World) (cv : Value) (bs : List UInt8) (hb : RdB w cv bs) :
    Calls Tryz.prog 4 #[cv] w fun e w' => e = .returned (.bool (decide (1048576 < bs.length))) ∧ w = w' := by
  have hln := hb.len
  go_enter Tryz.func4, Tryz.ntmps4
  go_wp2_with fail
  go_ret
  exact ⟨ret_bool (by simp; omega), rfl⟩

end Go.Proofs.YtdlmohigkkdegaaGreatDoor
end

section
/- The source of choices: what lies beside it. -/
namespace Go.Proofs.YtdlmohigkkdegaaGreatDoor
set_option linter.unusedSimpArgs false
set_option linter.unusedVariables false
open Go.RowKit

theorem Src.call {w0 w w' : World} {cv : Value} {g K : Nat} {L L' : List Ent} (h : Src w0 w cv g K L) (h' : St w.heap.size w w' L') : Src w0 w' cv g K (L ++ L') := by
  obtain ⟨p, s, h0, h1, hS⟩ := h
  exact ⟨p, s, h0, h1, hS.call h'⟩
theorem Src.sub {w0 w : World} {cv : Value} {g K : Nat} {L L' : List Ent} (h : Src w0 w cv g K L) (h' : L'.Sublist L) : Src w0 w cv g K L' := by
  obtain ⟨p, s, h0, h1, hS⟩ := h
  exact ⟨p, s, h0, h1, hS.sub (h'.cons_cons _)⟩
theorem Src.rdI {w0 w : World} {cv : Value} {g K : Nat} {L : List Ent} (h : Src w0 w cv g K L) (i : Nat) {e : TypeId} {v : Value} {xs : List Int} (hi : L[i]? = some (row e v (iv xs))) : RdI w v xs := by
  obtain ⟨p, s, h0, h1, hS⟩ := h
  exact hS.rdI (i + 1) hi

theorem St.emp0 {w : World} : St w.heap.size w (w.alloc (.cells #[] 2)) [row 2 (.slice (some ⟨w.heap.size, 0, none⟩) 0 0) (iv [])] :=
  (St.refl w).new 2 #[] (by simp)

theorem Src.perm {w0 w : World} {cv : Value} {g K : Nat} {L L' : List Ent} (h : Src w0 w cv g K L) (h' : L.Perm L') : Src w0 w cv g K L' := by
  obtain ⟨p, s, h0, h1, hS⟩ := h
  exact ⟨p, s, h0, h1, hS.perm (h'.cons _)⟩
theorem Src.call0 {w0 w w' : World} {cv : Value} {g K : Nat} {L : List Ent} (h : Src w0 w cv g K L) (h' : St w.heap.size w w' []) : Src w0 w' cv g K L := by
  have := h.call h'; rwa [List.append_nil] at this
theorem Src.rd {w0 w : World} {cv : Value} {g K : Nat} {L : List Ent} (h : Src w0 w cv g K L) (i : Nat) {e : TypeId} {v : Value} {us : List Value} (hi : L[i]? = some (row e v us)) : Rd w v us := by
  obtain ⟨p, s, h0, h1, hS⟩ := h
  exact hS.rd (i + 1) hi
theorem Src.box {w0 w : World} {cv : Value} {g K : Nat} {L : List Ent} (h : Src w0 w cv g K L) (i : Nat) {e : TypeId} {gf : Nat} {us : List Value} (hi : L[i]? = some (Go.Proofs.YtdlmohigkkdegaaGreatDoor.box e gf us)) (j : Nat) {u : Value} (hj : us[j]? = some u) : w.cell? ⟨gf, j, none⟩ = some u := by
  obtain ⟨p, s, h0, h1, hS⟩ := h
  exact hS.bcell (i + 1) hi j hj
theorem Src.bfree {w0 w : World} {cv : Value} {g K : Nat} {L : List Ent} (h : Src w0 w cv g K L) (i : Nat) {e : TypeId} {gf : Nat} {us : List Value} (hi : L[i]? = some (Go.Proofs.YtdlmohigkkdegaaGreatDoor.box e gf us)) (j : Nat) : w.frozen? ⟨gf, j, none⟩ = false := by
  obtain ⟨p, s, h0, h1, hS⟩ := h
  exact hS.bfree (i + 1) hi j
theorem Src.bstore {w0 w : World} {cv : Value} {g K : Nat} {L : List Ent} (h : Src w0 w cv g K L) (i : Nat) {e : TypeId} {gf : Nat} {us : List Value} (hi : L[i]? = some (Go.Proofs.YtdlmohigkkdegaaGreatDoor.box e gf us)) (j : Nat) (u : Value) :
    Src w0 (w.setCell ⟨gf, j, none⟩ u) cv g K (L.set i (Go.Proofs.YtdlmohigkkdegaaGreatDoor.box e gf (us.set j u))) := by
  obtain ⟨p, s, h0, h1, hS⟩ := h
  exact ⟨p, s, h0, h1, hS.bstore (i + 1) hi j u⟩
/-- a new block behind a pointer, ahead of the others -/
theorem Src.newboxF {w0 w : World} {cv : Value} {g K : Nat} {L : List Ent} (h : Src w0 w cv g K L) (e : TypeId) (cs : Array Value) : Src w0 (w.alloc (.cells cs e)) cv g K (Go.Proofs.YtdlmohigkkdegaaGreatDoor.box e w.heap.size cs.toList :: L) := by
  obtain ⟨p, s, h0, h1, hS⟩ := h
  exact ⟨p, s, h0, h1, (hS.newboxF e cs).perm (List.Perm.swap _ _ _)⟩
theorem Src.drew {w0 w : World} {cv : Value} {g K : Nat} {L : List Ent} (h : Src w0 w cv g K L) : Src w0 w.drew cv g K L := by
  obtain ⟨p, s, h0, h1, hS⟩ := h
  exact ⟨p, s, h0, h1, hS.drew⟩
theorem Src.riiS {w0 w : World} {cv : Value} {g K : Nat} {L : List Ent} (h : Src w0 w cv g K L) {v : Value} {us : List Value} {A : List (List Int)} (hs : (own2 v us A).Sublist L) (hl : us.length = A.length) : RII w v us A := (h.st.sub hs).rii hl
end Go.Proofs.YtdlmohigkkdegaaGreatDoor
end

section
/- Walks: valid permutations of both sides; permutations that the laws make. -/
namespace Go.Proofs.YtdlmohigkkdegaaGreatDoor
set_option linter.unusedSimpArgs false
set_option linter.unusedVariables false
open Go.RowKit
attribute [local go_sem ↓] Go.wp_at_zero Go.wp_at_succ

set_option maxHeartbeats 2000000 in
set_option maxRecDepth 100000 in
theorem ValidPermutation_c (v : Value) (xs : List Int) (w : World) (hv : RdI w v xs) (hN : xs.length ≤ 1048576) : Calls Tryz.prog 15 #[v] w (GivesB w (pvB xs)) := by
  have hlx := hv.len
  have HP := Lib.hid (show IsP xs ↔ ∀ j, j < xs.length → nth (srt xs) j = j from isP_iff)
  have Hl := Lib.hid (srt_len xs)
  have HS := fun {B : Nat} {w0 w : World} {L : List Ent} (hS : St B w0 w L) (i : Nat) {v : Value} (hi : L[i]? = some (row 2 v (iv xs))) => Lib.hid (Sort_c hS i hi (by omega))
  generalize srt xs = ys at *
  go_enter Tryz.func15, Tryz.ntmps15
  go_wp2_with fail
  refine (Clone_c v xs w hv hN).mono ?_
  rintro e w1 ⟨u, rfl, h1⟩
  go_wp2_with fail
  refine (HS h1 0 rfl).out.mono ?_
  rintro e w2 ⟨rfl, hS⟩
  simp only [List.set_cons_zero] at hS
  have hln := (hS.rdI 0 rfl).len
  have hix := (hS.rdI 0 rfl).ix
  rw [Hl.out] at hln hix
  clear HS h1
  go_wp2_with fail
  go_loopw [4, 5, 12] (fun _ _ x wr => ∃ k : Nat, k ≤ xs.length ∧ x = .int .i64 k ∧ Hid (∀ j, j < k → nth ys j = j) ∧ St w.heap.size w wr [row 2 u (iv ys)]) (fun _ _ x _ => xs.length - (intOf x).toNat)
  case atStart => exact ⟨0, by omega, rfl, fun j hj => by omega, hS⟩
  case round =>
    clear hS
    obtain ⟨k, hk, rfl, hI, hS⟩ := hrel
    by_cases hlt : k < xs.length
    · have hc := (hS.rdI 0 rfl).cell k (by rw [Hl.out]; exact hlt)
      by_cases h1 : nth ys k = k
      · have e1 := ne_f h1
        have H1 := Lib.hid h1
        clear h1
        go_wp2_with fail
        go_roundw
        case rel => exact ⟨k + 1, by omega, by go_num, fun j hj => by
          by_cases e : j = k
          · subst e; exact H1.out
          · exact hI.out j (by omega), hS⟩
        case measure => simp [intOf]; omega
      · have e1 := ne_t h1
        have H1 := Lib.hid h1
        clear h1
        go_wp2_with fail
        go_ret
        exact ⟨ret_bool (pvB_no fun h => H1.out (HP.out.1 h.2 k hlt)).symm, hS.out⟩
    · go_wp2_with fail
      go_ret
      have hp : IsP xs := HP.out.2 fun j hj => hI.out j (by omega)
      refine ⟨ret_bool ?_, hS.out⟩
      by_cases h32 : xs.length ≤ 32
      · rw [pvB_yes h32 hp]; simp; omega
      · rw [pvB_no fun h => h32 h.1]; simp; omega

set_option maxHeartbeats 2000000 in
set_option maxRecDepth 100000 in
theorem l04Ok_c (v : Value) (xs : List Int) (w : World) (hv : RdI w v xs) : Calls Tryz.prog 38 #[v] w (GivesB w (pvB xs)) := by
  have hln := hv.len
  have hix := hv.ix
  have hle := hv.le
  have HP := Lib.hid (isP_iff2 (xs := xs))
  by_cases h32 : 32 < xs.length
  · have H := Lib.hid (pvB_no (xs := xs) fun h => by omega)
    go_enter Tryz.func38, Tryz.ntmps38
    go_wp2_with fail
    go_ret
    exact ⟨ret_bool H.out.symm, St.refl w⟩
  · go_enter Tryz.func38, Tryz.ntmps38
    go_wp2_with fail
    go_loopw [3] (fun x wr => ∃ k : Nat, k ≤ xs.length ∧ x = .int .i64 k ∧ Hid (∀ j, j < k → (0 ≤ nth xs j ∧ nth xs j ≤ xs.length - 1) ∧ nth xs j ∉ xs.take j) ∧ St w.heap.size w wr []) (fun x _ => xs.length - (intOf x).toNat)
    case atStart => exact ⟨0, by omega, rfl, fun j hj => by omega, St.refl w⟩
    case round =>
      obtain ⟨k, hk, rfl, hI, hS⟩ := hrel
      by_cases hlt : k < xs.length
      · have hq := fun s : SS w.heap.size w [] => (s.st.oldI hv).cell k hlt
        have hsl := rsl_hi hv k (by omega)
        by_cases h1 : 0 ≤ nth xs k ∧ nth xs k ≤ (xs.length : Int) - 1
        · have i1 := inB_true h1
          have H1 := Lib.hid h1
          clear h1
          by_cases h2 : nth xs k ∈ xs.take k
          · have i2 : decide (nth xs k ∈ List.drop 0 (xs.take k)) = true := decide_eq_true h2
            have H2 := Lib.hid h2
            clear h2
            have hHas := fun W (h : St w.heap.size w W []) => Lib.hid (l00Has_c (rsl v 0 k) _ (nth xs k) W (rsl_rd (h.oldI hv) (Nat.zero_le k) hk))
            rw [i2] at hHas
            go_wp2_with fail
            have hne : Nonempty (SS _ _ _) := ⟨⟨_, hS⟩⟩
            refine wp_region_st (by kernel_rfl) (by kernel_rfl) hS ?_
            repeat (go_big_quiet_step ((first | (go_at_call 57; exact st_quiet0 (l00In_c _ _ _ _)) | (go_at_call 58; exact st_quiet0 (hHas _ (SS.st _)).out))))
            refine wpQuiet_nil ?_
            rintro _ ⟨s2, rfl⟩
            have hS2 := s2.st
            generalize s2.w = w2 at hS2 ⊢
            go_wp2_with fail
            go_ret
            exact ⟨ret_bool (pvB_no fun h => (HP.out.1 h.2 k hlt).2 H2.out).symm, hS2⟩
          · have i2 : decide (nth xs k ∈ List.drop 0 (xs.take k)) = false := decide_eq_false h2
            have H2 := Lib.hid h2
            clear h2
            have hHas := fun W (h : St w.heap.size w W []) => Lib.hid (l00Has_c (rsl v 0 k) _ (nth xs k) W (rsl_rd (h.oldI hv) (Nat.zero_le k) hk))
            rw [i2] at hHas
            go_wp2_with fail
            have hne : Nonempty (SS _ _ _) := ⟨⟨_, hS⟩⟩
            refine wp_region_st (by kernel_rfl) (by kernel_rfl) hS ?_
            repeat (go_big_quiet_step ((first | (go_at_call 57; exact st_quiet0 (l00In_c _ _ _ _)) | (go_at_call 58; exact st_quiet0 (hHas _ (SS.st _)).out))))
            refine wpQuiet_nil ?_
            rintro _ ⟨s2, rfl⟩
            have hS2 := s2.st
            generalize s2.w = w2 at hS2 ⊢
            go_wp2_with fail
            go_roundw
            case rel => exact ⟨k + 1, by omega, by go_num, fun j hj => by
              by_cases e : j = k
              · subst e; exact ⟨H1.out, H2.out⟩
              · exact hI.out j (by omega), hS2⟩
            case measure => simp [intOf]; omega
        · have i1 := inB_false h1
          have H1 := Lib.hid h1
          clear h1
          go_wp2_with fail
          have hne : Nonempty (SS _ _ _) := ⟨⟨_, hS⟩⟩
          refine wp_region_st (by kernel_rfl) (by kernel_rfl) hS ?_
          repeat (go_big_quiet_step ((go_at_call 57; exact st_quiet0 (l00In_c _ _ _ _))))
          refine wpQuiet_nil ?_
          rintro _ ⟨s2, rfl⟩
          have hS2 := s2.st
          generalize s2.w = w2 at hS2 ⊢
          go_wp2_with fail
          go_ret
          exact ⟨ret_bool (pvB_no fun h => H1.out (HP.out.1 h.2 k hlt).1).symm, hS2⟩
      · go_wp2_with fail
        go_ret
        exact ⟨ret_bool (pvB_yes (by omega) (HP.out.2 fun j hj => hI.out j (by omega))).symm, hS⟩
end Go.Proofs.YtdlmohigkkdegaaGreatDoor
end

section
/- Walks: what the laws choose by bytes. -/
namespace Go.Proofs.YtdlmohigkkdegaaGreatDoor
set_option linter.unusedSimpArgs false
set_option linter.unusedVariables false
open Go.RowKit

/-- some number at most 1023, and less than n if there is one -/
theorem b10At_c (w : World) (cv : Value) (bs : List UInt8) (i n : Int) (hb : RdB w cv bs) (i0 : 0 ≤ i) (i1 : i ≤ 1000000) (n1 : n ≤ 1000000) :
    Calls Tryz.prog 12 #[cv, .int .i64 i, .int .i64 n] w fun e w' => ∃ x : Int, e = .returned (.int .i64 x) ∧ 0 ≤ x ∧ (x < n ∨ n ≤ 1 ∧ x = 0) ∧ w = w' := by
  have hln := hb.len
  have hix := hb.ix
  have hc := hb.cell
  have hle := hb.le
  by_cases h1 : n ≤ 1
  · go_enter Tryz.func12, Tryz.ntmps12
    go_wp2_with fail
    go_ret
    exact ⟨0, rfl, by omega, .inr ⟨h1, rfl⟩, rfl⟩
  · by_cases h2 : i < bs.length
    · obtain ⟨k, rfl⟩ := Int.eq_ofNat_of_zero_le i0
      have hck := hc k (by omega)
      have hbd := bnth_bd bs k
      go_enter Tryz.func12, Tryz.ntmps12
      go_wp2_with fail
      go_ret
      refine ⟨_, rfl, ?_, .inl ?_, rfl⟩
      · exact Int.emod_nonneg _ (by omega)
      · exact Int.emod_lt_of_pos _ (by omega)
    · go_enter Tryz.func12, Tryz.ntmps12
      go_wp2_with fail
      go_ret
      refine ⟨_, rfl, ?_, .inl ?_, rfl⟩
      · exact Int.emod_nonneg _ (by omega)
      · exact Int.emod_lt_of_pos _ (by omega)

end Go.Proofs.YtdlmohigkkdegaaGreatDoor
end

section
/- Walks: permutations that are made and drawn; composition, inverses. Walks: composition and inverses of permutations. -/
namespace Go.Proofs.YtdlmohigkkdegaaGreatDoor
set_option linter.unusedSimpArgs false
set_option linter.unusedVariables false
open Go.RowKit
attribute [local go_sem ↓] Go.wp_at_zero Go.wp_at_succ


/-- a permutation of n numbers, in memory of its own -/
def MakesP (w : World) (n : Nat) (e : Ending) (w' : World) : Prop := ∃ v xs, e = .returned v ∧ xs.length = n ∧ IsP xs ∧ St w.heap.size w w' [row 2 v (iv xs)]
set_option maxHeartbeats 2000000 in
set_option maxRecDepth 100000 in
theorem b10Perm_c (w : World) (cm : Value) (ms : List UInt8) (n : Nat) (hm : RdB w cm ms) (hn : n ≤ 1000) : Calls Tryz.prog 16 #[cm, .int .i64 n] w (MakesP w n) := by
  have hS0 : St w.heap.size w (w.alloc (.cells #[] 2)) [row 2 (.slice (some ⟨w.heap.size, 0, none⟩) 0 0) (iv [])] := (St.refl w).new 2 #[] (by simp)
  go_enter Tryz.func16, Tryz.ntmps16
  go_wp2_with fail
  go_loopw [5, 6] (fun o x wr => ∃ k : Nat, k ≤ n ∧ x = .int .i64 k ∧ St w.heap.size w wr [row 2 o (iv (iot k))]) (fun _ x _ => n - (intOf x).toNat)
  case atStart => exact ⟨0, by omega, rfl, hS0⟩
  case round =>
    obtain ⟨k, hk, rfl, hS⟩ := hrel
    have hkl := iot_len k
    by_cases hlt : k < n
    · go_wp2_with (at_builtin; refine appI hS 0 rfl (by omega) rfl _ _ rfl rfl _ rfl ?_; intro v2 w2 hS2)
      go_roundw
      case rel => exact ⟨k + 1, by omega, by go_num, by rw [iot_succ]; exact hS2⟩
      case measure => simp [intOf]; omega
    · obtain rfl : k = n := by omega
      go_wp2_with fail
      go_loopw [7, 8, 9] (fun x _ _ wr => ∃ (j : Nat) (xs : List Int), j ≤ k ∧ x = .int .i64 ((j : Int) - 1) ∧ Hid (xs.length = k) ∧ Hid (IsP xs) ∧ St w.heap.size w wr [row 2 u5 (iv xs)]) (fun x _ _ _ => (intOf x).toNat)
      case atStart => exact ⟨k, iot k, by omega, by go_num, iot_len k, iot_isP k, hS⟩
      case round =>
        clear hS
        obtain ⟨j, xs, hj, rfl, hl, hp, hS⟩ := hrel
        by_cases h2 : 2 ≤ j
        · go_wp2_with fail
          refine (b10At_c _ cm ms ((j : Int) - 1) j (hS.oldB hm) (by omega) (by omega) (by omega)).mono ?_
          rintro e w2 ⟨x, rfl, x0, x1, rfl⟩
          obtain ⟨y, rfl⟩ := Int.eq_ofNat_of_zero_le x0
          have hyk : y < k := by omega
          have hr := hS.rdI 0 rfl
          have hi1 := hr.ixe ((j : Int) - 1) (j - 1) (by omega) (by rw [hl.out]; omega)
          have hi2 := hr.ixe (y : Int) y rfl (by rw [hl.out]; omega)
          have hc1 := hr.cell (j - 1) (by rw [hl.out]; omega)
          have hc2 := hr.cell y (by rw [hl.out]; omega)
          have Hsw := Lib.hid (hp.out.swp (i := j - 1) (k := y) (by rw [hl.out]; omega) (by rw [hl.out]; omega))
          clear hr x1 x0
          go_wp2_with (first
            | (refine stoI hS2 0 rfl y (by rw [List.length_set, hl.out]; exact hyk) rfl _ _ rfl rfl _ rfl ?_; intro w3 hS3)
            | (refine stoI hS 0 rfl (j - 1) (by rw [hl.out]; omega) rfl _ _ rfl rfl _ rfl ?_; intro w2 hS2))
          go_roundw
          case rel => exact ⟨j - 1, swp2 xs (j - 1) y, by omega, by go_num, by unfold Hid; rw [swp2_len]; exact hl.out, Hsw.out, hS3⟩
          case measure => simp [intOf]; omega
        · go_wp2_with fail
          go_ret
          exact ⟨_, xs, rfl, hl.out, hp.out, hS⟩

set_option maxHeartbeats 1000000 in
set_option maxRecDepth 100000 in
theorem l04One_c (n : Nat) (w : World) (hn : n ≤ 1000) : Calls Tryz.prog 77 #[.int .i64 n] w (MakesI w (iot n)) := by
  have hS0 : St w.heap.size w (w.alloc (.cells #[] 2)) [row 2 (.slice (some ⟨w.heap.size, 0, none⟩) 0 0) (iv [])] := (St.refl w).new 2 #[] (by simp)
  go_enter Tryz.func77, Tryz.ntmps77
  go_wp2_with fail
  go_loopw [3, 4] (fun o x wr => ∃ k : Nat, k ≤ n ∧ x = .int .i64 k ∧ St w.heap.size w wr [row 2 o (iv (iot k))]) (fun _ x _ => n - (intOf x).toNat)
  case atStart => exact ⟨0, by omega, rfl, hS0⟩
  case round =>
    obtain ⟨k, hk, rfl, hS⟩ := hrel
    have hkl := iot_len k
    by_cases hlt : k < n
    · go_wp2_with (at_builtin; refine appI hS 0 rfl (by omega) rfl _ _ rfl rfl _ rfl ?_; intro v2 w2 hS2)
      go_roundw
      case rel => exact ⟨k + 1, by omega, by go_num, by rw [iot_succ]; exact hS2⟩
      case measure => simp [intOf]; omega
    · obtain rfl : k = n := by omega
      go_wp2_with fail
      go_ret
      exact ⟨_, rfl, hS⟩
/-- a permutation of n numbers, and the source goes on -/
def PermS (w0 : World) (cv : Value) (g K n : Nat) (L : List Ent) (e : Ending) (w' : World) : Prop := ∃ v xs, e = .returned v ∧ xs.length = n ∧ IsP xs ∧ Src w0 w' cv g K (row 2 v (iv xs) :: L)
set_option maxHeartbeats 2000000 in
set_option maxRecDepth 100000 in
theorem l04DrawPerm_c (w0 w : World) (cv : Value) (bs : List UInt8) (g K : Nat) (L : List Ent) (n : Nat) (hb : RdB w0 cv bs) (h : Src w0 w cv g K L) (hK : K < 100000000000) (hn : n ≤ 1000) :
    Calls Tryz.prog 53 #[.pointer (some ⟨g, 0, none⟩), .int .i64 n] w (PermS w0 cv g (K + 2 * n) n L) := by
  go_enter Tryz.func53, Tryz.ntmps53
  go_wp2_with fail
  refine (l04One_c n w hn).mono ?_
  rintro e w1 ⟨u, rfl, h1⟩
  have h2 := (h.call h1).perm List.perm_append_comm
  simp only [List.cons_append, List.nil_append] at h2
  clear h h1
  go_wp2_with fail
  go_loopw [6, 7, 8] (fun x _ _ wr => ∃ (j : Nat) (xs : List Int), j ≤ n ∧ x = .int .i64 ((j : Int) - 1) ∧ Hid (xs.length = n) ∧ Hid (IsP xs) ∧ Src w0 wr cv g (K + 2 * (n - j)) (row 2 u (iv xs) :: L)) (fun x _ _ _ => (intOf x).toNat)
  case atStart => exact ⟨n, iot n, by omega, by go_num, iot_len n, iot_isP n, h2.mono (by omega)⟩
  case round =>
    clear h2
    obtain ⟨j, xs, hj, rfl, hl, hp, hs⟩ := hrel
    by_cases h2 : 2 ≤ j
    · go_wp2_with fail
      refine (pick_c w0 wr cv bs g _ _ _ hb hs (by omega)).mono ?_
      rintro e w2 ⟨x, x0, x1, rfl, h3⟩
      obtain ⟨y, rfl⟩ := Int.eq_ofNat_of_zero_le x0
      have hyj : y < j := by omega
      have hyk : y < n := by omega
      have hr := h3.rdI 0 rfl
      have hi1 := hr.ixe ((j : Int) - 1) (j - 1) (by omega) (by rw [hl.out]; omega)
      have hi2 := hr.ixe (y : Int) y rfl (by rw [hl.out]; omega)
      have hc1 := hr.cell (j - 1) (by rw [hl.out]; omega)
      have hc2 := hr.cell y (by rw [hl.out]; omega)
      have Hsw := Lib.hid (hp.out.swp (i := j - 1) (k := y) (by rw [hl.out]; omega) (by rw [hl.out]; omega))
      obtain ⟨pp, ss, s0, s1, hS⟩ := h3
      clear hr x1 x0 hs
      go_wp2_with (first
        | (refine stoI hS2 1 rfl y (by rw [List.length_set, hl.out]; exact hyk) rfl _ _ rfl rfl _ rfl ?_; intro w3 hS3)
        | (refine stoI hS 1 rfl (j - 1) (by rw [hl.out]; omega) rfl _ _ rfl rfl _ rfl ?_; intro w2 hS2))
      go_roundw
      case rel => exact ⟨j - 1, swp2 xs (j - 1) y, by omega, by go_num, by unfold Hid; rw [swp2_len]; exact hl.out, Hsw.out, pp, ss, s0, by omega, hS3⟩
      case measure => simp [intOf]; omega
    · go_wp2_with fail
      go_ret
      exact ⟨_, xs, rfl, hl.out, hp.out, hs.mono (by omega)⟩
/-- a list and a code -/
def MakesLK (w : World) (xs : List Int) (c : Int) (e : Ending) (w' : World) : Prop := ∃ v, e = .returned (.tuple #[v, .int .i64 c]) ∧ St w.heap.size w w' [row 2 v (iv xs)]
set_option maxHeartbeats 1000000 in
set_option maxRecDepth 100000 in
theorem ident_c (n : Nat) (w : World) (hn : n ≤ 1048576) : Calls Tryz.prog 21 #[.int .i64 n] w (MakesI w (iot n)) := by
  go_enter Tryz.func21, Tryz.ntmps21
  go_wp2_with (at_make; refine mkI (St.refl w) rfl _ _ rfl _ _ n rfl rfl (by omega) ?_; intro v1 w1 hS1; have hr := hS1.rdI 0 rfl; have hln := hr.len; have hix := hr.ix; simp only [List.length_replicate] at hln hix; clear hr)
  go_loopw [4, 9] (fun _ i wr => ∃ k : Nat, k ≤ n ∧ i = .int .i64 k ∧ St w.heap.size w wr [row 2 v1 (iv (iot k ++ List.replicate (n - k) 0))]) (fun _ i _ => n - (intOf i).toNat)
  case atStart => exact ⟨0, by omega, rfl, hS1⟩
  case round =>
    obtain ⟨k, hk, rfl, hS⟩ := hrel
    by_cases hlt : k < n
    · go_wp2_with (refine stoI hS 0 rfl k (by simp [iot]; omega) rfl _ _ rfl rfl _ rfl ?_; intro w2 hS2)
      go_roundw
      case rel =>
        refine ⟨k + 1, by omega, by go_num, ?_⟩
        have e : (iot k ++ List.replicate (n - k) 0).set k (k : Int) = iot (k + 1) ++ List.replicate (n - (k + 1)) 0 := by
          rw [List.set_append_right _ _ (by rw [iot_len]; omega), iot_len, show n - k = (n - (k + 1)) + 1 by omega, List.replicate_succ]
          simp [iot, List.range_succ]
        rw [← e]; exact hS2
      case measure => simp [intOf]; omega
    · obtain rfl : k = n := by omega
      go_wp2_with fail
      go_ret
      refine ⟨_, rfl, ?_⟩
      simpa using hS
set_option maxHeartbeats 1000000 in
set_option maxRecDepth 100000 in
theorem IdentityPermutation_c (n : Nat) (w : World) (hn : n ≤ 32) : Calls Tryz.prog 17 #[.int .i64 n] w (MakesLK w (iot n) 0) := by
  have i1 : inB (n : Int) 0 32 = true := inB_true (by omega)
  go_enter Tryz.func17, Tryz.ntmps17
  go_wp2_with fail
  refine (within_c _ _ _ _).mono ?_
  rintro e w1 ⟨rfl, rfl⟩
  go_wp2_with fail
  refine (ident_c n w (by omega)).mono ?_
  rintro e w2 ⟨r, rfl, h2⟩
  go_wp2_with fail
  go_ret2
  exact ⟨_, rfl, h2⟩

end Go.Proofs.YtdlmohigkkdegaaGreatDoor
end

section
/- Slices of truth values. -/
namespace Go.Proofs.YtdlmohigkkdegaaGreatDoor
set_option linter.unusedSimpArgs false
set_option linter.unusedVariables false
open Go.RowKit
/-- the cells of a list of truth values -/
def bo (xs : List Bool) : List Value := xs.map Value.bool
/-- element j -/
def bat (xs : List Bool) (j : Nat) : Bool := xs.getD j false
theorem bo_len (xs : List Bool) : (bo xs).length = xs.length := by simp [bo]
theorem bo_get {xs : List Bool} {j : Nat} (h : j < xs.length) : (bo xs).getD j undef = .bool (bat xs j) := by
  simp [bo, bat, List.getD, List.getElem?_eq_getElem h]
theorem bat_set {xs : List Bool} {i j : Nat} {x : Bool} (h : i < xs.length) : bat (xs.set i x) j = if i = j then x else bat xs j := by
  unfold bat
  rw [List.getD_eq_getElem?_getD, List.getElem?_set]
  split
  · rename_i e; subst e; simp [h]
  · simp
theorem bat_rep (n j : Nat) : bat (List.replicate n false) j = false := by
  unfold bat
  rw [List.getD_eq_getElem?_getD, List.getElem?_replicate]; split <;> rfl
def RdO (w : World) (v : Value) (xs : List Bool) : Prop := Rd w v (bo xs)
section
variable {w w' : World} {v : Value} {xs : List Bool}
theorem RdO.le (h : RdO w v xs) : xs.length ≤ 9223372036854775807 := by have := h.sl.le; rwa [bo_len] at this
theorem RdO.cell (h : RdO w v xs) (j : Nat) (hj : j < xs.length) : w.cell? (el v j) = some (.bool (bat xs j)) := by
  rw [Rd.cell h (by rw [bo_len]; exact hj), bo_get hj]
theorem RdO.keep (h : RdO w v xs) (hb : Below w.heap.size w w') : RdO w' v xs := Rd.keep h hb
end
section
variable {ops : Array Oper} {rest : List Oper} {o : Oper} {a : Act} {Q : Exit → Act → World → Prop} {B : Nat} {w0 w : World} {L : List Ent}
end
end Go.Proofs.YtdlmohigkkdegaaGreatDoor
end

section
/- Walks: sets. -/
namespace Go.Proofs.YtdlmohigkkdegaaGreatDoor
set_option linter.unusedSimpArgs false
set_option linter.unusedVariables false
open Go.RowKit
set_option maxHeartbeats 1000000 in
set_option maxRecDepth 100000 in
theorem b10Nums_c (va vb : Value) (xs ys : List Int) (w : World) (ha : RdI w va xs) (hb : RdI w vb ys) :
    Calls Tryz.prog 30 #[va, vb] w (GivesB w (decide (xs = ys))) := by
  have hla := ha.len
  have hlb := hb.len
  have hia := ha.ix
  have hib := hb.ix
  have hma := ha.le
  by_cases hne : xs.length = ys.length
  · have f0 : ((xs.length : Int) != (ys.length : Int)) = false := ne_f (by omega)
    have hle : xs.length ≤ ys.length := by omega
    have Hne := Lib.hid hne; clear hne
    go_enter Tryz.func30, Tryz.ntmps30
    go_wp2_with fail
    go_loopw [5] (fun i wr => ∃ k : Nat, k ≤ xs.length ∧ i = .int .i64 k ∧ Hid (∀ j, j < k → nth xs j = nth ys j) ∧ St w.heap.size w wr []) (fun i _ => xs.length - (intOf i).toNat)
    case atStart => exact ⟨0, by omega, rfl, fun j hj => by omega, St.refl w⟩
    case round =>
      obtain ⟨k, hk, rfl, hI, hS⟩ := hrel
      by_cases hlt : k < xs.length
      · have hqa := fun s : SS w.heap.size w [] => (s.st.oldI ha).cell k hlt
        have hqb := fun s : SS w.heap.size w [] => (s.st.oldI hb).cell k (by omega)
        have hk2 : k < ys.length := by omega
        by_cases h1 : nth xs k = nth ys k
        · have f1 := ne_f h1
          have H1 := Lib.hid h1; clear h1
          go_wp2_with fail
          have hne : Nonempty (SS _ _ _) := ⟨⟨_, hS⟩⟩
          refine wp_region_st (by kernel_rfl) (by kernel_rfl) hS ?_
          repeat (go_big_quiet_step (fail))
          refine wpQuiet_nil ?_
          rintro _ ⟨s2, rfl⟩
          have hS2 := s2.st
          generalize s2.w = w2 at hS2 ⊢
          go_wp2_with fail
          go_roundw
          case rel => exact ⟨k + 1, by omega, by go_num, fun j hj => by
            by_cases e : j = k
            · subst e; exact H1.out
            · exact hI.out j (by omega), hS2⟩
          case measure => simp [intOf]; omega
        · have f1 := ne_t h1
          have H1 := Lib.hid h1; clear h1
          go_wp2_with fail
          have hne : Nonempty (SS _ _ _) := ⟨⟨_, hS⟩⟩
          refine wp_region_st (by kernel_rfl) (by kernel_rfl) hS ?_
          repeat (go_big_quiet_step (fail))
          refine wpQuiet_nil ?_
          rintro _ ⟨s2, rfl⟩
          have hS2 := s2.st
          generalize s2.w = w2 at hS2 ⊢
          go_wp2_with fail
          go_ret
          exact ⟨ret_bool (by symm; rw [decide_eq_false_iff_not]; intro e; subst e; exact H1.out rfl), hS2⟩
      · go_wp2_with fail
        go_ret
        refine ⟨ret_bool ?_, hS⟩
        symm; rw [decide_eq_true_iff]
        apply List.ext_getElem Hne.out
        intro j h1 h2
        have := hI.out j (by omega)
        rwa [nth_eq h1, nth_eq h2] at this
  · have f0 : ((xs.length : Int) != (ys.length : Int)) = true := ne_t (by omega)
    have Hne := Lib.hid hne; clear hne
    go_enter Tryz.func30, Tryz.ntmps30
    go_wp2_with fail
    go_ret
    exact ⟨ret_bool (by symm; rw [decide_eq_false_iff_not]; intro e; exact Hne.out (by rw [e])), St.refl w⟩

end Go.Proofs.YtdlmohigkkdegaaGreatDoor
end
