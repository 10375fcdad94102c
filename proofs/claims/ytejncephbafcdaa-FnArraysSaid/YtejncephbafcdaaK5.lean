/- The texts of this claim, run 5: Sq PLat PCon Bo PMol PFm Num AnyR Mk Srt In Src Drw. -/
import Derived.Test.YtejncephbafcdaaK1
import Derived.Test.YtejncephbafcdaaK2
import Derived.Test.YtejncephbafcdaaK4
import Derived.Deep.RegionHeld3
import Derived.Deep.DrawnRows
import Derived.Shelf.SortM.Plain
import Derived.Shelf.SortM.SortNone
import Derived.Sort.OwnSortedInts
section
/- Walks: squares that are made. -/
namespace Go.Proofs.Ytejncephbafcdaa
set_option linter.unusedSimpArgs false
set_option linter.unusedVariables false
open Go.RowKit

theorem Try.info_iss : (Try.prog.info? 26).map (fun i => (i.zero, i.size, i.bytes)) = some (some (.slice none 0 0), 1, 24) := by kernel_rfl
section
variable {ops : Array Oper} {rest : List Oper} {o : Oper} {a : Act} {Q : Exit → Act → World → Prop} {B : Nat} {w0 w : World} {L : List Ent}
/-- append of one square to an owned row of squares -/
theorem appIII (hS : St B w0 w L) (i : Nat) {v : Value} {us : List Value} (hi : L[i]? = some (row 26 v us)) (hN : us.length < 4294967296) (hg : o.guard = none) (s x : Operand)
    (hop : o.op = .call { callee := .builtin .append, args := #[s, x], argTypes := #[24, 24] }) (hs : a.eval s = v) (u : Value) (hu : u.oneCell' = true) (hx : a.eval x = .slice (some ⟨w.heap.size, 0, none⟩) 1 1)
    (hK : ∀ v' w', St B w0 w' (L.set i (row 26 v' (us ++ [u]))) → wpList Try.prog ops Q rest (a.put o.dst v') w') :
    wpList Try.prog ops Q (o :: rest) a (w.alloc (.cells #[u] 26)) :=
  wpList_st_app1 hg s x 24 hop 26 (.slice none 0 0) 24 Try.und_isss Try.info_iss rfl hS i hi hs u hx hu (by omega) hN hK
end
/-- behind the append of a square of its own -/
theorem own3_snoc {B : Nat} {w0 w : World} {v v' u : Value} {vs : List Value} {uss : List (List Value)} {X : List (List (List Int))} {us : List Value} {x : List (List Int)} (h1 : vs.length = X.length) (h2 : uss.length = X.length)
    (h : St B w0 w ((own3 v vs uss X ++ own2 u us x).set 0 (row 26 v' (vs ++ [u])))) : St B w0 w (own3 v' (vs ++ [u]) (uss ++ [us]) (X ++ [x])) := by
  rw [own3, rows3_app _ _ _ h1 h2]
  exact h
theorem Fit3.snoc {vs : List Value} {uss : List (List Value)} {X : List (List (List Int))} (h : Fit3 vs uss X) (v : Value) {us : List Value} {x : List (List Int)} (hx : us.length = x.length) : Fit3 (vs ++ [v]) (uss ++ [us]) (X ++ [x]) :=
  ⟨by simp [h.1], by simp [h.2.1], fun k hk => by
    by_cases e : k < X.length
    · have e1 : vsat (uss ++ [us]) k = vsat uss k := by unfold vsat; rw [List.getD_eq_getElem?_getD, List.getElem?_append_left (by rw [h.2.1]; exact e), ← List.getD_eq_getElem?_getD]
      have e2 : x3at (X ++ [x]) k = x3at X k := by unfold x3at; rw [List.getD_eq_getElem?_getD, List.getElem?_append_left e, ← List.getD_eq_getElem?_getD]
      rw [e1, e2]; exact h.2.2 k e
    · have hk' : k = X.length := by simp at hk; omega
      have e1 : vsat (uss ++ [us]) k = us := by unfold vsat; rw [hk', ← h.2.1]; simp
      have e2 : x3at (X ++ [x]) k = x := by unfold x3at; rw [hk']; simp
      rw [e1, e2]; exact hx⟩

theorem RdI.shq {w : World} {v : Value} {xs : List Int} (h : RdI w v xs) : ∃ a c, v = .slice a xs.length c := by
  obtain ⟨a, c, hv⟩ := h.sl.sh
  rw [iv_len] at hv
  exact ⟨a, c, hv⟩
/-- a square by its entries -/
def sqF (n : Nat) (f : Nat → Nat → Int) : List (List Int) := (List.range n).map fun x => tab n (f x)
theorem sqF_len (n : Nat) (f : Nat → Nat → Int) : (sqF n f).length = n := by simp [sqF]
theorem xat_sqF {n : Nat} {f : Nat → Nat → Int} {x : Nat} (h : x < n) : xat (sqF n f) x = tab n (f x) := by simp [sqF, xat, h]
theorem sqF_take {n : Nat} {f : Nat → Nat → Int} {k : Nat} (h : k < n) : (sqF n f).take (k + 1) = (sqF n f).take k ++ [tab n (f k)] := by
  rw [take_xat (by rw [sqF_len]; exact h), xat_sqF h]
theorem tab_succ (k : Nat) (f : Nat → Int) : tab (k + 1) f = tab k f ++ [f k] := by simp [tab, List.range_succ]
set_option maxHeartbeats 2000000 in
set_option maxRecDepth 100000 in
theorem filledSquare_c (K : FuncId) (caps : Array Value) (f : Nat → Nat → Int) (n : Nat) (w : World) (hn : n ≤ 4096)
    (hcf : ∀ (args : Array Value) (W : World), (callFunc K args).run Try.prog W = .ok (.enter K args) W)
    (hK : ∀ (x y : Nat) (W : World), St w.heap.size w W [] → x < n → y < n → Calls Try.prog K (#[.int .i64 x, .int .i64 y] ++ caps) W (GivesI W (f x y))) :
    Calls Try.prog 91 #[.int .i64 n, .func (.func K) #[] caps] w (MakesII w (sqF n f)) := by
  have HK := Lib.hid hK
  clear hK
  have hS0 := (St.refl w).newnil 52
  go_enter Try.func91, Try.ntmps91
  go_wp2_with fail
  go_loopw [5, 6, 7, 8] (fun o ii _ _ wr => ∃ (k : Nat) (us : List Value), k ≤ n ∧ ii = .int .i64 k ∧ Hid (us.length = k) ∧ St w.heap.size w wr (own2 o us ((sqF n f).take k))) (fun _ ii _ _ _ => n - (intOf ii).toNat)
  case atStart => exact ⟨0, [], by omega, rfl, rfl, hS0⟩
  case round =>
    obtain ⟨k, us, hk, rfl, hl, hS⟩ := hrel
    have Hlu := Lib.hid (show us.length = ((sqF n f).take k).length by rw [List.length_take, sqF_len, hl.out]; omega)
    by_cases hlt : k < n
    · have hS1 := (hS.newnil 2).perm List.perm_append_comm
      simp only [List.cons_append, List.nil_append] at hS1
      have Hst := Lib.hid (sqF_take (f := f) hlt)
      go_wp2_with fail
      go_loopw [7, 8] (fun r jj wx => ∃ j : Nat, j ≤ n ∧ jj = .int .i64 j ∧ St w.heap.size w wx (row 2 r (iv (tab j (f k))) :: own2 u5 us ((sqF n f).take k))) (fun _ jj _ => n - (intOf jj).toNat)
      case atStart => exact ⟨0, by omega, rfl, hS1⟩
      case round =>
        obtain ⟨j, hj, rfl, hS2⟩ := hrel
        by_cases hjn : j < n
        · have Hts := Lib.hid (tab_succ j (f k))
          have Htl := Lib.hid (show (tab j (f k)).length < 4294967296 by rw [tab_len]; omega)
          go_wp2_with fail
          refine (HK.out k j _ hS2.out hlt hjn).mono ?_
          rintro e w3 ⟨rfl, h3⟩
          have hS3 := hS2.call0 h3
          go_wp2_with (at_builtin; refine appI hS3 0 rfl Htl.out rfl _ _ rfl rfl _ rfl ?_; intro v4 w4 hS4)
          go_roundw
          case rel => exact ⟨j + 1, by omega, by go_num, by rw [Hts.out]; exact hS4⟩
          case measure => simp [intOf]; omega
        · have hje : j = n := by omega
          rw [hje] at hS2
          clear hje
          obtain ⟨ar, cr, hre⟩ := (hS2.rdI 0 rfl).shq
          subst hre
          have Htl := Lib.hid (show (tab n (f k)).length = n from tab_len _ _)
          go_wp2_with (at_builtin; refine appII hS2 1 rfl (by rw [hl.out]; omega) rfl _ _ rfl rfl _ rfl rfl ?_; intro v4 w4 hS4)
          go_roundw
          case rel =>
            refine ⟨k + 1, us ++ [.slice ar (tab n (f k)).length cr], by omega, by go_num, by simp [Hid, hl.out], ?_⟩
            rw [Hst.out, own2, rowsI_app Hlu.out]
            simp only [own2, List.set_cons_succ, List.set_cons_zero] at hS4
            exact hS4.perm (by (try simp only [own2, List.cons_append, List.nil_append, List.append_nil]); classical exact List.perm_iff_count.2 (fun a => by simp only [List.cons_append, List.nil_append, List.append_nil, List.count_append, List.count_cons, List.count_nil] <;> omega))
          case measure => simp [intOf]; omega
    · have hke : k = n := by omega
      have HL := Lib.hid (show us.length = (sqF n f).length by rw [hl.out, sqF_len, hke])
      rw [hke, List.take_of_length_le (by rw [sqF_len]; exact Nat.le_refl _)] at hS
      clear hke
      go_wp2_with fail
      go_ret
      exact ⟨_, us, rfl, HL.out, hS⟩
theorem emptySquare1_c (x y : Int) (w : World) : Calls Try.prog 92 #[.int .i64 x, .int .i64 y] w (GivesI w 0) := by
  go_enter Try.func92, Try.ntmps92
  go_wp2_with fail
  go_ret
  exact ⟨rfl, St.refl w⟩
theorem emptySquare_c (n : Nat) (w : World) (hn : n ≤ 4096) : Calls Try.prog 49 #[.int .i64 n] w (MakesII w (sqF n fun _ _ => 0)) := by
  have hcf := callFunc_go Try.func92 (by kernel_rfl) (by kernel_rfl)
  have hcall := Lib.hid (filledSquare_c 92 #[] (fun _ _ => 0) n w hn hcf (fun x y W _ _ _ => emptySquare1_c x y W))
  clear hcf
  go_enter Try.func49, Try.ntmps49
  go_wp2_with fail
  refine hcall.out.mono ?_
  rintro e w1 ⟨v, us, rfl, hl, h1⟩
  have Hl := Lib.hid hl
  clear hl
  go_wp2_with fail
  go_ret
  exact ⟨v, us, rfl, Hl.out, h1⟩
set_option maxHeartbeats 2000000 in
set_option maxRecDepth 100000 in
theorem l06Zero_c (n : Nat) (w : World) (hn : n ≤ 4096) : Calls Try.prog 157 #[.int .i64 n, .int .i64 n] w (MakesII w (sqF n fun _ _ => 0)) := by
  have hS0 := (St.refl w).new 52 #[] (by simp)
  have Hrep := Lib.hid (show List.replicate n (0 : Int) = tab n fun _ => 0 by
    refine cf_ext (by rw [tab_len]; simp) fun j hj => ?_
    have : j < n := by simpa using hj
    rw [cf_tab this]; simp [cf, this])
  go_enter Try.func157, Try.ntmps157
  go_wp2_with fail
  go_loopw [5, 6] (fun o ii wr => ∃ (k : Nat) (us : List Value), k ≤ n ∧ ii = .int .i64 k ∧ Hid (us.length = k) ∧ St w.heap.size w wr (own2 o us ((sqF n fun _ _ => 0).take k))) (fun _ ii _ => n - (intOf ii).toNat)
  case atStart => exact ⟨0, [], by omega, rfl, rfl, hS0⟩
  case round =>
    obtain ⟨k, us, hk, rfl, hl, hS⟩ := hrel
    have Hlu := Lib.hid (show us.length = ((sqF n fun _ _ => 0).take k).length by rw [List.length_take, sqF_len, hl.out]; omega)
    by_cases hlt : k < n
    · have Hst := Lib.hid (sqF_take (f := fun _ _ => 0) hlt)
      have Hul := Lib.hid (show us.length < 4294967296 by rw [hl.out]; omega)
      go_wp2_with (first
        | (at_make
           refine mkI hS rfl _ _ rfl _ _ n rfl rfl (by omega) ?_
           intro v3 w3 hS3
           rw [Hrep.out] at hS3
           obtain ⟨a3, c3, he3⟩ := ((hS3.perm List.perm_append_comm).rdI 0 rfl).shq
           subst he3)
        | (at_builtin
           refine appII hS3 0 rfl Hul.out rfl _ _ rfl rfl _ rfl rfl ?_
           intro v4 w4 hS4))
      go_roundw
      case rel =>
        refine ⟨k + 1, us ++ [.slice a3 (tab n fun _ => 0).length c3], by omega, by go_num, by simp [Hid, hl.out], ?_⟩
        rw [Hst.out]
        exact own2_snoc Hlu.out hS4
      case measure => simp [intOf]; omega
    · have hke : k = n := by omega
      have HL := Lib.hid (show us.length = (sqF n fun _ _ => 0).length by rw [hl.out, sqF_len, hke])
      rw [hke, List.take_of_length_le (by rw [sqF_len]; exact Nat.le_refl _)] at hS
      clear hke
      go_wp2_with fail
      go_ret
      exact ⟨_, us, rfl, HL.out, hS⟩
end Go.Proofs.Ytejncephbafcdaa
end

section
/- Latin squares as lists of lists, their isotopes. In plain terms. -/
namespace Go.Proofs.Ytejncephbafcdaa
set_option linter.unusedSimpArgs false
set_option linter.unusedVariables false
/-- the entry of a place -/
def at2 (A : List (List Int)) (x y : Nat) : Int := nth (xat A x) y
/-- a square of n rows and columns -/
structure Sqr (n : Nat) (A : List (List Int)) : Prop where
  len : A.length = n
  row : ∀ x, x < n → (xat A x).length = n
/-- its entries are below n -/
structure Sq0 (n : Nat) (A : List (List Int)) : Prop extends Sqr n A where
  el : ∀ x y, x < n → y < n → 0 ≤ at2 A x y ∧ at2 A x y < n
def colL (A : List (List Int)) (y : Nat) : List Int := A.map fun r => nth r y
theorem colL_len (A : List (List Int)) (y : Nat) : (colL A y).length = A.length := by simp [colL]
theorem nth_colL {A : List (List Int)} {y x : Nat} (h : x < A.length) : nth (colL A y) x = at2 A x y := by simp [colL, nth, at2, xat, h]
/-- a Latin square of at most 10 rows -/
structure Lat (A : List (List Int)) : Prop where
  pos : 1 ≤ A.length
  le : A.length ≤ 10
  len : ∀ x, x < A.length → (xat A x).length = A.length
  row : ∀ x, x < A.length → IsP (xat A x)
  col : ∀ y, y < A.length → IsP (colL A y)
open Classical in
noncomputable def latB (A : List (List Int)) : Bool := decide (Lat A)
theorem latB_t {A : List (List Int)} (h : latB A = true) : Lat A := by simpa [latB] using h
theorem latB_yes {A : List (List Int)} (h : Lat A) : latB A = true := by simp [latB, h]
theorem latB_no {A : List (List Int)} (h : ¬ Lat A) : latB A = false := by simp [latB, h]
theorem Lat.sq0 {A : List (List Int)} (h : Lat A) : Sq0 A.length A where
  len := rfl
  row := h.len
  el x y hx hy := by have := (h.row x hx).lt y (by rw [h.len x hx]; exact hy); rw [h.len x hx] at this; exact this
theorem sq_ext {n : Nat} {A B : List (List Int)} (hA : Sqr n A) (hB : Sqr n B) (h : ∀ x y, x < n → y < n → at2 A x y = at2 B x y) : A = B := by
  apply List.ext_getElem (hA.len.trans hB.len.symm)
  intro x h1 h2
  have hx : x < n := by rw [← hA.len]; exact h1
  have e1 : A[x] = xat A x := by simp [xat, h1]
  have e2 : B[x] = xat B x := by simp [xat, h2]
  rw [e1, e2]
  refine nth_ext (by rw [hA.row x hx, hB.row x hx]) fun y hy => h x y hx (by rw [← hA.row x hx]; exact hy)
theorem sq_ext2 {n : Nat} {A B : List (List Int)} {r c : List Int} (hr : IsP r) (hc : IsP c) (hrl : r.length = n) (hcl : c.length = n) (hA : Sqr n A) (hB : Sqr n B)
    (h : ∀ x y, x < n → y < n → at2 A (pf r x) (pf c y) = at2 B (pf r x) (pf c y)) : A = B := by
  refine sq_ext hA hB fun x y hx hy => ?_
  obtain ⟨x', hx', rfl⟩ := hr.bij.onto (y := x) (by omega)
  obtain ⟨y', hy', rfl⟩ := hc.bij.onto (y := y) (by omega)
  exact h x' y' (by omega) (by omega)
theorem at2_sqF {n : Nat} {f : Nat → Nat → Int} {x y : Nat} (hx : x < n) (hy : y < n) : at2 (sqF n f) x y = f x y := by
  unfold at2; rw [xat_sqF hx]; simp [tab, nth, hy]
theorem sqF_sqr (n : Nat) (f : Nat → Nat → Int) : Sqr n (sqF n f) := ⟨sqF_len n f, fun x hx => by rw [xat_sqF hx, tab_len]⟩
/-- one entry anew -/
def putS (S : List (List Int)) (x y : Nat) (v : Int) : List (List Int) := S.set x ((xat S x).set y v)
theorem xat_putS {n : Nat} {S : List (List Int)} (h : Sqr n S) {x : Nat} (hx : x < n) (y : Nat) (v : Int) (t : Nat) : xat (putS S x y v) t = if x = t then (xat S x).set y v else xat S t := by
  unfold putS xat
  rw [List.getD_eq_getElem?_getD, List.getElem?_set]
  split
  · rename_i e; subst e; rw [if_pos (by rw [h.len]; exact hx)]; rfl
  · simp
theorem putS_sqr {n : Nat} {S : List (List Int)} (h : Sqr n S) {x : Nat} (hx : x < n) (y : Nat) (v : Int) : Sqr n (putS S x y v) := by
  refine ⟨by unfold putS; rw [List.length_set]; exact h.len, fun t ht => ?_⟩
  rw [xat_putS h hx]
  split
  · rw [List.length_set]; exact h.row x hx
  · exact h.row t ht
theorem at2_putS {n : Nat} {S : List (List Int)} (h : Sqr n S) {x y : Nat} (hx : x < n) (hy : y < n) (v : Int) (t u : Nat) : at2 (putS S x y v) t u = if x = t ∧ y = u then v else at2 S t u := by
  unfold at2
  rw [xat_putS h hx]
  by_cases e : x = t
  · subst e
    rw [if_pos rfl, nth_set (by rw [h.row x hx]; exact hy)]
    by_cases e2 : y = u
    · rw [if_pos e2, if_pos ⟨rfl, e2⟩]
    · rw [if_neg e2, if_neg fun h => e2 h.2]
  · rw [if_neg e, if_neg fun h => e h.1]
theorem putS_sq0 {n : Nat} {S : List (List Int)} (h : Sq0 n S) {x y : Nat} (hx : x < n) (hy : y < n) {v : Int} (h0 : 0 ≤ v) (h1 : v < n) : Sq0 n (putS S x y v) := by
  refine ⟨putS_sqr h.toSqr hx y v, fun t u ht hu => ?_⟩
  rw [at2_putS h.toSqr hx hy]
  split
  · exact ⟨h0, h1⟩
  · exact h.el t u ht hu
/-! ### isotopes -/
def isoL (A : List (List Int)) (r c s : List Int) : List (List Int) := sqF A.length fun x y => nth s (at2 A (pf (invL r) x) (pf (invL c) y)).toNat
theorem pf_invL {xs : List Int} (h : IsP xs) {j : Nat} (hj : j < xs.length) : pf (invL xs) (pf xs j) = j := by unfold pf; rw [show nth (invL xs) (nth xs j).toNat = j from nth_invL h hj]; rfl
theorem isoL_sqr (A : List (List Int)) (r c s : List Int) : Sqr A.length (isoL A r c s) := sqF_sqr _ _
theorem isoL_at {A : List (List Int)} {r c s : List Int} (hr : IsP r) (hc : IsP c) (hrl : r.length = A.length) (hcl : c.length = A.length) {x y : Nat} (hx : x < A.length) (hy : y < A.length) :
    at2 (isoL A r c s) (pf r x) (pf c y) = nth s (at2 A x y).toNat := by
  have h1 : pf r x < A.length := by rw [← hrl]; exact hr.pf_lt (by omega)
  have h2 : pf c y < A.length := by rw [← hcl]; exact hc.pf_lt (by omega)
  unfold isoL
  rw [at2_sqF h1 h2, pf_invL hr (by omega), pf_invL hc (by omega)]
/-- the isotope, made as far as place y of row x -/
structure IsoP (A : List (List Int)) (r c s : List Int) (x y : Nat) (S : List (List Int)) : Prop where
  sqr : Sqr A.length S
  at' : ∀ x' y', x' < A.length → y' < A.length → (x' < x ∨ x' = x ∧ y' < y) → at2 S (pf r x') (pf c y') = nth s (at2 A x' y').toNat
section
variable {A : List (List Int)} {r c s : List Int}
theorem IsoP.start : IsoP A r c s 0 0 (sqF A.length fun _ _ => 0) := ⟨sqF_sqr _ _, fun _ _ _ _ h => by omega⟩
theorem IsoP.step (hr : IsP r) (hc : IsP c) (hrl : r.length = A.length) (hcl : c.length = A.length) {x y : Nat} {S : List (List Int)} (h : IsoP A r c s x y S) (hx : x < A.length) (hy : y < A.length) :
    IsoP A r c s x (y + 1) (putS S (pf r x) (pf c y) (nth s (at2 A x y).toNat)) := by
  have h1 : pf r x < A.length := by rw [← hrl]; exact hr.pf_lt (by omega)
  have h2 : pf c y < A.length := by rw [← hcl]; exact hc.pf_lt (by omega)
  refine ⟨putS_sqr h.sqr h1 _ _, fun x' y' hx' hy' hl => ?_⟩
  rw [at2_putS h.sqr h1 h2]
  split
  · rename_i e
    rw [hr.bij.inj x x' (by omega) (by omega) e.1, hc.bij.inj y y' (by omega) (by omega) e.2]
  · rename_i e
    refine h.at' x' y' hx' hy' ?_
    rcases hl with hl | ⟨rfl, hl⟩
    · exact .inl hl
    · refine .inr ⟨rfl, ?_⟩
      by_cases e2 : y' = y
      · subst e2; exact absurd ⟨rfl, rfl⟩ e
      · omega
theorem IsoP.next {x : Nat} {S : List (List Int)} (h : IsoP A r c s x A.length S) : IsoP A r c s (x + 1) 0 S :=
  ⟨h.sqr, fun x' y' hx' hy' hl => h.at' x' y' hx' hy' (by omega)⟩
theorem IsoP.done (hr : IsP r) (hc : IsP c) (hrl : r.length = A.length) (hcl : c.length = A.length) {S : List (List Int)} (h : IsoP A r c s A.length 0 S) : S = isoL A r c s :=
  sq_ext2 hr hc hrl hcl h.sqr (isoL_sqr A r c s) fun x y hx hy => by
    rw [h.at' x y hx hy (.inl hx), isoL_at hr hc hrl hcl hx hy]
end
end Go.Proofs.Ytejncephbafcdaa
end

section
/- Isotopes and conjugates of Latin squares, in plain terms. Conjugates of Latin squares as lists of lists. In plain terms. -/
namespace Go.Proofs.Ytejncephbafcdaa
set_option linter.unusedSimpArgs false
set_option linter.unusedVariables false

structure Latin (n : Nat) (a : Nat → Nat → Nat) : Prop where
  row : ∀ x, x < n → Bij n (a x)
  col : ∀ y, y < n → Bij n fun x => a x y
def IsoOf (n : Nat) (a : Nat → Nat → Nat) (r c s : Nat → Nat) (b : Nat → Nat → Nat) : Prop := ∀ x y, x < n → y < n → b (r x) (c y) = s (a x y)
section
variable {n : Nat} {a b d : Nat → Nat → Nat} {r c s q : Nat → Nat}
theorem IsoOf.comp {r' c' s' : Nat → Nat} (hr : Bij n r) (hc : Bij n c) (h1 : IsoOf n a r c s b) (h2 : IsoOf n b r' c' s' d) : IsoOf n a (fun x => r' (r x)) (fun x => c' (c x)) (fun x => s' (s x)) d := fun x y hx hy => by
  show d (r' (r x)) (c' (c y)) = s' (s (a x y))
  rw [h2 _ _ (hr.lt x hx) (hc.lt y hy), h1 x y hx hy]
theorem IsoOf.back {ri ci si : Nat → Nat} (hl : Latin n a) (hr : Bij n r) (hc : Bij n c) (h1 : IsoOf n a r c s b) (h2 : IsoOf n b ri ci si d) (er : ∀ x, x < n → ri (r x) = x) (ec : ∀ x, x < n → ci (c x) = x) (es : ∀ x, x < n → si (s x) = x)
    {x y : Nat} (hx : x < n) (hy : y < n) : d x y = a x y := by
  have := h2 _ _ (hr.lt x hx) (hc.lt y hy)
  rw [er x hx, ec y hy, h1 x y hx hy, es _ ((hl.row x hx).lt y hy)] at this
  exact this
theorem IsoOf.latin (hl : Latin n a) (hr : Bij n r) (hc : Bij n c) (hs : Bij n s) (h : IsoOf n a r c s b) : Latin n b where
  row x hx := by
    obtain ⟨x', hx', rfl⟩ := hr.onto hx
    refine ⟨fun y hy => ?_, fun y z hy hz e => ?_⟩
    · obtain ⟨y', hy', rfl⟩ := hc.onto hy
      rw [h x' y' hx' hy']; exact hs.lt _ ((hl.row x' hx').lt y' hy')
    · obtain ⟨y', hy', rfl⟩ := hc.onto hy
      obtain ⟨z', hz', rfl⟩ := hc.onto hz
      rw [h x' y' hx' hy', h x' z' hx' hz'] at e
      rw [(hl.row x' hx').inj y' z' hy' hz' (hs.inj _ _ ((hl.row x' hx').lt y' hy') ((hl.row x' hx').lt z' hz') e)]
  col y hy := by
    obtain ⟨y', hy', rfl⟩ := hc.onto hy
    refine ⟨fun x hx => ?_, fun x z hx hz e => ?_⟩
    · obtain ⟨x', hx', rfl⟩ := hr.onto hx
      rw [h x' y' hx' hy']; exact hs.lt _ ((hl.row x' hx').lt y' hy')
    · obtain ⟨x', hx', rfl⟩ := hr.onto hx
      obtain ⟨z', hz', rfl⟩ := hr.onto hz
      rw [h x' y' hx' hy', h z' y' hz' hy'] at e
      rw [(hl.col y' hy').inj x' z' hx' hz' (hs.inj _ _ ((hl.row x' hx').lt y' hy') ((hl.row z' hz').lt y' hy') e)]
/-- the triple of a place -/
def tri (x y s : Nat) : Nat → Nat := fun i => if i = 0 then x else if i = 1 then y else s
def ConjOf (n : Nat) (a : Nat → Nat → Nat) (p : Nat → Nat) (b : Nat → Nat → Nat) : Prop := ∀ x y, x < n → y < n → b (tri x y (a x y) (p 0)) (tri x y (a x y) (p 1)) = tri x y (a x y) (p 2)
theorem tri_lt {x y s : Nat} (hx : x < n) (hy : y < n) (hs : s < n) (i : Nat) : tri x y s i < n := by
  unfold tri; split
  · exact hx
  · split
    · exact hy
    · exact hs
theorem ConjOf.comp {p q : Nat → Nat} (hl : Latin n a) (hq : Bij 3 q) (h1 : ConjOf n a p b) (h2 : ConjOf n b q d) : ConjOf n a (fun i => p (q i)) d := fun x y hx hy => by
  have hs := (hl.row x hx).lt y hy
  have h := h2 _ _ (tri_lt hx hy hs (p 0)) (tri_lt hx hy hs (p 1))
  rw [h1 x y hx hy] at h
  have e : ∀ i, i < 3 → tri (tri x y (a x y) (p 0)) (tri x y (a x y) (p 1)) (tri x y (a x y) (p 2)) i = tri x y (a x y) (p i) := fun i hi => by
    rcases i with _ | _ | _ | i
    · rfl
    · rfl
    · rfl
    · omega
  rw [e _ (hq.lt 0 (by omega)), e _ (hq.lt 1 (by omega)), e _ (hq.lt 2 (by omega))] at h
  exact h
end

section
variable {n : Nat} {a : Nat → Nat → Nat}
/-- two of the three numbers of a place tell it -/
theorem tri_inj (hl : Latin n a) {i j : Nat} (hi : i < 3) (hj : j < 3) (hij : i ≠ j) {x y x' y' : Nat} (hx : x < n) (hy : y < n) (hx' : x' < n) (hy' : y' < n)
    (e1 : tri x y (a x y) i = tri x' y' (a x' y') i) (e2 : tri x y (a x y) j = tri x' y' (a x' y') j) : x = x' ∧ y = y' := by
  have r : ∀ y y', y < n → y' < n → x = x' → a x y = a x' y' → y = y' := fun y y' hy hy' e h => by subst e; exact (hl.row x hx).inj y y' hy hy' h
  have c : y = y' → a x y = a x' y' → x = x' := fun e h => by subst e; exact (hl.col y hy).inj x x' hx hx' h
  rcases i with _ | _ | _ | i <;> rcases j with _ | _ | _ | j <;> simp [tri] at e1 e2 hij <;> first | omega | skip
  all_goals first
    | exact ⟨e1, r y y' hy hy' e1 e2⟩
    | exact ⟨c e1 e2, e1⟩
    | exact ⟨e2, r y y' hy hy' e2 e1⟩
    | exact ⟨c e2 e1, e2⟩
theorem tri_onto (hl : Latin n a) {i j : Nat} (hi : i < 3) (hj : j < 3) (hij : i ≠ j) {u v : Nat} (hu : u < n) (hv : v < n) :
    ∃ x y, x < n ∧ y < n ∧ tri x y (a x y) i = u ∧ tri x y (a x y) j = v := by
  rcases i with _ | _ | _ | i <;> rcases j with _ | _ | _ | j <;> first | omega | skip
  · exact ⟨u, v, hu, hv, rfl, rfl⟩
  · obtain ⟨y, hy, e⟩ := (hl.row u hu).onto hv
    exact ⟨u, y, hu, hy, rfl, e⟩
  · exact ⟨v, u, hv, hu, rfl, rfl⟩
  · obtain ⟨x, hx, e⟩ := (hl.col u hu).onto hv
    exact ⟨x, u, hx, hu, rfl, e⟩
  · obtain ⟨y, hy, e⟩ := (hl.row v hv).onto hu
    exact ⟨v, y, hv, hy, e, rfl⟩
  · obtain ⟨x, hx, e⟩ := (hl.col v hv).onto hu
    exact ⟨x, v, hx, hv, e, rfl⟩
end
def af (A : List (List Int)) (x y : Nat) : Nat := (at2 A x y).toNat
theorem Lat.latin {A : List (List Int)} (h : Lat A) : Latin A.length (af A) where
  row x hx := by
    have := (h.row x hx).bij
    rw [h.len x hx] at this
    exact this
  col y hy := by
    have := (h.col y hy).bij
    rw [colL_len] at this
    refine ⟨fun x hx => ?_, fun x z hx hz e => this.inj x z hx hz ?_⟩
    · have h2 := this.lt x hx
      unfold pf at h2; rw [nth_colL hx] at h2; exact h2
    · unfold pf; rw [nth_colL hx, nth_colL hz]; exact e
/-- number i of the place of a square -/
def trA (A : List (List Int)) (x y i : Nat) : Nat := tri x y (af A x y) i
structure ConR (A : List (List Int)) (p : List Int) (B : List (List Int)) : Prop where
  sqr : Sqr A.length B
  at' : ∀ x y, x < A.length → y < A.length → at2 B (trA A x y (pf p 0)) (trA A x y (pf p 1)) = trA A x y (pf p 2)
structure ConP (A : List (List Int)) (p : List Int) (x y : Nat) (B : List (List Int)) : Prop where
  sqr : Sqr A.length B
  at' : ∀ x' y', x' < A.length → y' < A.length → (x' < x ∨ x' = x ∧ y' < y) → at2 B (trA A x' y' (pf p 0)) (trA A x' y' (pf p 1)) = trA A x' y' (pf p 2)
section
variable {A B C D : List (List Int)} {p q : List Int}
theorem trA_lt (h : Lat A) {x y : Nat} (hx : x < A.length) (hy : y < A.length) (i : Nat) : trA A x y i < A.length := tri_lt hx hy ((h.latin.row x hx).lt y hy) i
theorem p3_lt (hp : IsP p) (h3 : p.length = 3) {i : Nat} (hi : i < 3) : pf p i < 3 := by have := hp.pf_lt (j := i) (by omega); omega
theorem p3_ne (hp : IsP p) (h3 : p.length = 3) {i j : Nat} (hi : i < 3) (hj : j < 3) (h : i ≠ j) : pf p i ≠ pf p j := fun e => h (hp.bij.inj i j (by omega) (by omega) e)
theorem ConP.start : ConP A p 0 0 (sqF A.length fun _ _ => 0) := ⟨sqF_sqr _ _, fun _ _ _ _ h => by omega⟩
theorem ConP.step (hA : Lat A) (hp : IsP p) (h3 : p.length = 3) {x y : Nat} {S : List (List Int)} (h : ConP A p x y S) (hx : x < A.length) (hy : y < A.length) :
    ConP A p x (y + 1) (putS S (trA A x y (pf p 0)) (trA A x y (pf p 1)) (trA A x y (pf p 2))) := by
  have h1 := trA_lt hA hx hy (pf p 0)
  have h2 := trA_lt hA hx hy (pf p 1)
  refine ⟨putS_sqr h.sqr h1 _ _, fun x' y' hx' hy' hl => ?_⟩
  rw [at2_putS h.sqr h1 h2]
  split
  · rename_i e
    obtain ⟨rfl, rfl⟩ := tri_inj hA.latin (p3_lt hp h3 (by omega)) (p3_lt hp h3 (by omega)) (p3_ne hp h3 (i := 0) (j := 1) (by omega) (by omega) (by omega)) hx hy hx' hy' e.1 e.2
    rfl
  · rename_i e
    refine h.at' x' y' hx' hy' ?_
    rcases hl with hl | ⟨rfl, hl⟩
    · exact .inl hl
    · refine .inr ⟨rfl, ?_⟩
      by_cases e2 : y' = y
      · subst e2; exact absurd ⟨rfl, rfl⟩ e
      · omega
theorem ConP.next {x : Nat} {S : List (List Int)} (h : ConP A p x A.length S) : ConP A p (x + 1) 0 S :=
  ⟨h.sqr, fun x' y' hx' hy' hl => h.at' x' y' hx' hy' (by omega)⟩
theorem ConP.done {S : List (List Int)} (h : ConP A p A.length 0 S) : ConR A p S := ⟨h.sqr, fun x y hx hy => h.at' x y hx hy (.inl hx)⟩
theorem ConR.el (hA : Lat A) (hp : IsP p) (h3 : p.length = 3) (h : ConR A p B) : Sq0 A.length B := by
  refine ⟨h.sqr, fun u v hu hv => ?_⟩
  obtain ⟨x, y, hx, hy, rfl, rfl⟩ := tri_onto hA.latin (p3_lt hp h3 (i := 0) (by omega)) (p3_lt hp h3 (i := 1) (by omega)) (p3_ne hp h3 (by omega) (by omega) (by omega)) hu hv
  have e1 := h.at' x y hx hy
  have e2 := trA_lt hA hx hy (pf p 2)
  unfold trA at e1 e2
  rw [e1]; omega
/-- conjugates are Latin squares -/
theorem ConR.lat (hA : Lat A) (hp : IsP p) (h3 : p.length = 3) (h : ConR A p B) : Lat B := by
  have h0 := h.el hA hp h3
  have hb := h.sqr.len
  have on := fun {u v : Nat} (hu : u < A.length) (hv : v < A.length) => tri_onto hA.latin (p3_lt hp h3 (i := 0) (by omega)) (p3_lt hp h3 (i := 1) (by omega)) (p3_ne hp h3 (by omega) (by omega) (by omega)) hu hv
  refine ⟨by rw [hb]; exact hA.pos, by rw [hb]; exact hA.le, fun x hx => by rw [hb] at hx ⊢; exact h0.row x hx, fun u hu => ?_, fun v hv => ?_⟩
  · rw [hb] at hu
    refine ⟨fun v hv => ?_, fun v v' hv hv' e => ?_⟩
    · rw [h0.row u hu] at hv ⊢; exact h0.el u v hu hv
    · rw [h0.row u hu] at hv hv'
      obtain ⟨x, y, hx, hy, e1, e2⟩ := on hu hv
      obtain ⟨x', y', hx', hy', e1', e2'⟩ := on hu hv'
      have f1 := h.at' x y hx hy
      have f2 := h.at' x' y' hx' hy'
      unfold trA at f1 f2
      rw [e1, e2] at f1
      rw [e1', e2'] at f2
      have e' : at2 B u v = at2 B u v' := e
      rw [f1, f2] at e'
      obtain ⟨rfl, rfl⟩ := tri_inj hA.latin (p3_lt hp h3 (by omega)) (p3_lt hp h3 (by omega)) (p3_ne hp h3 (i := 0) (j := 2) (by omega) (by omega) (by omega)) hx hy hx' hy' (e1.trans e1'.symm) (by omega)
      rw [← e2, ← e2']
  · rw [hb] at hv
    refine ⟨fun u hu => ?_, fun u u' hu hu' e => ?_⟩
    · rw [colL_len, hb] at hu ⊢; rw [nth_colL (by rw [hb]; exact hu)]; exact h0.el u v hu hv
    · rw [colL_len, hb] at hu hu'
      rw [nth_colL (by rw [hb]; exact hu), nth_colL (by rw [hb]; exact hu')] at e
      obtain ⟨x, y, hx, hy, e1, e2⟩ := on hu hv
      obtain ⟨x', y', hx', hy', e1', e2'⟩ := on hu' hv
      have f1 := h.at' x y hx hy
      have f2 := h.at' x' y' hx' hy'
      unfold trA at f1 f2
      rw [e1, e2] at f1
      rw [e1', e2'] at f2
      rw [f1, f2] at e
      obtain ⟨rfl, rfl⟩ := tri_inj hA.latin (p3_lt hp h3 (by omega)) (p3_lt hp h3 (by omega)) (p3_ne hp h3 (i := 1) (j := 2) (by omega) (by omega) (by omega)) hx hy hx' hy' (e2.trans e2'.symm) (by omega)
      rw [← e1, ← e1']
/-- conjugates of conjugates -/
theorem ConR.comp (hA : Lat A) (hp : IsP p) (hq : IsP q) (h3 : p.length = 3) (hq3 : q.length = 3) (h1 : ConR A p B) (h2 : ConR B q C) : ConR A (cmpL q p) C := by
  have hb := h1.sqr.len
  have hl := hA.latin
  refine ⟨by rw [← hb]; exact h2.sqr, fun x y hx hy => ?_⟩
  have c1 : ConjOf A.length (af A) (pf p) (af B) := fun x y hx hy => by
    have := h1.at' x y hx hy
    show (at2 B (trA A x y (pf p 0)) (trA A x y (pf p 1))).toNat = trA A x y (pf p 2)
    rw [this]; simp
  have c2 : ConjOf A.length (af B) (pf q) (af C) := fun x y hx hy => by
    have := h2.at' x y (by omega) (by omega)
    show (at2 C (trA B x y (pf q 0)) (trA B x y (pf q 1))).toNat = trA B x y (pf q 2)
    rw [this]; simp
  have hq' : Bij 3 (pf q) := by have := hq.bij; rwa [hq3] at this
  have c3 := ConjOf.comp hl hq' c1 c2 x y hx hy
  rw [pf_cmpL (by omega), pf_cmpL (by omega), pf_cmpL (by omega)]
  have hz := h2.el (h1.lat hA hp h3) hq hq3
  have z := hz.el (trA A x y (pf p (pf q 0))) (trA A x y (pf p (pf q 1))) (by rw [hb]; exact trA_lt hA hx hy _) (by rw [hb]; exact trA_lt hA hx hy _)
  have e : (af C (trA A x y (pf p (pf q 0))) (trA A x y (pf p (pf q 1))) : Int) = trA A x y (pf p (pf q 2)) := by
    unfold trA; exact congrArg Int.ofNat c3
  rw [← e]; unfold af; omega
end

end Go.Proofs.Ytejncephbafcdaa
end

section
/- Slices of truth values. -/
namespace Go.Proofs.Ytejncephbafcdaa
set_option linter.unusedSimpArgs false
set_option linter.unusedVariables false
open Go.RowKit
/-- the cells of a list of truth values -/
def bo (xs : List Bool) : List Value := xs.map Value.bool
/-- element j -/
def bat (xs : List Bool) (j : Nat) : Bool := xs.getD j false
theorem bo_len (xs : List Bool) : (bo xs).length = xs.length := by simp [bo]
theorem bo_get {xs : List Bool} {j : Nat} (h : j < xs.length) : (bo xs).getD j undef = .bool (bat xs j) := by
  simp [bo, bat, List.getD, List.getElem?_eq_getElem h]
theorem bo_set (xs : List Bool) (j : Nat) (x : Bool) : (bo xs).set j (.bool x) = bo (xs.set j x) := by simp [bo, List.map_set]
theorem bo_rep (n : Nat) : List.replicate n (Value.bool false) = bo (List.replicate n false) := by simp [bo]
theorem bat_set {xs : List Bool} {i j : Nat} {x : Bool} (h : i < xs.length) : bat (xs.set i x) j = if i = j then x else bat xs j := by
  unfold bat
  rw [List.getD_eq_getElem?_getD, List.getElem?_set]
  split
  · rename_i e; subst e; simp [h]
  · simp
theorem bat_rep (n j : Nat) : bat (List.replicate n false) j = false := by
  unfold bat
  rw [List.getD_eq_getElem?_getD, List.getElem?_replicate]; split <;> rfl
def RdO (w : World) (v : Value) (xs : List Bool) : Prop := Rd w v (bo xs)
theorem Try.info_o : (Try.prog.info? 4).map (fun i => (i.zero, i.size, i.bytes)) = some (some (.bool false), 1, 1) := by kernel_rfl
theorem Try.size_o : (Try.prog.info? 4).map (·.size) = some 1 := by kernel_rfl
theorem Try.und_os : Try.prog.underlying 117 = some (.slice 4) := by kernel_rfl
section
variable {w w' : World} {v : Value} {xs : List Bool}
theorem RdO.le (h : RdO w v xs) : xs.length ≤ 9223372036854775807 := by have := h.sl.le; rwa [bo_len] at this
theorem RdO.len (h : RdO w v xs) (ty : TypeId) (W : World) : (Builtin.len_ #[117] ty #[v]).run Try.prog W = .ok (.int .i64 xs.length) W := by
  have := run_len_sl (P := Try.prog) h.sl 117 ty Try.und_os W; rwa [bo_len] at this
theorem RdO.ix (h : RdO w v xs) (k : IntKind) (i : Int) (h0 : 0 ≤ i) (hi : i < xs.length) (W : World) :
    (Instr.indexAt 117 v (.int k i)).run Try.prog W = .ok (.pointer (some (el v i.toNat))) W :=
  run_ix_sl (P := Try.prog) h.sl 117 Try.und_os Try.size_o k i h0 (by rw [bo_len]; exact hi) W
theorem RdO.ixe (h : RdO w v xs) (i : Int) (j : Nat) (hij : i = (j : Int)) (hj : j < xs.length) (W : World) :
    (Instr.indexAt 117 v (.int .i64 i)).run Try.prog W = .ok (.pointer (some (el v j))) W := by
  have := h.ix .i64 i (by omega) (by omega) W
  rwa [hij, Int.toNat_natCast, ← hij] at this
theorem RdO.cell (h : RdO w v xs) (j : Nat) (hj : j < xs.length) : w.cell? (el v j) = some (.bool (bat xs j)) := by
  rw [Rd.cell h (by rw [bo_len]; exact hj), bo_get hj]
theorem RdO.keep (h : RdO w v xs) (hb : Below w.heap.size w w') : RdO w' v xs := Rd.keep h hb
end
theorem St.rdO {B : Nat} {w0 w : World} {L : List Ent} (h : St B w0 w L) (i : Nat) {e : TypeId} {v : Value} {xs : List Bool} (hi : L[i]? = some (row e v (bo xs))) : RdO w v xs := h.rd i hi
section
variable {ops : Array Oper} {rest : List Oper} {o : Oper} {a : Act} {Q : Exit → Act → World → Prop} {B : Nat} {w0 w : World} {L : List Ent}
/-- a store into an owned row of truth values -/
theorem stoO (hS : St B w0 w L) (i : Nat) {v : Value} {xs : List Bool} (hi : L[i]? = some (row 4 v (bo xs))) (j : Nat) (hj : j < xs.length) (hg : o.guard = none) (x y : Operand)
    (hop : o.op = .store 4 x y) (hx : a.eval x = .pointer (some (el v j))) (n : Bool) (hy : a.eval y = .bool n)
    (hK : ∀ w', St B w0 w' (L.set i (row 4 v (bo (xs.set j n)))) → wpList Try.prog ops Q rest (a.put o.dst undef) w') :
    wpList Try.prog ops Q (o :: rest) a w :=
  wpList_st_store hg x y 4 hop Try.size_o hS i hi j (by rw [bo_len]; exact hj) (.bool n) hx hy rfl rfl (fun w' h => hK w' (by rw [← bo_set]; exact h))
/-- make([]bool, n) -/
theorem mkO (hS : St B w0 w L) (hg : o.guard = none) (x y : Operand) (hop : o.op = .makeSlice 117 x y) (kl kc : IntKind) (n : Nat) (hx : a.eval x = .int kl n) (hy : a.eval y = .int kc n) (hN : n ≤ 4294967296)
    (hK : ∀ v' w', St B w0 w' (L ++ [row 4 v' (bo (List.replicate n false))]) → wpList Try.prog ops Q rest (a.put o.dst v') w') :
    wpList Try.prog ops Q (o :: rest) a w :=
  wpList_st_make hg x y 117 hop 4 (.bool false) 1 Try.und_os Try.info_o rfl hS kl kc n hx hy (by omega) hN (fun v' w' h => hK v' w' (by rw [← bo_rep]; exact h))
end
end Go.Proofs.Ytejncephbafcdaa
end

section
/- Orthogonal squares as lists of lists, in plain terms. -/
namespace Go.Proofs.Ytejncephbafcdaa
set_option linter.unusedSimpArgs false
set_option linter.unusedVariables false
/-- every pair of symbols once -/
def Ort (n : Nat) (A B : List (List Int)) : Prop := ∀ x y x' y', x < n → y < n → x' < n → y' < n → at2 A x y = at2 A x' y' → at2 B x y = at2 B x' y' → x = x' ∧ y = y'
theorem Ort.symm {n : Nat} {A B : List (List Int)} (h : Ort n A B) : Ort n B A := fun x y x' y' hx hy hx' hy' e1 e2 => h x y x' y' hx hy hx' hy' e2 e1
open Classical in
noncomputable def orB (A B : List (List Int)) : Bool := decide (A.length = B.length ∧ Ort A.length A B)
theorem orB_t {A B : List (List Int)} (h : orB A B = true) : A.length = B.length ∧ Ort A.length A B := by simpa [orB] using h
theorem orB_yes {A B : List (List Int)} (h1 : A.length = B.length) (h2 : Ort A.length A B) : orB A B = true := by simp [orB, h1, h1 ▸ h2]
theorem orB_no {A B : List (List Int)} (h : ¬ (A.length = B.length ∧ Ort A.length A B)) : orB A B = false := by simp only [orB, decide_eq_false_iff_not]; exact h
theorem orB_symm (A B : List (List Int)) : orB A B = orB B A := by
  by_cases h : A.length = B.length ∧ Ort A.length A B
  · rw [orB_yes h.1 h.2, orB_yes h.1.symm (by rw [← h.1]; exact h.2.symm)]
  · rw [orB_no h, orB_no fun h2 => h ⟨h2.1.symm, by rw [← h2.1]; exact h2.2.symm⟩]
/-- places ahead of place y of row x -/
def Bef (n x y x' y' : Nat) : Prop := x' < n ∧ y' < n ∧ (x' < x ∨ x' = x ∧ y' < y)
/-- the numbers that are marked are those of the places ahead, each once -/
structure SnI (n N : Nat) (f : Nat → Nat → Nat) (x y : Nat) (s : List Bool) : Prop where
  len : s.length = N
  mem : ∀ v, v < N → (bat s v = true ↔ ∃ x' y', Bef n x y x' y' ∧ f x' y' = v)
  inj : ∀ x1 y1 x2 y2, Bef n x y x1 y1 → Bef n x y x2 y2 → f x1 y1 = f x2 y2 → x1 = x2 ∧ y1 = y2
section
variable {n N : Nat} {f : Nat → Nat → Nat} {x y : Nat} {s : List Bool}
theorem SnI.start : SnI n N f 0 0 (List.replicate N false) :=
  ⟨by simp, fun v hv => by
    rw [bat_rep]
    exact ⟨fun h => (by cases h), fun ⟨x', y', h, _⟩ => by unfold Bef at h; omega⟩, fun _ _ _ _ h => by unfold Bef at h; omega⟩
theorem SnI.dup (h : SnI n N f x y s) (hf : f x y < N) (hb : bat s (f x y) = true) : ∃ x' y', Bef n x y x' y' ∧ f x' y' = f x y := (h.mem _ hf).1 hb
theorem SnI.step (h : SnI n N f x y s) (hx : x < n) (hy : y < n) (hf : f x y < N) (hb : bat s (f x y) = false) : SnI n N f x (y + 1) (s.set (f x y) true) := by
  have bef : ∀ {x' y'}, Bef n x (y + 1) x' y' → Bef n x y x' y' ∨ (x' = x ∧ y' = y) := fun {x' y'} hh => by unfold Bef at hh ⊢; omega
  have feb : ∀ {x' y'}, Bef n x y x' y' → Bef n x (y + 1) x' y' := fun {x' y'} hh => by unfold Bef at hh ⊢; omega
  have nw : ∀ {x' y'}, Bef n x y x' y' → f x' y' ≠ f x y := fun {x' y'} hh e => by
    have := (h.mem _ hf).2 ⟨x', y', hh, e⟩
    rw [hb] at this; cases this
  refine ⟨by rw [List.length_set]; exact h.len, fun v hv => ?_, fun x1 y1 x2 y2 h1 h2 e => ?_⟩
  · rw [bat_set (by rw [h.len]; exact hf)]
    by_cases e : f x y = v
    · rw [if_pos e]; exact ⟨fun _ => ⟨x, y, by unfold Bef; omega, e⟩, fun _ => rfl⟩
    · rw [if_neg e, h.mem v hv]
      constructor
      · rintro ⟨x', y', h1, h2⟩; exact ⟨x', y', feb h1, h2⟩
      · rintro ⟨x', y', h1, h2⟩
        rcases bef h1 with h3 | ⟨rfl, rfl⟩
        · exact ⟨x', y', h3, h2⟩
        · exact absurd h2 e
  · rcases bef h1 with h1 | ⟨rfl, rfl⟩
    · rcases bef h2 with h2 | ⟨rfl, rfl⟩
      · exact h.inj x1 y1 x2 y2 h1 h2 e
      · exact absurd e (nw h1)
    · rcases bef h2 with h2 | ⟨rfl, rfl⟩
      · exact absurd e.symm (nw h2)
      · exact ⟨rfl, rfl⟩
theorem SnI.next (h : SnI n N f x n s) : SnI n N f (x + 1) 0 s := by
  have e : ∀ x' y', Bef n (x + 1) 0 x' y' ↔ Bef n x n x' y' := fun x' y' => by unfold Bef; omega
  refine ⟨h.len, fun v hv => ?_, fun x1 y1 x2 y2 h1 h2 => h.inj x1 y1 x2 y2 ((e _ _).1 h1) ((e _ _).1 h2)⟩
  rw [h.mem v hv]
  constructor
  · rintro ⟨x', y', h1, h2⟩; exact ⟨x', y', (e _ _).2 h1, h2⟩
  · rintro ⟨x', y', h1, h2⟩; exact ⟨x', y', (e _ _).1 h1, h2⟩
theorem SnI.done (h : SnI n N f n 0 s) : ∀ x y x' y', x < n → y < n → x' < n → y' < n → f x y = f x' y' → x = x' ∧ y = y' := fun x y x' y' hx hy hx' hy' e =>
  h.inj x y x' y' ⟨hx, hy, .inl hx⟩ ⟨hx', hy', .inl hx'⟩ e
end
/-- both symbols of a place in one number -/
def ovF (n : Nat) (A B : List (List Int)) (x y : Nat) : Nat := n * af A x y + af B x y
def ovL (n : Nat) (A B : List (List Int)) : List (List Int) := sqF n fun x y => (ovF n A B x y : Nat)
section
variable {n : Nat} {A B : List (List Int)}
theorem af_eq (h : Sq0 n A) {x y : Nat} (hx : x < n) (hy : y < n) : at2 A x y = (af A x y : Nat) ∧ af A x y < n := by
  have := h.el x y hx hy; unfold af; omega
theorem ovF_lt (hA : Sq0 n A) (hB : Sq0 n B) {x y : Nat} (hx : x < n) (hy : y < n) : ovF n A B x y < n * n := by
  have a := (af_eq hA hx hy).2
  have b := (af_eq hB hx hy).2
  unfold ovF
  have h1 : n * af A x y + n ≤ n * n := by rw [← Nat.mul_succ]; exact Nat.mul_le_mul_left _ (by omega)
  omega
theorem ovF_inj (hA : Sq0 n A) (hB : Sq0 n B) {x y x' y' : Nat} (hx : x < n) (hy : y < n) (hx' : x' < n) (hy' : y' < n) : ovF n A B x y = ovF n A B x' y' ↔ at2 A x y = at2 A x' y' ∧ at2 B x y = at2 B x' y' := by
  have a := af_eq hA hx hy
  have a' := af_eq hA hx' hy'
  have b := af_eq hB hx hy
  have b' := af_eq hB hx' hy'
  rw [a.1, a'.1, b.1, b'.1]
  unfold ovF
  generalize af A x y = p at *
  generalize af A x' y' = p' at *
  generalize af B x y = q at *
  generalize af B x' y' = q' at *
  constructor
  · intro e
    have e1 : p = p' := by
      have h1 : (n * p + q) / n = p := by rw [Nat.mul_add_div (by omega), Nat.div_eq_of_lt b.2]; omega
      have h2 : (n * p' + q') / n = p' := by rw [Nat.mul_add_div (by omega), Nat.div_eq_of_lt b'.2]; omega
      rw [← h1, ← h2, e]
    subst e1
    exact ⟨rfl, by omega⟩
  · rintro ⟨e1, e2⟩
    rw [show p = p' by omega, show q = q' by omega]
theorem SnI.ort (hA : Sq0 n A) (hB : Sq0 n B) {N : Nat} {s : List Bool} (h : SnI n N (ovF n A B) n 0 s) : Ort n A B := fun x y x' y' hx hy hx' hy' e1 e2 =>
  h.done x y x' y' hx hy hx' hy' ((ovF_inj hA hB hx hy hx' hy').2 ⟨e1, e2⟩)
theorem SnI.nort (hA : Sq0 n A) (hB : Sq0 n B) {N x y : Nat} {s : List Bool} (h : SnI n N (ovF n A B) x y s) (hx : x < n) (hy : y < n) (hf : ovF n A B x y < N) (hb : bat s (ovF n A B x y) = true) : ¬ Ort n A B := fun ho => by
  obtain ⟨x', y', hbf, e⟩ := h.dup hf hb
  obtain ⟨h1, h2, h3⟩ := hbf
  have e' := (ovF_inj hA hB h1 h2 hx hy).1 e
  have := ho x' y' x y h1 h2 hx hy e'.1 e'.2
  omega
theorem ovL_len : (ovL n A B).length = n := sqF_len _ _
theorem ovL_row {x : Nat} (hx : x < n) : (xat (ovL n A B) x).length = n := (sqF_sqr _ _).row x hx
theorem ovL_at {x y : Nat} (hx : x < n) (hy : y < n) : nth (xat (ovL n A B) x) y = (ovF n A B x y : Nat) := at2_sqF hx hy
end
/-! ### lists of squares -/
structure Mols (X : List (List (List Int))) : Prop where
  pos : 1 ≤ X.length
  le : X.length ≤ 10
  lat : ∀ k, k < X.length → Lat (x3at X k)
  ort : ∀ k i, i < k → k < X.length → orB (x3at X k) (x3at X i) = true
open Classical in
noncomputable def molB (X : List (List (List Int))) : Bool := decide (Mols X)
theorem molB_t {X : List (List (List Int))} (h : molB X = true) : Mols X := by simpa [molB] using h
theorem molB_yes {X : List (List (List Int))} (h : Mols X) : molB X = true := by simp [molB, h]
theorem molB_no {X : List (List (List Int))} (h : ¬ Mols X) : molB X = false := by simp [molB, h]
/-- all squares have as many rows -/
theorem Mols.len {X : List (List (List Int))} (h : Mols X) {k : Nat} (hk : k < X.length) : (x3at X k).length = (x3at X 0).length := by
  rcases Nat.eq_zero_or_pos k with rfl | h0
  · rfl
  · exact (orB_t (h.ort k 0 h0 hk)).1
end Go.Proofs.Ytejncephbafcdaa
end

section
/- Squares of a field, isotopes and products of orthogonal squares, in plain terms. -/
namespace Go.Proofs.Ytejncephbafcdaa
set_option linter.unusedSimpArgs false
set_option linter.unusedVariables false
section
variable {p : Int} {D : Nat} {fs : List Int}
theorem fsum_self (h : FA p D fs) {a : Int} (ha : El p D a) : fsum p D a a (-1) = 0 := by
  have hp : 0 < p := by have := h.p2; omega
  have e : fsum p D 0 a 1 = a := by rw [fsum_comm, fsum_zero h.p2 ha]
  have := fsum_undo hp (el_zero h) a 1 (-1) (by omega)
  rwa [e] at this
theorem fsum_inj (h : FA p D fs) {a b c : Int} (ha : El p D a) (hb : El p D b) (e : fsum p D a c 1 = fsum p D b c 1) : a = b := by
  have hp : 0 < p := by have := h.p2; omega
  rw [← fsum_undo hp ha c 1 (-1) (by omega), e, fsum_undo hp hb c 1 (-1) (by omega)]
theorem fsum_diff (h : FA p D fs) {a b : Int} (ha : El p D a) (hb : El p D b) (e : fsum p D a b (-1) = 0) : a = b := by
  have hp : 0 < p := by have := h.p2; omega
  have := fsum_undo hp ha b (-1) 1 (by omega)
  rw [e, fsum_comm, fsum_zero h.p2 hb] at this
  exact this.symm
theorem fmul_inj (h : FV p D fs) {m x y : Int} (hm : El p D m) (m0 : m ≠ 0) (hx : El p D x) (hy : El p D y) (e : fmul p D fs m x = fmul p D fs m y) : x = y := by
  have hp : 0 < p := by have := h.p2; omega
  have e2 : fmul p D fs m (fsum p D x y (-1)) = 0 := by rw [fmul_fsum h.fa, e, fsum_self h.fa (fmul_el h.fa _ _)]
  rcases h.nzd hm (fsum_el hp _ _ _) e2 with h1 | h1
  · exact absurd h1 m0
  · exact fsum_diff h.fa hx hy h1
theorem fsum_cut (hp : 0 < p) {a b y a' b' y' : Int} (e1 : fsum p D a y 1 = fsum p D a' y' 1) (e2 : fsum p D b y 1 = fsum p D b' y' 1) : fsum p D a b (-1) = fsum p D a' b' (-1) := by
  have key : ∀ a b y : Int, fsum p D (fsum p D a y 1) (fsum p D b y 1) (-1) = fsum p D a b (-1) := fun a b y => by
    refine (fsum_el hp _ _ _).ext hp (fsum_el hp _ _ _) fun i hi => ?_
    rw [dc_fsum hp hi, dc_fsum hp hi, dc_fsum hp hi, dc_fsum hp hi]
    rw [Int.emod_add_emod, show ∀ u : Int, u + -1 * ((dc p D b i + 1 * dc p D y i) % p) = u - (dc p D b i + 1 * dc p D y i) % p from fun u => by omega]
    rw [Int.sub_emod, Int.emod_emod, ← Int.sub_emod]
    congr 1; omega
  rw [← key a b y, ← key a' b' y', e1, e2]
/-- the square of the factor m -/
def fsq (p : Int) (D : Nat) (fs : List Int) (q : Nat) (m : Int) : List (List Int) := sqF q fun x y => fsum p D (fmul p D fs m x) y 1
theorem el_nat {q : Nat} (_ : FV p D fs) (hq : p ^ D = (q : Int)) {x : Nat} (hx : x < q) : El p D (x : Int) := ⟨by omega, by rw [hq]; omega⟩
theorem fsq_at {q : Nat} (_ : FV p D fs) (_ : p ^ D = (q : Int)) {m : Int} {x y : Nat} (hx : x < q) (hy : y < q) : at2 (fsq p D fs q m) x y = fsum p D (fmul p D fs m x) y 1 := by unfold fsq; rw [at2_sqF hx hy]
variable {q : Nat} (h : FV p D fs) (hq : p ^ D = (q : Int))
include h hq
theorem fsq_sq0 (m : Int) : Sq0 q (fsq p D fs q m) := ⟨sqF_sqr _ _, fun x y hx hy => by
  have hp : 0 < p := by have := h.p2; omega
  have := fsum_el (D := D) hp (fmul p D fs m x) y 1
  unfold fsq; rw [at2_sqF hx hy]
  rw [El, hq] at this; exact this⟩
theorem fsq_lat {m : Int} (hm : El p D m) (m0 : m ≠ 0) (q1 : 1 ≤ q) (q10 : q ≤ 10) : Lat (fsq p D fs q m) := by
  have h0 := fsq_sq0 h hq m
  have hl : (fsq p D fs q m).length = q := h0.len
  refine ⟨by rw [hl]; exact q1, by rw [hl]; exact q10, fun x hx => by rw [hl] at hx ⊢; exact h0.row x hx, fun x hx => ?_, fun y hy => ?_⟩
  · rw [hl] at hx
    refine ⟨fun y hy => ?_, fun y z hy hz e => ?_⟩
    · rw [h0.row x hx] at hy ⊢; exact h0.el x y hx hy
    · rw [h0.row x hx] at hy hz
      have e' : at2 (fsq p D fs q m) x y = at2 (fsq p D fs q m) x z := e
      rw [fsq_at h hq hx hy, fsq_at h hq hx hz, fsum_comm, fsum_comm _ (z : Int)] at e'
      have := fsum_inj h.fa (el_nat h hq hy) (el_nat h hq hz) e'
      omega
  · rw [hl] at hy
    refine ⟨fun x hx => ?_, fun x z hx hz e => ?_⟩
    · rw [colL_len, hl] at hx ⊢; rw [nth_colL (by rw [hl]; exact hx)]; exact h0.el x y hx hy
    · rw [colL_len, hl] at hx hz
      rw [nth_colL (by rw [hl]; exact hx), nth_colL (by rw [hl]; exact hz), fsq_at h hq hx hy, fsq_at h hq hz hy] at e
      have e1 := fsum_inj h.fa (fmul_el h.fa _ _) (fmul_el h.fa _ _) e
      have := fmul_inj h hm m0 (el_nat h hq hx) (el_nat h hq hz) e1
      omega
theorem fsq_ort {m m' : Int} (hm : El p D m) (hm' : El p D m') (hne : m ≠ m') : Ort q (fsq p D fs q m) (fsq p D fs q m') := fun x y x' y' hx hy hx' hy' e1 e2 => by
  have hp : 0 < p := by have := h.p2; omega
  rw [fsq_at h hq hx hy, fsq_at h hq hx' hy'] at e1 e2
  have e3 := fsum_cut hp e1 e2
  rw [fmul_comm h.fa m, fmul_comm h.fa m', fmul_comm h.fa m, fmul_comm h.fa m', ← fmul_fsum h.fa, ← fmul_fsum h.fa, fmul_comm h.fa (x : Int), fmul_comm h.fa (x' : Int)] at e3
  have hd0 : fsum p D m m' (-1) ≠ 0 := fun e => hne (fsum_diff h.fa hm hm' e)
  have e4 := fmul_inj h (fsum_el hp _ _ _) hd0 (el_nat h hq hx) (el_nat h hq hx') e3
  have e5 : x = x' := by omega
  subst e5
  rw [fsum_comm, fsum_comm _ (y' : Int)] at e1
  have := fsum_inj h.fa (el_nat h hq hy) (el_nat h hq hy') e1
  exact ⟨rfl, by omega⟩
end
/-- all squares of the field -/
def fmL (p : Int) (D : Nat) (fs : List Int) (q : Nat) (k : Nat) : List (List (List Int)) := (List.range k).map fun i : Nat => fsq p D fs q ((i : Int) + 1)
theorem fmL_len (p : Int) (D : Nat) (fs : List Int) (q k : Nat) : (fmL p D fs q k).length = k := by simp [fmL]
theorem fmL_at {p : Int} {D : Nat} {fs : List Int} {q k i : Nat} (hi : i < k) : x3at (fmL p D fs q k) i = fsq p D fs q ((i : Int) + 1) := by simp [fmL, x3at, hi]
theorem fmL_succ (p : Int) (D : Nat) (fs : List Int) (q k : Nat) : fmL p D fs q (k + 1) = fmL p D fs q k ++ [fsq p D fs q ((k : Int) + 1)] := by simp [fmL, List.range_succ]
theorem fmL_mols {p : Int} {D : Nat} {fs : List Int} {q : Nat} (h : FV p D fs) (hq : p ^ D = (q : Int)) (q2 : 2 ≤ q) (q10 : q ≤ 10) : Mols (fmL p D fs q (q - 1)) := by
  have hel : ∀ i, i < q - 1 → El p D ((i : Int) + 1) := fun i hi => ⟨by omega, by rw [hq]; omega⟩
  refine ⟨by rw [fmL_len]; omega, by rw [fmL_len]; omega, fun k hk => ?_, fun k i hi hk => ?_⟩
  · rw [fmL_len] at hk
    rw [fmL_at hk]; exact fsq_lat h hq (hel k hk) (by omega) (by omega) q10
  · rw [fmL_len] at hk
    rw [fmL_at hk, fmL_at (by omega)]
    have l1 : (fsq p D fs q ((k : Int) + 1)).length = q := (fsq_sq0 h hq _).len
    have l2 : (fsq p D fs q ((i : Int) + 1)).length = q := (fsq_sq0 h hq _).len
    exact orB_yes (by rw [l1, l2]) (by rw [l1]; exact fsq_ort h hq (hel k hk) (hel i (by omega)) (by omega))
/-! ### isotopes -/
/-! ### products -/
section
variable {n m : Nat}
variable {A B A' B' : List (List Int)}
end
end Go.Proofs.Ytejncephbafcdaa
end

section
/- Walks: numbers. -/
namespace Go.Proofs.Ytejncephbafcdaa
set_option linter.unusedSimpArgs false
set_option linter.unusedVariables false
open Go.RowKit

def inB (n a b : Int) : Bool := decide (a ≤ n) && decide (n ≤ b)
theorem inB_true {n a b : Int} (h : a ≤ n ∧ n ≤ b) : inB n a b = true := by simp [inB, h.1, h.2]
theorem inB_false {n a b : Int} (h : ¬ (a ≤ n ∧ n ≤ b)) : inB n a b = false := by simp only [inB, Bool.and_eq_false_iff, decide_eq_false_iff_not]; omega

theorem within_c (n a b : Int) (w : World) :
    Calls Try.prog 43 #[.int .i64 n, .int .i64 a, .int .i64 b] w fun e w' => e = .returned (.bool (inB n a b)) ∧ w = w' := by
  go_enter Try.func43, Try.ntmps43
  by_cases h : a ≤ n
  · go_wp2
    go_ret
    exact ⟨ret_bool (by simp [inB, h]), rfl⟩
  · go_wp2
    go_ret
    exact ⟨ret_bool (by simp [inB, show ¬ a ≤ n by omega]), rfl⟩
theorem size_c (v : Value) (xs : List Int) (w : World) (hv : RdI w v xs) : Calls Try.prog 46 #[v] w fun e w' => e = .returned (.int .i64 xs.length) ∧ w = w' := by
  have hln := hv.len
  go_enter Try.func46, Try.ntmps46
  go_wp2_with fail
  go_ret
  exact ⟨rfl, rfl⟩

def pp (xs : List Int) : Int × Int := match xs with
  | [] => (0, 0)
  | x :: xs => if xs.all (· == x) then (x, xs.length + 1) else (0, 0)
end Go.Proofs.Ytejncephbafcdaa
end

section
/- Walks: slices.ContainsFunc on rows of integers. -/
namespace Go.Proofs.Ytejncephbafcdaa
set_option linter.unusedSimpArgs false
set_option linter.unusedVariables false
open Go.RowKit

/-! slices.ContainsFunc on rows -/
def anyR (p : List Int → Bool) (xss : List (List Int)) : Bool := xss.any p
def idxR (p : List Int → Bool) (xss : List (List Int)) (k : Nat) : Int := match (xss.drop k).findIdx? p with | some j => (k + j : Nat) | none => -1
theorem idxR_step {p : List Int → Bool} {xs : List (List Int)} {k : Nat} (hk : k < xs.length) (h : p (xat xs k) = false) : idxR p xs k = idxR p xs (k + 1) := by
  unfold idxR
  rw [drop_xat hk, List.findIdx?_cons, h]
  cases (xs.drop (k + 1)).findIdx? p with
  | none => rfl
  | some j => simp; omega
theorem idxR_hit {p : List Int → Bool} {xs : List (List Int)} {k : Nat} (hk : k < xs.length) (h : p (xat xs k) = true) : idxR p xs k = k := by
  unfold idxR; rw [drop_xat hk, List.findIdx?_cons, h]; simp
theorem idxR_end {p : List Int → Bool} {xs : List (List Int)} {k : Nat} (hk : xs.length ≤ k) : idxR p xs k = -1 := by
  unfold idxR; rw [List.drop_of_length_le hk]; rfl
theorem idxR_any {p : List Int → Bool} {xs : List (List Int)} : decide (0 ≤ idxR p xs 0) = anyR p xs := by
  unfold idxR anyR
  rw [List.drop_zero]
  cases h : xs.findIdx? p with
  | none =>
    have hy : xs.any p = false := by
      rw [List.any_eq_false]
      intro x hx
      have := List.findIdx?_eq_none_iff.1 h x hx
      simp [this]
    rw [hy]; simp
  | some j =>
    have hy : xs.any p = true := by
      obtain ⟨hj, hp, _⟩ := List.findIdx?_eq_some_iff_getElem.1 h
      exact List.any_eq_true.2 ⟨_, List.getElem_mem hj, hp⟩
    rw [hy]; simp

set_option maxHeartbeats 1000000 in
set_option maxRecDepth 100000 in
theorem IndexFuncR_c (K : FuncId) (caps : Array Value) (p : List Int → Bool) (v : Value) (us : List Value) (xss : List (List Int)) (w : World) (hv : RII w v us xss)
    (hcf : ∀ (args : Array Value) (W : World), (callFunc K args).run Try.prog W = .ok (.enter K args) W)
    (hK : ∀ (j : Nat) (W : World), St w.heap.size w W [] → j < xss.length → Calls Try.prog K (#[vat us j] ++ caps) W (GivesB W (p (xat xss j)))) :
    Calls Try.prog 117 #[v, .func (.func K) #[] caps] w (GivesI w (idxR p xss 0)) := by
  have HK := Lib.hid hK
  clear hK
  have hln := hv.len
  have hix := hv.ix
  have hm := hv.le
  go_enter Try.func117, Try.ntmps117
  go_wp2_with fail
  go_loopw [5, 8] (fun _ i wr => ∃ k : Nat, k ≤ xss.length ∧ i = .int .i64 k ∧ Hid (idxR p xss 0 = idxR p xss k) ∧ St w.heap.size w wr []) (fun _ i _ => xss.length - (intOf i).toNat)
  case atStart => exact ⟨0, by omega, rfl, rfl, St.refl w⟩
  case round =>
    obtain ⟨k, hk, rfl, hI, hS⟩ := hrel
    by_cases hlt : k < xss.length
    · have hc := (hS.oldII hv).cell k hlt
      go_wp2_with fail
      refine (HK.out _ _ hS hlt).mono ?_
      cases hp : p (xat xss k)
      · have Hp := Lib.hid hp; clear hp
        rintro e w2 ⟨rfl, h2⟩
        have hS2 := hS.call0 h2
        go_wp2_with fail
        go_roundw
        case rel => exact ⟨k + 1, by omega, by go_num, by rw [Hid, hI.out, idxR_step hlt Hp.out], hS2⟩
        case measure => simp [intOf]; omega
      · have Hp := Lib.hid hp; clear hp
        rintro e w2 ⟨rfl, h2⟩
        have hS2 := hS.call0 h2
        go_wp2_with fail
        go_ret
        exact ⟨ret_i64 (by rw [hI.out, idxR_hit hlt Hp.out]), hS2⟩
    · go_wp2_with fail
      go_ret
      exact ⟨ret_i64 (by rw [hI.out, idxR_end (by omega)]), hS⟩
theorem ContainsFuncR_c (K : FuncId) (caps : Array Value) (p : List Int → Bool) (v : Value) (us : List Value) (xss : List (List Int)) (w : World) (hv : RII w v us xss)
    (hcf : ∀ (args : Array Value) (W : World), (callFunc K args).run Try.prog W = .ok (.enter K args) W)
    (hK : ∀ (j : Nat) (W : World), St w.heap.size w W [] → j < xss.length → Calls Try.prog K (#[vat us j] ++ caps) W (GivesB W (p (xat xss j)))) :
    Calls Try.prog 66 #[v, .func (.func K) #[] caps] w (GivesB w (anyR p xss)) := by
  have HK := Lib.hid hK
  clear hK
  go_enter Try.func66, Try.ntmps66
  go_wp2_with fail
  refine (IndexFuncR_c K caps p v us xss w hv hcf HK.out).mono ?_
  rintro e w1 ⟨rfl, h1⟩
  go_wp2_with fail
  go_ret
  exact ⟨ret_bool idxR_any, h1⟩

theorem szII_c (v : Value) (us : List Value) (xss : List (List Int)) (w : World) (hv : RII w v us xss) :
    Calls Try.prog 41 #[v] w fun e w' => e = .returned (.int .i64 xss.length) ∧ w = w' := by
  have hln := hv.len
  go_enter Try.func41, Try.ntmps41
  go_wp2_with fail
  go_ret
  exact ⟨rfl, rfl⟩
end Go.Proofs.Ytejncephbafcdaa
end

section
/- make inside a region that draws its order. A region that loads cells and writes them by its last stores: what is held of the world is asked until the first of these stores alone. A region that loads cells and writes them at its end: an operation taken first, by a chain of operations that wait for each other. -/
namespace Go.Proofs.Ytejncephbafcdaa
set_option linter.unusedSimpArgs false
set_option linter.unusedVariables false
open Go.RowKit

theorem St.made {B : Nat} {w0 w : World} {L : List Ent} (h : St B w0 w L) (n : Nat) (hn : n ≤ 4294967296) :
    St B w0 (w.alloc (.cells (madeCells #[.int .i64 0] n) 2)) (L ++ [row 2 (.slice (some ⟨w.heap.size, 0, none⟩) n n) (iv (List.replicate n 0))]) := by
  have hsz : (madeCells #[Value.int .i64 0] n).size = n := size_madeCells _ _
  have hlist : (madeCells #[Value.int .i64 0] n).toList = iv (List.replicate n 0) := by
    rw [← iv_rep]
    apply List.ext_getElem
    · simp [hsz]
    · intro i h1 h2; simp [madeCells, Nat.mod_one]
  have h2 := h.new 2 (madeCells #[.int .i64 0] n) (by rw [hsz]; unfold maxLen; omega)
  rw [hsz, hlist] at h2
  exact h2
theorem run_mk (n : Nat) (hn : n ≤ 4294967296) (w : World) : (Instr.makeSlice 52 (.int .i64 (n : Int)) (.int .i64 (n : Int))).run Try.prog w = .ok (.slice (some ⟨w.heap.size, 0, none⟩) n n) (w.alloc (.cells (madeCells #[.int .i64 0] n) 2)) :=
  run_make_row' 52 2 (.int .i64 0) 8 Try.und_is Try.info_i rfl .i64 .i64 n (by omega) (by omega) w

theorem cell_al {w : World} {o : Obj} {a : Addr} {v : Value} (h : w.cell? a = some v) : (w.alloc o).cell? a = some v := by
  rw [World.cell?_alloc_some _ _ _ (by rw [h]; rfl)]; exact h
theorem cell_dr {w : World} {a : Addr} {v : Value} (h : w.cell? a = some v) : w.drew.cell? a = some v := h
theorem cell_sc {w : World} {p a : Addr} {u v : Value} (hp : p.block ≠ a.block) (h : w.cell? a = some v) : (w.setCell p u).cell? a = some v := by
  rw [World.cell?_setCell_far _ _ _ _ hp]; exact h
section
variable {P : Program} {ops : Array Oper} {o : Oper} {a : Act} {K : Act → World → Prop} {Q : Exit → Act → World → Prop} {E : Prop}
end
section
variable {ops : Array Oper} {o : Oper} {a : Act} {K : Act → World → Prop} {Q : Exit → Act → World → Prop} {E : Prop} {B : Nat} {w0 w : World} {L : List Ent}
end

section
variable {P : Program} {ops : Array Oper} {Q : Exit → Act → World → Prop} {md : Region.Mode} {S : World → Prop} {st : Nat}

/-- whichever order is picked; S is shown behind every operation till operation st has come up -/
def anyG (P : Program) (md : Region.Mode) (ops : Array Oper) (Q : Exit → Act → World → Prop) (S : World → Prop) (st : Nat) : Nat → Array Bool → Act → World → Prop
  | 0, listed, a, w => Region.ready md ops listed = [] ∧ Q .normal a w
  | n + 1, listed, a, w => (Region.ready md ops listed = [] → Q .normal a w) ∧
    ∀ i ∈ Region.ready md ops listed, wpOp P ops Q i (fun a' w' => ((listed.setIfInBounds i true).getD st true = false → S w') ∧ anyG P md ops Q S st n (listed.setIfInBounds i true) a' w') a w

theorem wpAny_of_G : ∀ (n : Nat) (listed : Array Bool) (a : Act) (w : World), anyG P md ops Q S st n listed a w → wpAny P md ops Q n listed a w
  | 0, _, _, _, h => h
  | n + 1, _, _, _, h => ⟨h.1, fun i hi => wpOp_mono (fun a' w' h' => wpAny_of_G n _ a' w' h'.2) (h.2 i hi)⟩

theorem set_un {listed : Array Bool} {j k : Nat} (hne : j ≠ k) (h : listed.getD k true = false) : (listed.setIfInBounds j true).getD k true = false := by rw [getD_set_ne true hne]; exact h
/-- what waits for an operation that has not come up cannot come up -/
theorem not_ready {listed : Array Bool} {j k : Nat} (hk : listed.getD k true = false) (hw : ∃ o, ops[j]? = some o ∧ ∃ e ∈ o.after, Region.binds md e = true ∧ e.on = k) : j ∉ Region.ready md ops listed := by
  intro h
  obtain ⟨_, o, ho, hall⟩ := mem_ready.1 h
  obtain ⟨o', ho', e, he, hb, rfl⟩ := hw
  rw [ho] at ho'; cases ho'
  have h1 := hall e he hb
  rcases Nat.lt_or_ge e.on listed.size with h' | h'
  · simp [h'] at hk h1; rw [hk] at h1; cases h1
  · simp [Array.getElem?_eq_none h'] at h1

/-- an operation that yields in whatever world may be taken first -/
theorem anyG_pure {i : Nat} {oi : Oper} {v : Value} (hi : ops[i]? = some oi) (hsel : ∀ (j : Nat) (o : Oper) cs b, ops[j]? = some o → o.op ≠ .select cs b)
    (hQ : ∀ c a w, Q (.panic c) (a.put oi.dst v) w → Q (.panic c) a w) (hne : i ≠ st) :
    ∀ (n : Nat) (listed : Array Bool) (a : Act) (w : World),
      (∀ j oj, ops[j]? = some oj → j ≠ i → listed.getD j true = false → (∀ e ∈ oj.after, Region.binds md e = true → e.on ≠ i) → oi.apart ops oj = true) →
      i ∈ Region.ready md ops listed → YieldsIf P ops (fun _ => True) oi v a → (listed.getD st true = false → S w) →
      anyG P md ops Q S st n (listed.setIfInBounds i true) (a.put oi.dst v) w → anyG P md ops Q S st (n + 1) listed a w := by
  intro n
  induction n with
  | zero =>
    intro listed a w _ hr hy hS H
    refine ⟨fun h => (by rw [h] at hr; cases hr), fun j hj => ?_⟩
    by_cases hji : j = i
    · subst hji; exact hy.wpOp hi trivial ⟨fun e => hS (by rwa [getD_set_ne true hne] at e), H⟩
    · have := ready_mono hj hji
      rw [H.1] at this
      cases this
  | succ n ih =>
    intro listed a w hfree hr hy hS H
    have hiu : listed.getD i true = false := (mem_ready.1 hr).1
    refine ⟨fun h => (by rw [h] at hr; cases hr), fun j hj => ?_⟩
    by_cases hji : j = i
    · subst hji; exact hy.wpOp hi trivial ⟨fun e => hS (by rwa [getD_set_ne true hne] at e), H⟩
    · have h1 := H.2 j (ready_mono hj hji)
      obtain ⟨hjun, oj, hoj, hall⟩ := mem_ready.1 hj
      have hnot : ∀ e ∈ oj.after, Region.binds md e = true → e.on ≠ i := fun e he hb heq => not_ready hiu ⟨oj, hoj, e, he, hb, heq⟩ hj
      have h2 := wpOp_putIf hoj (hfree j oj hoj hji hjun hnot) (fun cs b => hsel i oi cs b hi) (fun cs b => hsel j oj cs b hoj) hQ hy h1
      refine wpOp_mono (fun a' w' h3 => ?_) h2
      have hSw : (listed.setIfInBounds j true).getD st true = false → S w' := fun e => h3.2.1 (by rw [Array.setIfInBounds_comm _ _ (Ne.symm hji), getD_set_ne true hne]; exact e)
      refine ⟨hSw, ih (listed.setIfInBounds j true) a' w' ?_ (ready_mono hr (Ne.symm hji)) h3.1 hSw ?_⟩
      · intro m om hm hmi hun hno
        refine hfree m om hm hmi ?_ hno
        by_cases hjm : j = m
        · subst hjm; exact hjun
        · rwa [getD_set_ne true hjm] at hun
      · rw [Array.setIfInBounds_comm _ _ hji]
        exact h3.2.2
/-- number i is taken first, whatever the world -/
theorem takeP {i : Nat} {oi : Oper} {v : Value} {n : Nat} {listed : Array Bool} {a : Act} {w : World} (hi : ops[i]? = some oi)
    (hs : (Region.noSelect ops && Region.free md ops listed i && (Region.ready md ops listed).contains i && (!(i == st))) = true)
    (hQ : ∀ c a w, Q (.panic c) (a.put oi.dst v) w → Q (.panic c) a w) (hw : Region.wanted oi (yielded ops a.tmps) = true) (hy : ∀ w, (execOp a.eval oi).run P w = .ok (.value v) w) (hS : S w)
    (h : anyG P md ops Q S st n (listed.setIfInBounds i true) (a.put oi.dst v) w) : anyG P md ops Q S st (n + 1) listed a w := by
  simp only [Bool.and_eq_true, Bool.not_eq_true', beq_eq_false_iff_ne] at hs
  obtain ⟨⟨⟨h1, h2⟩, h3⟩, h4⟩ := hs
  exact anyG_pure hi (Region.noSelect_spec h1) hQ h4 n listed a w (Region.free_spec hi h2) (by simpa using h3) (.inl ⟨hw, fun w _ => hy w⟩) (fun _ => hS) h

def waits (md : Region.Mode) (ops : Array Oper) (j k : Nat) : Bool := match ops[j]? with
  | some o => o.after.any fun e => Region.binds md e && e.on == k
  | none => false
theorem waits_spec {j k : Nat} (h : waits md ops j k = true) : ∃ o, ops[j]? = some o ∧ ∃ e ∈ o.after, Region.binds md e = true ∧ e.on = k := by
  unfold waits at h
  cases ho : ops[j]? with
  | none => rw [ho] at h; cases h
  | some o =>
    rw [ho] at h
    simp only [Array.any_eq_true', Bool.and_eq_true, beq_iff_eq] at h
    obtain ⟨e, he, hb, hk⟩ := h
    exact ⟨o, rfl, e, he, hb, hk⟩
def AllG (P : Program) (md : Region.Mode) (ops : Array Oper) (Q : Exit → Act → World → Prop) (S : World → Prop) (st n : Nat) (listed : Array Bool) (a : Act) (w : World) (rs : List Nat) : Prop :=
  ∀ i ∈ rs, wpOp P ops Q i (fun a' w' => ((listed.setIfInBounds i true).getD st true = false → S w') ∧ anyG P md ops Q S st n (listed.setIfInBounds i true) a' w') a w
theorem AllG.nil {n : Nat} {listed : Array Bool} {a : Act} {w : World} : AllG P md ops Q S st n listed a w [] := fun _ h => by cases h
/-- an operation ahead of st -/
theorem AllG.cons {n : Nat} {listed : Array Bool} {a : Act} {w : World} {i : Nat} {o : Oper} {rs : List Nat} (ho : ops[i]? = some o)
    (h : ∀ K' : Act → World → Prop, Shut (∀ a w, S w → (S w → anyG P md ops Q S st n (listed.setIfInBounds i true) a w) → K' a w) → if Region.wanted o (yielded ops a.tmps) = true then Oper.wp P o a w K' Q else K' (a.put o.dst undef) w)
    (hs : AllG P md ops Q S st n listed a w rs) : AllG P md ops Q S st n listed a w (i :: rs) := fun j hj => by
  rcases List.mem_cons.1 hj with rfl | hj
  · exact wpOp_step ho (fun K' hK => h K' (fun a w hS hW => hK a w ⟨fun _ => hS, hW hS⟩))
  · exact hs j hj
/-- st itself, or one behind it -/
theorem AllG.last {n : Nat} {listed : Array Bool} {a : Act} {w : World} {i : Nat} {o : Oper} {rs : List Nat} (ho : ops[i]? = some o) (hl : (listed.setIfInBounds i true).getD st true = true)
    (h : ∀ K' : Act → World → Prop, Shut (∀ a w, anyG P md ops Q S st n (listed.setIfInBounds i true) a w → K' a w) → if Region.wanted o (yielded ops a.tmps) = true then Oper.wp P o a w K' Q else K' (a.put o.dst undef) w)
    (hs : AllG P md ops Q S st n listed a w rs) : AllG P md ops Q S st n listed a w (i :: rs) := fun j hj => by
  rcases List.mem_cons.1 hj with rfl | hj
  · exact wpOp_step ho (fun K' hK => h K' (fun a w hW => hK a w ⟨fun e => (by rw [hl] at e; cases e), hW⟩))
  · exact hs j hj
theorem readyG {rs : List Nat} {n : Nat} {listed : Array Bool} {a : Act} {w : World} (hr : Region.ready md ops listed = rs) (hne : rs ≠ [])
    (h : AllG P md ops Q S st n listed a w rs) : anyG P md ops Q S st (n + 1) listed a w := ⟨fun h0 => absurd (hr ▸ h0) hne, hr ▸ h⟩
theorem doneG {listed : Array Bool} {a : Act} {w : World} (hr : Region.ready md ops listed = []) (h : Q .normal a w) : ∀ n, anyG P md ops Q S st n listed a w
  | 0 => ⟨hr, h⟩
  | _ + 1 => ⟨fun _ => h, by rw [hr]; simp⟩
/-- the beginning -/
theorem regionG {id : Nat} {a : Act} {w : World} (S : World → Prop) (st : Nat) (hm : P.follows .mixedOrders = true) (hS : S w.drew)
    (h : S w.drew → anyG P .any ops (NoPanic Q) S st ops.size (Array.replicate ops.size false) a w.drew) : (Code.region id ops true).wp P Q a w :=
  wp_region_noPanic (wp_region_any hm (wpAny_of_G _ _ _ _ (h hS)))
end

section
variable {P : Program} {ops : Array Oper} {Q : Exit → Act → World → Prop} {md : Region.Mode} {S : World → Prop} {st : Nat}
theorem anyG_firstL {i : Nat} {oi : Oper} {v : Value} (ks : List Nat) (hi : ops[i]? = some oi) (hsel : ∀ (j : Nat) (o : Oper) cs b, ops[j]? = some o → o.op ≠ .select cs b)
    (hQ : ∀ c a w, Q (.panic c) (a.put oi.dst v) w → Q (.panic c) a w)
    (hks : ∀ k ∈ ks, k = i ∨ ∃ m ∈ i :: ks, ∃ o, ops[k]? = some o ∧ ∃ e ∈ o.after, Region.binds md e = true ∧ e.on = m) (hst : ∃ m ∈ i :: ks, ∃ o, ops[st]? = some o ∧ ∃ e ∈ o.after, Region.binds md e = true ∧ e.on = m) :
    ∀ (n : Nat) (listed : Array Bool) (a : Act) (w : World), (∀ k ∈ ks, listed.getD k true = false) → listed.getD st true = false →
      (∀ j oj, ops[j]? = some oj → j ≠ i → listed.getD j true = false → (∀ e ∈ oj.after, Region.binds md e = true → e.on ≠ i) → oi.apart ops oj = true) →
      i ∈ Region.ready md ops listed → YieldsIf P ops S oi v a → S w →
      anyG P md ops Q S st n (listed.setIfInBounds i true) (a.put oi.dst v) w → anyG P md ops Q S st (n + 1) listed a w := by
  intro n
  induction n with
  | zero =>
    intro listed a w hk hs _ hr hy hS H
    refine ⟨fun h => (by rw [h] at hr; cases hr), fun j hj => ?_⟩
    by_cases hji : j = i
    · subst hji; exact hy.wpOp hi hS ⟨fun _ => hS, H⟩
    · have := ready_mono hj hji
      rw [H.1] at this
      cases this
  | succ n ih =>
    intro listed a w hk hs hfree hr hy hS H
    have hiu : listed.getD i true = false := (mem_ready.1 hr).1
    have hun : ∀ m ∈ i :: ks, listed.getD m true = false := fun m hm => by
      rcases List.mem_cons.1 hm with rfl | hm
      · exact hiu
      · exact hk m hm
    refine ⟨fun h => (by rw [h] at hr; cases hr), fun j hj => ?_⟩
    by_cases hji : j = i
    · subst hji; exact hy.wpOp hi hS ⟨fun _ => hS, H⟩
    · have hjk : j ∉ ks := by
        intro hjm
        rcases hks j hjm with e | ⟨m, hm, hw⟩
        · exact hji e
        · exact not_ready (hun m hm) hw hj
      obtain ⟨ms, hms, hws⟩ := hst
      have hjs : j ≠ st := by
        rintro rfl
        exact not_ready (hun ms hms) hws hj
      have h1 := H.2 j (ready_mono hj hji)
      obtain ⟨hjun, oj, hoj, hall⟩ := mem_ready.1 hj
      have hnot : ∀ e ∈ oj.after, Region.binds md e = true → e.on ≠ i := fun e he hb heq => not_ready hiu ⟨oj, hoj, e, he, hb, heq⟩ hj
      have h2 := wpOp_putIf hoj (hfree j oj hoj hji hjun hnot) (fun cs b => hsel i oi cs b hi) (fun cs b => hsel j oj cs b hoj) hQ hy h1
      have hsj : (listed.setIfInBounds j true).getD st true = false := set_un hjs hs
      refine wpOp_mono (fun a' w' h3 => ?_) h2
      have hSw : S w' := h3.2.1 (set_un hjs (set_un (fun e => by subst e; exact not_ready (hun ms hms) hws hr) hs))
      refine ⟨fun _ => hSw, ih (listed.setIfInBounds j true) a' w' (fun k hkm => set_un (fun e => hjk (e ▸ hkm)) (hk k hkm)) hsj ?_ (ready_mono hr (Ne.symm hji)) h3.1 hSw ?_⟩
      · intro m om hm hmi hun hno
        refine hfree m om hm hmi ?_ hno
        by_cases hjm : j = m
        · subst hjm; exact hjun
        · rwa [getD_set_ne true hjm] at hun
      · rw [Array.setIfInBounds_comm _ _ hji]
        exact h3.2.2
/-- number i is taken first; ks: operations that wait for it, for each other, and st for one of them -/
theorem takeH {i : Nat} (ks : List Nat) {oi : Oper} {v : Value} {n : Nat} {listed : Array Bool} {a : Act} {w : World} (hi : ops[i]? = some oi)
    (hs : (Region.noSelect ops && Region.free md ops listed i && (Region.ready md ops listed).contains i && (ks.all fun k => k == i || (i :: ks).any fun m => waits md ops k m) && ((i :: ks).any fun m => waits md ops st m) && (ks.all fun k => !listed.getD k true) && (!listed.getD st true)) = true)
    (hQ : ∀ c a w, Q (.panic c) (a.put oi.dst v) w → Q (.panic c) a w) (hw : Region.wanted oi (yielded ops a.tmps) = true) (hy : ∀ w, S w → (execOp a.eval oi).run P w = .ok (.value v) w) (hS : S w)
    (h : anyG P md ops Q S st n (listed.setIfInBounds i true) (a.put oi.dst v) w) : anyG P md ops Q S st (n + 1) listed a w := by
  simp only [Bool.and_eq_true, Bool.not_eq_true', Bool.or_eq_true, beq_iff_eq, List.all_eq_true] at hs
  obtain ⟨⟨⟨⟨⟨⟨h1, h2⟩, h3⟩, h4⟩, h5⟩, h6⟩, h7⟩ := hs
  refine anyG_firstL ks hi (Region.noSelect_spec h1) hQ (fun k hk => ?_) ?_ n listed a w h6 h7 (Region.free_spec hi h2) (by simpa using h3) (.inl ⟨hw, hy⟩) hS h
  · rcases h4 k hk with e | e
    · exact .inl e
    · obtain ⟨m, hm, hmw⟩ := List.any_eq_true.1 e
      exact .inr ⟨m, hm, waits_spec hmw⟩
  · obtain ⟨m, hm, hmw⟩ := List.any_eq_true.1 h5
    exact ⟨m, hm, waits_spec hmw⟩
end

end Go.Proofs.Ytejncephbafcdaa
end

section
/- slices.Sort at []int64: a row that a call owns, sorted. -/
namespace Go.Proofs.Ytejncephbafcdaa
set_option linter.unusedSimpArgs false
set_option linter.unusedVariables false
open Go.RowKit

def Try.mSort_ren : Go.Shelf.Ren := ⟨fun | 5 => 73 | 8 => 120 | 7 => 119 | 19 => 155 | 20 => 156 | 10 => 146 | 11 => 147 | 12 => 148 | 13 => 149 | 14 => 150 | 15 => 151 | 16 => 152 | 17 => 153 | 18 => 154 | 30 => 172 | 31 => 173 | 32 => 174 | 33 => 175 | 34 => 176 | 35 => 163 | 40 => 181 | n => n, fun | 23 => 52 | 25 => 2 | 3 => 3 | 32 => 131 | 22 => 52 | 0 => 0 | 44 => 156 | 46 => 99 | 4 => 4 | 36 => 149 | 35 => 148 | 41 => 153 | 5 => 5 | 9 => 9 | 53 => 166 | 57 => 170 | 63 => 174 | 64 => 175 | n => n, fun | n => n⟩
theorem Try.mSort : Go.Proofs.SlLaysM.n5 Try.prog Try.mSort_ren := {
  mixed := by kernel_rfl
  f5 := ⟨Try.f73.name, by decide, Try.func73.trans (congrArg some (by kernel_rfl))⟩
  f7 := ⟨Try.f119.name, by decide, Try.func119.trans (congrArg some (by kernel_rfl))⟩
  f8 := Try.func120.trans (congrArg some (by kernel_rfl))
  f10 := ⟨Try.f146.name, by decide, Try.func146.trans (congrArg some (by kernel_rfl))⟩
  f11 := ⟨Try.f147.name, by decide, Try.func147.trans (congrArg some (by kernel_rfl))⟩
  f12 := ⟨Try.f148.name, by decide, Try.func148.trans (congrArg some (by kernel_rfl))⟩
  f13 := ⟨Try.f149.name, by decide, Try.func149.trans (congrArg some (by kernel_rfl))⟩
  f14 := ⟨Try.f150.name, by decide, Try.func150.trans (congrArg some (by kernel_rfl))⟩
  f15 := ⟨Try.f151.name, by decide, Try.func151.trans (congrArg some (by kernel_rfl))⟩
  f16 := ⟨Try.f152.name, by decide, Try.func152.trans (congrArg some (by kernel_rfl))⟩
  f17 := ⟨Try.f153.name, by decide, Try.func153.trans (congrArg some (by kernel_rfl))⟩
  f18 := ⟨Try.f154.name, by decide, Try.func154.trans (congrArg some (by kernel_rfl))⟩
  f19 := Try.func155.trans (congrArg some (by kernel_rfl))
  f20 := Try.func156.trans (congrArg some (by kernel_rfl))
  f30 := ⟨Try.f172.name, by decide, Try.func172.trans (congrArg some (by kernel_rfl))⟩
  f31 := Try.func173.trans (congrArg some (by kernel_rfl))
  f32 := Try.func174.trans (congrArg some (by kernel_rfl))
  f33 := ⟨Try.f175.name, by decide, Try.func175.trans (congrArg some (by kernel_rfl))⟩
  f34 := ⟨Try.f176.name, by decide, Try.func176.trans (congrArg some (by kernel_rfl))⟩
  f35 := ⟨Try.f163.name, by decide, Try.func163.trans (congrArg some (by kernel_rfl))⟩
  f40 := ⟨Try.f181.name, by decide, Try.func181.trans (congrArg some (by kernel_rfl))⟩
  t0 := Try.underlying0
  a0 := Try.isAgg0
  z0 := Try.sizeOf0
  v0 := Try.zeroValue0
  t3 := Try.underlying3
  a3 := Try.isAgg3
  z3 := Try.sizeOf3
  v3 := Try.zeroValue3
  t4 := Try.underlying4
  a4 := Try.isAgg4
  z4 := Try.sizeOf4
  v4 := Try.zeroValue4
  t5 := Try.underlying5
  a5 := Try.isAgg5
  z5 := Try.sizeOf5
  v5 := Try.zeroValue5
  t9 := Try.underlying9
  a9 := Try.isAgg9
  z9 := Try.sizeOf9
  v9 := Try.zeroValue9
  t22 := Try.underlying52
  a22 := Try.isAgg52
  z22 := Try.sizeOf52
  v22 := Try.zeroValue52
  t23 := Try.underlying52
  a23 := Try.isAgg52
  z23 := Try.sizeOf52
  v23 := Try.zeroValue52
  t25 := Try.underlying2
  a25 := Try.isAgg2
  z25 := Try.sizeOf2
  v25 := Try.zeroValue2
  t32 := Try.underlying131
  a32 := Try.isAgg131
  z32 := Try.sizeOf131
  v32 := Try.zeroValue131
  t35 := Try.underlying148
  a35 := Try.isAgg148
  z35 := Try.sizeOf148
  v35 := Try.zeroValue148
  t36 := Try.underlying149
  a36 := Try.isAgg149
  z36 := Try.sizeOf149
  v36 := Try.zeroValue149
  t41 := Try.underlying153
  a41 := Try.isAgg153
  z41 := Try.sizeOf153
  v41 := Try.zeroValue153
  t44 := Try.underlying156
  a44 := Try.isAgg156
  z44 := Try.sizeOf156
  v44 := Try.zeroValue156
  t46 := Try.underlying99
  a46 := Try.isAgg99
  z46 := Try.sizeOf99
  v46 := Try.zeroValue99
  t53 := Try.underlying166
  a53 := Try.isAgg166
  z53 := Try.sizeOf166
  v53 := Try.zeroValue166
  t57 := Try.underlying170
  a57 := Try.isAgg170
  z57 := Try.sizeOf170
  v57 := Try.zeroValue170
  t63 := Try.underlying174
  a63 := Try.isAgg174
  z63 := Try.sizeOf174
  v63 := Try.zeroValue174
  t64 := Try.underlying175
  a64 := Try.isAgg175
  z64 := Try.sizeOf175
  v64 := Try.zeroValue175
  }

/-- in rising order -/
def srt (xs : List Int) : List Int := xs.mergeSort fun x y => decide (x ≤ y)
theorem srt_len (xs : List Int) : (srt xs).length = xs.length := List.length_mergeSort _
theorem Sort_c {B : Nat} {w0 w : World} {L : List Ent} (hS : St B w0 w L) (i : Nat) {v : Value} {xs : List Int} (hi : L[i]? = some (row 2 v (iv xs))) (hl : xs.length < 4611686018427387904) :
    Calls Try.prog 73 #[v] w fun e w' => e = .returned (.tuple #[]) ∧ St B w0 w' (L.set i (row 2 v (iv (srt xs)))) := by
  have hx := hS.ok _ (List.mem_of_getElem? hi)
  rcases hx with ⟨hp, _⟩ | ⟨_, hv, hu⟩ | ⟨_, g, cap, cur, hv, hB, hh, h1, h2, h3, h4⟩
  · simp [row] at hp
  · simp only [row] at hv hu
    have hx : xs = [] := by cases xs with
      | nil => rfl
      | cons a r => simp [iv] at hu
    subst hx
    subst hv
    have hc := AnyM.slices_Sort_int_none Try.mSort none 0 w
    refine Calls.mono hc ?_
    rintro e w' ⟨rfl, rfl⟩
    refine ⟨rfl, ?_⟩
    have : L.set i (row 2 (.slice none 0 0) (iv (srt []))) = L := by
      obtain ⟨hlt, heq⟩ := List.getElem?_eq_some_iff.1 hi
      have e : srt [] = [] := by simp [srt]
      rw [e, ← heq, List.set_getElem_self]
    rw [this]; exact hS
  · simp only [row] at hv h1 h4 hh
    rw [iv_len] at hv h1 h4
    have hblk : g < w.heap.size := (Array.getElem?_eq_some_iff.1 hh).1
    have hH : Go.Sort.Holds (Value.int .i64) w g 0 xs.toArray := holds_of_blockI hh h4
    have hc := AnyM.slices_Sort_int Try.mSort g 0 cap xs w hH hblk hl
    subst hv
    refine Calls.mono hc ?_
    rintro e w' ⟨rfl, n, os, rfl⟩
    refine ⟨rfl, ?_⟩
    have hlen : (srt xs).length = xs.length := srt_len xs
    refine hS.put i hi ?_ (row 2 (.slice (some ⟨g, 0, none⟩) xs.length cap) (iv (srt xs))) (.inr (.inr ⟨rfl, g, cap, _, ?_, hB, heap_sortedI _ hh, ?_, h2, ?_, ?_⟩)) (.inl rfl)
    · exact grownBy_sortedI _
    · simp [row, iv_len, hlen]
    · simp [row, iv_len, hlen]; omega
    · simp [Go.Sort.putCells, h3]
    · have := take_putCellsI cur (srt xs) (by omega)
      rw [hlen] at this
      have hlen' : (xs.mergeSort fun x y => decide (x ≤ y)).length = xs.length := hlen
      simpa [row, iv, srt, hlen'] using this
end Go.Proofs.Ytejncephbafcdaa
end

section
/- Walks: bounds of numbers, of the reference. -/
namespace Go.Proofs.Ytejncephbafcdaa
set_option linter.unusedSimpArgs false
set_option linter.unusedVariables false
open Go.RowKit

theorem l00In_c (n a b : Int) (w : World) :
    Calls Try.prog 68 #[.int .i64 n, .int .i64 a, .int .i64 b] w fun e w' => e = .returned (.bool (inB n a b)) ∧ w = w' := by
  go_enter Try.func68, Try.ntmps68
  by_cases h : a ≤ n
  · go_wp2
    go_ret
    exact ⟨ret_bool (by simp [inB, h]), rfl⟩
  · go_wp2
    go_ret
    exact ⟨ret_bool (by simp [inB, show ¬ a ≤ n by omega]), rfl⟩

theorem l00Min_c (a b : Int) (w : World) : Calls Try.prog 93 #[.int .i64 a, .int .i64 b] w fun e w' => e = .returned (.int .i64 (min a b)) ∧ w = w' := by
  by_cases h : a < b
  · go_enter Try.func93, Try.ntmps93
    go_wp2_with fail
    go_ret
    exact ⟨ret_i64 (by omega), rfl⟩
  · go_enter Try.func93, Try.ntmps93
    go_wp2_with fail
    go_ret
    exact ⟨ret_i64 (by omega), rfl⟩

end Go.Proofs.Ytejncephbafcdaa
end

section
/- The source of choices that the laws draw from. -/
namespace Go.Proofs.Ytejncephbafcdaa
set_option linter.unusedSimpArgs false
set_option linter.unusedVariables false
open Go.RowKit

/-- the cells of some bytes -/
def bv (bs : List UInt8) : List Value := bs.map fun b => Value.int .u8 b.toNat
def RdB (w : World) (v : Value) (bs : List UInt8) : Prop := Rd w v (bv bs)
theorem bv_len (bs : List UInt8) : (bv bs).length = bs.length := by simp [bv]
def bnth (bs : List UInt8) (j : Nat) : Int := ((bs.getD j 0).toNat : Int)
theorem bnth_bd (bs : List UInt8) (j : Nat) : 0 ≤ bnth bs j ∧ bnth bs j ≤ 255 := by
  unfold bnth; have := (bs.getD j 0).toNat_lt; omega
theorem bv_get {bs : List UInt8} {j : Nat} (h : j < bs.length) : (bv bs).getD j undef = .int .u8 (bnth bs j) := by
  simp [bv, bnth, List.getD, List.getElem?_eq_getElem h]

theorem Try.und_bs : Try.prog.underlying 22 = some (.slice 5) := by kernel_rfl
theorem Try.size_b : (Try.prog.info? 5).map (·.size) = some 1 := by kernel_rfl

section
variable {w w' : World} {v : Value} {bs : List UInt8}
theorem RdB.le (h : RdB w v bs) : bs.length ≤ 9223372036854775807 := by have := h.sl.le; rwa [bv_len] at this
theorem RdB.len (h : RdB w v bs) (ty : TypeId) (W : World) : (Builtin.len_ #[22] ty #[v]).run Try.prog W = .ok (.int .i64 bs.length) W := by
  have := run_len_sl (P := Try.prog) h.sl 22 ty Try.und_bs W; rwa [bv_len] at this
theorem RdB.ix (h : RdB w v bs) (k : IntKind) (i : Int) (h0 : 0 ≤ i) (hi : i < bs.length) (W : World) :
    (Instr.indexAt 22 v (.int k i)).run Try.prog W = .ok (.pointer (some (el v i.toNat))) W :=
  run_ix_sl (P := Try.prog) h.sl 22 Try.und_bs Try.size_b k i h0 (by rw [bv_len]; exact hi) W
theorem RdB.cell (h : RdB w v bs) (j : Nat) (hj : j < bs.length) : w.cell? (el v j) = some (.int .u8 (bnth bs j)) := by
  rw [Rd.cell h (by rw [bv_len]; exact hj), bv_get hj]
theorem RdB.keep (h : RdB w v bs) (hb : Below w.heap.size w w') : RdB w' v bs := Rd.keep h hb
theorem RdB.sh (h : RdB w v bs) : ∃ a n c, v = .slice a n c := by obtain ⟨a, c, hv, _⟩ := h.sl; exact ⟨a, _, c, hv⟩
end
theorem St.oldB {w0 w : World} {L : List Ent} {v : Value} {bs : List UInt8} (h : St w0.heap.size w0 w L) (hr : RdB w0 v bs) : RdB w v bs := Rd.keep hr h.below

/-- the source lies at the head of what is owned, at most K bytes were drawn -/
def Src (w0 w : World) (cv : Value) (g : Nat) (K : Nat) (L : List Ent) : Prop :=
  ∃ p seed : Int, 0 ≤ p ∧ p ≤ K ∧ St w0.heap.size w0 w (box 101 g [cv, .int .i64 p, .int .u64 seed] :: L)

def AnInt (lo hi : Int) (R : World → Prop) (e : Ending) (w' : World) : Prop := ∃ x : Int, lo ≤ x ∧ x ≤ hi ∧ e = .returned (.int .i64 x) ∧ R w'

theorem Src.mono {w0 w : World} {cv : Value} {g K K' : Nat} {L : List Ent} (h : Src w0 w cv g K L) (hk : K ≤ K') : Src w0 w cv g K' L := by
  obtain ⟨p, s, h0, h1, h2⟩ := h; exact ⟨p, s, h0, by omega, h2⟩
theorem Src.st {w0 w : World} {cv : Value} {g K : Nat} {L : List Ent} (h : Src w0 w cv g K L) : St w0.heap.size w0 w L := by
  obtain ⟨p, s, h0, h1, h2⟩ := h; exact h2.sub (List.sublist_cons_self _ _)

theorem and255 (x : Int) : 0 ≤ wrap64 (bits BinOp.and IntKind.u64 (IntKind.u64.wrap x / 1099511627776) 255) ∧ wrap64 (bits BinOp.and IntKind.u64 (IntKind.u64.wrap x / 1099511627776) 255) ≤ 255 := by
  have h1 : 0 ≤ IntKind.u64.wrap x / 1099511627776 ∧ IntKind.u64.wrap x / 1099511627776 < 18446744073709551616 := by
    simp [IntKind.wrap, IntKind.bits, IntKind.signed]; omega
  rw [u64_and _ _ h1.1 h1.2 (by omega) (by omega)]
  have e255 : (255 : Int).toNat = 255 := rfl
  have h2 := Nat.and_le_right (n := (IntKind.u64.wrap x / 1099511627776).toNat) (m := (255 : Int).toNat)
  rw [e255] at h2 ⊢
  unfold wrap64
  omega

set_option maxHeartbeats 1000000 in
theorem next_c (w0 w : World) (cv : Value) (bs : List UInt8) (g K : Nat) (L : List Ent) (hb : RdB w0 cv bs) (h : Src w0 w cv g K L) (hK : K < 1099511627776) :
    Calls Try.prog 127 #[.pointer (some ⟨g, 0, none⟩)] w (AnInt 0 255 fun w' => Src w0 w' cv g (K + 1) L) := by
  obtain ⟨p, seed, h0, h1, hS⟩ := h
  obtain ⟨q, rfl⟩ := Int.eq_ofNat_of_zero_le h0
  have hc0 := hS.bcell 0 rfl 0 rfl
  have hc1 := hS.bcell 0 rfl 1 rfl
  have hc2 := hS.bcell 0 rfl 2 rfl
  have hf := hS.bfree 0 rfl
  have hbw := hS.oldB hb
  have hln := hb.len
  have hix := hb.ix
  have hcell := hbw.cell
  have hle := hb.le
  have hbd := bnth_bd bs q
  obtain ⟨hb0, hb1⟩ := hbd
  by_cases hlt : q < bs.length
  · have hlt' : q + 1 ≤ bs.length := hlt
    go_enter Try.func127, Try.ntmps127
    go_wp2_with fail
    go_quiet (fail)
    go_wp2_with fail
    go_quiet (fail)
    go_wp2_with fail
    refine abs_wp (((hS.drewN _).bstore 0 rfl 1 _).bstore 0 rfl 2 _) ?_
    intro w2 hS2
    clear hc0 hc1 hc2 hf
    have hc0 := hS2.bcell 0 rfl 0 rfl
    have hc1 := hS2.bcell 0 rfl 1 rfl
    go_quiet (fail)
    go_wp2_with fail
    go_ret
    exact ⟨_, hb0, hb1, rfl, _, _, by omega, by omega, hS2.drewN _⟩
  · have hlt' : ¬ q + 1 ≤ bs.length := by omega
    go_enter Try.func127, Try.ntmps127
    go_wp2_with fail
    go_quiet (fail)
    go_wp2_with fail
    refine abs_wp (((hS.drewN _).bstore 0 rfl 1 _).bstore 0 rfl 2 _) ?_
    intro w2 hS2
    clear hc0 hc1 hc2 hf
    have hc0 := hS2.bcell 0 rfl 0 rfl
    have hc1 := hS2.bcell 0 rfl 1 rfl
    have hc2 := hS2.bcell 0 rfl 2 rfl
    go_quiet (fail)
    go_wp2_with fail
    go_ret
    exact ⟨_, (and255 _).1, (and255 _).2, rfl, _, _, by omega, by omega, hS2.drewN _⟩

set_option maxHeartbeats 1000000 in
theorem pick_c (w0 w : World) (cv : Value) (bs : List UInt8) (g K : Nat) (L : List Ent) (n : Int) (hb : RdB w0 cv bs) (h : Src w0 w cv g K L) (hK : K < 1000000000000) :
    Calls Try.prog 84 #[.pointer (some ⟨g, 0, none⟩), .int .i64 n] w (AnInt 0 (max (n - 1) 0) fun w' => Src w0 w' cv g (K + 2) L) := by
  by_cases h1 : n ≤ 1
  · go_enter Try.func84, Try.ntmps84
    go_wp2_with fail
    go_ret
    exact ⟨0, by omega, by omega, rfl, h.mono (by omega)⟩
  · by_cases h2 : n ≤ 200
    · go_enter Try.func84, Try.ntmps84
      go_wp2_with fail
      refine (next_c w0 w cv bs g K L hb h (by omega)).mono ?_
      rintro e w1 ⟨x, hx0, hx1, rfl, h3⟩
      go_wp2_with fail
      go_ret
      have := Int.emod_nonneg x (show n ≠ 0 by omega)
      have := Int.emod_lt_of_pos x (show 0 < n by omega)
      exact ⟨_, by omega, by omega, rfl, h3.mono (by omega)⟩
    · go_enter Try.func84, Try.ntmps84
      go_wp2_with fail
      refine (next_c w0 w cv bs g K L hb h (by omega)).mono ?_
      rintro e w1 ⟨x, hx0, hx1, rfl, h3⟩
      go_wp2_with fail
      refine (next_c w0 w1 cv bs g (K + 1) L hb h3 (by omega)).mono ?_
      rintro e w2 ⟨y, hy0, hy1, rfl, h4⟩
      go_wp2_with fail
      go_ret
      have := Int.emod_nonneg (x * 256 + y) (show n ≠ 0 by omega)
      have := Int.emod_lt_of_pos (x * 256 + y) (show 0 < n by omega)
      exact ⟨_, by omega, by omega, rfl, h4.mono (by omega)⟩

def ABool (R : World → Prop) (e : Ending) (w' : World) : Prop := ∃ x : Bool, e = .returned (.bool x) ∧ R w'

theorem one_c (w0 w : World) (cv : Value) (bs : List UInt8) (g K : Nat) (L : List Ent) (n : Int) (hb : RdB w0 cv bs) (h : Src w0 w cv g K L) (hK : K < 1000000000000) :
    Calls Try.prog 39 #[.pointer (some ⟨g, 0, none⟩), .int .i64 n] w (ABool fun w' => Src w0 w' cv g (K + 2) L) := by
  go_enter Try.func39, Try.ntmps39
  go_wp2_with fail
  refine (pick_c w0 w cv bs g K L n hb h hK).mono ?_
  rintro e w1 ⟨x, hx0, hx1, rfl, h3⟩
  go_wp2_with fail
  go_ret
  exact ⟨_, rfl, h3⟩

/-- one of some numbers: whatever holds of all of them holds of it -/
def AmongPost (xs : List Int) (R : World → Prop) (e : Ending) (w' : World) : Prop := ∃ x ∈ xs, e = .returned (.int .i64 x) ∧ R w'

theorem among_c (w0 w : World) (cv : Value) (bs : List UInt8) (g K : Nat) (L : List Ent) (v : Value) (xs : List Int) (hb : RdB w0 cv bs) (h : Src w0 w cv g K (row 2 v (iv xs) :: L)) (hne : 0 < xs.length)
    (hK : K < 1000000000000) :
    Calls Try.prog 38 #[.pointer (some ⟨g, 0, none⟩), v] w (AmongPost xs fun w' => Src w0 w' cv g (K + 2) L) := by
  have hr : RdI w v xs := by obtain ⟨p, s, h0, h1, h2⟩ := h; exact h2.rdI 1 rfl
  have hln := hr.len
  have hix := hr.ix
  have hle := hr.le
  go_enter Try.func38, Try.ntmps38
  go_wp2_with fail
  refine (pick_c w0 w cv bs g K _ _ hb h hK).mono ?_
  rintro e w1 ⟨x, hx0, hx1, rfl, h3⟩
  obtain ⟨k, rfl⟩ := Int.eq_ofNat_of_zero_le hx0
  have hk : k < xs.length := by omega
  have hr1 : RdI w1 v xs := by obtain ⟨p, s, h0, h1, h2⟩ := h3; exact h2.rdI 1 rfl
  have hc := hr1.cell
  go_wp2_with fail
  go_ret
  obtain ⟨p, s, h0, h1, h2⟩ := h3
  exact ⟨nth xs k, nth_mem hk, rfl, p, s, h0, h1, h2.sub (List.Sublist.cons_cons _ (List.sublist_cons_self _ _))⟩

theorem l00From_c (w : World) (cv : Value) (bs : List UInt8) (hb : RdB w cv bs) :
    Calls Try.prog 36 #[cv] w fun e w' => e = .returned (.pointer (some ⟨w.heap.size, 0, none⟩)) ∧ Src w w' cv w.heap.size 0 [] := by
  obtain ⟨av, n, c, rfl⟩ := hb.sh
  go_enter Try.func36, Try.ntmps36
  go_wp2_with fail
  go_ret
  exact ⟨rfl, 0, 0, by omega, by omega, (St.refl w).newbox _ _⟩
end Go.Proofs.Ytejncephbafcdaa
end

section
/- Walks: what the laws on numbers draw. -/
namespace Go.Proofs.Ytejncephbafcdaa
set_option linter.unusedSimpArgs false
set_option linter.unusedVariables false
open Go.RowKit

theorem Src.lit {w0 w : World} {cv : Value} {g K : Nat} {L : List Ent} (h : Src w0 w cv g K L) (xs : List Int) (hm : xs.length ≤ 1000) :
    Src w0 (w.alloc (.cells (iv xs).toArray 2)) cv g K (row 2 (.slice (some ⟨w.heap.size, 0, none⟩) xs.length xs.length) (iv xs) :: L) := by
  obtain ⟨p, s, h0, h1, hS⟩ := h
  refine ⟨p, s, h0, h1, ?_⟩
  have h2 := hS.new 2 (iv xs).toArray (by simp [iv_len]; unfold maxLen; omega)
  simp only [List.size_toArray, iv_len] at h2
  refine h2.perm ?_
  refine List.Perm.trans (List.perm_append_comm) ?_
  simp only [List.cons_append, List.nil_append]
  exact List.Perm.swap _ _ _

/-- one of some numbers that are written out -/
theorem among_lit (xs : List Int) (w0 w : World) (cv : Value) (bs : List UInt8) (g K : Nat) (L : List Ent) (hb : RdB w0 cv bs) (h : Src w0 w cv g K L) (hne : 0 < xs.length ∧ xs.length ≤ 1000)
    (hK : K < 1000000000000) :
    Calls Try.prog 38 #[.pointer (some ⟨g, 0, none⟩), .slice (some ⟨w.heap.size, 0, none⟩) xs.length xs.length] (w.alloc (.cells (iv xs).toArray 2)) (AmongPost xs fun w' => Src w0 w' cv g (K + 2) L) :=
  among_c w0 _ cv bs g K L _ xs hb (h.lit xs hne.2) hne.1 hK

theorem b10Long_c (w : World) (cv : Value) (bs : List UInt8) (hb : RdB w cv bs) :
    Calls Try.prog 7 #[cv] w fun e w' => e = .returned (.bool (decide (1048576 < bs.length))) ∧ w = w' := by
  have hln := hb.len
  go_enter Try.func7, Try.ntmps7
  go_wp2_with fail
  go_ret
  exact ⟨ret_bool (by simp; omega), rfl⟩

end Go.Proofs.Ytejncephbafcdaa
end
