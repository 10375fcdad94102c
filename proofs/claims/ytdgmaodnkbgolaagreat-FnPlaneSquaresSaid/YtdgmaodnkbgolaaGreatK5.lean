/- The texts of this claim, run 5: CF Sq PLat PCon Bo PMol Num Vs In PHad PDes. -/
import Derived.Test.YtdgmaodnkbgolaaGreatK1
import Derived.Test.YtdgmaodnkbgolaaGreatK2
import Derived.Test.YtdgmaodnkbgolaaGreatK3
import Derived.Test.YtdgmaodnkbgolaaGreatK4

section
/- Walks: slices.IndexFunc and slices.ContainsFunc on integers, for any function that only answers. -/
namespace Go.Proofs.YtdgmaodnkbgolaaGreat
set_option linter.unusedSimpArgs false
set_option linter.unusedVariables false
open Go.RowKit

/-- the first place from k on at which p holds, or -1 -/
def idxP (p : Int → Bool) (xs : List Int) (k : Nat) : Int := match (xs.drop k).findIdx? p with | some j => (k + j : Nat) | none => -1
def anyP (p : Int → Bool) (xs : List Int) : Bool := xs.any p

theorem idxP_step {p : Int → Bool} {xs : List Int} {k : Nat} (hk : k < xs.length) (h : p (nth xs k) = false) : idxP p xs k = idxP p xs (k + 1) := by
  rw [idxP, drop_nth hk, List.findIdx?_cons, h]
  simp only [idxP]
  cases (xs.drop (k + 1)).findIdx? p <;> simp <;> omega
theorem idxP_hit {p : Int → Bool} {xs : List Int} {k : Nat} (hk : k < xs.length) (h : p (nth xs k) = true) : idxP p xs k = k := by
  rw [idxP, drop_nth hk, List.findIdx?_cons, h]; simp
theorem idxP_end {p : Int → Bool} {xs : List Int} {k : Nat} (hk : xs.length ≤ k) : idxP p xs k = -1 := by
  rw [idxP, List.drop_of_length_le hk]; rfl
theorem idxP_any {p : Int → Bool} {xs : List Int} : decide (0 ≤ idxP p xs 0) = anyP p xs := by
  unfold idxP anyP
  rw [List.drop_zero]
  cases h : xs.findIdx? p with
  | none =>
    have hn : xs.any p = false := by
      rw [Bool.eq_false_iff]; intro hc
      obtain ⟨x, hx, hp⟩ := List.any_eq_true.1 hc
      have := List.findIdx?_eq_none_iff.1 h x hx
      rw [this] at hp; cases hp
    rw [hn]; simp
  | some j =>
    have hy : xs.any p = true := by
      obtain ⟨hj, hp, _⟩ := List.findIdx?_eq_some_iff_getElem.1 h
      exact List.any_eq_true.2 ⟨_, List.getElem_mem hj, hp⟩
    rw [hy]; simp

set_option maxHeartbeats 1000000 in
theorem IndexFunc_c (K : FuncId) (caps : Array Value) (p : Int → Bool) (v : Value) (xs : List Int) (w : World) (hv : RdI w v xs)
    (hcf : ∀ (args : Array Value) (W : World), (callFunc K args).run Tryz.prog W = .ok (.enter K args) W)
    (hK : ∀ (x : Int) (W : World), St w.heap.size w W [] → x ∈ xs → Calls Tryz.prog K (#[.int .i64 x] ++ caps) W (GivesB W (p x))) :
    Calls Tryz.prog 43 #[v, .func (.func K) #[] caps] w (GivesI w (idxP p xs 0)) := by
  have HK := Lib.hid hK
  clear hK
  have hln := hv.len
  have hix := hv.ix
  have hm := hv.le
  go_enter Tryz.func43, Tryz.ntmps43
  go_wp2_with fail
  go_loopw [5, 8] (fun _ i wr => ∃ k : Nat, k ≤ xs.length ∧ i = .int .i64 k ∧ Hid (idxP p xs 0 = idxP p xs k) ∧ St w.heap.size w wr []) (fun _ i _ => xs.length - (intOf i).toNat)
  case atStart => exact ⟨0, by omega, rfl, rfl, St.refl w⟩
  case round =>
    obtain ⟨k, hk, rfl, hI, hS⟩ := hrel
    by_cases hlt : k < xs.length
    · have hc := (hS.oldI hv).cell k hlt
      go_wp2_with fail
      refine (HK.out _ _ hS (nth_mem hlt)).mono ?_
      cases hp : p (nth xs k)
      · have Hp := Lib.hid hp; clear hp
        rintro e w2 ⟨rfl, h2⟩
        have hS2 := hS.call0 h2
        go_wp2_with fail
        go_roundw
        case rel => exact ⟨k + 1, by omega, by go_num, by rw [Hid, hI.out, idxP_step hlt Hp.out], hS2⟩
        case measure => simp [intOf]; omega
      · have Hp := Lib.hid hp; clear hp
        rintro e w2 ⟨rfl, h2⟩
        have hS2 := hS.call0 h2
        go_wp2_with fail
        go_ret
        exact ⟨ret_i64 (by rw [hI.out, idxP_hit hlt Hp.out]), hS2⟩
    · go_wp2_with fail
      go_ret
      exact ⟨ret_i64 (by rw [hI.out, idxP_end (by omega)]), hS⟩

theorem ContainsFunc_c (K : FuncId) (caps : Array Value) (p : Int → Bool) (v : Value) (xs : List Int) (w : World) (hv : RdI w v xs)
    (hcf : ∀ (args : Array Value) (W : World), (callFunc K args).run Tryz.prog W = .ok (.enter K args) W)
    (hK : ∀ (x : Int) (W : World), St w.heap.size w W [] → x ∈ xs → Calls Tryz.prog K (#[.int .i64 x] ++ caps) W (GivesB W (p x))) :
    Calls Tryz.prog 163 #[v, .func (.func K) #[] caps] w (GivesB w (anyP p xs)) := by
  have HK := Lib.hid hK
  clear hK
  go_enter Tryz.func163, Tryz.ntmps163
  go_wp2_with fail
  refine (IndexFunc_c K caps p v xs w hv hcf HK.out).mono ?_
  rintro e w1 ⟨rfl, h1⟩
  go_wp2_with fail
  go_ret
  exact ⟨ret_bool idxP_any, h1⟩
end Go.Proofs.YtdgmaodnkbgolaaGreat
end

section
/- Walks: squares that are made. -/
namespace Go.Proofs.YtdgmaodnkbgolaaGreat
set_option linter.unusedSimpArgs false
set_option linter.unusedVariables false
open Go.RowKit

theorem Tryz.info_iss : (Tryz.prog.info? 26).map (fun i => (i.zero, i.size, i.bytes)) = some (some (.slice none 0 0), 1, 24) := by kernel_rfl
section
variable {ops : Array Oper} {rest : List Oper} {o : Oper} {a : Act} {Q : Exit → Act → World → Prop} {B : Nat} {w0 w : World} {L : List Ent}
/-- append of one square to an owned row of squares -/
theorem appIII (hS : St B w0 w L) (i : Nat) {v : Value} {us : List Value} (hi : L[i]? = some (row 26 v us)) (hN : us.length < 4294967296) (hg : o.guard = none) (s x : Operand)
    (hop : o.op = .call { callee := .builtin .append, args := #[s, x], argTypes := #[24, 24] }) (hs : a.eval s = v) (u : Value) (hu : u.oneCell' = true) (hx : a.eval x = .slice (some ⟨w.heap.size, 0, none⟩) 1 1)
    (hK : ∀ v' w', St B w0 w' (L.set i (row 26 v' (us ++ [u]))) → wpList Tryz.prog ops Q rest (a.put o.dst v') w') :
    wpList Tryz.prog ops Q (o :: rest) a (w.alloc (.cells #[u] 26)) :=
  wpList_st_app1 hg s x 24 hop 26 (.slice none 0 0) 24 Tryz.und_isss Tryz.info_iss rfl hS i hi hs u hx hu (by omega) hN hK
end
/-- behind the append of a square of its own -/
theorem own3_snoc {B : Nat} {w0 w : World} {v v' u : Value} {vs : List Value} {uss : List (List Value)} {X : List (List (List Int))} {us : List Value} {x : List (List Int)} (h1 : vs.length = X.length) (h2 : uss.length = X.length)
    (h : St B w0 w ((own3 v vs uss X ++ own2 u us x).set 0 (row 26 v' (vs ++ [u])))) : St B w0 w (own3 v' (vs ++ [u]) (uss ++ [us]) (X ++ [x])) := by
  rw [own3, rows3_app _ _ _ h1 h2]
  exact h
theorem Fit3.snoc {vs : List Value} {uss : List (List Value)} {X : List (List (List Int))} (h : Fit3 vs uss X) (v : Value) {us : List Value} {x : List (List Int)} (hx : us.length = x.length) : Fit3 (vs ++ [v]) (uss ++ [us]) (X ++ [x]) :=
  ⟨by simp [h.1], by simp [h.2.1], fun k hk => by
    by_cases e : k < X.length
    · have e1 : vsat (uss ++ [us]) k = vsat uss k := by unfold vsat; rw [List.getD_eq_getElem?_getD, List.getElem?_append_left (by rw [h.2.1]; exact e), ← List.getD_eq_getElem?_getD]
      have e2 : x3at (X ++ [x]) k = x3at X k := by unfold x3at; rw [List.getD_eq_getElem?_getD, List.getElem?_append_left e, ← List.getD_eq_getElem?_getD]
      rw [e1, e2]; exact h.2.2 k e
    · have hk' : k = X.length := by simp at hk; omega
      have e1 : vsat (uss ++ [us]) k = us := by unfold vsat; rw [hk', ← h.2.1]; simp
      have e2 : x3at (X ++ [x]) k = x := by unfold x3at; rw [hk']; simp
      rw [e1, e2]; exact hx⟩

theorem RdI.shq {w : World} {v : Value} {xs : List Int} (h : RdI w v xs) : ∃ a c, v = .slice a xs.length c := by
  obtain ⟨a, c, hv⟩ := h.sl.sh
  rw [iv_len] at hv
  exact ⟨a, c, hv⟩
/-- a square by its entries -/
def sqF (n : Nat) (f : Nat → Nat → Int) : List (List Int) := (List.range n).map fun x => tab n (f x)
theorem sqF_len (n : Nat) (f : Nat → Nat → Int) : (sqF n f).length = n := by simp [sqF]
theorem xat_sqF {n : Nat} {f : Nat → Nat → Int} {x : Nat} (h : x < n) : xat (sqF n f) x = tab n (f x) := by simp [sqF, xat, h]
theorem sqF_take {n : Nat} {f : Nat → Nat → Int} {k : Nat} (h : k < n) : (sqF n f).take (k + 1) = (sqF n f).take k ++ [tab n (f k)] := by
  rw [take_xat (by rw [sqF_len]; exact h), xat_sqF h]
theorem tab_succ (k : Nat) (f : Nat → Int) : tab (k + 1) f = tab k f ++ [f k] := by simp [tab, List.range_succ]
set_option maxHeartbeats 2000000 in
set_option maxRecDepth 100000 in
theorem filledSquare_c (K : FuncId) (caps : Array Value) (f : Nat → Nat → Int) (n : Nat) (w : World) (hn : n ≤ 4096)
    (hcf : ∀ (args : Array Value) (W : World), (callFunc K args).run Tryz.prog W = .ok (.enter K args) W)
    (hK : ∀ (x y : Nat) (W : World), St w.heap.size w W [] → x < n → y < n → Calls Tryz.prog K (#[.int .i64 x, .int .i64 y] ++ caps) W (GivesI W (f x y))) :
    Calls Tryz.prog 32 #[.int .i64 n, .func (.func K) #[] caps] w (MakesII w (sqF n f)) := by
  have HK := Lib.hid hK
  clear hK
  have hS0 := (St.refl w).newnil 48
  go_enter Tryz.func32, Tryz.ntmps32
  go_wp2_with fail
  go_loopw [5, 6, 7, 8] (fun o ii _ _ wr => ∃ (k : Nat) (us : List Value), k ≤ n ∧ ii = .int .i64 k ∧ Hid (us.length = k) ∧ St w.heap.size w wr (own2 o us ((sqF n f).take k))) (fun _ ii _ _ _ => n - (intOf ii).toNat)
  case atStart => exact ⟨0, [], by omega, rfl, rfl, hS0⟩
  case round =>
    obtain ⟨k, us, hk, rfl, hl, hS⟩ := hrel
    have Hlu := Lib.hid (show us.length = ((sqF n f).take k).length by rw [List.length_take, sqF_len, hl.out]; omega)
    by_cases hlt : k < n
    · have hS1 := (hS.newnil 2).perm List.perm_append_comm
      simp only [List.cons_append, List.nil_append] at hS1
      have Hst := Lib.hid (sqF_take (f := f) hlt)
      go_wp2_with fail
      go_loopw [7, 8] (fun r jj wx => ∃ j : Nat, j ≤ n ∧ jj = .int .i64 j ∧ St w.heap.size w wx (row 2 r (iv (tab j (f k))) :: own2 u5 us ((sqF n f).take k))) (fun _ jj _ => n - (intOf jj).toNat)
      case atStart => exact ⟨0, by omega, rfl, hS1⟩
      case round =>
        obtain ⟨j, hj, rfl, hS2⟩ := hrel
        by_cases hjn : j < n
        · have Hts := Lib.hid (tab_succ j (f k))
          have Htl := Lib.hid (show (tab j (f k)).length < 4294967296 by rw [tab_len]; omega)
          go_wp2_with fail
          refine (HK.out k j _ hS2.out hlt hjn).mono ?_
          rintro e w3 ⟨rfl, h3⟩
          have hS3 := hS2.call0 h3
          go_wp2_with (at_builtin; refine appI hS3 0 rfl Htl.out rfl _ _ rfl rfl _ rfl ?_; intro v4 w4 hS4)
          go_roundw
          case rel => exact ⟨j + 1, by omega, by go_num, by rw [Hts.out]; exact hS4⟩
          case measure => simp [intOf]; omega
        · have hje : j = n := by omega
          rw [hje] at hS2
          clear hje
          obtain ⟨ar, cr, hre⟩ := (hS2.rdI 0 rfl).shq
          subst hre
          have Htl := Lib.hid (show (tab n (f k)).length = n from tab_len _ _)
          go_wp2_with (at_builtin; refine appII hS2 1 rfl (by rw [hl.out]; omega) rfl _ _ rfl rfl _ rfl rfl ?_; intro v4 w4 hS4)
          go_roundw
          case rel =>
            refine ⟨k + 1, us ++ [.slice ar (tab n (f k)).length cr], by omega, by go_num, by simp [Hid, hl.out], ?_⟩
            rw [Hst.out, own2, rowsI_app Hlu.out]
            simp only [own2, List.set_cons_succ, List.set_cons_zero] at hS4
            exact hS4.perm (by (try simp only [own2, List.cons_append, List.nil_append, List.append_nil]); classical exact List.perm_iff_count.2 (fun a => by simp only [List.cons_append, List.nil_append, List.append_nil, List.count_append, List.count_cons, List.count_nil] <;> omega))
          case measure => simp [intOf]; omega
    · have hke : k = n := by omega
      have HL := Lib.hid (show us.length = (sqF n f).length by rw [hl.out, sqF_len, hke])
      rw [hke, List.take_of_length_le (by rw [sqF_len]; exact Nat.le_refl _)] at hS
      clear hke
      go_wp2_with fail
      go_ret
      exact ⟨_, us, rfl, HL.out, hS⟩
theorem emptySquare1_c (x y : Int) (w : World) : Calls Tryz.prog 180 #[.int .i64 x, .int .i64 y] w (GivesI w 0) := by
  go_enter Tryz.func180, Tryz.ntmps180
  go_wp2_with fail
  go_ret
  exact ⟨rfl, St.refl w⟩
theorem emptySquare_c (n : Nat) (w : World) (hn : n ≤ 4096) : Calls Tryz.prog 162 #[.int .i64 n] w (MakesII w (sqF n fun _ _ => 0)) := by
  have hcf := callFunc_go Tryz.func180 (by kernel_rfl) (by kernel_rfl)
  have hcall := Lib.hid (filledSquare_c 180 #[] (fun _ _ => 0) n w hn hcf (fun x y W _ _ _ => emptySquare1_c x y W))
  clear hcf
  go_enter Tryz.func162, Tryz.ntmps162
  go_wp2_with fail
  refine hcall.out.mono ?_
  rintro e w1 ⟨v, us, rfl, hl, h1⟩
  have Hl := Lib.hid hl
  clear hl
  go_wp2_with fail
  go_ret
  exact ⟨v, us, rfl, Hl.out, h1⟩
set_option maxHeartbeats 2000000 in
set_option maxRecDepth 100000 in
theorem l06Zero_c (n : Nat) (w : World) (hn : n ≤ 4096) : Calls Tryz.prog 69 #[.int .i64 n, .int .i64 n] w (MakesII w (sqF n fun _ _ => 0)) := by
  have hS0 := (St.refl w).new 48 #[] (by simp)
  have Hrep := Lib.hid (show List.replicate n (0 : Int) = tab n fun _ => 0 by
    refine cf_ext (by rw [tab_len]; simp) fun j hj => ?_
    have : j < n := by simpa using hj
    rw [cf_tab this]; simp [cf, this])
  go_enter Tryz.func69, Tryz.ntmps69
  go_wp2_with fail
  go_loopw [5, 6] (fun o ii wr => ∃ (k : Nat) (us : List Value), k ≤ n ∧ ii = .int .i64 k ∧ Hid (us.length = k) ∧ St w.heap.size w wr (own2 o us ((sqF n fun _ _ => 0).take k))) (fun _ ii _ => n - (intOf ii).toNat)
  case atStart => exact ⟨0, [], by omega, rfl, rfl, hS0⟩
  case round =>
    obtain ⟨k, us, hk, rfl, hl, hS⟩ := hrel
    have Hlu := Lib.hid (show us.length = ((sqF n fun _ _ => 0).take k).length by rw [List.length_take, sqF_len, hl.out]; omega)
    by_cases hlt : k < n
    · have Hst := Lib.hid (sqF_take (f := fun _ _ => 0) hlt)
      have Hul := Lib.hid (show us.length < 4294967296 by rw [hl.out]; omega)
      go_wp2_with (first
        | (at_make
           refine mkI hS rfl _ _ rfl _ _ n rfl rfl (by omega) ?_
           intro v3 w3 hS3
           rw [Hrep.out] at hS3
           obtain ⟨a3, c3, he3⟩ := ((hS3.perm List.perm_append_comm).rdI 0 rfl).shq
           subst he3)
        | (at_builtin
           refine appII hS3 0 rfl Hul.out rfl _ _ rfl rfl _ rfl rfl ?_
           intro v4 w4 hS4))
      go_roundw
      case rel =>
        refine ⟨k + 1, us ++ [.slice a3 (tab n fun _ => 0).length c3], by omega, by go_num, by simp [Hid, hl.out], ?_⟩
        rw [Hst.out]
        exact own2_snoc Hlu.out hS4
      case measure => simp [intOf]; omega
    · have hke : k = n := by omega
      have HL := Lib.hid (show us.length = (sqF n fun _ _ => 0).length by rw [hl.out, sqF_len, hke])
      rw [hke, List.take_of_length_le (by rw [sqF_len]; exact Nat.le_refl _)] at hS
      clear hke
      go_wp2_with fail
      go_ret
      exact ⟨_, us, rfl, HL.out, hS⟩
end Go.Proofs.YtdgmaodnkbgolaaGreat
end

section
/- Latin squares as lists of lists, their isotopes. In plain terms. -/
namespace Go.Proofs.YtdgmaodnkbgolaaGreat
set_option linter.unusedSimpArgs false
set_option linter.unusedVariables false
/-- the entry of a place -/
def at2 (A : List (List Int)) (x y : Nat) : Int := nth (xat A x) y
/-- a square of n rows and columns -/
structure Sqr (n : Nat) (A : List (List Int)) : Prop where
  len : A.length = n
  row : ∀ x, x < n → (xat A x).length = n
/-- its entries are below n -/
structure Sq0 (n : Nat) (A : List (List Int)) : Prop extends Sqr n A where
  el : ∀ x y, x < n → y < n → 0 ≤ at2 A x y ∧ at2 A x y < n
def colL (A : List (List Int)) (y : Nat) : List Int := A.map fun r => nth r y
theorem colL_len (A : List (List Int)) (y : Nat) : (colL A y).length = A.length := by simp [colL]
theorem nth_colL {A : List (List Int)} {y x : Nat} (h : x < A.length) : nth (colL A y) x = at2 A x y := by simp [colL, nth, at2, xat, h]
/-- a Latin square of at most 10 rows -/
structure Lat (A : List (List Int)) : Prop where
  pos : 1 ≤ A.length
  le : A.length ≤ 10
  len : ∀ x, x < A.length → (xat A x).length = A.length
  row : ∀ x, x < A.length → IsP (xat A x)
  col : ∀ y, y < A.length → IsP (colL A y)
open Classical in
noncomputable def latB (A : List (List Int)) : Bool := decide (Lat A)
theorem latB_t {A : List (List Int)} (h : latB A = true) : Lat A := by simpa [latB] using h
theorem latB_yes {A : List (List Int)} (h : Lat A) : latB A = true := by simp [latB, h]
theorem latB_no {A : List (List Int)} (h : ¬ Lat A) : latB A = false := by simp [latB, h]
theorem Lat.sq0 {A : List (List Int)} (h : Lat A) : Sq0 A.length A where
  len := rfl
  row := h.len
  el x y hx hy := by have := (h.row x hx).lt y (by rw [h.len x hx]; exact hy); rw [h.len x hx] at this; exact this
theorem sq_ext {n : Nat} {A B : List (List Int)} (hA : Sqr n A) (hB : Sqr n B) (h : ∀ x y, x < n → y < n → at2 A x y = at2 B x y) : A = B := by
  apply List.ext_getElem (hA.len.trans hB.len.symm)
  intro x h1 h2
  have hx : x < n := by rw [← hA.len]; exact h1
  have e1 : A[x] = xat A x := by simp [xat, h1]
  have e2 : B[x] = xat B x := by simp [xat, h2]
  rw [e1, e2]
  refine nth_ext (by rw [hA.row x hx, hB.row x hx]) fun y hy => h x y hx (by rw [← hA.row x hx]; exact hy)
theorem sq_ext2 {n : Nat} {A B : List (List Int)} {r c : List Int} (hr : IsP r) (hc : IsP c) (hrl : r.length = n) (hcl : c.length = n) (hA : Sqr n A) (hB : Sqr n B)
    (h : ∀ x y, x < n → y < n → at2 A (pf r x) (pf c y) = at2 B (pf r x) (pf c y)) : A = B := by
  refine sq_ext hA hB fun x y hx hy => ?_
  obtain ⟨x', hx', rfl⟩ := hr.bij.onto (y := x) (by omega)
  obtain ⟨y', hy', rfl⟩ := hc.bij.onto (y := y) (by omega)
  exact h x' y' (by omega) (by omega)
theorem at2_sqF {n : Nat} {f : Nat → Nat → Int} {x y : Nat} (hx : x < n) (hy : y < n) : at2 (sqF n f) x y = f x y := by
  unfold at2; rw [xat_sqF hx]; simp [tab, nth, hy]
theorem sqF_sqr (n : Nat) (f : Nat → Nat → Int) : Sqr n (sqF n f) := ⟨sqF_len n f, fun x hx => by rw [xat_sqF hx, tab_len]⟩
/-- one entry anew -/
def putS (S : List (List Int)) (x y : Nat) (v : Int) : List (List Int) := S.set x ((xat S x).set y v)
theorem xat_putS {n : Nat} {S : List (List Int)} (h : Sqr n S) {x : Nat} (hx : x < n) (y : Nat) (v : Int) (t : Nat) : xat (putS S x y v) t = if x = t then (xat S x).set y v else xat S t := by
  unfold putS xat
  rw [List.getD_eq_getElem?_getD, List.getElem?_set]
  split
  · rename_i e; subst e; rw [if_pos (by rw [h.len]; exact hx)]; rfl
  · simp
theorem putS_sqr {n : Nat} {S : List (List Int)} (h : Sqr n S) {x : Nat} (hx : x < n) (y : Nat) (v : Int) : Sqr n (putS S x y v) := by
  refine ⟨by unfold putS; rw [List.length_set]; exact h.len, fun t ht => ?_⟩
  rw [xat_putS h hx]
  split
  · rw [List.length_set]; exact h.row x hx
  · exact h.row t ht
theorem at2_putS {n : Nat} {S : List (List Int)} (h : Sqr n S) {x y : Nat} (hx : x < n) (hy : y < n) (v : Int) (t u : Nat) : at2 (putS S x y v) t u = if x = t ∧ y = u then v else at2 S t u := by
  unfold at2
  rw [xat_putS h hx]
  by_cases e : x = t
  · subst e
    rw [if_pos rfl, nth_set (by rw [h.row x hx]; exact hy)]
    by_cases e2 : y = u
    · rw [if_pos e2, if_pos ⟨rfl, e2⟩]
    · rw [if_neg e2, if_neg fun h => e2 h.2]
  · rw [if_neg e, if_neg fun h => e h.1]
theorem putS_sq0 {n : Nat} {S : List (List Int)} (h : Sq0 n S) {x y : Nat} (hx : x < n) (hy : y < n) {v : Int} (h0 : 0 ≤ v) (h1 : v < n) : Sq0 n (putS S x y v) := by
  refine ⟨putS_sqr h.toSqr hx y v, fun t u ht hu => ?_⟩
  rw [at2_putS h.toSqr hx hy]
  split
  · exact ⟨h0, h1⟩
  · exact h.el t u ht hu
/-! ### isotopes -/
def isoL (A : List (List Int)) (r c s : List Int) : List (List Int) := sqF A.length fun x y => nth s (at2 A (pf (invL r) x) (pf (invL c) y)).toNat
theorem pf_invL {xs : List Int} (h : IsP xs) {j : Nat} (hj : j < xs.length) : pf (invL xs) (pf xs j) = j := by unfold pf; rw [show nth (invL xs) (nth xs j).toNat = j from nth_invL h hj]; rfl
theorem isoL_sqr (A : List (List Int)) (r c s : List Int) : Sqr A.length (isoL A r c s) := sqF_sqr _ _
theorem isoL_at {A : List (List Int)} {r c s : List Int} (hr : IsP r) (hc : IsP c) (hrl : r.length = A.length) (hcl : c.length = A.length) {x y : Nat} (hx : x < A.length) (hy : y < A.length) :
    at2 (isoL A r c s) (pf r x) (pf c y) = nth s (at2 A x y).toNat := by
  have h1 : pf r x < A.length := by rw [← hrl]; exact hr.pf_lt (by omega)
  have h2 : pf c y < A.length := by rw [← hcl]; exact hc.pf_lt (by omega)
  unfold isoL
  rw [at2_sqF h1 h2, pf_invL hr (by omega), pf_invL hc (by omega)]
/-- the isotope, made as far as place y of row x -/
structure IsoP (A : List (List Int)) (r c s : List Int) (x y : Nat) (S : List (List Int)) : Prop where
  sqr : Sqr A.length S
  at' : ∀ x' y', x' < A.length → y' < A.length → (x' < x ∨ x' = x ∧ y' < y) → at2 S (pf r x') (pf c y') = nth s (at2 A x' y').toNat
section
variable {A : List (List Int)} {r c s : List Int}
theorem IsoP.start : IsoP A r c s 0 0 (sqF A.length fun _ _ => 0) := ⟨sqF_sqr _ _, fun _ _ _ _ h => by omega⟩
theorem IsoP.step (hr : IsP r) (hc : IsP c) (hrl : r.length = A.length) (hcl : c.length = A.length) {x y : Nat} {S : List (List Int)} (h : IsoP A r c s x y S) (hx : x < A.length) (hy : y < A.length) :
    IsoP A r c s x (y + 1) (putS S (pf r x) (pf c y) (nth s (at2 A x y).toNat)) := by
  have h1 : pf r x < A.length := by rw [← hrl]; exact hr.pf_lt (by omega)
  have h2 : pf c y < A.length := by rw [← hcl]; exact hc.pf_lt (by omega)
  refine ⟨putS_sqr h.sqr h1 _ _, fun x' y' hx' hy' hl => ?_⟩
  rw [at2_putS h.sqr h1 h2]
  split
  · rename_i e
    rw [hr.bij.inj x x' (by omega) (by omega) e.1, hc.bij.inj y y' (by omega) (by omega) e.2]
  · rename_i e
    refine h.at' x' y' hx' hy' ?_
    rcases hl with hl | ⟨rfl, hl⟩
    · exact .inl hl
    · refine .inr ⟨rfl, ?_⟩
      by_cases e2 : y' = y
      · subst e2; exact absurd ⟨rfl, rfl⟩ e
      · omega
theorem IsoP.next {x : Nat} {S : List (List Int)} (h : IsoP A r c s x A.length S) : IsoP A r c s (x + 1) 0 S :=
  ⟨h.sqr, fun x' y' hx' hy' hl => h.at' x' y' hx' hy' (by omega)⟩
theorem IsoP.done (hr : IsP r) (hc : IsP c) (hrl : r.length = A.length) (hcl : c.length = A.length) {S : List (List Int)} (h : IsoP A r c s A.length 0 S) : S = isoL A r c s :=
  sq_ext2 hr hc hrl hcl h.sqr (isoL_sqr A r c s) fun x y hx hy => by
    rw [h.at' x y hx hy (.inl hx), isoL_at hr hc hrl hcl hx hy]
end
end Go.Proofs.YtdgmaodnkbgolaaGreat
end

section
/- Isotopes and conjugates of Latin squares, in plain terms. Conjugates of Latin squares as lists of lists. In plain terms. -/
namespace Go.Proofs.YtdgmaodnkbgolaaGreat
set_option linter.unusedSimpArgs false
set_option linter.unusedVariables false

structure Latin (n : Nat) (a : Nat → Nat → Nat) : Prop where
  row : ∀ x, x < n → Bij n (a x)
  col : ∀ y, y < n → Bij n fun x => a x y
def IsoOf (n : Nat) (a : Nat → Nat → Nat) (r c s : Nat → Nat) (b : Nat → Nat → Nat) : Prop := ∀ x y, x < n → y < n → b (r x) (c y) = s (a x y)
section
variable {n : Nat} {a b d : Nat → Nat → Nat} {r c s q : Nat → Nat}
theorem IsoOf.uniq (hr : Bij n r) (hc : Bij n c) (h1 : IsoOf n a r c s b) (h2 : IsoOf n a r c s d) {x y : Nat} (hx : x < n) (hy : y < n) : b x y = d x y := by
  obtain ⟨x', hx', rfl⟩ := hr.onto hx
  obtain ⟨y', hy', rfl⟩ := hc.onto hy
  rw [h1 x' y' hx' hy', h2 x' y' hx' hy']
theorem IsoOf.comp {r' c' s' : Nat → Nat} (hr : Bij n r) (hc : Bij n c) (h1 : IsoOf n a r c s b) (h2 : IsoOf n b r' c' s' d) : IsoOf n a (fun x => r' (r x)) (fun x => c' (c x)) (fun x => s' (s x)) d := fun x y hx hy => by
  show d (r' (r x)) (c' (c y)) = s' (s (a x y))
  rw [h2 _ _ (hr.lt x hx) (hc.lt y hy), h1 x y hx hy]
theorem IsoOf.back {ri ci si : Nat → Nat} (hl : Latin n a) (hr : Bij n r) (hc : Bij n c) (h1 : IsoOf n a r c s b) (h2 : IsoOf n b ri ci si d) (er : ∀ x, x < n → ri (r x) = x) (ec : ∀ x, x < n → ci (c x) = x) (es : ∀ x, x < n → si (s x) = x)
    {x y : Nat} (hx : x < n) (hy : y < n) : d x y = a x y := by
  have := h2 _ _ (hr.lt x hx) (hc.lt y hy)
  rw [er x hx, ec y hy, h1 x y hx hy, es _ ((hl.row x hx).lt y hy)] at this
  exact this
theorem IsoOf.latin (hl : Latin n a) (hr : Bij n r) (hc : Bij n c) (hs : Bij n s) (h : IsoOf n a r c s b) : Latin n b where
  row x hx := by
    obtain ⟨x', hx', rfl⟩ := hr.onto hx
    refine ⟨fun y hy => ?_, fun y z hy hz e => ?_⟩
    · obtain ⟨y', hy', rfl⟩ := hc.onto hy
      rw [h x' y' hx' hy']; exact hs.lt _ ((hl.row x' hx').lt y' hy')
    · obtain ⟨y', hy', rfl⟩ := hc.onto hy
      obtain ⟨z', hz', rfl⟩ := hc.onto hz
      rw [h x' y' hx' hy', h x' z' hx' hz'] at e
      rw [(hl.row x' hx').inj y' z' hy' hz' (hs.inj _ _ ((hl.row x' hx').lt y' hy') ((hl.row x' hx').lt z' hz') e)]
  col y hy := by
    obtain ⟨y', hy', rfl⟩ := hc.onto hy
    refine ⟨fun x hx => ?_, fun x z hx hz e => ?_⟩
    · obtain ⟨x', hx', rfl⟩ := hr.onto hx
      rw [h x' y' hx' hy']; exact hs.lt _ ((hl.row x' hx').lt y' hy')
    · obtain ⟨x', hx', rfl⟩ := hr.onto hx
      obtain ⟨z', hz', rfl⟩ := hr.onto hz
      rw [h x' y' hx' hy', h z' y' hz' hy'] at e
      rw [(hl.col y' hy').inj x' z' hx' hz' (hs.inj _ _ ((hl.row x' hx').lt y' hy') ((hl.row z' hz').lt y' hy') e)]
/-- the triple of a place -/
def tri (x y s : Nat) : Nat → Nat := fun i => if i = 0 then x else if i = 1 then y else s
def ConjOf (n : Nat) (a : Nat → Nat → Nat) (p : Nat → Nat) (b : Nat → Nat → Nat) : Prop := ∀ x y, x < n → y < n → b (tri x y (a x y) (p 0)) (tri x y (a x y) (p 1)) = tri x y (a x y) (p 2)
theorem tri_lt {x y s : Nat} (hx : x < n) (hy : y < n) (hs : s < n) (i : Nat) : tri x y s i < n := by
  unfold tri; split
  · exact hx
  · split
    · exact hy
    · exact hs
theorem ConjOf.comp {p q : Nat → Nat} (hl : Latin n a) (hq : Bij 3 q) (h1 : ConjOf n a p b) (h2 : ConjOf n b q d) : ConjOf n a (fun i => p (q i)) d := fun x y hx hy => by
  have hs := (hl.row x hx).lt y hy
  have h := h2 _ _ (tri_lt hx hy hs (p 0)) (tri_lt hx hy hs (p 1))
  rw [h1 x y hx hy] at h
  have e : ∀ i, i < 3 → tri (tri x y (a x y) (p 0)) (tri x y (a x y) (p 1)) (tri x y (a x y) (p 2)) i = tri x y (a x y) (p i) := fun i hi => by
    rcases i with _ | _ | _ | i
    · rfl
    · rfl
    · rfl
    · omega
  rw [e _ (hq.lt 0 (by omega)), e _ (hq.lt 1 (by omega)), e _ (hq.lt 2 (by omega))] at h
  exact h
end

section
variable {n : Nat} {a : Nat → Nat → Nat}
/-- two of the three numbers of a place tell it -/
theorem tri_inj (hl : Latin n a) {i j : Nat} (hi : i < 3) (hj : j < 3) (hij : i ≠ j) {x y x' y' : Nat} (hx : x < n) (hy : y < n) (hx' : x' < n) (hy' : y' < n)
    (e1 : tri x y (a x y) i = tri x' y' (a x' y') i) (e2 : tri x y (a x y) j = tri x' y' (a x' y') j) : x = x' ∧ y = y' := by
  have r : ∀ y y', y < n → y' < n → x = x' → a x y = a x' y' → y = y' := fun y y' hy hy' e h => by subst e; exact (hl.row x hx).inj y y' hy hy' h
  have c : y = y' → a x y = a x' y' → x = x' := fun e h => by subst e; exact (hl.col y hy).inj x x' hx hx' h
  rcases i with _ | _ | _ | i <;> rcases j with _ | _ | _ | j <;> simp [tri] at e1 e2 hij <;> first | omega | skip
  all_goals first
    | exact ⟨e1, r y y' hy hy' e1 e2⟩
    | exact ⟨c e1 e2, e1⟩
    | exact ⟨e2, r y y' hy hy' e2 e1⟩
    | exact ⟨c e2 e1, e2⟩
theorem tri_onto (hl : Latin n a) {i j : Nat} (hi : i < 3) (hj : j < 3) (hij : i ≠ j) {u v : Nat} (hu : u < n) (hv : v < n) :
    ∃ x y, x < n ∧ y < n ∧ tri x y (a x y) i = u ∧ tri x y (a x y) j = v := by
  rcases i with _ | _ | _ | i <;> rcases j with _ | _ | _ | j <;> first | omega | skip
  · exact ⟨u, v, hu, hv, rfl, rfl⟩
  · obtain ⟨y, hy, e⟩ := (hl.row u hu).onto hv
    exact ⟨u, y, hu, hy, rfl, e⟩
  · exact ⟨v, u, hv, hu, rfl, rfl⟩
  · obtain ⟨x, hx, e⟩ := (hl.col u hu).onto hv
    exact ⟨x, u, hx, hu, rfl, e⟩
  · obtain ⟨y, hy, e⟩ := (hl.row v hv).onto hu
    exact ⟨v, y, hv, hy, e, rfl⟩
  · obtain ⟨x, hx, e⟩ := (hl.col v hv).onto hu
    exact ⟨x, v, hx, hv, e, rfl⟩
end
def af (A : List (List Int)) (x y : Nat) : Nat := (at2 A x y).toNat
theorem Lat.latin {A : List (List Int)} (h : Lat A) : Latin A.length (af A) where
  row x hx := by
    have := (h.row x hx).bij
    rw [h.len x hx] at this
    exact this
  col y hy := by
    have := (h.col y hy).bij
    rw [colL_len] at this
    refine ⟨fun x hx => ?_, fun x z hx hz e => this.inj x z hx hz ?_⟩
    · have h2 := this.lt x hx
      unfold pf at h2; rw [nth_colL hx] at h2; exact h2
    · unfold pf; rw [nth_colL hx, nth_colL hz]; exact e
/-- number i of the place of a square -/
def trA (A : List (List Int)) (x y i : Nat) : Nat := tri x y (af A x y) i
structure ConR (A : List (List Int)) (p : List Int) (B : List (List Int)) : Prop where
  sqr : Sqr A.length B
  at' : ∀ x y, x < A.length → y < A.length → at2 B (trA A x y (pf p 0)) (trA A x y (pf p 1)) = trA A x y (pf p 2)
structure ConP (A : List (List Int)) (p : List Int) (x y : Nat) (B : List (List Int)) : Prop where
  sqr : Sqr A.length B
  at' : ∀ x' y', x' < A.length → y' < A.length → (x' < x ∨ x' = x ∧ y' < y) → at2 B (trA A x' y' (pf p 0)) (trA A x' y' (pf p 1)) = trA A x' y' (pf p 2)
section
variable {A B C D : List (List Int)} {p q : List Int}
theorem trA_lt (h : Lat A) {x y : Nat} (hx : x < A.length) (hy : y < A.length) (i : Nat) : trA A x y i < A.length := tri_lt hx hy ((h.latin.row x hx).lt y hy) i
theorem p3_lt (hp : IsP p) (h3 : p.length = 3) {i : Nat} (hi : i < 3) : pf p i < 3 := by have := hp.pf_lt (j := i) (by omega); omega
theorem p3_ne (hp : IsP p) (h3 : p.length = 3) {i j : Nat} (hi : i < 3) (hj : j < 3) (h : i ≠ j) : pf p i ≠ pf p j := fun e => h (hp.bij.inj i j (by omega) (by omega) e)
theorem ConP.start : ConP A p 0 0 (sqF A.length fun _ _ => 0) := ⟨sqF_sqr _ _, fun _ _ _ _ h => by omega⟩
theorem ConP.step (hA : Lat A) (hp : IsP p) (h3 : p.length = 3) {x y : Nat} {S : List (List Int)} (h : ConP A p x y S) (hx : x < A.length) (hy : y < A.length) :
    ConP A p x (y + 1) (putS S (trA A x y (pf p 0)) (trA A x y (pf p 1)) (trA A x y (pf p 2))) := by
  have h1 := trA_lt hA hx hy (pf p 0)
  have h2 := trA_lt hA hx hy (pf p 1)
  refine ⟨putS_sqr h.sqr h1 _ _, fun x' y' hx' hy' hl => ?_⟩
  rw [at2_putS h.sqr h1 h2]
  split
  · rename_i e
    obtain ⟨rfl, rfl⟩ := tri_inj hA.latin (p3_lt hp h3 (by omega)) (p3_lt hp h3 (by omega)) (p3_ne hp h3 (i := 0) (j := 1) (by omega) (by omega) (by omega)) hx hy hx' hy' e.1 e.2
    rfl
  · rename_i e
    refine h.at' x' y' hx' hy' ?_
    rcases hl with hl | ⟨rfl, hl⟩
    · exact .inl hl
    · refine .inr ⟨rfl, ?_⟩
      by_cases e2 : y' = y
      · subst e2; exact absurd ⟨rfl, rfl⟩ e
      · omega
theorem ConP.next {x : Nat} {S : List (List Int)} (h : ConP A p x A.length S) : ConP A p (x + 1) 0 S :=
  ⟨h.sqr, fun x' y' hx' hy' hl => h.at' x' y' hx' hy' (by omega)⟩
theorem ConP.done {S : List (List Int)} (h : ConP A p A.length 0 S) : ConR A p S := ⟨h.sqr, fun x y hx hy => h.at' x y hx hy (.inl hx)⟩
theorem ConR.uniq (hA : Lat A) (hp : IsP p) (h3 : p.length = 3) (h1 : ConR A p B) (h2 : ConR A p C) : B = C :=
  sq_ext h1.sqr h2.sqr fun u v hu hv => by
    obtain ⟨x, y, hx, hy, rfl, rfl⟩ := tri_onto hA.latin (p3_lt hp h3 (i := 0) (by omega)) (p3_lt hp h3 (i := 1) (by omega)) (p3_ne hp h3 (by omega) (by omega) (by omega)) hu hv
    have e1 := h1.at' x y hx hy
    have e2 := h2.at' x y hx hy
    unfold trA at e1 e2
    rw [e1, e2]
theorem ConR.el (hA : Lat A) (hp : IsP p) (h3 : p.length = 3) (h : ConR A p B) : Sq0 A.length B := by
  refine ⟨h.sqr, fun u v hu hv => ?_⟩
  obtain ⟨x, y, hx, hy, rfl, rfl⟩ := tri_onto hA.latin (p3_lt hp h3 (i := 0) (by omega)) (p3_lt hp h3 (i := 1) (by omega)) (p3_ne hp h3 (by omega) (by omega) (by omega)) hu hv
  have e1 := h.at' x y hx hy
  have e2 := trA_lt hA hx hy (pf p 2)
  unfold trA at e1 e2
  rw [e1]; omega
/-- conjugates are Latin squares -/
theorem ConR.lat (hA : Lat A) (hp : IsP p) (h3 : p.length = 3) (h : ConR A p B) : Lat B := by
  have h0 := h.el hA hp h3
  have hb := h.sqr.len
  have on := fun {u v : Nat} (hu : u < A.length) (hv : v < A.length) => tri_onto hA.latin (p3_lt hp h3 (i := 0) (by omega)) (p3_lt hp h3 (i := 1) (by omega)) (p3_ne hp h3 (by omega) (by omega) (by omega)) hu hv
  refine ⟨by rw [hb]; exact hA.pos, by rw [hb]; exact hA.le, fun x hx => by rw [hb] at hx ⊢; exact h0.row x hx, fun u hu => ?_, fun v hv => ?_⟩
  · rw [hb] at hu
    refine ⟨fun v hv => ?_, fun v v' hv hv' e => ?_⟩
    · rw [h0.row u hu] at hv ⊢; exact h0.el u v hu hv
    · rw [h0.row u hu] at hv hv'
      obtain ⟨x, y, hx, hy, e1, e2⟩ := on hu hv
      obtain ⟨x', y', hx', hy', e1', e2'⟩ := on hu hv'
      have f1 := h.at' x y hx hy
      have f2 := h.at' x' y' hx' hy'
      unfold trA at f1 f2
      rw [e1, e2] at f1
      rw [e1', e2'] at f2
      have e' : at2 B u v = at2 B u v' := e
      rw [f1, f2] at e'
      obtain ⟨rfl, rfl⟩ := tri_inj hA.latin (p3_lt hp h3 (by omega)) (p3_lt hp h3 (by omega)) (p3_ne hp h3 (i := 0) (j := 2) (by omega) (by omega) (by omega)) hx hy hx' hy' (e1.trans e1'.symm) (by omega)
      rw [← e2, ← e2']
  · rw [hb] at hv
    refine ⟨fun u hu => ?_, fun u u' hu hu' e => ?_⟩
    · rw [colL_len, hb] at hu ⊢; rw [nth_colL (by rw [hb]; exact hu)]; exact h0.el u v hu hv
    · rw [colL_len, hb] at hu hu'
      rw [nth_colL (by rw [hb]; exact hu), nth_colL (by rw [hb]; exact hu')] at e
      obtain ⟨x, y, hx, hy, e1, e2⟩ := on hu hv
      obtain ⟨x', y', hx', hy', e1', e2'⟩ := on hu' hv
      have f1 := h.at' x y hx hy
      have f2 := h.at' x' y' hx' hy'
      unfold trA at f1 f2
      rw [e1, e2] at f1
      rw [e1', e2'] at f2
      rw [f1, f2] at e
      obtain ⟨rfl, rfl⟩ := tri_inj hA.latin (p3_lt hp h3 (by omega)) (p3_lt hp h3 (by omega)) (p3_ne hp h3 (i := 1) (j := 2) (by omega) (by omega) (by omega)) hx hy hx' hy' (e2.trans e2'.symm) (by omega)
      rw [← e1, ← e1']
/-- conjugates of conjugates -/
theorem ConR.comp (hA : Lat A) (hp : IsP p) (hq : IsP q) (h3 : p.length = 3) (hq3 : q.length = 3) (h1 : ConR A p B) (h2 : ConR B q C) : ConR A (cmpL q p) C := by
  have hb := h1.sqr.len
  have hl := hA.latin
  refine ⟨by rw [← hb]; exact h2.sqr, fun x y hx hy => ?_⟩
  have c1 : ConjOf A.length (af A) (pf p) (af B) := fun x y hx hy => by
    have := h1.at' x y hx hy
    show (at2 B (trA A x y (pf p 0)) (trA A x y (pf p 1))).toNat = trA A x y (pf p 2)
    rw [this]; simp
  have c2 : ConjOf A.length (af B) (pf q) (af C) := fun x y hx hy => by
    have := h2.at' x y (by omega) (by omega)
    show (at2 C (trA B x y (pf q 0)) (trA B x y (pf q 1))).toNat = trA B x y (pf q 2)
    rw [this]; simp
  have hq' : Bij 3 (pf q) := by have := hq.bij; rwa [hq3] at this
  have c3 := ConjOf.comp hl hq' c1 c2 x y hx hy
  rw [pf_cmpL (by omega), pf_cmpL (by omega), pf_cmpL (by omega)]
  have hz := h2.el (h1.lat hA hp h3) hq hq3
  have z := hz.el (trA A x y (pf p (pf q 0))) (trA A x y (pf p (pf q 1))) (by rw [hb]; exact trA_lt hA hx hy _) (by rw [hb]; exact trA_lt hA hx hy _)
  have e : (af C (trA A x y (pf p (pf q 0))) (trA A x y (pf p (pf q 1))) : Int) = trA A x y (pf p (pf q 2)) := by
    unfold trA; exact congrArg Int.ofNat c3
  rw [← e]; unfold af; omega
end

end Go.Proofs.YtdgmaodnkbgolaaGreat
end

section
/- Slices of truth values. -/
namespace Go.Proofs.YtdgmaodnkbgolaaGreat
set_option linter.unusedSimpArgs false
set_option linter.unusedVariables false
open Go.RowKit
/-- the cells of a list of truth values -/
def bo (xs : List Bool) : List Value := xs.map Value.bool
/-- element j -/
def bat (xs : List Bool) (j : Nat) : Bool := xs.getD j false
theorem bo_len (xs : List Bool) : (bo xs).length = xs.length := by simp [bo]
theorem bo_get {xs : List Bool} {j : Nat} (h : j < xs.length) : (bo xs).getD j undef = .bool (bat xs j) := by
  simp [bo, bat, List.getD, List.getElem?_eq_getElem h]
theorem bo_set (xs : List Bool) (j : Nat) (x : Bool) : (bo xs).set j (.bool x) = bo (xs.set j x) := by simp [bo, List.map_set]
theorem bo_rep (n : Nat) : List.replicate n (Value.bool false) = bo (List.replicate n false) := by simp [bo]
theorem bat_set {xs : List Bool} {i j : Nat} {x : Bool} (h : i < xs.length) : bat (xs.set i x) j = if i = j then x else bat xs j := by
  unfold bat
  rw [List.getD_eq_getElem?_getD, List.getElem?_set]
  split
  · rename_i e; subst e; simp [h]
  · simp
theorem bat_rep (n j : Nat) : bat (List.replicate n false) j = false := by
  unfold bat
  rw [List.getD_eq_getElem?_getD, List.getElem?_replicate]; split <;> rfl
def RdO (w : World) (v : Value) (xs : List Bool) : Prop := Rd w v (bo xs)
theorem Tryz.info_o : (Tryz.prog.info? 4).map (fun i => (i.zero, i.size, i.bytes)) = some (some (.bool false), 1, 1) := by kernel_rfl
theorem Tryz.size_o : (Tryz.prog.info? 4).map (·.size) = some 1 := by kernel_rfl
theorem Tryz.und_os : Tryz.prog.underlying 83 = some (.slice 4) := by kernel_rfl
section
variable {w w' : World} {v : Value} {xs : List Bool}
theorem RdO.le (h : RdO w v xs) : xs.length ≤ 9223372036854775807 := by have := h.sl.le; rwa [bo_len] at this
theorem RdO.len (h : RdO w v xs) (ty : TypeId) (W : World) : (Builtin.len_ #[83] ty #[v]).run Tryz.prog W = .ok (.int .i64 xs.length) W := by
  have := run_len_sl (P := Tryz.prog) h.sl 83 ty Tryz.und_os W; rwa [bo_len] at this
theorem RdO.ix (h : RdO w v xs) (k : IntKind) (i : Int) (h0 : 0 ≤ i) (hi : i < xs.length) (W : World) :
    (Instr.indexAt 83 v (.int k i)).run Tryz.prog W = .ok (.pointer (some (el v i.toNat))) W :=
  run_ix_sl (P := Tryz.prog) h.sl 83 Tryz.und_os Tryz.size_o k i h0 (by rw [bo_len]; exact hi) W
theorem RdO.ixe (h : RdO w v xs) (i : Int) (j : Nat) (hij : i = (j : Int)) (hj : j < xs.length) (W : World) :
    (Instr.indexAt 83 v (.int .i64 i)).run Tryz.prog W = .ok (.pointer (some (el v j))) W := by
  have := h.ix .i64 i (by omega) (by omega) W
  rwa [hij, Int.toNat_natCast, ← hij] at this
theorem RdO.cell (h : RdO w v xs) (j : Nat) (hj : j < xs.length) : w.cell? (el v j) = some (.bool (bat xs j)) := by
  rw [Rd.cell h (by rw [bo_len]; exact hj), bo_get hj]
theorem RdO.keep (h : RdO w v xs) (hb : Below w.heap.size w w') : RdO w' v xs := Rd.keep h hb
end
theorem St.rdO {B : Nat} {w0 w : World} {L : List Ent} (h : St B w0 w L) (i : Nat) {e : TypeId} {v : Value} {xs : List Bool} (hi : L[i]? = some (row e v (bo xs))) : RdO w v xs := h.rd i hi
section
variable {ops : Array Oper} {rest : List Oper} {o : Oper} {a : Act} {Q : Exit → Act → World → Prop} {B : Nat} {w0 w : World} {L : List Ent}
/-- a store into an owned row of truth values -/
theorem stoO (hS : St B w0 w L) (i : Nat) {v : Value} {xs : List Bool} (hi : L[i]? = some (row 4 v (bo xs))) (j : Nat) (hj : j < xs.length) (hg : o.guard = none) (x y : Operand)
    (hop : o.op = .store 4 x y) (hx : a.eval x = .pointer (some (el v j))) (n : Bool) (hy : a.eval y = .bool n)
    (hK : ∀ w', St B w0 w' (L.set i (row 4 v (bo (xs.set j n)))) → wpList Tryz.prog ops Q rest (a.put o.dst undef) w') :
    wpList Tryz.prog ops Q (o :: rest) a w :=
  wpList_st_store hg x y 4 hop Tryz.size_o hS i hi j (by rw [bo_len]; exact hj) (.bool n) hx hy rfl rfl (fun w' h => hK w' (by rw [← bo_set]; exact h))
/-- make([]bool, n) -/
theorem mkO (hS : St B w0 w L) (hg : o.guard = none) (x y : Operand) (hop : o.op = .makeSlice 83 x y) (kl kc : IntKind) (n : Nat) (hx : a.eval x = .int kl n) (hy : a.eval y = .int kc n) (hN : n ≤ 4294967296)
    (hK : ∀ v' w', St B w0 w' (L ++ [row 4 v' (bo (List.replicate n false))]) → wpList Tryz.prog ops Q rest (a.put o.dst v') w') :
    wpList Tryz.prog ops Q (o :: rest) a w :=
  wpList_st_make hg x y 83 hop 4 (.bool false) 1 Tryz.und_os Tryz.info_o rfl hS kl kc n hx hy (by omega) hN (fun v' w' h => hK v' w' (by rw [← bo_rep]; exact h))
end
end Go.Proofs.YtdgmaodnkbgolaaGreat
end

section
/- Orthogonal squares as lists of lists, in plain terms. -/
namespace Go.Proofs.YtdgmaodnkbgolaaGreat
set_option linter.unusedSimpArgs false
set_option linter.unusedVariables false
/-- every pair of symbols once -/
def Ort (n : Nat) (A B : List (List Int)) : Prop := ∀ x y x' y', x < n → y < n → x' < n → y' < n → at2 A x y = at2 A x' y' → at2 B x y = at2 B x' y' → x = x' ∧ y = y'
theorem Ort.symm {n : Nat} {A B : List (List Int)} (h : Ort n A B) : Ort n B A := fun x y x' y' hx hy hx' hy' e1 e2 => h x y x' y' hx hy hx' hy' e2 e1
open Classical in
noncomputable def orB (A B : List (List Int)) : Bool := decide (A.length = B.length ∧ Ort A.length A B)
theorem orB_t {A B : List (List Int)} (h : orB A B = true) : A.length = B.length ∧ Ort A.length A B := by simpa [orB] using h
theorem orB_yes {A B : List (List Int)} (h1 : A.length = B.length) (h2 : Ort A.length A B) : orB A B = true := by simp [orB, h1, h1 ▸ h2]
theorem orB_no {A B : List (List Int)} (h : ¬ (A.length = B.length ∧ Ort A.length A B)) : orB A B = false := by simp only [orB, decide_eq_false_iff_not]; exact h
theorem orB_symm (A B : List (List Int)) : orB A B = orB B A := by
  by_cases h : A.length = B.length ∧ Ort A.length A B
  · rw [orB_yes h.1 h.2, orB_yes h.1.symm (by rw [← h.1]; exact h.2.symm)]
  · rw [orB_no h, orB_no fun h2 => h ⟨h2.1.symm, by rw [← h2.1]; exact h2.2.symm⟩]
/-- places ahead of place y of row x -/
def Bef (n x y x' y' : Nat) : Prop := x' < n ∧ y' < n ∧ (x' < x ∨ x' = x ∧ y' < y)
/-- the numbers that are marked are those of the places ahead, each once -/
structure SnI (n N : Nat) (f : Nat → Nat → Nat) (x y : Nat) (s : List Bool) : Prop where
  len : s.length = N
  mem : ∀ v, v < N → (bat s v = true ↔ ∃ x' y', Bef n x y x' y' ∧ f x' y' = v)
  inj : ∀ x1 y1 x2 y2, Bef n x y x1 y1 → Bef n x y x2 y2 → f x1 y1 = f x2 y2 → x1 = x2 ∧ y1 = y2
section
variable {n N : Nat} {f : Nat → Nat → Nat} {x y : Nat} {s : List Bool}
theorem SnI.start : SnI n N f 0 0 (List.replicate N false) :=
  ⟨by simp, fun v hv => by
    rw [bat_rep]
    exact ⟨fun h => (by cases h), fun ⟨x', y', h, _⟩ => by unfold Bef at h; omega⟩, fun _ _ _ _ h => by unfold Bef at h; omega⟩
theorem SnI.dup (h : SnI n N f x y s) (hf : f x y < N) (hb : bat s (f x y) = true) : ∃ x' y', Bef n x y x' y' ∧ f x' y' = f x y := (h.mem _ hf).1 hb
theorem SnI.step (h : SnI n N f x y s) (hx : x < n) (hy : y < n) (hf : f x y < N) (hb : bat s (f x y) = false) : SnI n N f x (y + 1) (s.set (f x y) true) := by
  have bef : ∀ {x' y'}, Bef n x (y + 1) x' y' → Bef n x y x' y' ∨ (x' = x ∧ y' = y) := fun {x' y'} hh => by unfold Bef at hh ⊢; omega
  have feb : ∀ {x' y'}, Bef n x y x' y' → Bef n x (y + 1) x' y' := fun {x' y'} hh => by unfold Bef at hh ⊢; omega
  have nw : ∀ {x' y'}, Bef n x y x' y' → f x' y' ≠ f x y := fun {x' y'} hh e => by
    have := (h.mem _ hf).2 ⟨x', y', hh, e⟩
    rw [hb] at this; cases this
  refine ⟨by rw [List.length_set]; exact h.len, fun v hv => ?_, fun x1 y1 x2 y2 h1 h2 e => ?_⟩
  · rw [bat_set (by rw [h.len]; exact hf)]
    by_cases e : f x y = v
    · rw [if_pos e]; exact ⟨fun _ => ⟨x, y, by unfold Bef; omega, e⟩, fun _ => rfl⟩
    · rw [if_neg e, h.mem v hv]
      constructor
      · rintro ⟨x', y', h1, h2⟩; exact ⟨x', y', feb h1, h2⟩
      · rintro ⟨x', y', h1, h2⟩
        rcases bef h1 with h3 | ⟨rfl, rfl⟩
        · exact ⟨x', y', h3, h2⟩
        · exact absurd h2 e
  · rcases bef h1 with h1 | ⟨rfl, rfl⟩
    · rcases bef h2 with h2 | ⟨rfl, rfl⟩
      · exact h.inj x1 y1 x2 y2 h1 h2 e
      · exact absurd e (nw h1)
    · rcases bef h2 with h2 | ⟨rfl, rfl⟩
      · exact absurd e.symm (nw h2)
      · exact ⟨rfl, rfl⟩
theorem SnI.next (h : SnI n N f x n s) : SnI n N f (x + 1) 0 s := by
  have e : ∀ x' y', Bef n (x + 1) 0 x' y' ↔ Bef n x n x' y' := fun x' y' => by unfold Bef; omega
  refine ⟨h.len, fun v hv => ?_, fun x1 y1 x2 y2 h1 h2 => h.inj x1 y1 x2 y2 ((e _ _).1 h1) ((e _ _).1 h2)⟩
  rw [h.mem v hv]
  constructor
  · rintro ⟨x', y', h1, h2⟩; exact ⟨x', y', (e _ _).2 h1, h2⟩
  · rintro ⟨x', y', h1, h2⟩; exact ⟨x', y', (e _ _).1 h1, h2⟩
theorem SnI.done (h : SnI n N f n 0 s) : ∀ x y x' y', x < n → y < n → x' < n → y' < n → f x y = f x' y' → x = x' ∧ y = y' := fun x y x' y' hx hy hx' hy' e =>
  h.inj x y x' y' ⟨hx, hy, .inl hx⟩ ⟨hx', hy', .inl hx'⟩ e
end
/-- both symbols of a place in one number -/
def ovF (n : Nat) (A B : List (List Int)) (x y : Nat) : Nat := n * af A x y + af B x y
def ovL (n : Nat) (A B : List (List Int)) : List (List Int) := sqF n fun x y => (ovF n A B x y : Nat)
section
variable {n : Nat} {A B : List (List Int)}
theorem af_eq (h : Sq0 n A) {x y : Nat} (hx : x < n) (hy : y < n) : at2 A x y = (af A x y : Nat) ∧ af A x y < n := by
  have := h.el x y hx hy; unfold af; omega
theorem ovF_lt (hA : Sq0 n A) (hB : Sq0 n B) {x y : Nat} (hx : x < n) (hy : y < n) : ovF n A B x y < n * n := by
  have a := (af_eq hA hx hy).2
  have b := (af_eq hB hx hy).2
  unfold ovF
  have h1 : n * af A x y + n ≤ n * n := by rw [← Nat.mul_succ]; exact Nat.mul_le_mul_left _ (by omega)
  omega
theorem ovF_inj (hA : Sq0 n A) (hB : Sq0 n B) {x y x' y' : Nat} (hx : x < n) (hy : y < n) (hx' : x' < n) (hy' : y' < n) : ovF n A B x y = ovF n A B x' y' ↔ at2 A x y = at2 A x' y' ∧ at2 B x y = at2 B x' y' := by
  have a := af_eq hA hx hy
  have a' := af_eq hA hx' hy'
  have b := af_eq hB hx hy
  have b' := af_eq hB hx' hy'
  rw [a.1, a'.1, b.1, b'.1]
  unfold ovF
  generalize af A x y = p at *
  generalize af A x' y' = p' at *
  generalize af B x y = q at *
  generalize af B x' y' = q' at *
  constructor
  · intro e
    have e1 : p = p' := by
      have h1 : (n * p + q) / n = p := by rw [Nat.mul_add_div (by omega), Nat.div_eq_of_lt b.2]; omega
      have h2 : (n * p' + q') / n = p' := by rw [Nat.mul_add_div (by omega), Nat.div_eq_of_lt b'.2]; omega
      rw [← h1, ← h2, e]
    subst e1
    exact ⟨rfl, by omega⟩
  · rintro ⟨e1, e2⟩
    rw [show p = p' by omega, show q = q' by omega]
theorem SnI.ort (hA : Sq0 n A) (hB : Sq0 n B) {N : Nat} {s : List Bool} (h : SnI n N (ovF n A B) n 0 s) : Ort n A B := fun x y x' y' hx hy hx' hy' e1 e2 =>
  h.done x y x' y' hx hy hx' hy' ((ovF_inj hA hB hx hy hx' hy').2 ⟨e1, e2⟩)
theorem SnI.nort (hA : Sq0 n A) (hB : Sq0 n B) {N x y : Nat} {s : List Bool} (h : SnI n N (ovF n A B) x y s) (hx : x < n) (hy : y < n) (hf : ovF n A B x y < N) (hb : bat s (ovF n A B x y) = true) : ¬ Ort n A B := fun ho => by
  obtain ⟨x', y', hbf, e⟩ := h.dup hf hb
  obtain ⟨h1, h2, h3⟩ := hbf
  have e' := (ovF_inj hA hB h1 h2 hx hy).1 e
  have := ho x' y' x y h1 h2 hx hy e'.1 e'.2
  omega
theorem ovL_len : (ovL n A B).length = n := sqF_len _ _
theorem ovL_row {x : Nat} (hx : x < n) : (xat (ovL n A B) x).length = n := (sqF_sqr _ _).row x hx
theorem ovL_at {x y : Nat} (hx : x < n) (hy : y < n) : nth (xat (ovL n A B) x) y = (ovF n A B x y : Nat) := at2_sqF hx hy
end
/-! ### lists of squares -/
structure Mols (X : List (List (List Int))) : Prop where
  pos : 1 ≤ X.length
  le : X.length ≤ 10
  lat : ∀ k, k < X.length → Lat (x3at X k)
  ort : ∀ k i, i < k → k < X.length → orB (x3at X k) (x3at X i) = true
open Classical in
noncomputable def molB (X : List (List (List Int))) : Bool := decide (Mols X)
theorem molB_yes {X : List (List (List Int))} (h : Mols X) : molB X = true := by simp [molB, h]
theorem molB_no {X : List (List (List Int))} (h : ¬ Mols X) : molB X = false := by simp [molB, h]
/-- all squares have as many rows -/
theorem Mols.len {X : List (List (List Int))} (h : Mols X) {k : Nat} (hk : k < X.length) : (x3at X k).length = (x3at X 0).length := by
  rcases Nat.eq_zero_or_pos k with rfl | h0
  · rfl
  · exact (orB_t (h.ort k 0 h0 hk)).1
end Go.Proofs.YtdgmaodnkbgolaaGreat
end

section
/- Walks: numbers. -/
namespace Go.Proofs.YtdgmaodnkbgolaaGreat
set_option linter.unusedSimpArgs false
set_option linter.unusedVariables false
open Go.RowKit

def inB (n a b : Int) : Bool := decide (a ≤ n) && decide (n ≤ b)
theorem inB_true {n a b : Int} (h : a ≤ n ∧ n ≤ b) : inB n a b = true := by simp [inB, h.1, h.2]
theorem inB_false {n a b : Int} (h : ¬ (a ≤ n ∧ n ≤ b)) : inB n a b = false := by simp only [inB, Bool.and_eq_false_iff, decide_eq_false_iff_not]; omega

theorem within_c (n a b : Int) (w : World) :
    Calls Tryz.prog 48 #[.int .i64 n, .int .i64 a, .int .i64 b] w fun e w' => e = .returned (.bool (inB n a b)) ∧ w = w' := by
  go_enter Tryz.func48, Tryz.ntmps48
  by_cases h : a ≤ n
  · go_wp2
    go_ret
    exact ⟨ret_bool (by simp [inB, h]), rfl⟩
  · go_wp2
    go_ret
    exact ⟨ret_bool (by simp [inB, show ¬ a ≤ n by omega]), rfl⟩
theorem within_yes {n a b : Int} (h : a ≤ n ∧ n ≤ b) (w : World) : Calls Tryz.prog 48 #[.int .i64 n, .int .i64 a, .int .i64 b] w fun e w' => e = .returned (.bool true) ∧ w = w' :=
  (within_c n a b w).mono fun _ _ ⟨h1, h2⟩ => ⟨by rw [h1, inB_true h], h2⟩
theorem within_no {n a b : Int} (h : ¬ (a ≤ n ∧ n ≤ b)) (w : World) : Calls Tryz.prog 48 #[.int .i64 n, .int .i64 a, .int .i64 b] w fun e w' => e = .returned (.bool false) ∧ w = w' :=
  (within_c n a b w).mono fun _ _ ⟨h1, h2⟩ => ⟨by rw [h1, inB_false h], h2⟩

theorem sq_bd {p : Int} (h : 0 ≤ p) (h' : p ≤ 1000002) : 0 ≤ p * p ∧ p * p ≤ 1000004000004 :=
  ⟨Int.mul_nonneg h h, by have := Int.mul_le_mul h' h' h (by omega); omega⟩

set_option maxHeartbeats 1000000 in
set_option maxRecDepth 100000 in
theorem FactorsOf_c (n : Int) (w : World) : Calls Tryz.prog 125 #[.int .i64 n] w (MakesI w (factors n)) := by
  by_cases hn : 1 ≤ n ∧ n ≤ 1000000
  · have H0 := Lib.hid (show factors n = [] ++ fac 2000005 2 n by simp [factors, hn])
    go_enter Tryz.func125, Tryz.ntmps125
    go_wp2_with fail
    refine (within_yes hn w).mono ?_
    rintro e w' ⟨rfl, rfl⟩
    go_wp2_with fail
    go_loopw [0, 3, 4] (fun a v b wr => ∃ (m p : Int) (xs : List Int) (f : Nat), a = .int .i64 m ∧ b = .int .i64 p ∧ 1 ≤ m ∧ m ≤ 1000000 ∧ 2 ≤ p ∧ p ≤ 1000002 ∧ 2 * m + 2 - p < f ∧ 1 ≤ f ∧ (xs.length : Int) + m ≤ 1000000 ∧
        Low p m ∧ Hid (factors n = xs ++ fac f p m) ∧ St w.heap.size w wr [row 2 v (iv xs)]) (fun _ _ b _ => (1000003 - intOf b).toNat)
    case atStart => exact ⟨n, 2, [], 2000005, rfl, rfl, by omega, by omega, by omega, by omega, by omega, by omega, by simp; omega, low2 n, H0, (St.refl w).emp⟩
    case round =>
      obtain ⟨m, p, xs, f, rfl, rfl, hm0, hm1, hp0, hp1, hf, hf1, hx, hL, hF, hS⟩ := hrel
      have hsq := sq_bd (p := p) (by omega) (by omega)
      obtain ⟨hsq0, hsq1⟩ := hsq
      by_cases hle : p * p ≤ m
      · have hpm := sq_ge (by omega) hle
        have hp2 : p ≤ 1000000 := by omega
        go_wp2_with fail
        obtain ⟨wo, rfl⟩ : ∃ wo : World, wo = wr := ⟨_, rfl⟩
        go_loopw [0, 3] (fun a v wr => ∃ (m : Int) (xs : List Int) (f : Nat), a = .int .i64 m ∧ 1 ≤ m ∧ m ≤ 1000000 ∧ 2 * m + 2 - p < f ∧ 1 ≤ f ∧ (xs.length : Int) + m ≤ 1000000 ∧
            Low p m ∧ Hid (factors n = xs ++ fac f p m) ∧ St w.heap.size w wr [row 2 v (iv xs)]) (fun a _ _ => (intOf a).toNat)
        case atStart => exact ⟨m, xs, f, rfl, by omega, by omega, by omega, by omega, by omega, hL, hF, hS⟩
        case round =>
          clear hL hF hS hf hf1 hx hm0 hm1 hle hpm
          obtain ⟨m, xs, f, rfl, hm0, hm1, hf, hf1, hx, hL, hF, hS⟩ := hrel
          by_cases h0 : m % p = 0
          · obtain ⟨d1, d2, d3⟩ := div_step (by omega) (by omega) h0
            clear d3
            go_wp2_with (at_builtin; refine appI hS 0 rfl (by omega) rfl _ _ rfl rfl _ rfl ?_; intro v' w1 hS1)
            obtain ⟨f', e1, e2, e3⟩ := fac_take (by omega) (by omega) hL h0 hf hf1
            go_roundw
            case rel => exact ⟨m / p, xs ++ [p], f', rfl, by omega, by omega, by omega, e1, by simp; omega, hL.div (by omega) (by omega) h0, by rw [Hid, hF.out, e3]; simp, hS1⟩
            case measure => simp [intOf]; omega
          · have h0n := h0
            have h0' : (m % p == 0) = false := by simpa using h0
            have H0' := Lib.hid h0; clear h0 h0n
            go_wp2_with fail
            obtain ⟨f', e1, e2, e3⟩ := fac_skip (by omega) (by omega) H0'.out hf hf1
            go_roundw
            case rel => exact ⟨m, p + 1, xs, f', rfl, rfl, by omega, by omega, by omega, by omega, by omega, e1, by omega, hL.next H0'.out, by rw [Hid, hF.out, e3], hS⟩
            case measure => simp [intOf]; omega
      · by_cases h1 : 1 < m
        · go_wp2_with (at_builtin; refine appI hS 0 rfl (by omega) rfl _ _ rfl rfl _ rfl ?_; intro v' w1 hS1)
          go_ret
          refine ⟨_, rfl, ?_⟩
          rw [hF.out, fac_out (by omega) hf1, if_pos h1]; exact hS1
        · go_wp2_with fail
          go_ret
          refine ⟨_, rfl, ?_⟩
          rw [hF.out, fac_out (by omega) hf1, if_neg (by omega), List.append_nil]; exact hS
  · have H0 := Lib.hid (show factors n = [] by simp [factors, hn])
    go_enter Tryz.func125, Tryz.ntmps125
    go_wp2_with fail
    refine (within_no hn w).mono ?_
    rintro e w' ⟨rfl, rfl⟩
    go_wp2_with fail
    go_ret
    exact ⟨_, rfl, by rw [H0.out]; exact (St.refl w).emp⟩

theorem size_c (v : Value) (xs : List Int) (w : World) (hv : RdI w v xs) : Calls Tryz.prog 119 #[v] w fun e w' => e = .returned (.int .i64 xs.length) ∧ w = w' := by
  have hln := hv.len
  go_enter Tryz.func119, Tryz.ntmps119
  go_wp2_with fail
  go_ret
  exact ⟨rfl, rfl⟩

def pp (xs : List Int) : Int × Int := match xs with
  | [] => (0, 0)
  | x :: xs => if xs.all (· == x) then (x, xs.length + 1) else (0, 0)
theorem pp_no {xs : List Int} {k : Nat} (hk : k < xs.length) (h : nth xs k ≠ nth xs 0) : pp xs = (0, 0) := by
  cases xs with
  | nil => rfl
  | cons x xs =>
    unfold pp; simp only
    rw [if_neg]
    intro hall
    rw [List.all_eq_true] at hall
    cases k with
    | zero => exact h rfl
    | succ k =>
      have hk' : k < xs.length := by simpa using hk
      have := hall (nth xs k) (nth_mem hk')
      apply h
      have e : nth (x :: xs) (k + 1) = nth xs k := by simp [nth]
      rw [e]; simpa [nth] using this
theorem pp_yes {xs : List Int} (hne : 0 < xs.length) (h : ∀ j, j < xs.length → nth xs j = nth xs 0) : pp xs = (nth xs 0, (xs.length : Int)) := by
  cases xs with
  | nil => simp at hne
  | cons x xs =>
    unfold pp; simp only
    rw [if_pos]
    · simp [nth]
    · rw [List.all_eq_true]
      intro y hy
      obtain ⟨j, hj, rfl⟩ := List.getElem_of_mem hy
      have := h (j + 1) (by simpa using hj)
      simp [nth, hj] at this
      simp [this]

set_option maxHeartbeats 1000000 in
set_option maxRecDepth 100000 in
theorem PrimePower_c (n : Int) (w : World) : Calls Tryz.prog 82 #[.int .i64 n] w (Gives2I w (pp (factors n)).1 (pp (factors n)).2) := by
  go_enter Tryz.func82, Tryz.ntmps82
  go_wp2_with fail
  refine (FactorsOf_c n w).mono ?_
  rintro e w1 ⟨v, rfl, hS⟩
  generalize factors n = xs at *
  have hr := hS.rdI 0 rfl
  have hln := hr.len
  have hix := hr.ix
  have hc := hr.cell
  have hle := hr.le
  go_wp2_with fail
  go_loop [6, 11] (fun _ i => ∃ k : Nat, k ≤ xs.length ∧ i = .int .i64 k ∧ Hid (∀ j, j < k → nth xs j = nth xs 0)) (fun _ i => xs.length - (intOf i).toNat)
  case atStart => exact ⟨0, by omega, rfl, fun j hj => by omega⟩
  case round =>
    obtain ⟨k, hk, rfl, hI⟩ := hrel
    by_cases hlt : k < xs.length
    · have hix0 := hix .i64 0 (by omega) (by omega)
      have hc0 := hc 0 (by omega)
      by_cases h1 : nth xs k = nth xs 0
      · have h1' : (nth xs k != nth xs 0) = false := by simp [h1]
        have H1 := Lib.hid h1; clear h1
        go_wp2_with fail
        go_round
        case rel => exact ⟨k + 1, by omega, by go_num, fun j hj => by
          by_cases e : j = k
          · subst e; exact H1.out
          · exact hI.out j (by omega)⟩
        case measure => simp [intOf]; omega
      · have h1' : (nth xs k != nth xs 0) = true := by simp [h1]
        have H1 := Lib.hid h1; clear h1
        go_wp2_with fail
        go_ret2
        exact ⟨ret_2i (by rw [pp_no hlt H1.out]) (by rw [pp_no hlt H1.out]), hS.out⟩
    · by_cases h0 : 0 < xs.length
      · have h0' : ((xs.length : Int) == 0) = false := eq_f (by omega)
        have hix0 := hix .i64 0 (by omega) (by omega)
        go_wp2_with fail
        have hq := fun s : SS w.heap.size w _ => (s.st.rdI (xs := xs) (v := v) (L := [row 2 v (iv xs)]) 0 rfl).cell 0 h0
        have hne : Nonempty (SS _ _ _) := ⟨⟨_, hS⟩⟩
        refine wp_region_st (by kernel_rfl) (by kernel_rfl) hS ?_
        repeat (go_big_quiet_step ((go_at_call 119; refine st_quiet0 (size_c v xs _ ?_); exact (SS.st _).rdI 0 rfl)))
        refine wpQuiet_nil ?_
        rintro _ ⟨s2, rfl⟩
        have hS2 := s2.st
        generalize s2.w = w2 at hS2 ⊢
        go_wp2_with fail
        go_ret2
        exact ⟨ret_2i (by rw [pp_yes h0 (fun j hj => hI.out j (by omega))]) (by rw [pp_yes h0 (fun j hj => hI.out j (by omega))]), hS2.out⟩
      · have h0' : ((xs.length : Int) == 0) = true := eq_t (by omega)
        have hxs : xs = [] := List.eq_nil_of_length_eq_zero (by omega)
        have Hx := Lib.hid hxs; clear hxs
        go_wp2_with fail
        go_ret2
        exact ⟨ret_2i (by rw [Hx.out]; rfl) (by rw [Hx.out]; rfl), hS.out⟩

end Go.Proofs.YtdgmaodnkbgolaaGreat
end

section
/- Walks: ValidSet of the program. -/
namespace Go.Proofs.YtdgmaodnkbgolaaGreat
set_option linter.unusedSimpArgs false
set_option linter.unusedVariables false
open Go.RowKit

def validSetB (xs : List Int) (n : Int) : Bool := incB (-1) n xs && inB n 0 32

theorem incB_drop {xs : List Int} {k : Nat} (hk : k < xs.length) (last n : Int) :
    incB last n (xs.drop k) = if nth xs k ≤ last ∨ n ≤ nth xs k then false else incB (nth xs k) n (xs.drop (k + 1)) := by
  rw [drop_nth hk]; rfl

set_option maxHeartbeats 1000000 in
theorem ValidSet_c (v : Value) (xs : List Int) (n : Int) (w : World) (hv : RdI w v xs) :
    Calls Tryz.prog 122 #[v, .int .i64 n] w fun e w' => e = .returned (.bool (validSetB xs n)) ∧ w = w' := by
  have hln := hv.len
  have hix := hv.ix
  have hcell := hv.cell
  have hm := hv.le
  go_enter Tryz.func122, Tryz.ntmps122
  go_wp2_with fail
  go_loop [5, 7, 10] (fun l x i => ∃ (k : Nat) (last : Int), k ≤ xs.length ∧ i = .int .i64 k ∧ l = .int .i64 last ∧ Hid (incB (-1) n xs = incB last n (xs.drop k))) (fun _ _ i => xs.length - (intOf i).toNat)
  case atStart => exact ⟨0, -1, by omega, rfl, rfl, rfl⟩
  case round =>
    obtain ⟨k, last, hk, rfl, rfl, hI⟩ := hrel
    by_cases hlt : k < xs.length
    · have hd := Lib.hid (incB_drop hlt last n)
      by_cases h1 : nth xs k ≤ last
      · go_wp2_with fail
        go_ret
        exact ⟨ret_bool (by rw [validSetB, hI.out, hd.out]; simp [h1]), rfl⟩
      · by_cases h2 : n ≤ nth xs k
        · go_wp2_with fail
          go_ret
          exact ⟨ret_bool (by rw [validSetB, hI.out, hd.out]; simp [h2]), rfl⟩
        · go_wp2_with fail
          go_round
          case rel => exact ⟨k + 1, nth xs k, by omega, by go_num, rfl, by rw [Hid, hI.out, hd.out]; simp [h1, h2]⟩
          case measure => simp [intOf]; omega
    · go_wp2_with (go_at_call 48; refine (within_c _ _ _ _).mono ?_; rintro e w' ⟨rfl, rfl⟩)
      go_ret
      exact ⟨ret_bool (by rw [validSetB, hI.out, List.drop_of_length_le (by omega)]; simp [incB]), rfl⟩
end Go.Proofs.YtdgmaodnkbgolaaGreat
end

section
/- Walks: bounds of numbers, of the reference. -/
namespace Go.Proofs.YtdgmaodnkbgolaaGreat
set_option linter.unusedSimpArgs false
set_option linter.unusedVariables false
open Go.RowKit

theorem l00In_c (n a b : Int) (w : World) :
    Calls Tryz.prog 113 #[.int .i64 n, .int .i64 a, .int .i64 b] w fun e w' => e = .returned (.bool (inB n a b)) ∧ w = w' := by
  go_enter Tryz.func113, Tryz.ntmps113
  by_cases h : a ≤ n
  · go_wp2
    go_ret
    exact ⟨ret_bool (by simp [inB, h]), rfl⟩
  · go_wp2
    go_ret
    exact ⟨ret_bool (by simp [inB, show ¬ a ≤ n by omega]), rfl⟩

end Go.Proofs.YtdgmaodnkbgolaaGreat
end

section
/- Plain: Hadamard matrices, their signs and their profiles. -/
namespace Go.Proofs.YtdgmaodnkbgolaaGreat
set_option linter.unusedSimpArgs false
set_option linter.unusedVariables false

/-- a sign -/
def Pm (x : Int) : Prop := x = 1 ∨ x = -1
theorem Pm.mul {x y : Int} (hx : Pm x) (hy : Pm y) : Pm (x * y) := by
  rcases hx with rfl | rfl <;> rcases hy with rfl | rfl <;> simp [Pm]
theorem Pm.sq {x : Int} (hx : Pm x) : x * x = 1 := by rcases hx with rfl | rfl <;> rfl
theorem Pm.bd {x : Int} (hx : Pm x) : -1 ≤ x ∧ x ≤ 1 := by rcases hx with rfl | rfl <;> omega
theorem Pm.neg {x : Int} (hx : Pm x) : Pm (-x) := by rcases hx with rfl | rfl <;> simp [Pm]
/-- sums -/
def sN : Nat → (Nat → Int) → Int
  | 0, _ => 0
  | n + 1, f => sN n f + f n
theorem sN_congr {f g : Nat → Int} : ∀ {n : Nat}, (∀ k, k < n → f k = g k) → sN n f = sN n g
  | 0, _ => rfl
  | n + 1, h => by rw [sN, sN, sN_congr (n := n) (fun k hk => h k (by omega)), h n (by omega)]
theorem sN_mul (c : Int) (f : Nat → Int) : ∀ n : Nat, sN n (fun k => c * f k) = c * sN n f
  | 0 => by simp [sN]
  | n + 1 => by rw [sN, sN, sN_mul c f n, Int.mul_add]
theorem sN_add (a : Nat) (f : Nat → Int) : ∀ b : Nat, sN (a + b) f = sN a f + sN b fun k => f (a + k)
  | 0 => by simp [sN]
  | b + 1 => by rw [show a + (b + 1) = (a + b) + 1 from rfl, sN, sN, sN_add a f b]; omega
theorem sN_prod (n m : Nat) (hm : 0 < m) (f g : Nat → Int) : sN (n * m) (fun c => f (c / m) * g (c % m)) = sN n f * sN m g := by
  induction n with
  | zero => simp [sN]
  | succ n ih =>
    rw [Nat.succ_mul, sN_add, ih, sN, Int.add_mul]
    congr 1
    rw [← sN_mul]
    refine sN_congr fun k hk => ?_
    show f ((n * m + k) / m) * g ((n * m + k) % m) = f n * g k
    rw [show (n * m + k) / m = n by rw [Nat.mul_comm, Nat.mul_add_div hm, Nat.div_eq_of_lt hk]; rfl, show (n * m + k) % m = k by rw [Nat.mul_comm, Nat.mul_add_mod, Nat.mod_eq_of_lt hk]]

/-- a Hadamard matrix -/
structure Had (n : Nat) (H : List (List Int)) : Prop where
  pos : 1 ≤ n
  le : n ≤ 32
  sqr : Sqr n H
  el : ∀ x y, x < n → y < n → Pm (at2 H x y)
  dot : ∀ x x', x < n → x' < n → x ≠ x' → sN n (fun y => at2 H x y * at2 H x' y) = 0
/-- rows and columns with signs -/
def Sg (n : Nat) (H H' : List (List Int)) : Prop :=
  Sqr n H' ∧ ∃ e f : Nat → Int, (∀ x, Pm (e x)) ∧ (∀ y, Pm (f y)) ∧ ∀ x y, x < n → y < n → at2 H' x y = e x * f y * at2 H x y
theorem Sg.refl {n : Nat} {H : List (List Int)} (h : Sqr n H) : Sg n H H :=
  ⟨h, fun _ => 1, fun _ => 1, fun _ => .inl rfl, fun _ => .inl rfl, fun x y _ _ => by simp⟩
theorem Sg.trans {n : Nat} {H H' H'' : List (List Int)} (h : Sg n H H') (h' : Sg n H' H'') : Sg n H H'' := by
  obtain ⟨_, e, f, he, hf, hA⟩ := h
  obtain ⟨hs, e', f', he', hf', hA'⟩ := h'
  refine ⟨hs, fun x => e' x * e x, fun y => f' y * f y, fun x => (he' x).mul (he x), fun y => (hf' y).mul (hf y), fun x y hx hy => ?_⟩
  rw [hA' x y hx hy, hA x y hx hy]
  grind
theorem Sg.had {n : Nat} {H H' : List (List Int)} (h : Sg n H H') (hH : Had n H) : Had n H' := by
  obtain ⟨hs, e, f, he, hf, hA⟩ := h
  refine ⟨hH.pos, hH.le, hs, fun x y hx hy => ?_, fun x x' hx hx' hne => ?_⟩
  · rw [hA x y hx hy]; exact ((he x).mul (hf y)).mul (hH.el x y hx hy)
  · rw [sN_congr (g := fun y => (e x * e x') * (at2 H x y * at2 H x' y)) (fun y hy => by
      rw [hA x y hx hy, hA x' y hx' hy]
      have := (hf y).sq
      grind), sN_mul, hH.dot x x' hx hx' hne, Int.mul_zero]
/-- products -/
def prF (m : Nat) (A B : List (List Int)) (r c : Nat) : Int := at2 A (r / m) (c / m) * at2 B (r % m) (c % m)
def prH (n m : Nat) (A B : List (List Int)) : List (List Int) := sqF (n * m) (prF m A B)
theorem Had.prod {n m : Nat} {A B : List (List Int)} (hA : Had n A) (hB : Had m B) (h : n * m ≤ 32) : Had (n * m) (prH n m A B) := by
  have h0 := hA.pos
  have h1 := hB.pos
  have hd : ∀ r, r < n * m → r / m < n ∧ r % m < m := fun r hr => ⟨Nat.div_lt_of_lt_mul (by rw [Nat.mul_comm]; exact hr), Nat.mod_lt _ h1⟩
  refine ⟨Nat.mul_pos h0 h1, h, sqF_sqr _ _, fun x y hx hy => ?_, fun x x' hx hx' hne => ?_⟩
  · rw [prH, at2_sqF hx hy]
    exact (hA.el _ _ (hd x hx).1 (hd y hy).1).mul (hB.el _ _ (hd x hx).2 (hd y hy).2)
  · rw [sN_congr (g := fun c => (at2 A (x / m) (c / m) * at2 A (x' / m) (c / m)) * (at2 B (x % m) (c % m) * at2 B (x' % m) (c % m))) (fun c hc => by
      rw [prH, at2_sqF hx hc, at2_sqF hx' hc, prF, prF]; grind), sN_prod n m h1 (fun y => at2 A (x / m) y * at2 A (x' / m) y) (fun y => at2 B (x % m) y * at2 B (x' % m) y)]
    by_cases e : x / m = x' / m
    · have e2 : x % m ≠ x' % m := fun e2 => hne (by rw [← Nat.div_add_mod x m, ← Nat.div_add_mod x' m, e, e2])
      rw [hB.dot _ _ (hd x hx).2 (hd x' hx').2 e2, Int.mul_zero]
    · rw [hA.dot _ _ (hd x hx).1 (hd x' hx').1 e, Int.zero_mul]
end Go.Proofs.YtdgmaodnkbgolaaGreat
end

section
/- Plain: lists in the order of lists, designs, their counts and parameters. -/
namespace Go.Proofs.YtdgmaodnkbgolaaGreat
set_option linter.unusedSimpArgs false
set_option linter.unusedVariables false

/-- lists compared place by place -/
def cmpI : List Int → List Int → Int
  | [], [] => 0
  | [], _ :: _ => -1
  | _ :: _, [] => 1
  | a :: r, b :: s => if a < b then -1 else if b < a then 1 else cmpI r s
theorem cmpI_self : ∀ a : List Int, cmpI a a = 0
  | [] => rfl
  | a :: r => by rw [cmpI, if_neg (by omega), if_neg (by omega)]; exact cmpI_self r
theorem cmpI_neg : ∀ a b : List Int, cmpI b a = -cmpI a b
  | [], [] => rfl
  | [], _ :: _ => rfl
  | _ :: _, [] => rfl
  | a :: r, b :: s => by
    have ih := cmpI_neg r s
    rw [cmpI, cmpI]
    by_cases h1 : a < b
    · rw [if_neg (show ¬ b < a by omega), if_pos h1, if_pos h1]; rfl
    · by_cases h2 : b < a
      · rw [if_pos h2, if_neg h1, if_pos h2]
      · rw [if_neg h2, if_neg h1, if_neg h1, if_neg h2]; exact ih
theorem cmpI_eq : ∀ {a b : List Int}, cmpI a b = 0 → a = b
  | [], [], _ => rfl
  | [], _ :: _, h => by simp [cmpI] at h
  | _ :: _, [], h => by simp [cmpI] at h
  | a :: r, b :: s, h => by
    rw [cmpI] at h
    by_cases h1 : a < b
    · rw [if_pos h1] at h; omega
    · rw [if_neg h1] at h
      by_cases h2 : b < a
      · rw [if_pos h2] at h; omega
      · rw [if_neg h2] at h
        rw [cmpI_eq h, show a = b by omega]
theorem cmpI_trans : ∀ {a b c : List Int}, cmpI a b ≤ 0 → cmpI b c ≤ 0 → cmpI a c ≤ 0
  | [], _, [], _, _ => by simp [cmpI]
  | [], _, _ :: _, _, _ => by simp [cmpI]
  | _ :: _, [], _, h, _ => by simp [cmpI] at h
  | _ :: _, _ :: _, [], _, h => by simp [cmpI] at h
  | a :: r, b :: s, c :: t, h1, h2 => by
    rw [cmpI] at h1 h2 ⊢
    by_cases e1 : a < b
    · by_cases e2 : b < c
      · rw [if_pos (by omega)]; omega
      · rw [if_neg e2] at h2
        by_cases e3 : c < b
        · rw [if_pos e3] at h2; omega
        · rw [if_pos (by omega)]; omega
    · rw [if_neg e1] at h1
      by_cases e4 : b < a
      · rw [if_pos e4] at h1; omega
      · rw [if_neg e4] at h1
        by_cases e2 : b < c
        · rw [if_pos (by omega)]; omega
        · rw [if_neg e2] at h2
          by_cases e3 : c < b
          · rw [if_pos e3] at h2; omega
          · rw [if_neg e3] at h2
            rw [if_neg (by omega), if_neg (by omega)]
            exact cmpI_trans h1 h2
def leL (a b : List Int) : Bool := decide (cmpI a b ≤ 0)
theorem leL_trans (a b c : List Int) (h1 : leL a b = true) (h2 : leL b c = true) : leL a c = true :=
  decide_eq_true (cmpI_trans (of_decide_eq_true h1) (of_decide_eq_true h2))
theorem leL_total (a b : List Int) : (leL a b || leL b a) = true := by
  unfold leL
  have := cmpI_neg a b
  by_cases h : cmpI a b ≤ 0
  · simp [h]
  · simp [show cmpI b a ≤ 0 by omega]
theorem leL_anti {a b : List Int} (h1 : leL a b = true) (h2 : leL b a = true) : a = b := by
  have a1 := of_decide_eq_true h1
  have a2 := of_decide_eq_true h2
  have := cmpI_neg a b
  exact cmpI_eq (by omega)
/-- a list put into its place -/
def insL (b : List Int) : List (List Int) → List (List Int)
  | [] => [b]
  | a :: r => if leL b a = true then b :: a :: r else a :: insL b r
theorem insL_perm (b : List Int) : ∀ A : List (List Int), (insL b A).Perm (b :: A)
  | [] => .refl _
  | a :: r => by
    rw [insL]
    split
    · exact .refl _
    · exact ((insL_perm b r).cons a).trans (List.Perm.swap b a r)
theorem insL_pw (b : List Int) : ∀ {A : List (List Int)}, (A.Pairwise fun a b => leL a b = true) → (insL b A).Pairwise fun a b => leL a b = true
  | [], _ => by simp [insL]
  | a :: r, h => by
    obtain ⟨h1, h2⟩ := List.pairwise_cons.1 h
    rw [insL]
    split
    · rename_i hb
      refine List.pairwise_cons.2 ⟨fun x hx => ?_, h⟩
      rcases List.mem_cons.1 hx with rfl | hx
      · exact hb
      · exact leL_trans _ _ _ hb (h1 x hx)
    · rename_i hb
      refine List.pairwise_cons.2 ⟨fun x hx => ?_, insL_pw b h2⟩
      rcases List.mem_cons.1 ((insL_perm b r).mem_iff.1 hx) with rfl | hx
      · have := leL_total x a
        rw [Bool.or_eq_true] at this
        rcases this with h | h
        · exact absurd h hb
        · exact h
      · exact h1 x hx
/-- a list of lists in its order -/
def srtL (A : List (List Int)) : List (List Int) := A.foldr insL []
theorem srtL_perm : ∀ A : List (List Int), (srtL A).Perm A
  | [] => .refl _
  | a :: r => (insL_perm a (srtL r)).trans ((srtL_perm r).cons a)
theorem srtL_pw : ∀ A : List (List Int), (srtL A).Pairwise fun a b => leL a b = true
  | [] => List.Pairwise.nil
  | a :: r => insL_pw a (srtL_pw r)
theorem srtL_len (A : List (List Int)) : (srtL A).length = A.length := (srtL_perm A).length_eq
theorem perm_pw_eq : ∀ {a b : List (List Int)}, a.Perm b → (a.Pairwise fun x y => leL x y = true) → (b.Pairwise fun x y => leL x y = true) → a = b
  | [], b, h, _, _ => by rw [List.nil_perm.1 h]
  | x :: a, b, h, h1, h2 => by
    obtain ⟨h1x, h1r⟩ := List.pairwise_cons.1 h1
    cases b with
    | nil => exact absurd h.length_eq (by simp)
    | cons y b =>
      obtain ⟨h2y, h2r⟩ := List.pairwise_cons.1 h2
      have hxy : x = y := by
        have hx : x ∈ y :: b := h.mem_iff.1 (List.mem_cons_self ..)
        have hy : y ∈ x :: a := h.mem_iff.2 (List.mem_cons_self ..)
        rcases List.mem_cons.1 hx with e | hx
        · exact e
        · rcases List.mem_cons.1 hy with e | hy
          · exact e.symm
          · exact leL_anti (h1x y hy) (h2y x hx)
      subst hxy
      rw [perm_pw_eq ((List.perm_cons x).1 h) h1r h2r]
theorem srtL_eq {a b : List (List Int)} (h : a.Perm b) (hs : a.Pairwise fun x y => leL x y = true) : a = srtL b :=
  perm_pw_eq (h.trans (srtL_perm b).symm) hs (srtL_pw b)
/-- in order, place by place -/
def srtB : List (List Int) → Bool
  | [] => true
  | [_] => true
  | a :: b :: r => leL a b && srtB (b :: r)
theorem srtB_pw : ∀ {A : List (List Int)}, srtB A = true ↔ A.Pairwise fun a b => leL a b = true
  | [] => by simp [srtB]
  | [_] => by simp [srtB]
  | a :: b :: r => by
    rw [srtB, Bool.and_eq_true, srtB_pw (A := b :: r)]
    constructor
    · rintro ⟨h1, h2⟩
      refine List.pairwise_cons.2 ⟨fun x hx => ?_, h2⟩
      rcases List.mem_cons.1 hx with rfl | hx
      · exact h1
      · exact leL_trans _ _ _ h1 ((List.pairwise_cons.1 h2).1 x hx)
    · intro h
      obtain ⟨h1, h2⟩ := List.pairwise_cons.1 h
      exact ⟨h1 b (List.mem_cons_self ..), h2⟩
theorem srtB_srtL (A : List (List Int)) : srtB (srtL A) = true := srtB_pw.2 (srtL_pw A)
theorem srtB_drop : ∀ {A : List (List Int)} {k : Nat}, k + 1 < A.length → srtB (A.drop k) = (leL (xat A k) (xat A (k + 1)) && srtB (A.drop (k + 1))) := by
  intro A k h
  rw [drop_xat (show k < A.length by omega), drop_xat h, srtB]

/-- a block: some points, increasing -/
def blkB (P : Int) (b : List Int) : Bool := decide (0 < b.length) && validSetB b P
/-- a design -/
def dOk (P : Int) (A : List (List Int)) : Bool := inB P 1 32 && A.all (blkB P) && decide (A.length ≤ 128) && srtB A
structure DOk (P : Int) (A : List (List Int)) : Prop where
  pos : 1 ≤ P
  le : P ≤ 32
  len : A.length ≤ 128
  srt : srtB A = true
  ne : ∀ b ∈ A, 0 < b.length
  inc : ∀ b ∈ A, incB (-1) P b = true
theorem blkB_t {P : Int} {b : List Int} (h : blkB P b = true) : 0 < b.length ∧ incB (-1) P b = true := by
  simp only [blkB, validSetB, Bool.and_eq_true, decide_eq_true_eq] at h
  exact ⟨h.1, h.2.1⟩
theorem dOk_t {P : Int} {A : List (List Int)} (h : dOk P A = true) : DOk P A := by
  simp only [dOk, Bool.and_eq_true, decide_eq_true_eq, List.all_eq_true] at h
  obtain ⟨⟨⟨h1, h2⟩, h3⟩, h4⟩ := h
  have h5 : 1 ≤ P ∧ P ≤ 32 := by simpa [inB] using h1
  exact ⟨h5.1, h5.2, h3, h4, fun b hb => (blkB_t (h2 b hb)).1, fun b hb => (blkB_t (h2 b hb)).2⟩
theorem DOk.ok {P : Int} {A : List (List Int)} (h : DOk P A) : dOk P A = true := by
  have h1 := h.pos
  have h2 := h.le
  simp only [dOk, Bool.and_eq_true, decide_eq_true_eq, List.all_eq_true]
  refine ⟨⟨⟨by simp [inB]; omega, fun b hb => ?_⟩, h.len⟩, h.srt⟩
  simp only [blkB, validSetB, Bool.and_eq_true, decide_eq_true_eq]
  exact ⟨h.ne b hb, h.inc b hb, by simp [inB]; omega⟩
/-- blocks put in order are a design -/
theorem DOk.mk' {P : Int} {A : List (List Int)} (h1 : 1 ≤ P) (h2 : P ≤ 32) (h3 : A.length ≤ 128) (h4 : ∀ b ∈ A, 0 < b.length ∧ incB (-1) P b = true) : DOk P (srtL A) :=
  ⟨h1, h2, by rw [srtL_len]; exact h3, srtB_srtL A, fun b hb => (h4 b ((srtL_perm A).mem_iff.1 hb)).1, fun b hb => (h4 b ((srtL_perm A).mem_iff.1 hb)).2⟩
/-- the number of blocks with a property -/
def cntD (p : List Int → Bool) (A : List (List Int)) : Int := (A.filter p).length
theorem cntD_perm {p : List Int → Bool} {A B : List (List Int)} (h : A.Perm B) : cntD p A = cntD p B := by unfold cntD; rw [(h.filter p).length_eq]
theorem cntD_snoc (p : List Int → Bool) (A : List (List Int)) (b : List Int) : cntD p (A ++ [b]) = cntD p A + if p b = true then 1 else 0 := by
  unfold cntD; rw [List.filter_append]; by_cases h : p b = true <;> simp [h]
theorem cntD_bd (p : List Int → Bool) (A : List (List Int)) : 0 ≤ cntD p A ∧ cntD p A ≤ A.length := by
  unfold cntD; have := List.length_filter_le p A; omega
/-- in how many blocks a point is -/
def repF (A : List (List Int)) (x : Nat) : Int := cntD (fun b => decide ((x : Int) ∈ b)) A
def repL (P : Nat) (A : List (List Int)) : List Int := (List.range P).map (repF A)
/-- in how many blocks two points are -/
def parF (A : List (List Int)) (x y : Nat) : Int := cntD (fun b => decide ((x : Int) ∈ b) && decide ((y : Int) ∈ b)) A
def parR (P : Nat) (A : List (List Int)) (x : Nat) : List Int := (List.range (P - (x + 1))).map fun t => parF A x (x + 1 + t)
def parL (P : Nat) (A : List (List Int)) : List Int := ((List.range P).map (parR P A)).flatten
/-- the parameters: whether there are any, and what they are -/
def prmB (P : Nat) (A : List (List Int)) : Bool :=
  decide (2 ≤ P) && decide (0 < A.length) && decide (2 ≤ (xat A 0).length) && (A.all fun b => b.length == (xat A 0).length) && ((parL P A).all fun c => c == nth (parL P A) 0)
def prmV (P : Nat) (A : List (List Int)) : List Int :=
  if prmB P A = true then [(P : Int), (A.length : Int), nth (repL P A) 0, ((xat A 0).length : Int), nth (parL P A) 0] else [0, 0, 0, 0, 0]
end Go.Proofs.YtdgmaodnkbgolaaGreat
end
