/- The texts of this claim, run 7: Qg5 PItc It2 PIm Qg8 PQg2 Qg6 Qg7 SqE. -/
import Derived.Test.YtdlmohigkkdegaaK3
import Derived.Test.YtdlmohigkkdegaaK4
import Derived.Test.YtdlmohigkkdegaaK5
import Derived.Test.YtdlmohigkkdegaaK6
import Derived.WalkKit
import Derived.Maps.OwnSet
import Derived.Maps.Views
section
/- Walks: the unit of a square, names of identities, reduced squares, squares of groups. -/
namespace Go.Proofs.Ytdlmohigkkdegaa
set_option linter.unusedSimpArgs false
set_option linter.unusedVariables false
open Go.RowKit
attribute [local go_sem ↓] Go.wp_at_zero Go.wp_at_succ

/-- a number and a truth value -/
def GivesIB (w : World) (u : Int) (b : Bool) (e : Ending) (w' : World) : Prop := e = .returned (.tuple #[.int .i64 u, .bool b]) ∧ St w.heap.size w w' []
set_option maxHeartbeats 8000000 in
set_option maxRecDepth 100000 in
theorem UnitOf_c (a : Option Addr) (c : Nat) (us : List Value) (A : List (List Int)) (w : World) (hv : RII w (.slice a A.length c) us A) (hA : Lat A) :
    Calls Try.prog 14 #[.slice a A.length c] w (GivesIB w (if 0 ≤ luI A ∧ ruI A = luI A then luI A else 0) (decide (0 ≤ luI A ∧ ruI A = luI A))) := by
  have KV := fun W (h : RII W (.slice a A.length c) us A) => Lib.hid (ValidSquare_c _ us A W h (fun x hx => by have := hA.len x hx; have := hA.le; omega))
  rw [latB_yes hA] at KV
  have K1 := fun W (h : RII W (.slice a A.length c) us A) => Lib.hid (leftUnit_c a c us A W h (by have := hA.le; omega))
  have K2 := fun W (h : RII W (.slice a A.length c) us A) => Lib.hid (rightUnit_c a c us A W h hA.sq0 (by have := hA.le; omega))
  have hS0 := St.refl w
  generalize luI A = l at *
  generalize ruI A = r at *
  clear hA
  by_cases hl : 0 ≤ l
  · have f1 : ¬ l < 0 := by omega
    by_cases hr : r = l
    · have f2 : (r != l) = false := ne_f hr
      rw [if_pos ⟨hl, hr⟩, decide_eq_true ⟨hl, hr⟩]
      clear hr hl
      go_enter Try.func14, Try.ntmps14
      go_wp2_with (first
        | (go_at_call 32; refine (KV _ hv).out.mono ?_; rintro e wa ⟨rfl, ha⟩; have hSa := hS0.call0 ha)
        | (go_at_call 47; refine (K1 _ (hSa.oldII hv)).out.mono ?_; rintro e wb ⟨rfl, hb⟩; have hSb := hSa.call0 hb)
        | (go_at_call 48; refine (K2 _ (hSb.oldII hv)).out.mono ?_; rintro e wc ⟨rfl, hc⟩; have hSc := hSb.call0 hc))
      go_ret2
      exact ⟨rfl, hSc⟩
    · have f2 : (r != l) = true := ne_t hr
      rw [if_neg (fun h => hr h.2), decide_eq_false (fun h => hr h.2)]
      clear hr hl
      go_enter Try.func14, Try.ntmps14
      go_wp2_with (first
        | (go_at_call 32; refine (KV _ hv).out.mono ?_; rintro e wa ⟨rfl, ha⟩; have hSa := hS0.call0 ha)
        | (go_at_call 47; refine (K1 _ (hSa.oldII hv)).out.mono ?_; rintro e wb ⟨rfl, hb⟩; have hSb := hSa.call0 hb)
        | (go_at_call 48; refine (K2 _ (hSb.oldII hv)).out.mono ?_; rintro e wc ⟨rfl, hc⟩; have hSc := hSb.call0 hc))
      go_ret2
      exact ⟨rfl, hSc⟩
  · have f1 : l < 0 := by omega
    rw [if_neg (fun h => hl h.1), decide_eq_false (fun h => hl h.1)]
    clear hl
    go_enter Try.func14, Try.ntmps14
    go_wp2_with (first
      | (go_at_call 32; refine (KV _ hv).out.mono ?_; rintro e wa ⟨rfl, ha⟩; have hSa := hS0.call0 ha)
      | (go_at_call 47; refine (K1 _ (hSa.oldII hv)).out.mono ?_; rintro e wb ⟨rfl, hb⟩; have hSb := hSa.call0 hb))
    go_ret2
    exact ⟨rfl, hSb⟩
/-- some string that is not empty -/
def GivesS (w : World) (e : Ending) (w' : World) : Prop := ∃ s : ByteArray, e = .returned (.string s) ∧ s.toList.isEmpty = false ∧ St w.heap.size w w' []
set_option maxHeartbeats 8000000 in
set_option maxRecDepth 100000 in
theorem IdentityName_c (k : Nat) (w : World) (h1 : 1 ≤ k) (h8 : k ≤ 8) : Calls Try.prog 15 #[.int .i64 k] w (GivesS w) := by
  have W1 := within_c (k : Int) 1 8
  rw [inB_true (by omega)] at W1
  have hk : k = 1 ∨ k = 2 ∨ k = 3 ∨ k = 4 ∨ k = 5 ∨ k = 6 ∨ k = 7 ∨ k = 8 := by omega
  clear h1 h8
  rcases hk with rfl | rfl | rfl | rfl | rfl | rfl | rfl | rfl
  all_goals
    go_enter Try.func15, Try.ntmps15
    go_wp2_with (go_at_call 49; refine (W1 _).mono ?_; rintro e wc ⟨rfl, hc⟩; subst hc)
    go_ret
    exact ⟨_, rfl, by first | rfl | decide +kernel, (St.refl w).alloc' _⟩
/-! ### reduced squares -/
set_option maxHeartbeats 8000000 in
set_option maxRecDepth 100000 in
theorem ReducedSquare_c (a : Option Addr) (c : Nat) (us : List Value) (A : List (List Int)) (w : World) (hv : RII w (.slice a A.length c) us A) (hA : Lat A) :
    Calls Try.prog 30 #[.slice a A.length c] w (IIK w (redL A) 0) := by
  have KV := fun W (h : RII W (.slice a A.length c) us A) => Lib.hid (ValidSquare_c _ us A W h (fun x hx => by have := hA.len x hx; have := hA.le; omega))
  rw [latB_yes hA] at KV
  have KZ := fun W (h : RII W (.slice a A.length c) us A) => Lib.hid (szII_c _ us A W h)
  have KI := fun W => Lib.hid (identity_c A.length W (by have := hA.le; omega))
  rw [show idn A.length = iot A.length from rfl] at KI
  have p0 := hA.row0
  have K1 := fun vs W (h : RII W (.slice a A.length c) us A) (hs : RdI W vs (iot A.length)) => Lib.hid (isotope_c (.slice a A.length c) vs (vat us 0) vs us A (iot A.length) (xat A 0) (iot A.length) W h hs (h.row 0 hA.pos) hs hA.sq0 (iot_isP _) p0.1 (iot_len _) p0.2 (iot_len _) (by have := hA.le; omega))
  rw [show isoL A (iot A.length) (xat A 0) (iot A.length) = ordL A from rfl] at K1
  have hO := ordL_lat hA
  have lO := ordL_len (A := A)
  have K2 := fun vo uo vf vs W (h : RII W vo uo (ordL A)) (hf : RdI W vf (colL (ordL A) 0)) (hs : RdI W vs (iot A.length)) => Lib.hid (isotope_c vo vf vs vs uo (ordL A) (colL (ordL A) 0) (iot A.length) (iot A.length) W h hf hs hs hO.sq0 (colP hA).1 (iot_isP _) (by rw [colL_len]) (by rw [iot_len, lO]) (by rw [iot_len, lO]) (by have := hO.le; omega))
  rw [show isoL (ordL A) (colL (ordL A) 0) (iot A.length) (iot A.length) = redL A from rfl] at K2
  have hix0 := hv.ixe (0 : Int) 0 rfl hA.pos
  have Hpos := Lib.hid hA.pos
  have HR := Lib.hid (redL_len (A := A))
  have HO := Lib.hid hO
  have HC := fun k (hk : k < A.length) => Lib.hid (col_take (A := ordL A) (y := 0) (k := k) (by rw [lO]; exact hk))
  have HE := Lib.hid (show (colL (ordL A) 0).take A.length = colL (ordL A) 0 by rw [← (colP hA).2, List.take_length])
  have hA10 := hA.le
  have Hrow := Lib.hid (show ∀ x, x < A.length → (xat (ordL A) x).length = A.length from fun x hx => by have := hO.len x (by rw [lO]; exact hx); rw [lO] at this; exact this)
  have HlO := Lib.hid lO
  have HcL := Lib.hid (colP hA).2
  have hS0 := St.refl w
  clear hA hO p0 lO
  generalize ordL A = O at *
  go_enter Try.func30, Try.ntmps30
  go_wp2_with (first
    | (go_at_call 32; refine (KV _ hv).out.mono ?_; rintro e wa ⟨rfl, ha⟩; have hSa := hS0.call0 ha)
    | (go_at_call 33; refine (KZ _ (hSa.oldII hv)).out.mono ?_; rintro e wb ⟨rfl, hb⟩; subst hb)
    | (go_at_call 70; refine (KI _).out.mono ?_; rintro e wc ⟨vs, rfl, hc⟩; have hSc := hSa.call hc; have c0 := (hSc.oldII hv).cell 0 Hpos.out)
    | (go_at_call 71; refine (K1 vs _ (hSc.oldII hv) (hSc.rdI 0 rfl)).out.mono ?_; rintro e wd ⟨vo, uo, rfl, hlo, hd⟩; have hSd := hSc.call hd; refine Hid.out ?_))
  rw [HlO.out] at hlo
  have Hlo := Lib.hid hlo
  have hS1 := hSd.newnil 2
  have hS2 : St w.heap.size w wd (row 2 (.slice none 0 0) (iv ((colL O 0).take 0)) :: row 2 vs (iv (iot A.length)) :: own2 vo uo O) := hS1.perm (L' := [row 2 (.slice none 0 0) (iv ((colL O 0).take 0))] ++ ([] ++ [row 2 vs (iv (iot A.length))] ++ own2 vo uo O)) List.perm_append_comm
  have R0 := fun W f (h : St w.heap.size w W (f :: row 2 vs (iv (iot A.length)) :: own2 vo uo O)) => Lib.hid ((h.sub ((List.sublist_cons_self _ _).trans (List.sublist_cons_self _ _))).rii (by rw [Hlo.out, HlO.out]))
  have hlnO := (R0 _ _ hS2).out.len
  rw [HlO.out] at hlnO
  have hixO := (R0 _ _ hS2).out.ixe
  clear hS1 hSd hd hSc hc hSa ha hS0 hlo
  refine Lib.hid ?_
  go_wp2_with fail
  go_loopw [24, 6, 8] (fun i f _ wr => ∃ (k : Nat) (v2 : Value), v2 = f ∧ k ≤ A.length ∧ i = .int .i64 k ∧ St w.heap.size w wr (row 2 v2 (iv ((colL O 0).take k)) :: row 2 vs (iv (iot A.length)) :: own2 vo uo O)) (fun i _ _ _ => A.length - (intOf i).toNat)
  case atStart => exact ⟨0, _, rfl, by omega, rfl, hS2⟩
  case round =>
    clear hS2
    obtain ⟨k, v2, rfl, hk, rfl, hS⟩ := hrel
    by_cases hlt : k < A.length
    · have hki : (k : Int) < (A.length : Int) := by omega
      have rO := (R0 _ _ hS).out
      have hc := rO.cell k (by rw [HlO.out]; exact hlt)
      have hx := hixO (k : Int) k rfl (by rw [HlO.out]; exact hlt)
      have hr := rO.row k (by rw [HlO.out]; exact hlt)
      have hrl := Hrow.out k hlt
      have hr0 := hr.cell 0 (by rw [hrl]; exact Hpos.out)
      rw [show nth (xat O k) 0 = at2 O k 0 from rfl] at hr0
      have hx0 := hr.ixe (0 : Int) 0 rfl (by rw [hrl]; exact Hpos.out)
      have HT := HC k hlt
      have hN := Lib.hid (show ((colL O 0).take k).length < 4294967296 by rw [List.length_take]; omega)
      generalize at2 O k 0 = q at *
      clear hr hrl rO
      go_wp2_with (at_builtin; refine appI hS 0 rfl hN.out rfl _ _ rfl rfl _ rfl ?_; intro v5 w5 hS5; simp only [List.set_cons_zero] at hS5)
      rw [← HT.out] at hS5
      go_roundw
      case rel => exact ⟨k + 1, _, rfl, by omega, by go_num, hS5⟩
      case measure => simp [intOf]; omega
    · obtain rfl : k = A.length := by omega
      rw [HE.out] at hS
      have rO := (R0 _ _ hS).out
      have KK := K2 vo uo v2 vs _ rO (hS.rdI 0 rfl) (hS.rdI 1 rfl)
      clear rO
      go_wp2_with (go_at_call 71; refine KK.out.mono ?_; rintro e wd ⟨vz, uz, rfl, hlz, hd⟩; have hSd := (hS.call hd).sub (List.sublist_append_right _ _))
      go_ret2
      exact ⟨vz, uz, rfl, hlz, hSd⟩
set_option maxHeartbeats 4000000 in
set_option maxRecDepth 100000 in
theorem IsGroupBased_c (a : Option Addr) (c : Nat) (us : List Value) (A : List (List Int)) (w : World) (hv : RII w (.slice a A.length c) us A) (hA : Lat A) (b : Bool) (hb : b = true ↔ GrpB A) :
    Calls Try.prog 8 #[.slice a A.length c] w (GivesB w b) := by
  have K1 := Lib.hid (ReducedSquare_c a c us A w hv hA)
  have hR := redL_lat hA
  have lR := redL_len (A := A)
  have he : ascB (redL A) = b := by
    rw [Bool.eq_iff_iff, ascB_iff hR.sq0, hb, lR]; exact GrpB.asc hA
  have K2 := fun va vc uo W (h : RII W (.slice va (redL A).length vc) uo (redL A)) => Lib.hid (associative_c va vc uo (redL A) W h hR.sq0)
  rw [he] at K2
  clear he hb hA hR lR
  generalize redL A = R at *
  go_enter Try.func8, Try.ntmps8
  go_wp2_with (first
    | (go_at_call 30; refine K1.out.mono ?_; rintro e w2 ⟨v2, u2, rfl, hl2, h2⟩; have r2 := h2.rii (v := v2) hl2; obtain ⟨va, vc, hsh⟩ := r2.1.sl.sh; rw [r2.2.1] at hsh; subst hsh)
    | (go_at_call 31; (refine (K2 va vc u2 _ r2).out.mono ?_; rintro e w3 ⟨rfl, h3⟩)))
  go_ret
  exact ⟨rfl, (h2.call0 h3).out⟩
end Go.Proofs.Ytdlmohigkkdegaa
end

section
/- Intercalates of Latin squares, in plain terms: their list, isotopes have as many, switching one. -/
namespace Go.Proofs.Ytdlmohigkkdegaa
set_option linter.unusedSimpArgs false
set_option linter.unusedVariables false
/-- the rows r, s and the columns c, d hold two symbols -/
def Inc (A : List (List Int)) (r s c d : Nat) : Prop := at2 A r c = at2 A s d ∧ at2 A r d = at2 A s c
instance (A : List (List Int)) (r s c d : Nat) : Decidable (Inc A r s c d) := by unfold Inc; exact inferInstance
def q4 (r s c d : Nat) : List Int := [(r : Int), (s : Int), (c : Int), (d : Int)]
section
variable {n : Nat} {A : List (List Int)} {r s c d : Nat}
end
/-! ### isotopes have as many -/
/-- b is a with rows, columns and symbols renamed -/
structure Iso2 (n : Nat) (A B : List (List Int)) (f g h : Nat → Nat) : Prop where
  bf : Bij n f
  bg : Bij n g
  at' : ∀ x y, x < n → y < n → at2 B (f x) (g y) = h (at2 A x y).toNat
theorem Iso2.inc {n : Nat} {A B : List (List Int)} {f g h : Nat → Nat} (H : Iso2 n A B f g h) {r s c d : Nat} (hr : r < n) (hs : s < n) (hc : c < n) (hd : d < n) (e : Inc A r s c d) : Inc B (f r) (f s) (g c) (g d) :=
  ⟨by rw [H.at' r c hr hc, H.at' s d hs hd, e.1], by rw [H.at' r d hr hd, H.at' s c hs hc, e.2]⟩
/-! ### switching -/
section
variable {A : List (List Int)} {r s c d : Nat}
end
end Go.Proofs.Ytdlmohigkkdegaa
end

section
/- Walks: intercalates of a Latin square, subsquares, a list among lists. -/
namespace Go.Proofs.Ytdlmohigkkdegaa
set_option linter.unusedSimpArgs false
set_option linter.unusedVariables false
open Go.RowKit Go.Maps
attribute [local go_sem ↓] Go.wp_at_zero Go.wp_at_succ

/-! ### a list among lists -/
/-! ### subsquares -/
def kL (l : List Int) : List Lit := l.map fun x => .int .i64 x
/-- the entries of rows xs and columns ys -/
def entL (A : List (List Int)) (xs ys : List Int) : List Int := xs.flatMap fun x => ys.map fun y => at2 A x.toNat y.toNat
def entP (A : List (List Int)) (xs ys : List Int) (k j : Nat) : List Int := entL A (xs.take k) ys ++ (ys.take j).map fun y => at2 A (nth xs k).toNat y.toNat
/-- the number of different ones -/
def dcn (l : List Int) : Nat := ((kL l).foldl addKey []).length
theorem entP_step {A : List (List Int)} {xs ys : List Int} {k j : Nat} (hj : j < ys.length) : entP A xs ys k (j + 1) = entP A xs ys k j ++ [at2 A (nth xs k).toNat (nth ys j).toNat] := by
  unfold entP; rw [take_nth hj]; simp
theorem entP_next {A : List (List Int)} {xs ys : List Int} {k : Nat} (hk : k < xs.length) : entP A xs ys k ys.length = entP A xs ys (k + 1) 0 := by
  unfold entP entL; rw [take_nth hk]; simp
theorem entP_end (A : List (List Int)) (xs ys : List Int) : entP A xs ys xs.length 0 = entL A xs ys := by unfold entP; simp
theorem kL_key (l : List Int) : ∀ x ∈ kL l, WideAt.IsKeyLit x := fun x hx => by
  obtain ⟨y, _, rfl⟩ := List.mem_map.1 hx
  exact trivial
theorem entP_len (A : List (List Int)) (xs ys : List Int) (k j : Nat) : (entP A xs ys k j).length ≤ xs.length * ys.length + ys.length := by
  have h : ∀ l : List Int, (entL A l ys).length = l.length * ys.length := fun l => by
    induction l with
    | nil => simp [entL]
    | cons x l ih => unfold entL at ih ⊢; rw [List.flatMap_cons, List.length_append, ih, List.length_map, List.length_cons, Nat.succ_mul]; omega
  unfold entP
  rw [List.length_append, h, List.length_map, List.length_take, List.length_take]
  have : min k xs.length * ys.length ≤ xs.length * ys.length := Nat.mul_le_mul_right _ (by omega)
  omega
theorem St.mapped {w0 w w' : World} {b : Nat} (h : St w0.heap.size w0 w []) (hg : w.grownBy w' (some b)) (hb : w0.heap.size ≤ b) : St w0.heap.size w0 w' [] :=
  ⟨h.below.grown hg h.base (fun k hk => by cases hk; exact hb), Nat.le_trans h.base hg.size, by simp, by simp⟩
theorem Try.lawI : Keyed Try.prog 2 := int_keyed Try.underlying2
theorem vset_lt {xs : List Int} {n : Nat} (h : validSetB xs n = true) {j : Nat} (hj : j < xs.length) : 0 ≤ nth xs j ∧ nth xs j < n := by
  unfold validSetB at h
  have h1 : incB (-1) n xs = true := by revert h; cases incB (-1) (n : Int) xs <;> simp
  have := incB_gt h1 _ (nth_mem hj)
  omega
theorem vset_len {xs : List Int} {n : Nat} (h : validSetB xs n = true) : xs.length ≤ n := by
  have h1 : incB (-1) n xs = true := by unfold validSetB at h; revert h; cases incB (-1) (n : Int) xs <;> simp
  have key : ∀ (xs : List Int) (last : Int), incB last n xs = true → (xs.length : Int) ≤ n - 1 - last ∨ xs = [] := by
    intro xs
    induction xs with
    | nil => intro last _; exact .inr rfl
    | cons x r ih =>
      intro last h
      unfold incB at h
      by_cases e : x ≤ last ∨ (n : Int) ≤ x
      · rw [if_pos e] at h; cases h
      · rw [if_neg e] at h
        rcases ih x h with q | q
        · left; simp only [List.length_cons]; omega
        · subst q; left; simp only [List.length_cons, List.length_nil]; omega
  rcases key xs (-1) h1 with q | q
  · omega
  · subst q; simp
theorem i64_wf {z : Int} (h : -9223372036854775808 ≤ z ∧ z ≤ 9223372036854775807) : (Lit.int .i64 z).wf = true := by
  simp only [Lit.wf, IntKind.min, IntKind.max, IntKind.signed, IntKind.bits, Bool.and_eq_true, decide_eq_true_eq, if_true]
  omega
set_option maxHeartbeats 8000000 in
set_option maxRecDepth 100000 in
theorem IsSubsquare_c (v vx vy : Value) (us : List Value) (A : List (List Int)) (xs ys : List Int) (w : World) (hv : RII w v us A) (hx : RdI w vx xs) (hy : RdI w vy ys) (hA : Lat A)
    (h1 : validSetB xs A.length = true) (h2 : validSetB ys A.length = true) (hl : xs.length = ys.length) (h0 : 0 < xs.length) :
    Calls Try.prog 17 #[v, vx, vy] w (GivesB w (decide (dcn (entL A xs ys) = xs.length))) := by
  have hmm := @run_makeMap Try.prog
  have KV := fun W (h : RII W v us A) => Lib.hid (ValidSquare_c v us A W h (fun x hx => by have := hA.len x hx; have := hA.le; omega))
  rw [latB_yes hA] at KV
  have KZ := fun W (h : RII W v us A) => Lib.hid (szII_c v us A W h)
  have KX := fun W (h : RdI W vx xs) => Lib.hid (ValidSet_c vx xs A.length W h)
  have KY := fun W (h : RdI W vy ys) => Lib.hid (ValidSet_c vy ys A.length W h)
  rw [h1] at KX
  rw [h2] at KY
  have hlx := hx.len
  have hly := hy.len
  have hxx := hx.ixe
  have hyx := hy.ixe
  have hlex := hx.le
  have hley := hy.le
  have Hx := fun j hj => Lib.hid (vset_lt h1 (j := j) hj)
  have Hy := fun j hj => Lib.hid (vset_lt h2 (j := j) hj)
  have HA := Lib.hid hA
  have Hel := Lib.hid (show ∀ x y, x < A.length → y < A.length → 0 ≤ at2 A x y ∧ at2 A x y < 10 from fun x y a b => by have := hA.sq0.el x y a b; have := hA.le; omega)
  have Hend := Lib.hid (entP_end A xs ys)
  have hx10 : xs.length ≤ 10 := by have := vset_len h1; have := hA.le; omega
  have hS0 := St.refl w
  have fl : ((xs.length : Int) != (ys.length : Int)) = false := ne_f (by omega)
  have f0 : ((xs.length : Int) == 0) = false := eq_f (by omega)
  have Hcap := fun k j => Lib.hid (show (entP A xs ys k j).length < maxLen by
    have h3 := entP_len A xs ys k j
    have : xs.length * ys.length ≤ 10 * 10 := Nat.mul_le_mul hx10 (by omega)
    unfold maxLen; omega)
  have Hl := Lib.hid hl
  have Hx10 := Lib.hid hx10
  clear h1 h2 hA hl hx10
  go_enter Try.func17, Try.ntmps17
  go_wp2_with (first
    | (go_at_call 32; refine (KV _ (hS0.oldII hv)).out.mono ?_; rintro e w2 ⟨rfl, h2⟩; have hS2 := hS0.call0 h2; clear hS0)
    | (go_at_call 33; refine (KZ _ (hS2.oldII hv)).out.mono ?_; rintro e w3 ⟨rfl, h3⟩; subst h3)
    | (go_at_call_of 40 vx; refine (KX _ (hS2.oldI hx)).out.mono ?_; rintro e w4 ⟨rfl, h4⟩; subst h4)
    | (go_at_call_of 40 vy; refine (KY _ (hS2.oldI hy)).out.mono ?_; rintro e w4 ⟨rfl, h4⟩; subst h4))
  have hT2 := hS2.alloc' (.map #[] 0)
  have hbB := hS2.base
  obtain ⟨b, hb⟩ : ∃ b, b = w2.heap.size := ⟨_, rfl⟩
  rw [← hb] at hbB ⊢
  have hM0 : (w2.alloc (.map #[] 0)).ownsMap Try.prog 2 (plainElem (H := Unit) Try.prog 4) b 0 (setOf (.lit (.bool true)) (kL (entP A xs ys 0 0))) := by
    rw [hb]; exact World.ownsMap_made _ _ _ _
  generalize w2.alloc (.map #[] 0) = w3 at *
  clear hb hS2 h2
  go_loopw [44, 9, 11] (fun i _ _ wr => ∃ k : Nat, k ≤ xs.length ∧ i = .int .i64 k ∧ Hid (wr.ownsMap Try.prog 2 (plainElem (H := Unit) Try.prog 4) b (entP A xs ys k 0).length (setOf (.lit (.bool true)) (kL (entP A xs ys k 0)))) ∧ St w.heap.size w wr []) (fun i _ _ _ => xs.length - (intOf i).toNat)
  case atStart => exact ⟨0, by omega, rfl, by simpa [Hid, entP, entL] using hM0, hT2⟩
  case round =>
    clear hM0 hT2
    obtain ⟨k, hk, rfl, hM, hS⟩ := hrel
    by_cases hlt : k < xs.length
    · have hck := (hS.oldI hx).cell k hlt
      have hxk := hxx (k : Int) k rfl hlt
      have hN := Lib.hid (entP_next (A := A) (ys := ys) hlt)
      obtain ⟨x, hxe⟩ : ∃ x : Nat, nth xs k = (x : Int) := ⟨(nth xs k).toNat, by have := (Hx k hlt).out; omega⟩
      have hxn : x < A.length := by have := (Hx k hlt).out; omega
      rw [hxe] at hck
      have hkt : (k : Int) < (xs.length : Int) := by omega
      have HXE := Lib.hid hxe
      clear hxe
      go_wp2_with fail
      go_loopw [50, 11] (fun i _ wr => ∃ j : Nat, j ≤ ys.length ∧ i = .int .i64 j ∧ Hid (wr.ownsMap Try.prog 2 (plainElem (H := Unit) Try.prog 4) b (entP A xs ys k j).length (setOf (.lit (.bool true)) (kL (entP A xs ys k j)))) ∧ St w.heap.size w wr []) (fun i _ _ => ys.length - (intOf i).toNat)
      case atStart => exact ⟨0, by omega, rfl, hM.out, hS⟩
      case round =>
        clear hM hS hck
        obtain ⟨j, hj, rfl, hM, hS⟩ := hrel
        by_cases hlj : j < ys.length
        · have hcj := (hS.oldI hy).cell j hlj
          have hyj := hyx (j : Int) j rfl hlj
          obtain ⟨y, hye⟩ : ∃ y : Nat, nth ys j = (y : Int) := ⟨(nth ys j).toNat, by have := (Hy j hlj).out; omega⟩
          have hyn : y < A.length := by have := (Hy j hlj).out; omega
          rw [hye] at hcj
          have hjt : (j : Int) < (ys.length : Int) := by omega
          have hra := (hS.oldII hv).cell x hxn
          have hrx := hv.ixe (x : Int) x rfl hxn
          have hrow := (hS.oldII hv).row x hxn
          have hrl := HA.out.len x hxn
          have hca := hrow.cell y (by rw [hrl]; exact hyn)
          rw [show nth (xat A x) y = at2 A x y from rfl] at hca
          have hia := hrow.ixe (y : Int) y rfl (by rw [hrl]; exact hyn)
          have HS := Lib.hid (show entP A xs ys k (j + 1) = entP A xs ys k j ++ [at2 A x y] by rw [entP_step hlj, HXE.out, hye]; rfl)
          have hel := Hel.out x y hxn hyn
          have hkey : keyOf Try.prog 2 (.int .i64 (at2 A x y)) = some (.int .i64 (at2 A x y)) := keyOf_int_mk Try.underlying2 (i64_wf (by omega))
          have hM2 := hM.out
          have hcap := (Hcap k j).out
          generalize at2 A x y = z at *
          clear hye hrow hrl
          go_wp2_with (at_mapUpdate; refine wpList_mapUpdate_own _ rfl _ _ _ 63 rfl 2 4 Try.lawI Try.underlying63 (plainElem (H := Unit) Try.prog 4) b _ _ rfl hM2 hcap _ _ _ rfl rfl hkey _ [] (plainElem_bool Try.underlying4 true) ?_; intro w5 hM5 hg5)
          have hS5 := hS.mapped hg5 hbB
          have hM6 : w5.ownsMap Try.prog 2 (plainElem (H := Unit) Try.prog 4) b (entP A xs ys k (j + 1)).length (setOf (.lit (.bool true)) (kL (entP A xs ys k (j + 1)))) := by
            rw [HS.out, List.length_append, kL, List.map_append]
            exact (setOf_snoc (.lit (.bool true)) (kL (entP A xs ys k j)) (.int .i64 z)).symm ▸ hM5
          go_roundw
          case rel => exact ⟨j + 1, by omega, by go_num, hM6, hS5⟩
          case measure => simp [intOf]; omega
        · obtain rfl : j = ys.length := by omega
          have hM2 : Hid (wr.ownsMap Try.prog 2 (plainElem (H := Unit) Try.prog 4) b (entP A xs ys (k + 1) 0).length (setOf (.lit (.bool true)) (kL (entP A xs ys (k + 1) 0)))) := by rw [← hN.out]; exact hM
          go_wp2_with fail
          go_roundw
          case rel => exact ⟨k + 1, by omega, by go_num, hM2, hS⟩
          case measure => simp [intOf]; omega
    · obtain rfl : k = xs.length := by omega
      rw [Hend.out] at hM
      have hM2 := hM.out
      have Hsz := Lib.hid (size_setOf (H := Unit) (.lit (.bool true)) (kL (entL A xs ys)) (kL_key _))
      rw [show ((kL (entL A xs ys)).foldl addKey []).length = dcn (entL A xs ys) from rfl] at Hsz
      go_wp2_with (at_len; refine wpList_len_own (w := wr) rfl _ 63 rfl 2 4 Try.underlying63 (plainElem (H := Unit) Try.prog 4) b _ _ rfl hM2 ?_)
      go_ret
      exact ⟨ret_bool (by rw [Hsz.out, Bool.eq_iff_iff, beq_iff_eq, decide_eq_true_iff]; omega), hS⟩
end Go.Proofs.Ytdlmohigkkdegaa
end

section
/- Images of sets under permutations; ranks of permutations. In plain terms. -/
namespace Go.Proofs.Ytdlmohigkkdegaa
set_option linter.unusedSimpArgs false
set_option linter.unusedVariables false
theorem incB_pw : ∀ {xs : List Int} {l n : Int}, incB l n xs = true → xs.Pairwise (· < ·)
  | [], _, _, _ => List.Pairwise.nil
  | x :: t, l, n, h => by
    unfold incB at h; split at h
    · simp at h
    · exact List.Pairwise.cons (fun y hy => (incB_gt h y hy).1) (incB_pw h)
theorem incB_of : ∀ {xs : List Int} {l n : Int}, (∀ x ∈ xs, l < x ∧ x < n) → xs.Pairwise (· < ·) → incB l n xs = true
  | [], _, _, _, _ => rfl
  | x :: t, l, n, h, hp => by
    have h1 := h x (by simp)
    have h2 := List.pairwise_cons.1 hp
    unfold incB
    rw [if_neg (by omega)]
    exact incB_of (fun y hy => ⟨h2.1 y hy, (h y (by simp [hy])).2⟩) h2.2
theorem pw_le {xs : List Int} (h : xs.Pairwise (· < ·)) : xs.Pairwise (· ≤ ·) := h.imp fun h => by omega
theorem pw_lt {xs : List Int} (h : xs.Pairwise (· ≤ ·)) (hn : xs.Nodup) : xs.Pairwise (· < ·) :=
  (List.Pairwise.and h (List.nodup_iff_pairwise_ne.1 hn)).imp fun ⟨a, b⟩ => by omega
theorem srt_up (xs : List Int) : (srt xs).Pairwise (· ≤ ·) := msort_sorted xs
/-! ### ranks -/
end Go.Proofs.Ytdlmohigkkdegaa
end

section
/- Walks: what symbols generate in a Latin square. -/
namespace Go.Proofs.Ytdlmohigkkdegaa
set_option linter.unusedSimpArgs false
set_option linter.unusedVariables false
open Go.RowKit
attribute [local go_sem ↓] Go.wp_at_zero Go.wp_at_succ

/-- closed under the square's operation -/
def ClQ (A : List (List Int)) (L : List Int) : Prop := ∀ x ∈ L, ∀ y ∈ L, at2 A x.toNat y.toNat ∈ L
/-- a list on its way to what xs generate -/
structure ClS (A : List (List Int)) (xs L : List Int) : Prop where
  nd : L.Nodup
  lt : ∀ x ∈ L, 0 ≤ x ∧ x < A.length
  sub : ∀ x ∈ xs, x ∈ L
  same : ClQ A xs → L = xs
section
variable {A : List (List Int)} {xs L : List Int}
theorem ClS.len (h : ClS A xs L) : L.length ≤ A.length := by
  have h1 : (L.map Int.toNat).Nodup := by
    rw [List.nodup_iff_pairwise_ne, List.pairwise_map]
    have h0 := h.nd
    rw [List.nodup_iff_pairwise_ne] at h0
    refine List.Pairwise.imp_of_mem (fun {a b} ha hb hne e => hne ?_) h0
    have := h.lt a ha
    have := h.lt b hb
    omega
  have := length_le_of_nodup_lt h1 (n := A.length) (fun t ht => by
    obtain ⟨x, hx, rfl⟩ := List.mem_map.1 ht
    have := h.lt x hx; omega)
  simpa using this
theorem ClS.add (h : ClS A xs L) (hA : Sq0 A.length A) {x y : Int} (hx : x ∈ L) (hy : y ∈ L) (hn : at2 A x.toNat y.toNat ∉ L) : ClS A xs (L ++ [at2 A x.toNat y.toNat]) := by
  refine ⟨?_, fun z hz => ?_, fun z hz => List.mem_append_left _ (h.sub z hz), fun hc => ?_⟩
  · rw [List.nodup_append]
    exact ⟨h.nd, by simp, fun a ha b hb => by rw [List.mem_singleton] at hb; subst hb; intro e; subst e; exact hn ha⟩
  · rcases List.mem_append.1 hz with hz | hz
    · exact h.lt z hz
    · rw [List.mem_singleton] at hz; subst hz
      have := h.lt x hx
      have := h.lt y hy
      exact hA.el _ _ (by omega) (by omega)
  · have e := h.same hc
    subst e
    exact absurd (hc x hx y hy) hn
/-- what is generated -/
structure ClR (A : List (List Int)) (xs C : List Int) : Prop where
  set : validSetB C A.length = true
  sub : ∀ x ∈ xs, x ∈ C
  cl : ClQ A C
  same : ClQ A xs → C = xs
theorem ClS.done (h : ClS A xs L) (hA : A.length ≤ 32) (hc : ClQ A L) (hx : validSetB xs A.length = true) : ClR A xs (srt L) := by
  have hp := srt_perm L
  refine ⟨?_, fun x hx => hp.mem_iff.2 (h.sub x hx), fun x hx y hy => hp.mem_iff.2 (hc x (hp.mem_iff.1 hx) y (hp.mem_iff.1 hy)), fun hq => ?_⟩
  · unfold validSetB
    rw [inB_true (by omega), Bool.and_true]
    exact incB_of (fun x hx => by have := h.lt x (hp.mem_iff.1 hx); omega) (pw_lt (srt_up L) (hp.nodup_iff.2 h.nd))
  · have e := h.same hq
    subst e
    have h1 : incB (-1) A.length L = true := by unfold validSetB at hx; revert hx; cases incB (-1) (A.length : Int) L <;> simp
    exact sorted_eq hp (srt_up L) (pw_le (incB_pw h1))
theorem ClS.start (hx : validSetB xs A.length = true) : ClS A xs xs := by
  have h1 : incB (-1) A.length xs = true := by unfold validSetB at hx; revert hx; cases incB (-1) (A.length : Int) xs <;> simp
  refine ⟨?_, fun x hx => by have := incB_gt h1 x hx; omega, fun x hx => hx, fun _ => rfl⟩
  rw [List.nodup_iff_pairwise_ne]
  exact (incB_pw h1).imp fun h => by omega
end
/-- one round: the list L, of which L0 was there when it began; where nothing has grown, all pairs so far lie in it -/
def RndI (A : List (List Int)) (xs L0 L : List Int) (g : Bool) (k : Nat) : Prop := ClS A xs L ∧ (∀ x ∈ L0, x ∈ L) ∧ L0.length ≤ L.length ∧ (g = true → L0.length < L.length) ∧ (g = false → L = L0 ∧ ∀ i, i < k → ∀ y ∈ L0, at2 A (nth L0 i).toNat y.toNat ∈ L0)
def RndJ (A : List (List Int)) (xs L0 L1 L : List Int) (g : Bool) (k j : Nat) : Prop := RndI A xs L0 L g k ∧ (∀ x ∈ L1, x ∈ L) ∧ (g = false → L1 = L0 ∧ ∀ i, i < j → at2 A (nth L0 k).toNat (nth L1 i).toNat ∈ L0)
theorem RndJ.yes {A : List (List Int)} {xs L0 L1 L : List Int} {g : Bool} {k j : Nat} (h : RndJ A xs L0 L1 L g k j) (hs : at2 A (nth L0 k).toNat (nth L1 j).toNat ∈ L) : RndJ A xs L0 L1 L g k (j + 1) :=
  ⟨h.1, h.2.1, fun hg => ⟨(h.2.2 hg).1, fun i hi => by
    by_cases e : i = j
    · subst e
      have e2 := (h.1.2.2.2.2 hg).1
      subst e2; exact hs
    · exact (h.2.2 hg).2 i (by omega)⟩⟩
theorem RndJ.add {A : List (List Int)} {xs L0 L1 L : List Int} {g : Bool} {k j : Nat} (h : RndJ A xs L0 L1 L g k j) (hA : Sq0 A.length A) (hk : k < L0.length) (hj : j < L1.length) (hs : at2 A (nth L0 k).toNat (nth L1 j).toNat ∉ L) : RndJ A xs L0 L1 (L ++ [at2 A (nth L0 k).toNat (nth L1 j).toNat]) true k (j + 1) :=
  ⟨⟨h.1.1.add hA (h.1.2.1 _ (nth_mem hk)) (h.2.1 _ (nth_mem hj)) hs, fun x hx => List.mem_append_left _ (h.1.2.1 x hx), by have := h.1.2.2.1; simp; omega, fun _ => by have := h.1.2.2.1; simp; omega, fun e => by cases e⟩,
    fun x hx => List.mem_append_left _ (h.2.1 x hx), fun e => by cases e⟩
theorem RndI.into {A : List (List Int)} {xs L0 L : List Int} {g : Bool} {k : Nat} (h : RndI A xs L0 L g k) : RndJ A xs L0 L L g k 0 := ⟨h, fun _ hx => hx, fun hg => ⟨(h.2.2.2.2 hg).1, fun i hi => by omega⟩⟩
theorem RndJ.out {A : List (List Int)} {xs L0 L1 L : List Int} {g : Bool} {k : Nat} (h : RndJ A xs L0 L1 L g k L1.length) : RndI A xs L0 L g (k + 1) :=
  ⟨h.1.1, h.1.2.1, h.1.2.2.1, h.1.2.2.2.1, fun hg => ⟨(h.1.2.2.2.2 hg).1, fun i hi y hy => by
    by_cases e : i = k
    · subst e
      obtain ⟨e1, e2⟩ := h.2.2 hg
      rw [← e1] at hy
      obtain ⟨j, hj, rfl⟩ := List.getElem_of_mem hy
      have := e2 j hj
      rwa [nth_eq hj] at this
    · exact (h.1.2.2.2.2 hg).2 i (by omega) y hy⟩⟩
theorem RndI.cl {A : List (List Int)} {xs L0 L : List Int} (h : RndI A xs L0 L false L0.length) : ClQ A L := by
  obtain ⟨e, q⟩ := h.2.2.2.2 rfl
  subst e
  intro x hx y hy
  obtain ⟨i, hi, rfl⟩ := List.getElem_of_mem hx
  have := q i hi y hy
  rwa [nth_eq hi] at this
def ClosV (w : World) (A : List (List Int)) (xs : List Int) (e : Ending) (w' : World) : Prop := ∃ v C, e = .returned (.tuple #[v, .int .i64 0]) ∧ ClR A xs C ∧ St w.heap.size w w' [row 2 v (iv C)]
set_option maxHeartbeats 16000000 in
set_option maxRecDepth 100000 in
theorem ClosureIn_c (a : Option Addr) (c : Nat) (us : List Value) (A : List (List Int)) (vx : Value) (xs : List Int) (w : World) (hv : RII w (.slice a A.length c) us A) (hx : RdI w vx xs) (hA : Lat A) (hs : validSetB xs A.length = true) :
    Calls Try.prog 10 #[.slice a A.length c, vx] w (ClosV w A xs) := by
  have KV := fun W (h : RII W (.slice a A.length c) us A) => Lib.hid (ValidSquare_c _ us A W h (fun x hx => by have := hA.len x hx; have := hA.le; omega))
  rw [latB_yes hA] at KV
  have KZ := fun W (h : RII W (.slice a A.length c) us A) => Lib.hid (szII_c _ us A W h)
  have KX := fun W (h : RdI W vx xs) => Lib.hid (ValidSet_c vx xs A.length W h)
  rw [hs] at KX
  have HC0 := Lib.hid (ClS.start hs)
  have KC := fun W (h : RdI W vx xs) => Lib.hid (Clone_c vx xs W h (by have := (ClS.start hs).len; have := hA.le; omega))
  have KD := fun v2 (L : List Int) W (h : RdI W v2 L) (hl : L.length ≤ 10) => Lib.hid (Clone_c v2 L W h (by omega))
  have hix := hv.ixe
  have hA10 := hA.le
  have HA := Lib.hid hA
  have Hs := Lib.hid hs
  have hS0 := St.refl w
  clear hA hs
  go_enter Try.func10, Try.ntmps10
  go_wp2_with (first
    | (go_at_call 32; refine (KV _ (hS0.oldII hv)).out.mono ?_; rintro e wa ⟨rfl, ha⟩; have hSa := hS0.call0 ha)
    | (go_at_call 33; refine (KZ _ (hSa.oldII hv)).out.mono ?_; rintro e wb ⟨rfl, hb⟩; subst hb)
    | (go_at_call 40; refine (KX _ (hSa.oldI hx)).out.mono ?_; rintro e wb ⟨rfl, hb⟩; subst hb)
    | (go_at_call 41; refine (KC _ (hSa.oldI hx)).out.mono ?_; rintro e wc ⟨v2, rfl, hc⟩; have hSc := hSa.call hc))
  have hS1 : St w.heap.size w wc [row 2 v2 (iv xs)] := hSc
  clear hSc hc hSa ha hS0 KC KX
  go_loopg [6, 7, 9, 11] (2 * (A.length + 1 - xs.length) + 1) (fun m cl gr _ _ wr => ∃ (v2 : Value) (L : List Int) (g : Bool), v2 = cl ∧ gr = .bool g ∧ 2 * (A.length + 1 - L.length) + (if g then 1 else 0) = m ∧ Hid (ClS A xs L ∧ (g = false → ClQ A L)) ∧ St w.heap.size w wr [row 2 v2 (iv L)])
  case atStart => exact ⟨v2, xs, true, rfl, rfl, by simp, ⟨HC0.out, fun h => by cases h⟩, hS1⟩
  case round =>
    clear hS1
    obtain ⟨v2, L0, g, rfl, rfl, hm, hI, hS⟩ := hrel
    have Hm := Lib.hid hm
    clear hm
    cases g
    · have HD := Lib.hid (hI.out.1.done (by have := HA.out.le; omega) (hI.out.2 rfl) Hs.out)
      have hL := hI.out.1.len
      have KS := Lib.hid (Sort_c hS 0 rfl (by omega))
      clear hI hL
      go_wp2_with (go_at_call 43; refine KS.out.mono ?_; rintro e w2 ⟨rfl, h2⟩)
      go_ret2
      exact ⟨_, _, rfl, HD.out, h2⟩
    · have HI0 : Hid (RndI A xs L0 L0 false 0) := Lib.hid ⟨hI.out.1, fun _ hx => hx, Nat.le_refl _, fun e => (by cases e), fun _ => ⟨rfl, fun i hi => by omega⟩⟩
      have hL0 : L0.length ≤ 10 := by have := hI.out.1.len; omega
      have KK := KD _ L0 wr (hS.rdI 0 rfl) hL0
      clear hI
      go_wp2_with (go_at_call 41; refine KK.out.mono ?_; rintro e w2 ⟨vA, rfl, h2⟩; have hS2 := hS.call h2; refine Hid.out ?_)
      have rA := (hS2.rdI 1 rfl)
      have lA := rA.len
      have ixA := rA.ixe
      have hS3 : St w.heap.size w w2 [row 2 v2 (iv L0), row 2 vA (iv L0)] := hS2
      clear hS2 h2 rA KK hS
      refine Lib.hid ?_
      go_wp2_with fail
      go_loopw [26, 6, 7, 9, 11] (fun i cl gr _ _ wr => ∃ (k : Nat) (v3 : Value) (L : List Int) (g : Bool), v3 = cl ∧ gr = .bool g ∧ k ≤ L0.length ∧ i = .int .i64 k ∧ Hid (RndI A xs L0 L g k) ∧ St w.heap.size w wr [row 2 v3 (iv L), row 2 vA (iv L0)]) (fun i _ _ _ _ _ => L0.length - (intOf i).toNat)
      case atStart => exact ⟨0, _, L0, false, rfl, rfl, by omega, rfl, HI0.out, hS3⟩
      case round =>
        clear hS3 HI0
        obtain ⟨k, v3, L1, g, rfl, rfl, hk, rfl, hI, hS⟩ := hrel
        by_cases hlt : k < L0.length
        · have hki : (k : Int) < (L0.length : Int) := by omega
          have ck := (hS.rdI 1 rfl).cell k hlt
          have ik := ixA (k : Int) k rfl hlt
          have hL1 : L1.length ≤ 10 := by have := hI.out.1.len; omega
          obtain ⟨x, hxe, hxn⟩ : ∃ x : Nat, nth L0 k = (x : Int) ∧ x < A.length := by
            have := hI.out.1.lt _ (hI.out.2.1 _ (nth_mem hlt))
            exact ⟨(nth L0 k).toNat, by omega, by omega⟩
          rw [hxe] at ck
          have KK := KD _ L1 wr (hS.rdI 0 rfl) hL1
          have HJ := Lib.hid hI.out.into
          have Hxe := Lib.hid hxe
          clear hI hxe
          go_wp2_with (go_at_call 41; refine KK.out.mono ?_; rintro e w2 ⟨vB, rfl, h2⟩; have hS2 := hS.call h2; refine Hid.out ?_)
          have rB := (hS2.rdI 2 rfl)
          have lB := rB.len
          have ixB := rB.ixe
          have hS3 : St w.heap.size w w2 [row 2 v3 (iv L1), row 2 vA (iv L0), row 2 vB (iv L1)] := hS2
          clear hS2 h2 rB KK hS ck
          refine Lib.hid ?_
          go_wp2_with fail
          go_loopw [33, 6, 7, 11] (fun i cl gr _ wr => ∃ (j : Nat) (v4 : Value) (L : List Int) (g : Bool), v4 = cl ∧ gr = .bool g ∧ j ≤ L1.length ∧ i = .int .i64 j ∧ Hid (RndJ A xs L0 L1 L g k j) ∧ St w.heap.size w wr [row 2 v4 (iv L), row 2 vA (iv L0), row 2 vB (iv L1)]) (fun i _ _ _ _ => L1.length - (intOf i).toNat)
          case atStart => exact ⟨0, _, L1, g, rfl, rfl, by omega, rfl, HJ.out, hS3⟩
          case round =>
            clear hS3 HJ
            obtain ⟨j, v4, L, g, rfl, rfl, hj, rfl, hJ, hS⟩ := hrel
            by_cases hlj : j < L1.length
            · have hji : (j : Int) < (L1.length : Int) := by omega
              have cj := (hS.rdI 2 rfl).cell j hlj
              have ij := ixB (j : Int) j rfl hlj
              obtain ⟨y, hye, hyn⟩ : ∃ y : Nat, nth L1 j = (y : Int) ∧ y < A.length := by
                have := hJ.out.1.1.lt _ (hJ.out.2.1 _ (nth_mem hlj))
                exact ⟨(nth L1 j).toNat, by omega, by omega⟩
              rw [hye] at cj
              have rA := hS.oldII hv
              have cx := rA.cell x hxn
              have ix := hix (x : Int) x rfl hxn
              have hrl := HA.out.len x hxn
              have cy := (rA.row x hxn).cell y (by rw [hrl]; exact hyn)
              rw [show nth (xat A x) y = at2 A x y from rfl] at cy
              have iy := (rA.row x hxn).ixe (y : Int) y rfl (by rw [hrl]; exact hyn)
              have Hse := Lib.hid (show at2 A (nth L0 k).toNat (nth L1 j).toNat = at2 A x y by rw [Hxe.out, hye]; rfl)
              have KC2 := Lib.hid (Contains_c _ L (at2 A x y) wr (hS.rdI 0 rfl))
              have hLl : L.length ≤ 10 := by have := hJ.out.1.1.len; omega
              by_cases hm : at2 A x y ∈ L
              · have HJ2 := Lib.hid (hJ.out.yes (by rw [Hse.out]; exact hm))
                rw [decide_eq_true hm] at KC2
                generalize at2 A x y = s at *
                clear hm hye hrl rA hJ
                go_wp2_with (go_at_call 42; refine KC2.out.mono ?_; rintro e2 w4 ⟨rfl, hw4⟩; subst hw4)
                go_roundw
                case rel => exact ⟨j + 1, _, L, g, rfl, rfl, by omega, by go_num, HJ2.out, hS⟩
                case measure => simp [intOf]; omega
              · have HJ2 := Lib.hid (hJ.out.add HA.out.sq0 hlt hlj (by rw [Hse.out]; exact hm))
                rw [Hse.out] at HJ2
                rw [decide_eq_false hm] at KC2
                generalize at2 A x y = s at *
                clear hm hye hrl rA hJ
                go_wp2_with (first
                  | (at_builtin; refine appI hS 0 rfl (by omega) rfl _ _ rfl rfl _ rfl ?_; intro v5 w5 hS5; simp only [List.set_cons_zero] at hS5)
                  | (go_at_call 42; refine KC2.out.mono ?_; rintro e2 w4 ⟨rfl, hw4⟩; subst hw4))
                go_roundw
                case rel => exact ⟨j + 1, _, L ++ [s], true, rfl, rfl, by omega, by go_num, HJ2.out, hS5⟩
                case measure => simp [intOf]; omega
            · obtain rfl : j = L1.length := by omega
              have HI2 := Lib.hid hJ.out.out
              clear hJ
              go_wp2_with fail
              go_roundw
              case rel => exact ⟨k + 1, _, L, g, rfl, rfl, by omega, by go_num, HI2.out, hS.sub (((List.Sublist.refl _).cons_cons _).cons_cons _ |>.trans (by simp))⟩
              case measure => simp [intOf]; omega
        · obtain rfl : k = L0.length := by omega
          go_wp2_with fail
          go_roundg (2 * (A.length + 1 - L1.length) + (if g then 1 else 0))
          case measure =>
            have h1 := hI.out.1.len
            have h2 := hI.out.2.2.1
            have h3 := hI.out.2.2.2.1
            have h4 := hI.out.2.2.2.2
            have h5 := Hm.out
            cases g
            · have := (h4 rfl).1
              subst this
              simp at h5 ⊢; omega
            · have := h3 rfl
              simp at h5 ⊢; omega
          case rel => exact ⟨_, L1, g, rfl, rfl, rfl, ⟨hI.out.1, fun e => by subst e; exact hI.out.cl⟩, hS.sub (by simp)⟩
end Go.Proofs.Ytdlmohigkkdegaa
end

section
/- Closed sets of symbols, units and identities of Latin squares, in plain terms. -/
namespace Go.Proofs.Ytdlmohigkkdegaa
set_option linter.unusedSimpArgs false
set_option linter.unusedVariables false
open Go.Maps

theorem keyI_iff (a b : Int) : (Lit.int .i64 a).sameKey (.int .i64 b) = true ↔ a = b := by
  simp [Lit.sameKey]
theorem addKey_spec : ∀ (l acc : List Int), acc.Nodup → ∃ D : List Int, (kL l).foldl addKey (kL acc) = kL D ∧ D.Nodup ∧ ∀ x, x ∈ D ↔ x ∈ acc ∨ x ∈ l
  | [], acc, h => ⟨acc, rfl, h, fun x => by simp⟩
  | x :: l, acc, h => by
    by_cases hx : x ∈ acc
    · have e : addKey (kL acc) (.int .i64 x) = kL acc := by
        unfold addKey
        rw [if_pos]
        rw [List.any_eq_true]
        exact ⟨.int .i64 x, List.mem_map.2 ⟨x, hx, rfl⟩, (keyI_iff x x).2 rfl⟩
      obtain ⟨D, h1, h2, h3⟩ := addKey_spec l acc h
      refine ⟨D, ?_, h2, fun y => ?_⟩
      · show (kL l).foldl addKey (addKey (kL acc) (.int .i64 x)) = kL D
        rw [e, h1]
      · rw [h3 y]; simp only [List.mem_cons]
        constructor
        · rintro (a | a)
          · exact .inl a
          · exact .inr (.inr a)
        · rintro (a | rfl | a)
          · exact .inl a
          · exact .inl hx
          · exact .inr a
    · have e : addKey (kL acc) (.int .i64 x) = kL (acc ++ [x]) := by
        unfold addKey
        rw [if_neg, kL, kL, List.map_append]; rfl
        intro hq
        rw [List.any_eq_true] at hq
        obtain ⟨y, hy, hs⟩ := hq
        obtain ⟨z, hz, rfl⟩ := List.mem_map.1 hy
        exact hx ((keyI_iff z x).1 hs ▸ hz)
      obtain ⟨D, h1, h2, h3⟩ := addKey_spec l (acc ++ [x]) (by
        rw [List.nodup_append]
        exact ⟨h, by simp, fun a ha b hb => by rw [List.mem_singleton] at hb; subst hb; intro e; subst e; exact hx ha⟩)
      refine ⟨D, ?_, h2, fun y => ?_⟩
      · show (kL l).foldl addKey (addKey (kL acc) (.int .i64 x)) = kL D
        rw [e, h1]
      · rw [h3 y]; simp only [List.mem_append, List.mem_cons, List.mem_singleton, List.not_mem_nil, or_false]
        constructor
        · rintro ((a | a) | a)
          · exact .inl a
          · exact .inr (.inl a)
          · exact .inr (.inr a)
        · rintro (a | a | a)
          · exact .inl (.inl a)
          · exact .inl (.inr a)
          · exact .inr a
theorem dcn_of {l C : List Int} (hC : C.Nodup) (h : ∀ x, x ∈ l ↔ x ∈ C) : dcn l = C.length := by
  obtain ⟨D, h1, h2, h3⟩ := addKey_spec l [] List.nodup_nil
  unfold dcn
  rw [show ([] : List Lit) = kL [] from rfl, h1, kL, List.length_map]
  have : D.Perm C := (List.perm_ext_iff_of_nodup h2 hC).2 fun x => by rw [h3 x, ← h x]; simp
  exact this.length_eq
theorem vset_pw {C : List Int} {n : Nat} (h : validSetB C n = true) : C.Pairwise (· < ·) ∧ ∀ x ∈ C, 0 ≤ x ∧ x < n := by
  have h1 : incB (-1) n C = true := by unfold validSetB at h; revert h; cases incB (-1) (n : Int) C <;> simp
  exact ⟨incB_pw h1, fun x hx => by have := incB_gt h1 x hx; omega⟩
theorem vset_inc {C : List Int} {n : Nat} (h : validSetB C n = true) : incB (-1) n C = true := by unfold validSetB at h; revert h; cases incB (-1) (n : Int) C <;> simp
theorem pw_nodupZ {C : List Int} (h : C.Pairwise (· < ·)) : C.Nodup := by rw [List.nodup_iff_pairwise_ne]; exact h.imp fun h => by omega
/-- a closed set is a subsquare -/
theorem dcn_cl {A : List (List Int)} {C : List Int} (hA : Lat A) (hC : validSetB C A.length = true) (hq : ClQ A C) (h0 : 0 < C.length) : dcn (entL A C C) = C.length := by
  obtain ⟨hp, hlt⟩ := vset_pw hC
  have hn := pw_nodupZ hp
  refine dcn_of hn fun x => ?_
  unfold entL
  simp only [List.mem_flatMap, List.mem_map]
  constructor
  · rintro ⟨a, ha, b, hb, rfl⟩; exact hq a ha b hb
  · intro hx
    refine Classical.byContradiction fun hno => ?_
    have ha := nth_mem h0
    generalize nth C 0 = a at ha
    have hnd : (C.map fun y => at2 A a.toNat y.toNat).Nodup := by
      rw [List.nodup_iff_pairwise_ne, List.pairwise_map]
      refine List.Pairwise.imp_of_mem (fun {y z} hy hz hlt' e => ?_) hp
      have h1 := hlt a ha
      have h2 := hlt y hy
      have h3 := hlt z hz
      have := hA.rinj (x := a.toNat) (i := y.toNat) (j := z.toNat) (by omega) (by omega) (by omega) e
      omega
    have hx' : x ∉ C.map fun y => at2 A a.toNat y.toNat := fun hm => by
      obtain ⟨y, hy, rfl⟩ := List.mem_map.1 hm
      exact hno ⟨a, ha, y, hy, rfl⟩
    have := List.Nodup.length_le_of_subset (l₁ := x :: C.map fun y => at2 A a.toNat y.toNat) (l₂ := C) (List.nodup_cons.2 ⟨hx', hnd⟩) (fun z hz => by
      rcases List.mem_cons.1 hz with rfl | hz
      · exact hx
      · obtain ⟨y, hy, rfl⟩ := List.mem_map.1 hz
        exact hq a ha y hy)
    simp at this
    omega
/-! ### units -/
theorem idxR_spec {p : List Int → Bool} {A : List (List Int)} : idxR p A 0 = -1 ∨ ∃ j, j < A.length ∧ idxR p A 0 = j ∧ p (xat A j) = true := by
  have key : ∀ d k : Nat, d = A.length - k → idxR p A k = -1 ∨ ∃ j, j < A.length ∧ idxR p A k = j ∧ p (xat A j) = true := by
    intro d
    induction d with
    | zero => intro k hk; exact .inl (idxR_end (by omega))
    | succ d ih =>
      intro k hk
      have hlt : k < A.length := by omega
      cases h : p (xat A k)
      · rw [idxR_step hlt h]; exact ih (k + 1) (by omega)
      · exact .inr ⟨k, hlt, idxR_hit hlt h, h⟩
  exact key _ 0 rfl
theorem fstN_spec {p : Nat → Bool} : ∀ f k : Nat, fstN p f k = -1 ∨ ∃ j, j < k + f ∧ fstN p f k = j ∧ p j = true
  | 0, _ => .inl rfl
  | f + 1, k => by
    rw [fstN]
    cases h : p k
    · rcases fstN_spec (p := p) f (k + 1) with e | ⟨j, h1, h2, h3⟩
      · exact .inl (by simpa using e)
      · exact .inr ⟨j, by omega, by simpa using h2, h3⟩
    · exact .inr ⟨k, by omega, by simp, h⟩
/-- a left and a right unit are the same -/
theorem unit_eq {A : List (List Int)} (h1 : 0 ≤ luI A) (h2 : 0 ≤ ruI A) : ruI A = luI A ∧ luI A < A.length := by
  rcases idxR_spec (p := fun r => decide (r = idn A.length)) (A := A) with e | ⟨i, hi, e1, e2⟩
  · unfold luI at h1; omega
  · rcases fstN_spec (p := ruB A) A.length 0 with e | ⟨j, hj, e3, e4⟩
    · unfold ruI at h2; omega
    · have hj' : j < A.length := by omega
      have e5 := of_decide_eq_true e2
      have e6 := of_decide_eq_true (allB_iff.1 e4 i hi)
      have e7 : at2 A i j = j := by unfold at2; rw [e5]; simp [idn, nth, hj']
      unfold luI ruI
      rw [e1, e3]
      omega
theorem luI_lt {A : List (List Int)} (h1 : 0 ≤ luI A) : luI A < A.length := by
  rcases idxR_spec (p := fun r => decide (r = idn A.length)) (A := A) with e | ⟨i, hi, e1, _⟩
  · unfold luI at h1; omega
  · unfold luI; rw [e1]; omega
theorem kd4 (A : List (List Int)) : (4 : Int) ∈ kdL A 8 ↔ 0 ≤ luI A := by
  rw [mem_kdL]
  constructor
  · rintro ⟨k, hk, h, e⟩
    obtain rfl : k = 3 := by omega
    exact of_decide_eq_true (show decide (0 ≤ luI A) = true from h)
  · intro h; exact ⟨3, by omega, show decide (0 ≤ luI A) = true from decide_eq_true h, rfl⟩
theorem kd5 (A : List (List Int)) : (5 : Int) ∈ kdL A 8 ↔ 0 ≤ ruI A := by
  rw [mem_kdL]
  constructor
  · rintro ⟨k, hk, h, e⟩
    obtain rfl : k = 4 := by omega
    exact of_decide_eq_true (show decide (0 ≤ ruI A) = true from h)
  · intro h; exact ⟨4, by omega, show decide (0 ≤ ruI A) = true from decide_eq_true h, rfl⟩
theorem kd6 {A : List (List Int)} (h : (6 : Int) ∈ kdL A 8) : ascB A = true := by
  obtain ⟨k, hk, h, e⟩ := mem_kdL.1 h
  obtain rfl : k = 5 := by omega
  exact h
theorem kd_rng {A : List (List Int)} {x : Int} (h : x ∈ kdL A 8) : ∃ k : Nat, x = k ∧ 1 ≤ k ∧ k ≤ 8 := by
  obtain ⟨k, hk, _, e⟩ := mem_kdL.1 h
  exact ⟨k + 1, e, by omega, by omega⟩
/-- the unit that is told, and whether there is one -/
theorem unit_law (A : List (List Int)) (hA : 1 ≤ A.length) : decide (0 ≤ luI A ∧ ruI A = luI A) = (decide ((4 : Int) ∈ kdL A 8) && decide ((5 : Int) ∈ kdL A 8)) ∧ 0 ≤ (if 0 ≤ luI A ∧ ruI A = luI A then luI A else 0) ∧ (if 0 ≤ luI A ∧ ruI A = luI A then luI A else 0) < A.length := by
  refine ⟨?_, ?_, ?_⟩
  · rw [Bool.eq_iff_iff, Bool.and_eq_true, decide_eq_true_iff, decide_eq_true_iff, decide_eq_true_iff, kd4, kd5]
    constructor
    · rintro ⟨h1, h2⟩; exact ⟨h1, by omega⟩
    · rintro ⟨h1, h2⟩; exact ⟨h1, (unit_eq h1 h2).1⟩
  · split
    · rename_i h; exact h.1
    · omega
  · split
    · rename_i h; exact luI_lt h.1
    · omega
end Go.Proofs.Ytdlmohigkkdegaa
end

section
/- Walks: the quadrangle criterion. -/
namespace Go.Proofs.Ytdlmohigkkdegaa
set_option linter.unusedSimpArgs false
set_option linter.unusedVariables false
open Go.RowKit
attribute [local go_sem ↓] Go.wp_at_zero Go.wp_at_succ

/-! ### where each symbol stands -/
/-- S tells the column of each symbol in each row, T the row of each symbol in each column, as far as place y of row x -/
structure InvS (A S T : List (List Int)) (x y : Nat) : Prop where
  s : Sqr A.length S
  t : Sqr A.length T
  at' : ∀ i j, i < A.length → j < A.length → (i < x ∨ i = x ∧ j < y) → at2 S i (af A i j) = j ∧ at2 T j (af A i j) = i
section
variable {A S T : List (List Int)} {x y : Nat}
theorem InvS.start : InvS A (sqF A.length fun _ _ => 0) (sqF A.length fun _ _ => 0) 0 0 := ⟨sqF_sqr _ _, sqF_sqr _ _, fun _ _ _ _ h => by omega⟩
theorem InvS.next (h : InvS A S T x A.length) : InvS A S T (x + 1) 0 := ⟨h.s, h.t, fun i j hi hj hl => h.at' i j hi hj (by omega)⟩
theorem InvS.step (h : InvS A S T x y) (hA : Lat A) (hx : x < A.length) (hy : y < A.length) : InvS A (putS S x (af A x y) y) (putS T y (af A x y) x) x (y + 1) := by
  have hl := hA.latin
  have hm := (hl.row x hx).lt y hy
  refine ⟨putS_sqr h.s hx _ _, putS_sqr h.t hy _ _, fun i j hi hj hlt => ?_⟩
  rw [at2_putS h.s hx hm, at2_putS h.t hy hm]
  by_cases e : i = x ∧ j = y
  · obtain ⟨rfl, rfl⟩ := e
    rw [if_pos ⟨rfl, rfl⟩, if_pos ⟨rfl, rfl⟩]; exact ⟨rfl, rfl⟩
  · have hb := h.at' i j hi hj (by omega)
    rw [if_neg (fun q => e ⟨q.1.symm, by
        obtain ⟨q1, q2⟩ := q; subst q1
        exact ((hl.row x hx).inj y j hy hj q2).symm⟩), if_neg (fun q => e ⟨by
        obtain ⟨q1, q2⟩ := q; subst q1
        exact ((hl.col y hy).inj x i hx hi q2).symm, q.1.symm⟩)]
    exact hb
theorem InvS.row (h : InvS A S T A.length 0) {i j : Nat} (hi : i < A.length) (hj : j < A.length) : at2 S i (af A i j) = j := (h.at' i j hi hj (.inl hi)).1
theorem InvS.col (h : InvS A S T A.length 0) {i j : Nat} (hi : i < A.length) (hj : j < A.length) : at2 T j (af A i j) = i := (h.at' i j hi hj (.inl hi)).2
theorem InvS.exr (h : InvS A S T A.length 0) (hA : Lat A) {i s : Nat} (hi : i < A.length) (hs : s < A.length) : ∃ j, j < A.length ∧ af A i j = s ∧ at2 S i s = j := by
  obtain ⟨j, hj, e⟩ := (hA.latin.row i hi).onto hs
  exact ⟨j, hj, e, by rw [← e]; exact h.row hi hj⟩
theorem InvS.exc (h : InvS A S T A.length 0) (hA : Lat A) {j s : Nat} (hj : j < A.length) (hs : s < A.length) : ∃ i, i < A.length ∧ af A i j = s ∧ at2 T j s = i := by
  obtain ⟨i, hi, e⟩ := (hA.latin.col j hj).onto hs
  exact ⟨i, hi, e, by rw [← e]; exact h.col hi hj⟩
theorem InvS.sq0 (h : InvS A S T A.length 0) (hA : Lat A) : Sq0 A.length S ∧ Sq0 A.length T :=
  ⟨⟨h.s, fun x y hx hy => by obtain ⟨j, hj, _, e⟩ := h.exr hA hx hy; rw [e]; omega⟩, ⟨h.t, fun x y hx hy => by obtain ⟨j, hj, _, e⟩ := h.exc hA hx hy; rw [e]; omega⟩⟩
end
/-- one quadrangle -/
def quP (A S T : List (List Int)) (r s c d u : Nat) : Bool := decide (at2 A s d = at2 A (af T (af S u (af A r c)) (af A s c)) (af S u (af A r d)))
def quB (A S T : List (List Int)) : Bool := allB A.length fun r => allB A.length fun s => allB A.length fun c => allB A.length fun d => allB A.length fun u => quP A S T r s c d u
theorem quB_iff {A S T : List (List Int)} (hA : Lat A) (h : InvS A S T A.length 0) : quB A S T = true ↔ GrpB A := by
  have hl := hA.latin
  unfold quB GrpB Quad
  simp only [allB_iff, quP, decide_eq_true_iff]
  constructor
  · intro k r s c d u v e f hr hs hc hd hu hv he hf e1 e2 e3
    have q := k r hr s hs c hc d hd u hu
    have a1 : af S u (af A r c) = e := by rw [← e1]; unfold af; have := h.row hu he; unfold af at this; rw [this]; rfl
    have a2 : af S u (af A r d) = f := by rw [← e2]; unfold af; have := h.row hu hf; unfold af at this; rw [this]; rfl
    have a3 : af T e (af A s c) = v := by rw [← e3]; unfold af; have := h.col hv he; unfold af at this; rw [this]; rfl
    rw [a1, a2, a3] at q
    show (at2 A s d).toNat = (at2 A v f).toNat
    rw [q]
  · intro k r hr s hs c hc d hd u hu
    obtain ⟨e, he, e1, e2⟩ := h.exr hA hu ((hl.row r hr).lt c hc)
    obtain ⟨f, hf, f1, f2⟩ := h.exr hA hu ((hl.row r hr).lt d hd)
    have a1 : af S u (af A r c) = e := by show (at2 S u (af A r c)).toNat = e; rw [e2]; rfl
    have a2 : af S u (af A r d) = f := by show (at2 S u (af A r d)).toNat = f; rw [f2]; rfl
    obtain ⟨v, hv, v1, v2⟩ := h.exc hA he ((hl.row s hs).lt c hc)
    have a3 : af T e (af A s c) = v := by show (at2 T e (af A s c)).toNat = v; rw [v2]; rfl
    rw [a1, a2, a3]
    have q := k r s c d u v e f hr hs hc hd hu hv he hf e1 f1 v1
    rw [(ent hA.sq0 hs hd).1, (ent hA.sq0 hv hf).1, q]
/-- the three squares behind their boxes -/
structure BxQ (W : World) (gA gS gT : Nat) (a : Option Addr) (c : Nat) (us : List Value) (A : List (List Int)) (sa : Option Addr) (sc : Nat) (uS : List Value) (S : List (List Int)) (ta : Option Addr) (tc : Nat) (uT : List Value) (T : List (List Int)) : Prop where
  a : BxS W gA a c us A
  s : BxS W gS sa sc uS S
  t : BxS W gT ta tc uT T
section
variable {W W' : World} {L : List Ent} {gA gS gT : Nat} {a : Option Addr} {c : Nat} {us : List Value} {A : List (List Int)} {sa : Option Addr} {sc : Nat} {uS : List Value} {S : List (List Int)} {ta : Option Addr} {tc : Nat} {uT : List Value} {T : List (List Int)}
theorem BxQ.keep (h : BxQ W gA gS gT a c us A sa sc uS S ta tc uT T) (hS : St W.heap.size W W' L) : BxQ W' gA gS gT a c us A sa sc uS S ta tc uT T := ⟨h.a.keep hS, h.s.keep hS, h.t.keep hS⟩
set_option maxHeartbeats 8000000 in
set_option maxRecDepth 100000 in
theorem qu4_c (n : Nat) (hb : BxQ W gA gS gT a c us A sa sc uS S ta tc uT T) (hA : Sq0 n A) (hS : Sq0 n S) (hT : Sq0 n T) (g1 g2 g3 g4 : Nat) (r s cc d u : Nat)
    (k1 : W.cell? ⟨g1, 0, none⟩ = some (.int .i64 r)) (k2 : W.cell? ⟨g2, 0, none⟩ = some (.int .i64 cc)) (k3 : W.cell? ⟨g3, 0, none⟩ = some (.int .i64 d)) (k4 : W.cell? ⟨g4, 0, none⟩ = some (.int .i64 s))
    (hr : r < n) (hs : s < n) (hc : cc < n) (hd : d < n) (hu : u < n) :
    Calls Try.prog 39 #[.int .i64 u, .pointer (some ⟨gS, 0, none⟩), .pointer (some ⟨gA, 0, none⟩), .pointer (some ⟨g1, 0, none⟩), .pointer (some ⟨g2, 0, none⟩), .pointer (some ⟨g3, 0, none⟩), .pointer (some ⟨gT, 0, none⟩), .pointer (some ⟨g4, 0, none⟩)] W (GivesB W (quP A S T r s cc d u)) := by
  have HP := Lib.hid (show quP A S T r s cc d u = decide (at2 A s d = at2 A (af T (af S u (af A r cc)) (af A s cc)) (af S u (af A r d))) from rfl)
  have lA := hA.len
  have lS := hS.len
  have lT := hT.len
  have hA' : Sq0 A.length A := by rw [lA]; exact hA
  have hS' : Sq0 S.length S := by rw [lS]; exact hS
  have hT' : Sq0 T.length T := by rw [lT]; exact hT
  obtain ⟨e1, m1⟩ := ent hA hr hc
  obtain ⟨e2, m2⟩ := ent hA hr hd
  obtain ⟨e3, m3⟩ := ent hA hs hc
  obtain ⟨e4, m4⟩ := ent hS hu m1
  obtain ⟨e5, m5⟩ := ent hS hu m2
  obtain ⟨e6, m6⟩ := ent hT m4 m3
  have HB := Lib.hid hb
  have b1 := fun q : SS W.heap.size W [] => (hb.keep q.st).a.bx
  have b2 := fun q : SS W.heap.size W [] => (hb.keep q.st).s.bx
  have b3 := fun q : SS W.heap.size W [] => (hb.keep q.st).t.bx
  rw [lA] at b1
  rw [lS] at b2
  rw [lT] at b3
  have s1 := fun q : SS W.heap.size W [] => keepc k1 q.st
  have s2 := fun q : SS W.heap.size W [] => keepc k2 q.st
  have s3 := fun q : SS W.heap.size W [] => keepc k3 q.st
  have s4 := fun q : SS W.heap.size W [] => keepc k4 q.st
  have r1 := fun q : SS W.heap.size W [] => (hb.keep q.st).a.row (x := r) (by omega)
  have r2 := fun q : SS W.heap.size W [] => (hb.keep q.st).a.row (x := s) (by omega)
  have r3 := fun q : SS W.heap.size W [] => (hb.keep q.st).s.row (x := u) (by omega)
  have r4 := fun q : SS W.heap.size W [] => (hb.keep q.st).t.row (x := af S u (af A r cc)) (by omega)
  have r5 := fun q : SS W.heap.size W [] => (hb.keep q.st).a.row (x := af T (af S u (af A r cc)) (af A s cc)) (by omega)
  have i1 := hb.a.ix (x := r) (by omega)
  have i2 := hb.a.ix (x := s) (by omega)
  have i3 := hb.s.ix (x := u) (by omega)
  have i4 := hb.t.ix (x := af S u (af A r cc)) (by omega)
  have i5 := hb.a.ix (x := af T (af S u (af A r cc)) (af A s cc)) (by omega)
  rw [lA] at r1 r2 r5 i1 i2 i5
  rw [lS] at r3 i3
  rw [lT] at r4 i4
  have c1 := fun q : SS W.heap.size W [] => (hb.keep q.st).a.ent hA' (x := r) (y := cc) (by omega) (by omega)
  have c2 := fun q : SS W.heap.size W [] => (hb.keep q.st).a.ent hA' (x := r) (y := d) (by omega) (by omega)
  have c3 := fun q : SS W.heap.size W [] => (hb.keep q.st).a.ent hA' (x := s) (y := cc) (by omega) (by omega)
  have c4 := fun q : SS W.heap.size W [] => (hb.keep q.st).a.ent hA' (x := s) (y := d) (by omega) (by omega)
  have c5 := fun q : SS W.heap.size W [] => (hb.keep q.st).s.ent hS' (x := u) (y := af A r cc) (by omega) (by omega)
  have c6 := fun q : SS W.heap.size W [] => (hb.keep q.st).s.ent hS' (x := u) (y := af A r d) (by omega) (by omega)
  have c7 := fun q : SS W.heap.size W [] => (hb.keep q.st).t.ent hT' (x := af S u (af A r cc)) (y := af A s cc) (by omega) (by omega)
  have c8 := fun q : SS W.heap.size W [] => (hb.keep q.st).a.ent hA' (x := af T (af S u (af A r cc)) (af A s cc)) (y := af S u (af A r d)) (by omega) (by omega)
  have j1 := hb.a.ixr hA' (x := r) (y := cc) (by omega) (by omega)
  have j2 := hb.a.ixr hA' (x := r) (y := d) (by omega) (by omega)
  have j3 := hb.a.ixr hA' (x := s) (y := cc) (by omega) (by omega)
  have j4 := hb.a.ixr hA' (x := s) (y := d) (by omega) (by omega)
  have j5 := hb.s.ixr hS' (x := u) (y := af A r cc) (by omega) (by omega)
  have j6 := hb.s.ixr hS' (x := u) (y := af A r d) (by omega) (by omega)
  have j7 := hb.t.ixr hT' (x := af S u (af A r cc)) (y := af A s cc) (by omega) (by omega)
  have j8 := hb.a.ixr hA' (x := af T (af S u (af A r cc)) (af A s cc)) (y := af S u (af A r d)) (by omega) (by omega)
  rw [e1] at c1
  rw [e2] at c2
  rw [e3] at c3
  rw [e4] at c5
  rw [e5] at c6
  rw [e6] at c7
  clear hb e1 e2 e3 e4 e5 e6 m1 m2 m3 m4 m5 m6 hr hs hc hd hu k1 k2 k3 k4 lA lS lT hA' hS' hT'
  generalize af T (af S u (af A r cc)) (af A s cc) = v at *
  generalize af S u (af A r cc) = e at *
  generalize af S u (af A r d) = f at *
  generalize af A r cc = z1 at *
  generalize af A r d = z2 at *
  generalize af A s cc = z3 at *
  generalize at2 A s d = p at *
  generalize at2 A v f = q at *
  have hS := St.refl W
  go_enter Try.func39, Try.ntmps39
  go_wp2_with fail
  have hne : Nonempty (SS _ _ _) := ⟨⟨_, hS⟩⟩
  refine wp_region_st (by kernel_rfl) (by kernel_rfl) hS ?_
  repeat (go_big_quiet_step (fail))
  refine wpQuiet_nil ?_
  rintro _ ⟨s2, rfl⟩
  have hS2 := s2.st
  generalize s2.w = w2 at hS2 ⊢
  clear hS
  have hS := hS2
  go_wp2_with fail
  have hne : Nonempty (SS _ _ _) := ⟨⟨_, hS⟩⟩
  refine wp_region_st (by kernel_rfl) (by kernel_rfl) hS ?_
  repeat (go_big_quiet_step (fail))
  refine wpQuiet_nil ?_
  rintro _ ⟨s2, rfl⟩
  have hS3 := s2.st
  generalize s2.w = w3 at hS3 ⊢
  clear hS
  have hS := hS3
  go_wp2_with fail
  have hne : Nonempty (SS _ _ _) := ⟨⟨_, hS⟩⟩
  refine wp_region_st (by kernel_rfl) (by kernel_rfl) hS ?_
  repeat (go_big_quiet_step (fail))
  refine wpQuiet_nil ?_
  rintro _ ⟨s2, rfl⟩
  have hS4 := s2.st
  generalize s2.w = w4 at hS4 ⊢
  go_wp2_with fail
  go_ret
  exact ⟨ret_bool (by rw [HP.out, beq_dec]), hS4⟩
end
end Go.Proofs.Ytdlmohigkkdegaa
end

section
/- Walks: the quadrangle criterion, whole. -/
namespace Go.Proofs.Ytdlmohigkkdegaa
set_option linter.unusedSimpArgs false
set_option linter.unusedVariables false
open Go.RowKit
attribute [local go_sem ↓] Go.wp_at_zero Go.wp_at_succ

section
variable {W : World} {gA gS gT : Nat} {a : Option Addr} {c : Nat} {us : List Value} {A : List (List Int)} {sa : Option Addr} {sc : Nat} {uS : List Value} {S : List (List Int)} {ta : Option Addr} {tc : Nat} {uT : List Value} {T : List (List Int)}
set_option maxHeartbeats 8000000 in
set_option maxRecDepth 100000 in
theorem qu3_c (hb : BxQ W gA gS gT a c us A sa sc uS S ta tc uT T) (hA : Sq0 A.length A) (hS : Sq0 A.length S) (hT : Sq0 A.length T) (g1 g4 : Nat) (r s cc d : Nat)
    (k1 : W.cell? ⟨g1, 0, none⟩ = some (.int .i64 r)) (k4 : W.cell? ⟨g4, 0, none⟩ = some (.int .i64 s)) (hr : r < A.length) (hs : s < A.length) (hc : cc < A.length) (hd : d < A.length) :
    Calls Try.prog 37 #[.int .i64 cc, .int .i64 d, .pointer (some ⟨gA, 0, none⟩), .pointer (some ⟨gS, 0, none⟩), .pointer (some ⟨g1, 0, none⟩), .pointer (some ⟨gT, 0, none⟩), .pointer (some ⟨g4, 0, none⟩)] W (GivesB W (allB A.length fun u => quP A S T r s cc d u)) := by
  have hS1 := ((St.refl W).newboxF 2 #[.int .i64 cc]).newboxF 2 #[.int .i64 d]
  simp only [World.size_alloc] at hS1
  have hcf := callFunc_go Try.func39 (by kernel_rfl) (by kernel_rfl)
  have hmf : ∀ (fn : Fn) (first cap : Array Value) (w : World), (Instr.makeFunc fn first cap).run Try.prog w = .ok (.func fn first cap) w := fun _ _ _ _ => rfl
  have b0 := keepc hb.a.bx hS1
  have hcall := Lib.hid (forAll_c 39 #[.pointer (some ⟨gS, 0, none⟩), .pointer (some ⟨gA, 0, none⟩), .pointer (some ⟨g1, 0, none⟩), .pointer (some ⟨W.heap.size, 0, none⟩), .pointer (some ⟨W.heap.size + 1, 0, none⟩), .pointer (some ⟨gT, 0, none⟩), .pointer (some ⟨g4, 0, none⟩)] (fun u => quP A S T r s cc d u) (.slice a A.length c) us A _ (hS1.oldII hb.a.rd) hcf (fun u W' hW hu =>
    qu4_c A.length (hb.keep (hS1.call0 hW).out) hA hS hT g1 W.heap.size (W.heap.size + 1) g4 r s cc d u (keepc k1 (hS1.call0 hW).out) ((hS1.call0 hW).bcell 1 rfl 0 rfl) ((hS1.call0 hW).bcell 0 rfl 0 rfl) (keepc k4 (hS1.call0 hW).out) hr hs hc hd hu))
  clear hcf hb hA hS hT k1 k4
  go_enter Try.func37, Try.ntmps37
  go_wp2_with fail
  refine hcall.out.mono ?_
  rintro e w2 ⟨rfl, h3⟩
  have hS2 := hS1.call0 h3
  go_wp2_with fail
  go_ret
  exact ⟨rfl, hS2.out⟩
set_option maxHeartbeats 8000000 in
set_option maxRecDepth 100000 in
theorem qu2_c (hb : BxQ W gA gS gT a c us A sa sc uS S ta tc uT T) (hA : Sq0 A.length A) (hS : Sq0 A.length S) (hT : Sq0 A.length T) (r s : Nat) (hr : r < A.length) (hs : s < A.length) :
    Calls Try.prog 36 #[.int .i64 r, .int .i64 s, .pointer (some ⟨gA, 0, none⟩), .pointer (some ⟨gS, 0, none⟩), .pointer (some ⟨gT, 0, none⟩)] W (GivesB W (allB A.length fun cc => allB A.length fun d => allB A.length fun u => quP A S T r s cc d u)) := by
  have hS1 := ((St.refl W).newboxF 2 #[.int .i64 r]).newboxF 2 #[.int .i64 s]
  simp only [World.size_alloc] at hS1
  have hcf := callFunc_go Try.func37 (by kernel_rfl) (by kernel_rfl)
  have hmf : ∀ (fn : Fn) (first cap : Array Value) (w : World), (Instr.makeFunc fn first cap).run Try.prog w = .ok (.func fn first cap) w := fun _ _ _ _ => rfl
  have b0 := keepc hb.a.bx hS1
  have hcall := Lib.hid (forPairs_c 37 #[.pointer (some ⟨gA, 0, none⟩), .pointer (some ⟨gS, 0, none⟩), .pointer (some ⟨W.heap.size, 0, none⟩), .pointer (some ⟨gT, 0, none⟩), .pointer (some ⟨W.heap.size + 1, 0, none⟩)] (fun cc d => allB A.length fun u => quP A S T r s cc d u) a c us A _ (hS1.oldII hb.a.rd) hcf (fun cc d W' hW hc hd =>
    qu3_c (hb.keep (hS1.call0 hW).out) hA hS hT W.heap.size (W.heap.size + 1) r s cc d ((hS1.call0 hW).bcell 1 rfl 0 rfl) ((hS1.call0 hW).bcell 0 rfl 0 rfl) hr hs hc hd))
  clear hcf hb hA hS hT
  go_enter Try.func36, Try.ntmps36
  go_wp2_with fail
  refine hcall.out.mono ?_
  rintro e w2 ⟨rfl, h3⟩
  have hS2 := hS1.call0 h3
  go_wp2_with fail
  go_ret
  exact ⟨rfl, hS2.out⟩
end
set_option maxHeartbeats 16000000 in
set_option maxRecDepth 100000 in
theorem QuadranglesHold_c (a : Option Addr) (c : Nat) (us : List Value) (A : List (List Int)) (w : World) (hv : RII w (.slice a A.length c) us A) (hA : Lat A) (b : Bool) (hbb : b = true ↔ GrpB A) :
    Calls Try.prog 9 #[.slice a A.length c] w (GivesB w b) := by
  have hS0 := (St.refl w).newboxF 24 #[.slice a A.length c]
  have KV := fun W (h : RII W (.slice a A.length c) us A) => Lib.hid (ValidSquare_c _ us A W h (fun x hx => by have := hA.len x hx; have := hA.le; omega))
  rw [latB_yes hA] at KV
  have KZ := fun W (h : RII W (.slice a A.length c) us A) => Lib.hid (szII_c _ us A W h)
  have KE := fun W => Lib.hid (emptySquare_c A.length W (by have := hA.le; omega))
  have hln := hv.len
  have hix := hv.ixe
  have hA10 := hA.le
  have HA := Lib.hid hA
  have hcf := callFunc_go Try.func36 (by kernel_rfl) (by kernel_rfl)
  have hmf : ∀ (fn : Fn) (first cap : Array Value) (w : World), (Instr.makeFunc fn first cap).run Try.prog w = .ok (.func fn first cap) w := fun _ _ _ _ => rfl
  have KF := fun gS gT sa sc uS S ta tc uT T W (hi : InvS A S T A.length 0) (hb : BxQ W w.heap.size gS gT a c us A sa sc uS S ta tc uT T) => Lib.hid (forPairs_c 36 #[.pointer (some ⟨w.heap.size, 0, none⟩), .pointer (some ⟨gS, 0, none⟩), .pointer (some ⟨gT, 0, none⟩)] (fun r s => allB A.length fun cc => allB A.length fun d => allB A.length fun u => quP A S T r s cc d u) a c us A W hb.a.rd hcf (fun r s W' hW hr hs =>
    qu2_c (hb.keep hW) hA.sq0 (hi.sq0 hA).1 (hi.sq0 hA).2 r s hr hs))
  have KB := fun S T (hi : InvS A S T A.length 0) => Lib.hid (show quB A S T = b by rw [Bool.eq_iff_iff, quB_iff hA hi, hbb])
  have b0 := hS0.bcell 0 rfl 0 rfl
  clear hcf hA hbb
  go_enter Try.func9, Try.ntmps9
  go_wp2_with (first
    | (go_at_call 34; have hz := hS3; clear hz; refine (KE _).out.mono ?_; rintro e w4 ⟨o2, u2, rfl, hl2, h4⟩; have hS4 := hS3.call h4; refine Hid.out ?_)
    | (go_at_call 34; refine (KE _).out.mono ?_; rintro e w3 ⟨o1, u1, rfl, hl1, h3⟩; have hS3 := hS2.call h3)
    | (go_at_call 33; refine (KZ _ (hS2.oldII hv)).out.mono ?_; rintro e wb ⟨rfl, hb⟩; subst hb)
    | (go_at_call 32; refine (KV _ (hS0.oldII hv)).out.mono ?_; rintro e wa ⟨rfl, ha⟩; have hS2 := hS0.call0 ha; have b0 := hS2.bcell 0 rfl 0 rfl))
  rw [sqF_len] at hl1 hl2
  obtain ⟨sa, sc, hs1⟩ := (h3.rd 0 (e := 28) (v := o1) (us := u1) rfl).sl.sh
  obtain ⟨ta, tc, hs2⟩ := (h4.rd 0 (e := 28) (v := o2) (us := u2) rfl).sl.sh
  rw [hl1] at hs1
  rw [hl2] at hs2
  subst hs1
  subst hs2
  have hS5 := (hS4.newboxF 24 #[.slice sa A.length sc]).newboxF 24 #[.slice ta A.length tc]
  simp only [World.size_alloc] at hS5
  obtain ⟨LB, hLB⟩ : ∃ LB, LB = [box 24 (w4.heap.size + 1) [.slice ta A.length tc], box 24 w4.heap.size [.slice sa A.length sc], box 24 w.heap.size [.slice a A.length c]] := ⟨_, rfl⟩
  have hS6 : St w.heap.size w _ (own2 (.slice sa A.length sc) u1 (sqF A.length fun _ _ => 0) ++ (own2 (.slice ta A.length tc) u2 (sqF A.length fun _ _ => 0) ++ LB)) := hS5.perm (by rw [hLB]; exact (by (try simp only [own2, List.cons_append, List.nil_append, List.append_nil]); classical exact List.perm_iff_count.2 (fun a => by simp only [List.cons_append, List.nil_append, List.append_nil, List.count_append, List.count_cons, List.count_nil] <;> omega)))
  have hbT : Hid (LB[0]? = some (box 24 (w4.heap.size + 1) [.slice ta A.length tc])) := Lib.hid (by rw [hLB]; rfl)
  have hbS : Hid (LB[1]? = some (box 24 w4.heap.size [.slice sa A.length sc])) := Lib.hid (by rw [hLB]; rfl)
  have hbA : Hid (LB[2]? = some (box 24 w.heap.size [.slice a A.length c])) := Lib.hid (by rw [hLB]; rfl)
  have Hl1 := Lib.hid hl1
  have Hl2 := Lib.hid hl2
  have b0 := hS6.bcell _ (at_app (at_app hbA.out)) 0 rfl
  clear hLB hS5 hS4 hS3 hS2 hS0 h3 h4 ha hl1 hl2
  refine Lib.hid ?_
  go_wp2_with fail
  generalize w4.heap.size + 1 = gT at *
  generalize w4.heap.size = gS at *
  go_loopw [21, 6, 7, 8, 9] (fun i _ _ _ _ wr => ∃ (x : Nat) (S T : List (List Int)), x ≤ A.length ∧ i = .int .i64 x ∧ Hid (InvS A S T x 0) ∧ St w.heap.size w wr (own2 (.slice sa A.length sc) u1 S ++ (own2 (.slice ta A.length tc) u2 T ++ LB))) (fun i _ _ _ _ _ => A.length - (intOf i).toNat)
  case atStart => exact ⟨0, _, _, by omega, rfl, InvS.start, hS6⟩
  case round =>
    clear hS6 b0
    obtain ⟨x, S, T, hx, rfl, hI, hS⟩ := hrel
    by_cases hlt : x < A.length
    · have hxi : (x : Int) < (A.length : Int) := by omega
      have cx := (hS.oldII hv).cell x hlt
      have ix := hix (x : Int) x rfl hlt
      have hrow := hv.row x hlt
      have hrl := HA.out.len x hlt
      have lnx := hrow.len
      rw [hrl] at lnx
      have ixr := hrow.ixe
      rw [hrl] at ixr
      have Hrow := Lib.hid hrow
      have Hrl := Lib.hid hrl
      clear hrow hrl
      go_wp2_with fail
      go_loopw [28, 8, 9] (fun i _ _ wr => ∃ (y : Nat) (S T : List (List Int)), y ≤ A.length ∧ i = .int .i64 y ∧ Hid (InvS A S T x y) ∧ St w.heap.size w wr (own2 (.slice sa A.length sc) u1 S ++ (own2 (.slice ta A.length tc) u2 T ++ LB))) (fun i _ _ _ => A.length - (intOf i).toNat)
      case atStart => exact ⟨0, S, T, by omega, rfl, hI.out, hS⟩
      case round =>
        clear hI hS cx
        obtain ⟨y, S, T, hy, rfl, hI, hS⟩ := hrel
        by_cases hly : y < A.length
        · have hyi : (y : Int) < (A.length : Int) := by omega
          obtain ⟨em, hm⟩ := ent HA.out.sq0 hlt hly
          have cy := (hS.oldI Hrow.out).cell y (by rw [Hrl.out]; exact hly)
          rw [show nth (xat A x) y = at2 A x y from rfl, em] at cy
          have iy := ixr (y : Int) y rfl hly
          have HI2 := Lib.hid (hI.out.step HA.out hlt hly)
          generalize af A x y = m at *
          have lS : S.length = A.length := hI.out.s.len
          have lT : T.length = A.length := hI.out.t.len
          have hlS : u1.length = S.length := by rw [Hl1.out, lS]
          have hlT : u2.length = T.length := by rw [Hl2.out, lT]
          have rS : (xat S x).length = A.length := hI.out.s.row x hlt
          have rT : (xat T y).length = A.length := hI.out.t.row y hly
          have hR1 := rii2 hS hlS
          have hSp : St w.heap.size w wr (own2 (.slice ta A.length tc) u2 T ++ (own2 (.slice sa A.length sc) u1 S ++ LB)) := hS.perm (by (try simp only [own2, List.cons_append, List.nil_append, List.append_nil]); classical exact List.perm_iff_count.2 (fun a => by simp only [List.cons_append, List.nil_append, List.append_nil, List.count_append, List.count_cons, List.count_nil] <;> omega))
          have hR2 := rii2 hSp hlT
          have d1 := hR1.cell x (by rw [lS]; exact hlt)
          have d2 := hR2.cell y (by rw [lT]; exact hly)
          have e1 := hS.bcell _ (at_app (at_app hbS.out)) 0 rfl
          have e2 := hS.bcell _ (at_app (at_app hbT.out)) 0 rfl
          have ib1 := hR1.ixe (x : Int) x rfl (by rw [lS]; exact hlt)
          have ib2 := hR2.ixe (y : Int) y rfl (by rw [lT]; exact hly)
          have jb1 := (hR1.row x (by rw [lS]; exact hlt)).ixe (m : Int) m rfl (by rw [rS]; exact hm)
          have jb2 := (hR2.row y (by rw [lT]; exact hly)).ixe (m : Int) m rfl (by rw [rT]; exact hm)
          have hat := hS.at_row hlS (j := x) (by rw [lS]; exact hlt)
          have f1 := hS.unfrozen (x + 1) hat (j := m) (by rw [iv_len, rS]; exact hm)
          have g1 := (hR1.row x (by rw [lS]; exact hlt)).cell m (by rw [rS]; exact hm)
          have HS9 := hS.store (x + 1) hat (j := m) (by rw [iv_len, rS]; exact hm) (.int .i64 (y : Int))
          rw [iv_set, own2_set hlS (by rw [lS]; exact hlt), show S.set x ((xat S x).set m (y : Int)) = putS S x m y from rfl] at HS9
          have HS9p : St w.heap.size w _ (own2 (.slice ta A.length tc) u2 T ++ (own2 (.slice sa A.length sc) u1 (putS S x m y) ++ LB)) := HS9.perm (by (try simp only [own2, List.cons_append, List.nil_append, List.append_nil]); classical exact List.perm_iff_count.2 (fun a => by simp only [List.cons_append, List.nil_append, List.append_nil, List.count_append, List.count_cons, List.count_nil] <;> omega))
          have hR3 := rii2 HS9 (by rw [Hl1.out, (putS_sqr hI.out.s hlt m (y : Int)).len])
          have hR4 := rii2 HS9p hlT
          have d3 := hR3.cell x (by rw [(putS_sqr hI.out.s hlt m (y : Int)).len]; exact hlt)
          have d4 := hR4.cell y (by rw [lT]; exact hly)
          have e3 := HS9.bcell _ (at_app (at_app hbS.out)) 0 rfl
          have e4 := HS9.bcell _ (at_app (at_app hbT.out)) 0 rfl
          have hat2 := HS9p.at_row hlT (j := y) (by rw [lT]; exact hly)
          have f2 := HS9p.unfrozen (y + 1) hat2 (j := m) (by rw [iv_len, rT]; exact hm)
          have g2 := (hR4.row y (by rw [lT]; exact hly)).cell m (by rw [rT]; exact hm)
          have HS10 := HS9p.store (y + 1) hat2 (j := m) (by rw [iv_len, rT]; exact hm) (.int .i64 (x : Int))
          rw [iv_set, own2_set hlT (by rw [lT]; exact hly), show T.set y ((xat T y).set m (x : Int)) = putS T y m x from rfl] at HS10
          have H10 := Lib.hid (show St w.heap.size w _ (own2 (.slice sa A.length sc) u1 (putS S x m y) ++ (own2 (.slice ta A.length tc) u2 (putS T y m x) ++ LB)) from HS10.perm (by (try simp only [own2, List.cons_append, List.nil_append, List.append_nil]); classical exact List.perm_iff_count.2 (fun a => by simp only [List.cons_append, List.nil_append, List.append_nil, List.count_append, List.count_cons, List.count_nil] <;> omega)))
          clear HS9 HS9p HS10 hat hat2 hR1 hR2 hR3 hR4 hSp hI lS lT hlS hlT rS rT hS em hm
          go_wp2_with fail
          refine regionG (fun w' => w'.cell? ⟨gS, 0, none⟩ = some (.slice sa A.length sc) ∧ w'.cell? ⟨gT, 0, none⟩ = some (.slice ta A.length tc) ∧ w'.cell? (el (.slice sa A.length sc) x) = some (vat u1 x) ∧ w'.cell? (el (.slice ta A.length tc) y) = some (vat u2 y)) 15 (by kernel_rfl) ⟨cell_dr e1, cell_dr e2, cell_dr d1, cell_dr d2⟩ (fun hHeld => ?_)
          refine takeH (i := 0) [2, 3, 12, 13] (v := ?_) rfl (by kernel_rfl) (fun _ _ _ h => h) (by rfl) ?_ (by assumption) ?_
          case refine_2 => (intro w' hSw; (try dsimp only at hSw); go_simp; first | done | with_reducible rfl)
          try simp only [Act.put, List.setIfInBounds_toArray, List.set_cons_zero, List.set_cons_succ]
          refine takeP (i := 1) (v := ?_) rfl (by kernel_rfl) (fun _ _ _ h => h) (by rfl) ?_ (by assumption) ?_
          case refine_2 => (intro w'; go_simp; first | done | with_reducible rfl)
          try simp only [Act.put, List.setIfInBounds_toArray, List.set_cons_zero, List.set_cons_succ]
          refine takeP (i := 2) (v := ?_) rfl (by kernel_rfl) (fun _ _ _ h => h) (by rfl) ?_ (by assumption) ?_
          case refine_2 => (intro w'; go_simp; first | done | with_reducible rfl)
          try simp only [Act.put, List.setIfInBounds_toArray, List.set_cons_zero, List.set_cons_succ]
          refine takeH (i := 3) [12, 13] (v := ?_) rfl (by kernel_rfl) (fun _ _ _ h => h) (by rfl) ?_ (by assumption) ?_
          case refine_2 => (intro w' hSw; (try dsimp only at hSw); go_simp; first | done | with_reducible rfl)
          try simp only [Act.put, List.setIfInBounds_toArray, List.set_cons_zero, List.set_cons_succ]
          refine takeP (i := 4) (v := ?_) rfl (by kernel_rfl) (fun _ _ _ h => h) (by rfl) ?_ (by assumption) ?_
          case refine_2 => (intro w'; go_simp; first | done | with_reducible rfl)
          try simp only [Act.put, List.setIfInBounds_toArray, List.set_cons_zero, List.set_cons_succ]
          refine takeH (i := 5) [7, 8, 14] (v := ?_) rfl (by kernel_rfl) (fun _ _ _ h => h) (by rfl) ?_ (by assumption) ?_
          case refine_2 => (intro w' hSw; (try dsimp only at hSw); go_simp; first | done | with_reducible rfl)
          try simp only [Act.put, List.setIfInBounds_toArray, List.set_cons_zero, List.set_cons_succ]
          refine takeP (i := 6) (v := ?_) rfl (by kernel_rfl) (fun _ _ _ h => h) (by rfl) ?_ (by assumption) ?_
          case refine_2 => (intro w'; go_simp; first | done | with_reducible rfl)
          try simp only [Act.put, List.setIfInBounds_toArray, List.set_cons_zero, List.set_cons_succ]
          refine takeP (i := 7) (v := ?_) rfl (by kernel_rfl) (fun _ _ _ h => h) (by rfl) ?_ (by assumption) ?_
          case refine_2 => (intro w'; go_simp; first | done | with_reducible rfl)
          try simp only [Act.put, List.setIfInBounds_toArray, List.set_cons_zero, List.set_cons_succ]
          refine takeH (i := 8) [14] (v := ?_) rfl (by kernel_rfl) (fun _ _ _ h => h) (by rfl) ?_ (by assumption) ?_
          case refine_2 => (intro w' hSw; (try dsimp only at hSw); go_simp; first | done | with_reducible rfl)
          try simp only [Act.put, List.setIfInBounds_toArray, List.set_cons_zero, List.set_cons_succ]
          refine takeP (i := 9) (v := ?_) rfl (by kernel_rfl) (fun _ _ _ h => h) (by rfl) ?_ (by assumption) ?_
          case refine_2 => (intro w'; go_simp; first | done | with_reducible rfl)
          try simp only [Act.put, List.setIfInBounds_toArray, List.set_cons_zero, List.set_cons_succ]
          refine takeP (i := 10) (v := ?_) rfl (by kernel_rfl) (fun _ _ _ h => h) (by rfl) ?_ (by assumption) ?_
          case refine_2 => (intro w'; go_simp; first | done | with_reducible rfl)
          try simp only [Act.put, List.setIfInBounds_toArray, List.set_cons_zero, List.set_cons_succ]
          refine takeP (i := 11) (v := ?_) rfl (by kernel_rfl) (fun _ _ _ h => h) (by rfl) ?_ (by assumption) ?_
          case refine_2 => (intro w'; go_simp; first | done | with_reducible rfl)
          try simp only [Act.put, List.setIfInBounds_toArray, List.set_cons_zero, List.set_cons_succ]
          refine takeP (i := 12) (v := ?_) rfl (by kernel_rfl) (fun _ _ _ h => h) (by rfl) ?_ (by assumption) ?_
          case refine_2 => (intro w'; go_simp; first | done | with_reducible rfl)
          try simp only [Act.put, List.setIfInBounds_toArray, List.set_cons_zero, List.set_cons_succ]
          refine readyG (rs := [13]) (by kernel_rfl) (by simp) ?_
          refine AllG.cons rfl (fun K hK => ?_) AllG.nil
          go_simp
          refine hK.out _ _ ⟨cell_dr e3, cell_dr e4, cell_dr d3, cell_dr d4⟩ (fun hHeld => ?_)
          clear hK K
          try simp only [Act.put, List.setIfInBounds_toArray, List.set_cons_zero, List.set_cons_succ]
          refine takeP (i := 14) (v := ?_) rfl (by kernel_rfl) (fun _ _ _ h => h) (by rfl) ?_ (by assumption) ?_
          case refine_2 => (intro w'; go_simp; first | done | with_reducible rfl)
          try simp only [Act.put, List.setIfInBounds_toArray, List.set_cons_zero, List.set_cons_succ]
          refine readyG (rs := [15]) (by kernel_rfl) (by simp) ?_
          refine AllG.last rfl (by kernel_rfl) (fun K hK => ?_) AllG.nil
          go_simp
          refine hK.out _ _ ?_
          clear hK K
          try simp only [Act.put, List.setIfInBounds_toArray, List.set_cons_zero, List.set_cons_succ]
          refine doneG (by kernel_rfl) ?_ _
          refine NoPanic.normal ?_
          have hS9 := H10.out.drew
          go_wp2_with fail
          go_roundw
          case rel => exact ⟨y + 1, _, _, by omega, by go_num, HI2.out, hS9⟩
          case measure => simp [intOf]; omega
        · obtain rfl : y = A.length := by omega
          go_wp2_with fail
          go_roundw
          case rel => exact ⟨x + 1, S, T, by omega, by go_num, hI.out.next, hS⟩
          case measure => simp [intOf]; omega
    · obtain rfl : x = A.length := by omega
      have lS : S.length = A.length := hI.out.s.len
      have lT : T.length = A.length := hI.out.t.len
      have hSp : St w.heap.size w wr (own2 (.slice ta A.length tc) u2 T ++ (own2 (.slice sa A.length sc) u1 S ++ LB)) := hS.perm (by (try simp only [own2, List.cons_append, List.nil_append, List.append_nil]); classical exact List.perm_iff_count.2 (fun a => by simp only [List.cons_append, List.nil_append, List.append_nil, List.count_append, List.count_cons, List.count_nil] <;> omega))
      have hR1 := rii2 hS (by rw [Hl1.out, lS])
      have hR2 := rii2 hSp (by rw [Hl2.out, lT])
      have e0 := hS.bcell _ (at_app (at_app hbA.out)) 0 rfl
      have e1 := hS.bcell _ (at_app (at_app hbS.out)) 0 rfl
      have e2 := hS.bcell _ (at_app (at_app hbT.out)) 0 rfl
      have hB : BxQ wr w.heap.size gS gT a c us A sa sc u1 S ta tc u2 T := ⟨⟨hS.oldII hv, e0⟩, ⟨by rw [lS]; exact hR1, by rw [lS]; exact e1⟩, ⟨by rw [lT]; exact hR2, by rw [lT]; exact e2⟩⟩
      have KK := KF gS gT sa sc u1 S ta tc u2 T wr hI.out hB
      rw [show (allB A.length fun r => allB A.length fun s => allB A.length fun cc => allB A.length fun d => allB A.length fun u => quP A S T r s cc d u) = quB A S T from rfl, (KB S T hI.out).out] at KK
      clear hB hR1 hR2 hSp lS lT e1 e2
      go_wp2_with fail
      refine KK.out.mono ?_
      rintro e w2 ⟨rfl, h3⟩
      go_wp2_with fail
      go_ret
      exact ⟨rfl, (hS.call0 h3).out⟩
end Go.Proofs.Ytdlmohigkkdegaa
end

section
/- Walks: squares that the reference makes (their entries are below n). Walks: squares that the reference draws. -/
namespace Go.Proofs.Ytdlmohigkkdegaa
set_option linter.unusedSimpArgs false
set_option linter.unusedVariables false
open Go.RowKit
attribute [local go_sem ↓] Go.wp_at_zero Go.wp_at_succ


/-- the entry of a product -/
theorem prod_lt {n m x y a b : Nat} (ha : a < n) (hb : b < m) : m * a + b < n * m := by
  have h1 : m * a + m ≤ m * n := by rw [← Nat.mul_succ]; exact Nat.mul_le_mul_left _ (by omega)
  rw [Nat.mul_comm n m]; omega
end Go.Proofs.Ytdlmohigkkdegaa
end
