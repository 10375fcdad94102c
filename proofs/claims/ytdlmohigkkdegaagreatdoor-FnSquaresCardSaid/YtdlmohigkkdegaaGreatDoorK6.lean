/- The texts of this claim, run 6: Pm6 SqB Tx5 Tx6 PSw PCon PQg Arr2. -/
import Derived.Test.YtdlmohigkkdegaaGreatDoorK2
import Derived.Test.YtdlmohigkkdegaaGreatDoorK3
import Derived.Test.YtdlmohigkkdegaaGreatDoorK4
import Derived.Test.YtdlmohigkkdegaaGreatDoorK5

section
/- Walks: the cycles of a permutation. Walks: SignOf; the law FnPermutations. Walks: CyclesOf, SignOf and OrderOfPermutation of any list, powers, permutations made of cycles, types. -/
namespace Go.Proofs.YtdlmohigkkdegaaGreatDoor
set_option linter.unusedSimpArgs false
set_option linter.unusedVariables false
open Go.RowKit
attribute [local go_sem ↓] Go.wp_at_zero Go.wp_at_succ
/-- the first j numbers of the cycle of x -/
def cyP (xs : List Int) (x j : Nat) : List Int := (List.range j).map fun i => ((it (pf xs) i x : Nat) : Int)
/-- what is seen: all cycles that numbers below m lead, and the first j numbers of that of m -/
def Seen (xs : List Int) (m j : Nat) (s : List Bool) : Prop := s.length = xs.length ∧ ∀ y, y < xs.length → (bat s y = true ↔ y ∈ (cycs xs.length (pf xs) m).flatten ∨ ∃ i, i < j ∧ y = it (pf xs) i m)
theorem Seen.start (xs : List Int) : Seen xs 0 0 (List.replicate xs.length false) := ⟨by simp, fun y hy => by rw [bat_rep]; simp [cycs]⟩
theorem Seen.step {xs : List Int} {m j : Nat} {s : List Bool} (h : Seen xs m j s) (hp : IsP xs) (hm : m < xs.length) : Seen xs m (j + 1) (s.set (it (pf xs) j m) true) := by
  have hlt := it_lt hp.bij hm j
  refine ⟨by rw [List.length_set]; exact h.1, fun y hy => ?_⟩
  rw [bat_set (by rw [h.1]; exact hlt)]
  by_cases e : it (pf xs) j m = y
  · rw [if_pos e]; exact ⟨fun _ => .inr ⟨j, by omega, e.symm⟩, fun _ => rfl⟩
  · rw [if_neg e, h.2 y hy]
    constructor
    · rintro (h1 | ⟨i, hi, e2⟩)
      · exact .inl h1
      · exact .inr ⟨i, by omega, e2⟩
    · rintro (h1 | ⟨i, hi, e2⟩)
      · exact .inl h1
      · refine .inr ⟨i, ?_, e2⟩
        refine Nat.lt_of_le_of_ne (by omega) fun e3 => e ?_
        rw [e2, e3]
theorem Seen.no {xs : List Int} {m : Nat} {s : List Bool} (h : Seen xs m 0 s) (hp : IsP xs) (hm : m < xs.length) (hL : ¬ Lead (pf xs) m) : bat s m = true ∧ Seen xs (m + 1) 0 s := by
  have hs := fun hh => hL ((lead_seen hp.bij hm).2 hh)
  refine ⟨(h.2 m hm).2 (.inl (Classical.byContradiction hs)), h.1, fun y hy => ?_⟩
  rw [h.2 y hy, cycs, if_neg hL]; simp
theorem Seen.fresh {xs : List Int} {m j : Nat} {s : List Bool} (h : Seen xs m j s) (hp : IsP xs) (hm : m < xs.length) (hL : Lead (pf xs) m) (hj : j < clen xs.length (pf xs) m) : bat s (it (pf xs) j m) = false := by
  have hlt := it_lt hp.bij hm j
  have hc := clen_ok hp.bij hm
  cases e : bat s (it (pf xs) j m) with
  | false => rfl
  | true =>
    rcases (h.2 _ hlt).1 e with h1 | ⟨i, hi, e2⟩
    · exact absurd h1 (lead_fresh hp.bij hm hL ((mem_cycL hp.bij hm).2 ⟨j, rfl⟩))
    · have := hc.inj hp.bij hm hj (by omega) e2; omega
theorem Seen.back {xs : List Int} {m : Nat} {s : List Bool} (h : Seen xs m (clen xs.length (pf xs) m) s) (hp : IsP xs) (hm : m < xs.length) (hL : Lead (pf xs) m) : bat s (it (pf xs) (clen xs.length (pf xs) m) m) = true ∧ Seen xs (m + 1) 0 s := by
  have hc := clen_ok hp.bij hm
  have hb := hc.back
  refine ⟨?_, h.1, fun y hy => ?_⟩
  · rw [hb]; exact (h.2 m hm).2 (.inr ⟨0, hc.pos, rfl⟩)
  · rw [h.2 y hy, cycs, if_pos hL]
    simp only [List.flatten_append, List.flatten_cons, List.flatten_nil, List.append_nil, List.mem_append]
    constructor
    · rintro (h1 | ⟨i, hi, rfl⟩)
      · exact .inl (.inl h1)
      · exact .inl (.inr ((mem_cycL hp.bij hm).2 ⟨i, rfl⟩))
    · rintro ((h1 | h1) | ⟨i, hi, _⟩)
      · exact .inl h1
      · unfold cycL at h1
        obtain ⟨i, hi, rfl⟩ := List.mem_map.1 h1
        exact .inr ⟨i, List.mem_range.1 hi, rfl⟩
      · omega
/-- what the list of cycles is -/
structure CyOk (xs : List Int) (C : List (List Int)) : Prop where
  shape : ∀ t, t < C.length → ∃ m, m < xs.length ∧ xat C t = cyP xs m (clen xs.length (pf xs) m)
  all : ∀ y, y < xs.length → ∃ t k, t < C.length ∧ k < (xat C t).length ∧ nth (xat C t) k = (y : Int)
  nodup : C.flatten.Nodup
  sum : C.flatten.length = xs.length
/-- a number of a later place is not among those of earlier ones -/
theorem CyOk.fresh {xs : List Int} {C : List (List Int)} (h : CyOk xs C) {t k : Nat} (ht : t < C.length) (hk : k < (xat C t).length) : nth (xat C t) k ∉ (C.take t).flatten ++ (xat C t).take k := by
  have hs : C.flatten = (C.take t).flatten ++ ((xat C t).take k ++ (nth (xat C t) k :: ((xat C t).drop (k + 1) ++ (C.drop (t + 1)).flatten))) := by
    conv => lhs; rw [← List.take_append_drop t C, drop_xat ht]
    rw [List.flatten_append, List.flatten_cons]
    congr 1
    rw [← List.cons_append, ← drop_nth hk, ← List.append_assoc, List.take_append_drop]
  have hn := h.nodup
  rw [hs, ← List.append_assoc, List.nodup_append] at hn
  exact fun hm => hn.2.2 _ hm _ (by simp) rfl
/-! ### the least common multiple, bounded -/
theorem sz_c (v : Value) (xs : List Int) (w : World) (hv : RdI w v xs) : Calls Tryz.prog 45 #[v] w fun e w' => e = .returned (.int .i64 xs.length) ∧ w = w' := by
  have hln := hv.len
  go_enter Tryz.func45, Tryz.ntmps45
  go_wp2_with fail
  go_ret
  exact ⟨rfl, rfl⟩
end Go.Proofs.YtdlmohigkkdegaaGreatDoor
end

section
/- Walks: valid Latin squares, isotopes, of the program. Walks: isotopes of the program. -/
namespace Go.Proofs.YtdlmohigkkdegaaGreatDoor
set_option linter.unusedSimpArgs false
set_option linter.unusedVariables false
open Go.RowKit
attribute [local go_sem ↓] Go.wp_at_zero Go.wp_at_succ


/-- a permutation of n numbers -/
noncomputable def pvN (n : Nat) (xs : List Int) : Bool := decide (xs.length = n) && pvB xs
set_option maxHeartbeats 2000000 in
set_option maxRecDepth 100000 in
theorem areP1_c (v : Value) (xs : List Int) (n : Nat) (g : Nat) (w : World) (hv : RdI w v xs) (hb : w.cell? ⟨g, 0, none⟩ = some (.int .i64 n)) (hN : xs.length ≤ 1048576) :
    Calls Tryz.prog 44 #[v, .pointer (some ⟨g, 0, none⟩)] w (GivesB w (!pvN n xs)) := by
  have hq : ∀ s : SS w.heap.size w [], s.w.cell? ⟨g, 0, none⟩ = some (.int .i64 n) := fun s => by rw [s.st.below.cell (World.block_lt_of_cell? _ _ hb)]; exact hb
  have HZ := fun s : SS w.heap.size w [] => Lib.hid (sz_c v xs s.w (s.st.oldI hv))
  have HV := fun s : SS w.heap.size w [] => Lib.hid (ValidPermutation_c v xs s.w (s.st.oldI hv) hN)
  have hS := St.refl w
  by_cases h : xs.length = n
  · have f1 : ((xs.length : Int) != (n : Int)) = false := ne_f (by omega)
    have He : Hid ((!pvN n xs) = !pvB xs) := Lib.hid (by rw [pvN, decide_eq_true h]; rfl)
    rw [He.out]
    generalize pvB xs = b at *
    clear h He
    go_enter Tryz.func44, Tryz.ntmps44
    go_wp2_with fail
    have hne : Nonempty (SS _ _ _) := ⟨⟨_, hS⟩⟩
    refine wp_region_st (by kernel_rfl) (by kernel_rfl) hS ?_
    repeat (go_big_quiet_step ((first | (go_at_call 45; exact st_quiet0 (HZ _).out) | (go_at_call 15; exact st_quiet (HV _).out))))
    refine wpQuiet_nil ?_
    rintro _ ⟨s2, rfl⟩
    have hS2 := s2.st
    generalize s2.w = w2 at hS2 ⊢
    go_wp2_with fail
    go_ret
    exact ⟨rfl, hS2⟩
  · have f1 : ((xs.length : Int) != (n : Int)) = true := ne_t (by omega)
    have He : Hid ((!pvN n xs) = true) := Lib.hid (by rw [pvN, decide_eq_false h]; rfl)
    rw [He.out]
    clear h He
    go_enter Tryz.func44, Tryz.ntmps44
    go_wp2_with fail
    have hne : Nonempty (SS _ _ _) := ⟨⟨_, hS⟩⟩
    refine wp_region_st (by kernel_rfl) (by kernel_rfl) hS ?_
    repeat (go_big_quiet_step ((first | (go_at_call 45; exact st_quiet0 (HZ _).out) | (go_at_call 15; exact st_quiet (HV _).out))))
    refine wpQuiet_nil ?_
    rintro _ ⟨s2, rfl⟩
    have hS2 := s2.st
    generalize s2.w = w2 at hS2 ⊢
    go_wp2_with fail
    go_ret
    exact ⟨rfl, hS2⟩
/-- all rows are permutations of n numbers -/
noncomputable def allP (n : Nat) (A : List (List Int)) : Bool := !anyR (fun r => !pvN n r) A
theorem allP_at {n : Nat} {A : List (List Int)} (h : allP n A = true) {x : Nat} (hx : x < A.length) : (xat A x).length = n ∧ pvB (xat A x) = true := by
  unfold allP anyR at h
  have h' : A.any (fun r => !pvN n r) = false := by simpa using h
  have := List.any_eq_false.1 h' _ (xat_mem hx)
  simpa [pvN] using this
theorem allP_of {n : Nat} {A : List (List Int)} (h : ∀ x, x < A.length → (xat A x).length = n ∧ pvB (xat A x) = true) : allP n A = true := by
  unfold allP anyR
  have : A.any (fun r => !pvN n r) = false := by
    rw [List.any_eq_false]
    intro r hr
    obtain ⟨x, hx, rfl⟩ := List.getElem_of_mem hr
    have := h x hx
    rw [xat_eq hx] at this
    simp [pvN, this]
  rw [this]; rfl
set_option maxHeartbeats 2000000 in
set_option maxRecDepth 100000 in
theorem arePermutations_c (n : Nat) (v : Value) (us : List Value) (A : List (List Int)) (w : World) (hv : RII w v us A) (hN : ∀ x, x < A.length → (xat A x).length ≤ 1048576) :
    Calls Tryz.prog 27 #[.int .i64 n, v] w (GivesB w (allP n A)) := by
  have hS1 := (St.refl w).newboxF 2 #[.int .i64 n]
  have hcf := callFunc_go Tryz.func44 (by kernel_rfl) (by kernel_rfl)
  have hmf : ∀ (fn : Fn) (first cap : Array Value) (w : World), (Instr.makeFunc fn first cap).run Tryz.prog w = .ok (.func fn first cap) w := fun _ _ _ _ => rfl
  have hcall := Lib.hid (ContainsFuncR_c 44 #[.pointer (some ⟨w.heap.size, 0, none⟩)] (fun r => !pvN n r) v us A _ (hS1.oldII hv) hcf (fun j W hW hj => areP1_c (vat us j) (xat A j) n w.heap.size W ((hW.oldII (hS1.oldII hv)).row j hj) (by
    rw [hW.below.cell (World.block_lt_of_cell? _ _ (hS1.bcell 0 rfl 0 rfl))]; exact hS1.bcell 0 rfl 0 rfl) (hN j hj)))
  clear hcf hN
  go_enter Tryz.func27, Tryz.ntmps27
  go_wp2_with fail
  refine hcall.out.mono ?_
  rintro e w1 ⟨rfl, h1⟩
  have hS2 := hS1.call0 h1
  go_wp2_with fail
  go_ret
  exact ⟨rfl, hS2.out⟩
theorem Lat.mk' {A : List (List Int)} (h1 : 1 ≤ A.length) (h2 : A.length ≤ 10) (ha : allP A.length A = true) (hc : ∀ y, y < A.length → pvB (colL A y) = true) : Lat A :=
  ⟨h1, h2, fun _ hx => (allP_at ha hx).1, fun _ hx => (pvB_t (allP_at ha hx).2).2, fun y hy => (pvB_t (hc y hy)).2⟩
theorem Lat.allP {A : List (List Int)} (h : Lat A) : allP A.length A = true := allP_of fun x hx => ⟨h.len x hx, pvB_yes (by rw [h.len x hx]; have := h.le; omega) (h.row x hx)⟩
theorem Lat.colP {A : List (List Int)} (h : Lat A) {y : Nat} (hy : y < A.length) : pvB (colL A y) = true := pvB_yes (by rw [colL_len]; have := h.le; omega) (h.col y hy)
theorem col_take {A : List (List Int)} {y k : Nat} (h : k < A.length) : (colL A y).take (k + 1) = (colL A y).take k ++ [at2 A k y] := by
  rw [take_nth (by rw [colL_len]; exact h), nth_colL h]
set_option maxHeartbeats 4000000 in
set_option maxRecDepth 100000 in
theorem ValidSquare_c (v : Value) (us : List Value) (A : List (List Int)) (w : World) (hv : RII w v us A) (hN : ∀ x, x < A.length → (xat A x).length ≤ 1048576) :
    Calls Tryz.prog 9 #[v] w (GivesB w (latB A)) := by
  have hln := hv.len
  have hix := hv.ix
  have HZ := fun W (h : RII W v us A) => Lib.hid (szII_c v us A W h)
  have HA := fun W (h : RII W v us A) => Lib.hid (arePermutations_c A.length v us A W h hN)
  by_cases hn : 1 ≤ (A.length : Int) ∧ (A.length : Int) ≤ 10
  · have i1 := inB_true hn
    cases ha : allP A.length A
    · have Hl := Lib.hid (latB_no (A := A) fun h => by rw [h.allP] at ha; cases ha)
      rw [ha] at HA
      clear ha
      go_enter Tryz.func9, Tryz.ntmps9
      go_wp2_with fail
      refine (HZ _ hv).out.mono ?_
      rintro e w1 ⟨rfl, rfl⟩
      go_wp2_with (first
        | (go_at_call 27; refine (HA _ hv).out.mono ?_; rintro e w3 ⟨rfl, h3⟩)
        | (go_at_call 26; refine (within_c _ _ _ _).mono ?_; rw [i1]; rintro e w2 ⟨rfl, rfl⟩))
      go_ret
      exact ⟨ret_bool Hl.out.symm, h3⟩
    · have hlt2 : A.length ≤ 10 := by omega
      have HL := Lib.hid (fun h => Lat.mk' (A := A) (by omega) hlt2 ha h)
      have Hc := fun y (hy : y < A.length) (h : pvB (colL A y) = false) => Lib.hid (latB_no (A := A) fun hl => by rw [hl.colP hy] at h; cases h)
      have Hrl := fun x (hx : x < A.length) => Lib.hid (allP_at ha hx).1
      rw [ha] at HA
      clear ha
      go_enter Tryz.func9, Tryz.ntmps9
      go_wp2_with fail
      refine (HZ _ hv).out.mono ?_
      rintro e w1 ⟨rfl, rfl⟩
      go_wp2_with (first
        | (go_at_call 27; refine (HA _ hv).out.mono ?_; rintro e w3 ⟨rfl, h3⟩)
        | (go_at_call 26; refine (within_c _ _ _ _).mono ?_; rw [i1]; rintro e w2 ⟨rfl, rfl⟩))
      go_loopw [4, 5, 6, 20, 25] (fun _ _ _ i _ wr => ∃ k : Nat, k ≤ A.length ∧ i = .int .i64 k ∧ Hid (∀ y, y < k → pvB (colL A y) = true) ∧ St w.heap.size w wr []) (fun _ _ _ i _ _ => A.length - (intOf i).toNat)
      case atStart => exact ⟨0, by omega, rfl, fun y hy => by omega, h3⟩
      case round =>
        clear h3
        obtain ⟨k, hk, rfl, hI, hS⟩ := hrel
        by_cases hlt : k < A.length
        · have hS1 := hS.emp
          have Hcl := Lib.hid (colL_len A k)
          have Hct := fun m (h : m < A.length) => Lib.hid (col_take (A := A) (y := k) h)
          have Htl := fun m => Lib.hid (show ((colL A k).take m).length < 4294967296 by rw [List.length_take, colL_len]; omega)
          have HV := fun W u (h : RdI W u (colL A k)) => Lib.hid (ValidPermutation_c u _ W h (by rw [colL_len]; omega))
          have Hck := Hc k hlt
          have Hta := Lib.hid (show (colL A k).take A.length = colL A k by rw [← Hcl.out, List.take_length])
          have Ht0 := Lib.hid (show (colL A k).take 0 = [] from rfl)
          have HI1 := Lib.hid (show pvB (colL A k) = true → ∀ y, y < k + 1 → pvB (colL A y) = true from fun h y hy => by
            by_cases e : y = k
            · rw [e]; exact h
            · exact hI.out y (by omega))
          generalize colL A k = C at *
          go_wp2_with fail
          go_loopw [5, 6, 25] (fun c _ j wr' => ∃ m : Nat, m ≤ A.length ∧ j = .int .i64 m ∧ St w.heap.size w wr' [row 2 c (iv (C.take m))]) (fun _ _ j _ => A.length - (intOf j).toNat)
          case atStart => exact ⟨0, by omega, rfl, by rw [Ht0.out]; exact hS1⟩
          case round =>
            clear hS hS1
            obtain ⟨m, hm, rfl, hS⟩ := hrel
            by_cases hml : m < A.length
            · have hR := hS.oldII hv
              have hcm := hR.cell m hml
              have hrl := (Hrl m hml).out
              have hxm := (hR.row m hml).ixe (k : Int) k rfl (by rw [hrl]; exact hlt)
              have hcx : wr.cell? (el (vat us m) k) = some (.int .i64 (at2 A m k)) := (hR.row m hml).cell k (by rw [hrl]; exact hlt)
              have Hst := Hct m hml
              have HtL := Htl m
              clear hR hrl
              generalize at2 A m k = z at *
              go_wp2_with (at_builtin; refine appI hS 0 rfl HtL.out rfl _ _ rfl rfl _ rfl ?_; intro v' w2 hS2)
              simp only [List.set_cons_zero] at hS2
              rw [← Hst.out] at hS2
              go_roundw
              case rel => exact ⟨m + 1, by omega, by go_num, hS2⟩
              case measure => simp [intOf]; omega
            · obtain rfl : m = A.length := by omega
              rw [Hta.out] at hS
              have hV := HV _ _ (hS.rdI 0 rfl)
              cases hp : pvB C
              · rw [hp] at hV
                have Hno := Hck hp
                clear hp
                go_wp2_with fail
                refine hV.out.mono ?_
                rintro e w4 ⟨rfl, h4⟩
                have hS4 := hS.call0 h4
                go_wp2_with fail
                go_ret
                exact ⟨ret_bool Hno.out.symm, hS4.out⟩
              · rw [hp] at hV
                have HI2 := Lib.hid (HI1.out hp)
                clear hp
                go_wp2_with fail
                refine hV.out.mono ?_
                rintro e w4 ⟨rfl, h4⟩
                have hS4 := hS.call0 h4
                go_wp2_with fail
                go_roundw
                case rel => exact ⟨k + 1, by omega, by go_num, HI2.out, hS4.out⟩
                case measure => simp [intOf]; omega
        · obtain rfl : k = A.length := by omega
          have Hy := Lib.hid (latB_yes (HL.out hI.out))
          go_wp2_with fail
          go_ret
          exact ⟨ret_bool Hy.out.symm, hS⟩
  · have i1 := inB_false hn
    have Hl := Lib.hid (latB_no (A := A) fun h => hn (by have := h.pos; have := h.le; omega))
    clear hn
    go_enter Tryz.func9, Tryz.ntmps9
    go_wp2_with fail
    refine (HZ _ hv).out.mono ?_
    rintro e w1 ⟨rfl, rfl⟩
    go_wp2_with (go_at_call 26; refine (within_c _ _ _ _).mono ?_; rw [i1]; rintro e w2 ⟨rfl, rfl⟩)
    go_ret
    exact ⟨ret_bool Hl.out.symm, St.refl _⟩


set_option maxHeartbeats 8000000 in
set_option maxRecDepth 100000 in
theorem isotope_c (v vr vc vs : Value) (us : List Value) (A : List (List Int)) (r c s : List Int) (w : World) (hv : RII w v us A) (hr : RdI w vr r) (hc : RdI w vc c) (hs : RdI w vs s)
    (h : Sq0 A.length A) (pr : IsP r) (pc : IsP c) (lr : r.length = A.length) (lc : c.length = A.length) (ls : s.length = A.length) (hn : A.length ≤ 100) :
    Calls Tryz.prog 23 #[v, vr, vc, vs] w (MakesII w (isoL A r c s)) := by
  have hln := hv.len
  have hix := hv.ix
  have hrx := hr.ixe
  have hcx := hc.ixe
  have hsx := hs.ixe
  rw [lr] at hrx
  rw [lc] at hcx
  rw [ls] at hsx
  have HZ := fun W (h : RII W v us A) => Lib.hid (szII_c v us A W h)
  have HE := fun W => Lib.hid (emptySquare_c A.length W (by omega))
  have H := Lib.hid (And.intro h (And.intro pr (And.intro pc (And.intro lr (And.intro lc ls)))))
  have Hst := Lib.hid (IsoP.start (A := A) (r := r) (c := c) (s := s))
  have Hv := Lib.hid hv
  have Hr := Lib.hid hr
  have Hc := Lib.hid hc
  have Hs := Lib.hid hs
  clear h pr pc lr lc ls
  go_enter Tryz.func23, Tryz.ntmps23
  go_wp2_with (first
    | (go_at_call 37; refine (HE _).out.mono ?_; rintro e w2 ⟨o, uo, rfl, hl, hS2⟩; have Hl := Lib.hid hl; clear hl)
    | (go_at_call 22; refine (HZ _ hv).out.mono ?_; rintro e w1 ⟨rfl, rfl⟩))
  rw [sqF_len] at Hl
  have hS3 : St w.heap.size w w2 (own2 o uo (sqF A.length fun _ _ => 0) ++ []) := by rw [List.append_nil]; exact hS2
  clear hS2 hv hr hc hs
  go_loopw [10, 11, 12, 13, 19, 26] (fun _ _ _ _ i _ wr => ∃ (k : Nat) (S : List (List Int)), k ≤ A.length ∧ i = .int .i64 k ∧ Hid (IsoP A r c s k 0 S) ∧ St w.heap.size w wr (own2 o uo S ++ [])) (fun _ _ _ _ i _ _ => A.length - (intOf i).toNat)
  case atStart => exact ⟨0, _, by omega, rfl, Hst.out, hS3⟩
  case round =>
    clear hS3
    obtain ⟨k, S, hk, rfl, hI, hS⟩ := hrel
    by_cases hlt : k < A.length
    · have ck := (hS.oldII Hv.out).cell k hlt
      have hrow := (Hv.out.row k hlt)
      have hrl := H.out.1.row k hlt
      have hrn := hrow.len
      rw [hrl] at hrn
      have hri := hrow.ixe
      rw [hrl] at hri
      have Hrow := Lib.hid hrow
      have Hrl := Lib.hid hrl
      clear hrow hrl
      go_wp2_with fail
      go_loopw [12, 13, 26] (fun _ _ j wr' => ∃ (y : Nat) (S : List (List Int)), y ≤ A.length ∧ j = .int .i64 y ∧ Hid (IsoP A r c s k y S) ∧ St w.heap.size w wr' (own2 o uo S ++ [])) (fun _ _ j _ => A.length - (intOf j).toNat)
      case atStart => exact ⟨0, S, by omega, rfl, hI.out, hS⟩
      case round =>
        clear hI hS ck
        obtain ⟨y, S, hy, rfl, hI, hS⟩ := hrel
        by_cases hly : y < A.length
        · obtain ⟨m, hm, hmn⟩ : ∃ m : Nat, at2 A k y = m ∧ m < A.length := by
            have := H.out.1.el k y hlt hly
            exact ⟨(at2 A k y).toNat, by omega, by omega⟩
          have cy : wr.cell? (el (vat us k) y) = some (.int .i64 (m : Int)) := by
            rw [← hm]; exact (hS.oldI Hrow.out).cell y (by rw [Hrl.out]; exact hly)
          have hri2 := hri (y : Int) y rfl hly
          obtain ⟨a, ha⟩ : ∃ a, a = pf r k := ⟨_, rfl⟩
          obtain ⟨b, hb⟩ : ∃ b, b = pf c y := ⟨_, rfl⟩
          have han : a < A.length := by rw [ha, ← H.out.2.2.2.1]; exact H.out.2.1.pf_lt (by rw [H.out.2.2.2.1]; exact hlt)
          have hbn : b < A.length := by rw [hb, ← H.out.2.2.2.2.1]; exact H.out.2.2.1.pf_lt (by rw [H.out.2.2.2.2.1]; exact hly)
          have c1 := (hS.oldI Hr.out).cell k (by rw [H.out.2.2.2.1]; exact hlt)
          rw [nth_pf H.out.2.1 (by rw [H.out.2.2.2.1]; exact hlt), ← ha] at c1
          have c2 := (hS.oldI Hc.out).cell y (by rw [H.out.2.2.2.2.1]; exact hly)
          rw [nth_pf H.out.2.2.1 (by rw [H.out.2.2.2.2.1]; exact hly), ← hb] at c2
          have c3 := (hS.oldI Hs.out).cell m (by rw [H.out.2.2.2.2.2]; exact hmn)
          have x1 := hrx (k : Int) k rfl hlt
          have x2 := hcx (y : Int) y rfl hly
          have x3 := hsx (m : Int) m rfl hmn
          have hsl : S.length = A.length := hI.out.sqr.len
          have hsa : (xat S a).length = A.length := hI.out.sqr.row a han
          have hlS : uo.length = S.length := by rw [Hl.out, hsl]
          have hR := rii2 hS hlS
          have hat := hS.at_row hlS (j := a) (by rw [hsl]; exact han)
          have z0 := hR.cell a (by rw [hsl]; exact han)
          have xo := hR.ixe (a : Int) a rfl (by rw [hsl]; exact han)
          have xb := (hS.rdI (a + 1) hat).ixe (b : Int) b rfl (by rw [hsa]; exact hbn)
          have u1 := hS.unfrozen (a + 1) hat (j := b) (by rw [iv_len, hsa]; exact hbn)
          have co1 := (hS.rdI (a + 1) hat).cell b (by rw [hsa]; exact hbn)
          have HS9 := Lib.hid (hS.drew.store (a + 1) hat (j := b) (by rw [iv_len, hsa]; exact hbn) (.int .i64 (nth s m)))
          have Hst2 := Lib.hid (hI.out.step H.out.2.1 H.out.2.2.1 H.out.2.2.2.1 H.out.2.2.2.2.1 hlt hly)
          have Hset := Lib.hid (own2_set (v := o) (L2 := []) hlS (j := a) (by rw [hsl]; exact han) ((xat S a).set b (nth s m)))
          rw [← ha, ← hb, hm, Int.toNat_natCast] at Hst2
          generalize nth s m = q at *
          clear hI hR hat hlS hsl hsa ha hb hm han hbn hS
          go_wp2_with fail
          refine regionG (fun w' => w'.cell? (el vr k) = some (.int .i64 (a : Int)) ∧ w'.cell? (el o a) = some (vat uo a) ∧ w'.cell? (el vc y) = some (.int .i64 (b : Int)) ∧ w'.cell? (el vs m) = some (.int .i64 q)) 16 (by kernel_rfl) ⟨cell_dr c1, cell_dr z0, cell_dr c2, cell_dr c3⟩ (fun hHeld => ?_)
          refine takeP (i := 0) (v := ?_) rfl (by kernel_rfl) (fun _ _ _ h => h) (by rfl) ?_ (by assumption) ?_
          case refine_2 => (intro w'; go_simp; first | done | with_reducible rfl)
          try simp only [Act.put, List.setIfInBounds_toArray, List.set_cons_zero, List.set_cons_succ]
          refine takeP (i := 1) (v := ?_) rfl (by kernel_rfl) (fun _ _ _ h => h) (by rfl) ?_ (by assumption) ?_
          case refine_2 => (intro w'; go_simp; first | done | with_reducible rfl)
          try simp only [Act.put, List.setIfInBounds_toArray, List.set_cons_zero, List.set_cons_succ]
          refine takeP (i := 2) (v := ?_) rfl (by kernel_rfl) (fun _ _ _ h => h) (by rfl) ?_ (by assumption) ?_
          case refine_2 => (intro w'; go_simp; first | done | with_reducible rfl)
          try simp only [Act.put, List.setIfInBounds_toArray, List.set_cons_zero, List.set_cons_succ]
          refine takeP (i := 3) (v := ?_) rfl (by kernel_rfl) (fun _ _ _ h => h) (by rfl) ?_ (by assumption) ?_
          case refine_2 => (intro w'; go_simp; first | done | with_reducible rfl)
          try simp only [Act.put, List.setIfInBounds_toArray, List.set_cons_zero, List.set_cons_succ]
          refine takeH (i := 4) [5, 6, 15] (v := ?_) rfl (by kernel_rfl) (fun _ _ _ h => h) (by rfl) ?_ (by assumption) ?_
          case refine_2 => (intro w' hSw; (try dsimp only at hSw); go_simp; first | done | with_reducible rfl)
          try simp only [Act.put, List.setIfInBounds_toArray, List.set_cons_zero, List.set_cons_succ]
          refine takeP (i := 5) (v := ?_) rfl (by kernel_rfl) (fun _ _ _ h => h) (by rfl) ?_ (by assumption) ?_
          case refine_2 => (intro w'; go_simp; first | done | with_reducible rfl)
          try simp only [Act.put, List.setIfInBounds_toArray, List.set_cons_zero, List.set_cons_succ]
          refine takeH (i := 6) [15] (v := ?_) rfl (by kernel_rfl) (fun _ _ _ h => h) (by rfl) ?_ (by assumption) ?_
          case refine_2 => (intro w' hSw; (try dsimp only at hSw); go_simp; first | done | with_reducible rfl)
          try simp only [Act.put, List.setIfInBounds_toArray, List.set_cons_zero, List.set_cons_succ]
          refine takeP (i := 7) (v := ?_) rfl (by kernel_rfl) (fun _ _ _ h => h) (by rfl) ?_ (by assumption) ?_
          case refine_2 => (intro w'; go_simp; first | done | with_reducible rfl)
          try simp only [Act.put, List.setIfInBounds_toArray, List.set_cons_zero, List.set_cons_succ]
          refine takeP (i := 8) (v := ?_) rfl (by kernel_rfl) (fun _ _ _ h => h) (by rfl) ?_ (by assumption) ?_
          case refine_2 => (intro w'; go_simp; first | done | with_reducible rfl)
          try simp only [Act.put, List.setIfInBounds_toArray, List.set_cons_zero, List.set_cons_succ]
          refine takeP (i := 9) (v := ?_) rfl (by kernel_rfl) (fun _ _ _ h => h) (by rfl) ?_ (by assumption) ?_
          case refine_2 => (intro w'; go_simp; first | done | with_reducible rfl)
          try simp only [Act.put, List.setIfInBounds_toArray, List.set_cons_zero, List.set_cons_succ]
          refine takeH (i := 10) [15] (v := ?_) rfl (by kernel_rfl) (fun _ _ _ h => h) (by rfl) ?_ (by assumption) ?_
          case refine_2 => (intro w' hSw; (try dsimp only at hSw); go_simp; first | done | with_reducible rfl)
          try simp only [Act.put, List.setIfInBounds_toArray, List.set_cons_zero, List.set_cons_succ]
          refine takeP (i := 11) (v := ?_) rfl (by kernel_rfl) (fun _ _ _ h => h) (by rfl) ?_ (by assumption) ?_
          case refine_2 => (intro w'; go_simp; first | done | with_reducible rfl)
          try simp only [Act.put, List.setIfInBounds_toArray, List.set_cons_zero, List.set_cons_succ]
          refine takeP (i := 12) (v := ?_) rfl (by kernel_rfl) (fun _ _ _ h => h) (by rfl) ?_ (by assumption) ?_
          case refine_2 => (intro w'; go_simp; first | done | with_reducible rfl)
          try simp only [Act.put, List.setIfInBounds_toArray, List.set_cons_zero, List.set_cons_succ]
          refine takeP (i := 13) (v := ?_) rfl (by kernel_rfl) (fun _ _ _ h => h) (by rfl) ?_ (by assumption) ?_
          case refine_2 => (intro w'; go_simp; first | done | with_reducible rfl)
          try simp only [Act.put, List.setIfInBounds_toArray, List.set_cons_zero, List.set_cons_succ]
          refine takeH (i := 14) [] (v := ?_) rfl (by kernel_rfl) (fun _ _ _ h => h) (by rfl) ?_ (by assumption) ?_
          case refine_2 => (intro w' hSw; (try dsimp only at hSw); go_simp; first | done | with_reducible rfl)
          try simp only [Act.put, List.setIfInBounds_toArray, List.set_cons_zero, List.set_cons_succ]
          refine takeP (i := 15) (v := ?_) rfl (by kernel_rfl) (fun _ _ _ h => h) (by rfl) ?_ (by assumption) ?_
          case refine_2 => (intro w'; go_simp; first | done | with_reducible rfl)
          try simp only [Act.put, List.setIfInBounds_toArray, List.set_cons_zero, List.set_cons_succ]
          refine readyG (rs := [16]) (by kernel_rfl) (by simp) ?_
          refine AllG.last rfl (by kernel_rfl) (fun K hK => ?_) AllG.nil
          go_simp
          refine hK.out _ _ ?_
          clear hK K
          try simp only [Act.put, List.setIfInBounds_toArray, List.set_cons_zero, List.set_cons_succ]
          refine doneG (by kernel_rfl) ?_ _
          refine NoPanic.normal ?_
          have hS9 := HS9.out
          rw [iv_set, Hset.out] at hS9
          go_wp2_with fail
          go_roundw
          case rel => exact ⟨y + 1, _, by omega, by go_num, Hst2.out, hS9⟩
          case measure => simp [intOf]; omega
        · obtain rfl : y = A.length := by omega
          have Hnx := Lib.hid hI.out.next
          go_wp2_with fail
          go_roundw
          case rel => exact ⟨k + 1, S, by omega, by go_num, Hnx.out, hS⟩
          case measure => simp [intOf]; omega
    · obtain rfl : k = A.length := by omega
      have hd := hI.out.done H.out.2.1 H.out.2.2.1 H.out.2.2.2.1 H.out.2.2.2.2.1
      rw [List.append_nil] at hS
      have hlS : uo.length = S.length := by rw [Hl.out, hI.out.sqr.len]
      rw [hd] at hS hlS
      have HL := Lib.hid hlS
      clear hd hlS
      go_wp2_with fail
      go_ret
      exact ⟨o, uo, rfl, HL.out, hS⟩

set_option maxHeartbeats 4000000 in
set_option maxRecDepth 100000 in
theorem l06Ok_c (v : Value) (us : List Value) (A : List (List Int)) (w : World) (hv : RII w v us A) : Calls Tryz.prog 24 #[v] w (GivesB w (latB A)) := by
  have hln := hv.len
  have hix := hv.ix
  by_cases hn1 : A.length < 1
  · have Hl := Lib.hid (latB_no (A := A) fun h => by have := h.pos; omega)
    go_enter Tryz.func24, Tryz.ntmps24
    go_wp2_with fail
    go_ret
    exact ⟨ret_bool Hl.out.symm, St.refl w⟩
  · by_cases hn2 : 10 < A.length
    · have Hl := Lib.hid (latB_no (A := A) fun h => by have := h.le; omega)
      go_enter Tryz.func24, Tryz.ntmps24
      go_wp2_with fail
      go_ret
      exact ⟨ret_bool Hl.out.symm, St.refl w⟩
    · have Hrow := fun x (hx : x < A.length) (hb : ¬ ((xat A x).length = A.length ∧ pvB (xat A x) = true)) => Lib.hid (latB_no (A := A) fun h => hb ⟨h.len x hx, pvB_yes (by rw [h.len x hx]; omega) (h.row x hx)⟩)
      have Hc := fun y (hy : y < A.length) (h : pvB (colL A y) = false) => Lib.hid (latB_no (A := A) fun hl => by rw [hl.colP hy] at h; cases h)
      have HL := fun (ha : ∀ x, x < A.length → (xat A x).length = A.length ∧ pvB (xat A x) = true) hc => Lib.hid (latB_yes (Lat.mk' (A := A) (by omega) (by omega) (allP_of ha) hc))
      go_enter Tryz.func24, Tryz.ntmps24
      go_wp2_with fail
      go_loopw [4] (fun i wr => ∃ k : Nat, k ≤ A.length ∧ i = .int .i64 k ∧ Hid (∀ x, x < k → (xat A x).length = A.length ∧ pvB (xat A x) = true) ∧ St w.heap.size w wr []) (fun i _ => A.length - (intOf i).toNat)
      case atStart => exact ⟨0, by omega, rfl, fun x hx => by omega, St.refl w⟩
      case round =>
        obtain ⟨k, hk, rfl, hI, hS⟩ := hrel
        by_cases hlt : k < A.length
        · have ck := (hS.oldII hv).cell k hlt
          have hr := (hS.oldII hv).row k hlt
          have hrl := hr.len
          have HV := Lib.hid (l04Ok_c (vat us k) (xat A k) wr hr)
          have HI1 := Lib.hid (show (xat A k).length = A.length → pvB (xat A k) = true → ∀ x, x < k + 1 → (xat A x).length = A.length ∧ pvB (xat A x) = true from fun h1 h2 x hx => by
            by_cases e : x = k
            · rw [e]; exact ⟨h1, h2⟩
            · exact hI.out x (by omega))
          have HR := Hrow k hlt
          clear hr
          generalize hX : xat A k = X at *
          clear hX
          by_cases hxl : X.length = A.length
          · have f1 : ((X.length : Int) != (A.length : Int)) = false := ne_f (by omega)
            have Hxl := Lib.hid hxl
            clear hxl
            cases hp : pvB X
            · rw [hp] at HV
              have Hno := HR (fun h => by rw [hp] at h; cases h.2)
              clear hp
              go_wp2_with (go_at_call 38; refine HV.out.mono ?_; rintro e w2 ⟨rfl, h2⟩; have hS2 := hS.call0 h2)
              go_ret
              exact ⟨ret_bool Hno.out.symm, hS2⟩
            · rw [hp] at HV
              have HI2 := Lib.hid (HI1.out Hxl.out hp)
              clear hp
              go_wp2_with (go_at_call 38; refine HV.out.mono ?_; rintro e w2 ⟨rfl, h2⟩; have hS2 := hS.call0 h2)
              go_roundw
              case rel => exact ⟨k + 1, by omega, by go_num, HI2.out, hS2⟩
              case measure => simp [intOf]; omega
          · have f1 : ((X.length : Int) != (A.length : Int)) = true := ne_t (by omega)
            have Hno := HR (fun h => hxl h.1)
            clear hxl
            go_wp2_with fail
            go_ret
            exact ⟨ret_bool Hno.out.symm, hS⟩
        · obtain rfl : k = A.length := by omega
          have HL2 := fun hc => HL hI.out hc
          have Hrl := fun x (hx : x < A.length) => Lib.hid (hI.out x hx).1
          clear hI Hrow HL
          go_wp2_with fail
          go_loopw [5, 6, 7] (fun i _ _ wr => ∃ k : Nat, k ≤ A.length ∧ i = .int .i64 k ∧ Hid (∀ y, y < k → pvB (colL A y) = true) ∧ St w.heap.size w wr []) (fun i _ _ _ => A.length - (intOf i).toNat)
          case atStart => exact ⟨0, by omega, rfl, fun y hy => by omega, hS⟩
          case round =>
            clear hS
            obtain ⟨k, hk, rfl, hI, hS⟩ := hrel
            by_cases hlt : k < A.length
            · have hS1 := hS.call St.emp0
              simp only [List.nil_append] at hS1
              have Hcl := Lib.hid (colL_len A k)
              have Hct := fun m (h : m < A.length) => Lib.hid (col_take (A := A) (y := k) h)
              have Htl := fun m => Lib.hid (show ((colL A k).take m).length < 4294967296 by rw [List.length_take, colL_len]; omega)
              have HV := fun W u (h : RdI W u (colL A k)) => Lib.hid (l04Ok_c u _ W h)
              have Hck := Hc k hlt
              have Hta := Lib.hid (show (colL A k).take A.length = colL A k by rw [← Hcl.out, List.take_length])
              have Ht0 := Lib.hid (show (colL A k).take 0 = [] from rfl)
              have HI1 := Lib.hid (show pvB (colL A k) = true → ∀ y, y < k + 1 → pvB (colL A y) = true from fun h y hy => by
                by_cases e : y = k
                · rw [e]; exact h
                · exact hI.out y (by omega))
              generalize colL A k = C at *
              go_wp2_with fail
              go_loopw [6, 7] (fun c j wr' => ∃ m : Nat, m ≤ A.length ∧ j = .int .i64 m ∧ St w.heap.size w wr' [row 2 c (iv (C.take m))]) (fun _ j _ => A.length - (intOf j).toNat)
              case atStart => exact ⟨0, by omega, rfl, by rw [Ht0.out]; exact hS1⟩
              case round =>
                clear hS hS1
                obtain ⟨m, hm, rfl, hS⟩ := hrel
                by_cases hml : m < A.length
                · have hR := hS.oldII hv
                  have hcm := hR.cell m hml
                  have hrl := (Hrl m hml).out
                  have hxm := (hR.row m hml).ixe (k : Int) k rfl (by rw [hrl]; exact hlt)
                  have hcx : wr.cell? (el (vat us m) k) = some (.int .i64 (at2 A m k)) := (hR.row m hml).cell k (by rw [hrl]; exact hlt)
                  have Hst := Hct m hml
                  have HtL := Htl m
                  clear hR hrl
                  generalize at2 A m k = z at *
                  go_wp2_with (at_builtin; refine appI hS 0 rfl HtL.out rfl _ _ rfl rfl _ rfl ?_; intro v' w2 hS2)
                  simp only [List.set_cons_zero] at hS2
                  rw [← Hst.out] at hS2
                  go_roundw
                  case rel => exact ⟨m + 1, by omega, by go_num, hS2⟩
                  case measure => simp [intOf]; omega
                · obtain rfl : m = A.length := by omega
                  rw [Hta.out] at hS
                  have hV := HV _ _ (hS.rdI 0 rfl)
                  cases hp : pvB C
                  · rw [hp] at hV
                    have Hno := Hck hp
                    clear hp
                    go_wp2_with fail
                    refine hV.out.mono ?_
                    rintro e w4 ⟨rfl, h4⟩
                    have hS4 := hS.call0 h4
                    go_wp2_with fail
                    go_ret
                    exact ⟨ret_bool Hno.out.symm, hS4.out⟩
                  · rw [hp] at hV
                    have HI2 := Lib.hid (HI1.out hp)
                    clear hp
                    go_wp2_with fail
                    refine hV.out.mono ?_
                    rintro e w4 ⟨rfl, h4⟩
                    have hS4 := hS.call0 h4
                    go_wp2_with fail
                    go_roundw
                    case rel => exact ⟨k + 1, by omega, by go_num, HI2.out, hS4.out⟩
                    case measure => simp [intOf]; omega
            · obtain rfl : k = A.length := by omega
              have Hy := HL2 hI.out
              go_wp2_with fail
              go_ret
              exact ⟨ret_bool Hy.out.symm, hS⟩
theorem sValidSquare_c (v : Value) (us : List Value) (A : List (List Int)) (w : World) (hv : RII w v us A) : Calls Tryz.prog 7 #[v] w (GivesB w (latB A)) := by
  go_enter Tryz.func7, Tryz.ntmps7
  go_wp2_with fail
  refine (l06Ok_c v us A w hv).mono ?_
  rintro e w1 ⟨rfl, h1⟩
  go_wp2_with fail
  go_ret
  exact ⟨rfl, h1⟩
/-- a square and a code -/
def IIK (w : World) (A : List (List Int)) (c : Int) (e : Ending) (w' : World) : Prop := ∃ v us, e = .returned (.tuple #[v, .int .i64 c]) ∧ us.length = A.length ∧ St w.heap.size w w' (own2 v us A)
theorem IIK.no {w w' : World} {L : List Ent} {c : Int} (h : St w.heap.size w w' L) : IIK w [] c (.returned (.tuple #[.slice none 0 0, .int .i64 c])) w' := ⟨_, [], rfl, rfl, h.out.newnil _⟩
theorem lit3 {w w0 : World} {L : List Ent} {vr vc vs : Value} {r c s : List Int} (h : St w0.heap.size w0 w L) (hr : RdI w0 vr r) (hc : RdI w0 vc c) (hs : RdI w0 vs s) :
    St w0.heap.size w0 (w.alloc (.cells #[vr, vc, vs] 33)) (L ++ [row 33 (.slice (some ⟨w.heap.size, 0, none⟩) 3 3) [vr, vc, vs]]) ∧ RII (w.alloc (.cells #[vr, vc, vs] 33)) (.slice (some ⟨w.heap.size, 0, none⟩) 3 3) [vr, vc, vs] [r, c, s] := by
  have h1 := h.new 33 #[vr, vc, vs] (by simp [maxLen])
  refine ⟨h1, (h1.rd L.length (by simp; rfl)), rfl, fun j hj => ?_⟩
  have k1 := h1.oldI hr
  have k2 := h1.oldI hc
  have k3 := h1.oldI hs
  rcases j with _ | _ | _ | j
  · exact k1
  · exact k2
  · exact k3
  · simp at hj; omega
noncomputable def pv3 (n : Nat) (r c s : List Int) : Bool := allP n [r, c, s]
theorem pv3_t {n : Nat} {r c s : List Int} (h : pv3 n r c s = true) : (r.length = n ∧ IsP r) ∧ (c.length = n ∧ IsP c) ∧ (s.length = n ∧ IsP s) := by
  have h0 := allP_at h (x := 0) (by simp)
  have h1 := allP_at h (x := 1) (by simp)
  have h2 := allP_at h (x := 2) (by simp)
  exact ⟨⟨h0.1, (pvB_t h0.2).2⟩, ⟨h1.1, (pvB_t h1.2).2⟩, ⟨h2.1, (pvB_t h2.2).2⟩⟩
theorem pv3_of {n : Nat} {r c s : List Int} (hn : n ≤ 32) (hr : r.length = n ∧ IsP r) (hc : c.length = n ∧ IsP c) (hs : s.length = n ∧ IsP s) : pv3 n r c s = true := by
  refine allP_of fun x hx => ?_
  rcases x with _ | _ | _ | x
  · exact ⟨hr.1, pvB_yes (by rw [show (xat [r, c, s] 0).length = r.length from rfl]; omega) hr.2⟩
  · exact ⟨hc.1, pvB_yes (by rw [show (xat [r, c, s] 1).length = c.length from rfl]; omega) hc.2⟩
  · exact ⟨hs.1, pvB_yes (by rw [show (xat [r, c, s] 2).length = s.length from rfl]; omega) hs.2⟩
  · simp at hx; omega
set_option maxHeartbeats 4000000 in
set_option maxRecDepth 100000 in
theorem Isotope_c (v vr vc vs : Value) (us : List Value) (A : List (List Int)) (r c s : List Int) (w : World) (hv : RII w v us A) (hr : RdI w vr r) (hc : RdI w vc c) (hs : RdI w vs s)
    (hl : latB A = true) (lr : r.length ≤ 1048576) (lc : c.length ≤ 1048576) (ls : s.length ≤ 1048576) :
    Calls Tryz.prog 18 #[v, vr, vc, vs] w (if pv3 A.length r c s = true then IIK w (isoL A r c s) 0 else IIK w [] 2) := by
  have hL := latB_t hl
  have HV := Lib.hid (ValidSquare_c v us A w hv (fun x hx => by rw [hL.len x hx]; have := hL.le; omega))
  rw [hl] at HV
  have HZ := fun W (h : RII W v us A) => Lib.hid (szII_c v us A W h)
  have HP := fun W u (h : RII W u [vr, vc, vs] [r, c, s]) => Lib.hid (arePermutations_c A.length u [vr, vc, vs] [r, c, s] W h (fun x hx => by
    rcases x with _ | _ | _ | x
    · exact lr
    · exact lc
    · exact ls
    · simp at hx; omega))
  have HL := Lib.hid hL
  have HT := Lib.hid (fun h => pv3_t (n := A.length) (r := r) (c := c) (s := s) h)
  have hp3 : allP A.length [r, c, s] = pv3 A.length r c s := rfl
  rw [hp3] at HP
  obtain ⟨ar, kr, er⟩ := hr.shq
  obtain ⟨ac, kc, ec⟩ := hc.shq
  obtain ⟨as', ks, es⟩ := hs.shq
  clear hl hL hp3 lr lc ls
  subst er
  subst ec
  subst es
  cases hp : pv3 A.length r c s
  · rw [if_neg (by decide)]
    rw [hp] at HP
    clear hp HT
    go_enter Tryz.func18, Tryz.ntmps18
    go_wp2_with fail
    refine HV.out.mono ?_
    rintro e w1 ⟨rfl, h1⟩
    have hlit := lit3 h1 hr hc hs
    go_wp2_with (first
      | (go_at_call 27; refine (HP _ _ hlit.2).out.mono ?_; rintro e w3 ⟨rfl, h3⟩; have hS3 := hlit.1.call0 h3)
      | (go_at_call 22; refine (HZ _ (h1.oldII hv)).out.mono ?_; rintro e w2 ⟨rfl, rfl⟩))
    go_ret2
    exact IIK.no hS3
  · rw [if_pos rfl]
    have hT := HT.out hp
    have HI := fun W (a : RII W v us A) b c' d => Lib.hid (isotope_c v (.slice ar r.length kr) (.slice ac c.length kc) (.slice as' s.length ks) us A r c s W a b c' d HL.out.sq0 hT.1.2 hT.2.1.2 hT.1.1 hT.2.1.1 hT.2.2.1 (by have := HL.out.le; omega))
    rw [hp] at HP
    clear hp HT hT
    go_enter Tryz.func18, Tryz.ntmps18
    go_wp2_with fail
    refine HV.out.mono ?_
    rintro e w1 ⟨rfl, h1⟩
    have hlit := lit3 h1 hr hc hs
    go_wp2_with (first
      | (have hz := hS3; clear hz; go_at_call 23; refine (HI _ (hS3.oldII hv) (hS3.oldI hr) (hS3.oldI hc) (hS3.oldI hs)).out.mono ?_; rintro e w4 ⟨o, uo, rfl, hlo, h4⟩; have hS4 := hS3.call h4; have Hlo := Lib.hid hlo; clear hlo h4)
      | (go_at_call 27; refine (HP _ _ hlit.2).out.mono ?_; rintro e w3 ⟨rfl, h3⟩; have hS3 := (hlit.1.call0 h3).out)
      | (go_at_call 22; refine (HZ _ (h1.oldII hv)).out.mono ?_; rintro e w2 ⟨rfl, rfl⟩))
    go_ret2
    exact ⟨o, uo, rfl, Hlo.out, hS4⟩
end Go.Proofs.YtdlmohigkkdegaaGreatDoor
end

section
/- Walks: squares written as digits. -/
namespace Go.Proofs.YtdlmohigkkdegaaGreatDoor
set_option linter.unusedSimpArgs false
set_option linter.unusedVariables false
open Go Go.RowKit

theorem Join47_c {B : Nat} {w0 w : World} {L : List Ent} (hS : St B w0 w L) (i : Nat) {v : Value} {ws : List (List UInt8)} (hi : L[i]? = some (row 9 v (sv ws))) (hne : ws ≠ []) (hl : ws.length ≤ 1000) (hb : (Lib.join ws [47]).length ≤ 100000) :
    Calls Tryz.prog 42 #[v, .string ⟨#[47]⟩] w (GivesT (Lib.join ws [47]) w) := by
  have hr := hS.rd i hi
  rcases hS.ok _ (List.mem_of_getElem? hi) with ⟨hp, _⟩ | ⟨_, hv, hu⟩ | ⟨_, g, cap, cur, hv, hB, hh, h1, h2, h3, h4⟩
  · simp [row] at hp
  · simp only [row] at hu
    have : ws = [] := by simpa [sv] using hu
    exact absurd this hne
  · simp only [row] at hv h1 hh
    subst hv
    have hg : g < w.heap.size := (Array.getElem?_eq_some_iff.1 hh).1
    have hcell : ∀ j l, ws[j]? = some l → w.cell? ⟨g, 0 + j, none⟩ = some (.string (bb l)) := fun j l hj => by
      have := hr.2 j (.string (bb l)) (by simp [sv, hj])
      simpa [el, add_mk] using this
    match ws, hne, hl, hb, hr, h1, hcell with
    | [x], _, _, _, _, _, hcell =>
      have c : Calls Tryz.prog 42 #[.slice (some ⟨g, 0, none⟩) 1 cap, .string ⟨#[47]⟩] w _ := Any.strings_Join_one Tryz.mJoin Tryz.mJoinX g 0 cap (bb x) ⟨#[47]⟩ w (hcell 0 x rfl)
      refine c.mono ?_
      rintro e w' ⟨rfl, rfl⟩
      exact ⟨by rw [Lib.join_one], St.refl _⟩
    | x :: y :: r, _, hl, hb, hr, h1, hcell =>
      have hm : ((x :: y :: r).map bb).map (·.data.toList) = x :: y :: r := by rw [List.map_map]; exact (List.map_congr_left fun l _ => bb_data l).trans (List.map_id _)
      have c : Calls Tryz.prog 42 #[.slice (some ⟨g, 0, none⟩) ((x :: y :: r).map bb).length cap, .string ⟨#[47]⟩] w _ := Any.strings_Join_many Tryz.mJoin Tryz.mJoinX g 0 cap ((x :: y :: r).map bb) ⟨#[47]⟩ w
        (fun j b hj => by
          rw [List.getElem?_map] at hj
          obtain ⟨l, hl2, rfl⟩ := Option.map_eq_some_iff.1 hj
          exact hcell j l hl2) hg (by simp) (by rw [List.length_map]; omega) (by rw [List.length_map]; rw [sv_len] at h1; exact h1) (by rw [hm]; exact Nat.le_trans hb (by decide))
      rw [hm] at c
      rw [sv_len]
      rw [List.length_map] at c
      refine c.mono ?_
      rintro e w' ⟨rfl, h⟩
      exact ⟨rfl, st_below h⟩

theorem Split47_c (T : List UInt8) (ws : List (List UInt8)) (w : World) (hT : Tabs w) (hc : Lib.count T [47] + 1 = ws.length) (hs : Lib.splitK [47] 0 (Lib.count T [47]) T = ws) (hl : T.length ≤ 100000) (hw : ws.length ≤ 100000) :
    Calls Tryz.prog 46 #[.string (bb T), .string ⟨#[47]⟩] w fun e w' => ∃ v, e = .returned v ∧ St w.heap.size w w' [row 9 v (sv ws)] := by
  obtain ⟨m, hm⟩ := hT.2
  have c : Calls Tryz.prog 46 #[.string (bb T), .string ⟨#[47]⟩] w _ := Any.strings_Split Tryz.mSplit (by kernel_rfl) (bb T) ⟨#[47]⟩ m w (by rw [bb_size]; omega) hm (by decide)
  have e1 : Lib.countB (bb T) ⟨#[47]⟩ = Lib.count T [47] := by show Lib.count (bb T).data.toList [47] = _; rw [bb_data]
  have e2 : (Lib.splitB ⟨#[47]⟩ 0 (Lib.countB (bb T) ⟨#[47]⟩) (bb T)).map Value.string = sv ws := by
    have h := Lib.splitB_data ⟨#[47]⟩ 0 (Lib.countB (bb T) ⟨#[47]⟩) (bb T)
    rw [bb_data, e1] at h
    have h2 : (Lib.splitB ⟨#[47]⟩ 0 (Lib.count T [47]) (bb T)).map (·.data.toList) = ws := h.trans hs
    rw [e1, ← h2, sv, List.map_map]
    exact List.map_congr_left fun b _ => by simp [bb]
  rw [e1] at c
  rw [e1] at e2
  rw [e2, hc] at c
  refine c.mono ?_
  rintro e w' ⟨rfl, rfl⟩
  have hS := (St.refl w).new 9 (sv ws).toArray (by simp [sv_len, maxLen]; omega)
  refine ⟨_, rfl, ?_⟩
  simp only [List.nil_append, List.size_toArray, sv_len] at hS
  exact hS
theorem sv_get2 {ws : List (List UInt8)} {j : Nat} (h : j < ws.length) : (sv ws).getD j undef = .string (bb (ws.getD j [])) := by
  simp [sv, List.getD, List.getElem?_eq_getElem h]

/-! strings.Builder -/
theorem builder_keep {T e : TypeId} {B b : Nat} {bs : List Value} {w w' : World} (h : Lib.IsBuilder T e B b bs w) (hb : Below w.heap.size w w') : Lib.IsBuilder T e B b bs w' := by
  have hg : w.grownBy w' none := ⟨hb.os, hb.tape, hb.output, hb.size, fun k hk _ => hb.block k hk⟩
  rcases h with ⟨hB, v, hv, ho, hn⟩ | ⟨hB, v, hv, ho, hn⟩
  · exact .inl ⟨hB, v, (hb.block b (Array.getElem?_eq_some_iff.1 hv).1).trans hv, ho.kept hg (by cases v.ownBlock <;> simp), hn⟩
  · exact .inr ⟨hB, v, (hb.block b (Array.getElem?_eq_some_iff.1 hv).1).trans hv, ho.kept hg (by cases v.ownBlock <;> simp), hn⟩
def Blt (B : Nat) (l : List UInt8) (w : World) : Prop := Lib.IsBuilder 66 5 B B (Lib.byteCells l) w
theorem WriteString_c (B : Nat) (l s : List UInt8) (w : World) (h : Blt B l w) (hl : l.length ≤ 1000) (hs : s.length ≤ 1000) (hB : B ≤ w.heap.size) :
    Calls Tryz.prog 39 #[.pointer (some ⟨B, 0, none⟩), .string (bb s)] w fun e w' => ∃ v, e = .returned v ∧ Blt B (l ++ s) w' ∧ Below B w w' := by
  have c : Calls Tryz.prog 39 #[.pointer (some ⟨B, 0, none⟩), .string (bb s)] w _ := Any.Builder_WriteString { Tryz.mJoin with } Tryz.mJoinX B B (Lib.byteCells l) (bb s) w h (by rw [Lib.byteCells_length, bb_size]; omega) hB
  refine c.mono ?_
  rintro e w' ⟨rfl, h1, h2⟩
  refine ⟨_, rfl, ?_, h2⟩
  have e1 : Lib.byteCells l ++ Lib.strCells (bb s) = Lib.byteCells (l ++ s) := by rw [Lib.byteCells_append]; rfl
  rw [e1] at h1
  exact .inr h1
theorem BString_c (B : Nat) (l : List UInt8) (w : World) (h : Blt B l w) (hB : B ≤ w.heap.size) :
    Calls Tryz.prog 41 #[.pointer (some ⟨B, 0, none⟩)] w fun e w' => e = .returned (.string (bb l)) ∧ Below B w w' :=
  Any.Builder_String_any { Tryz.mJoin with } Tryz.mJoinX B B l w h hB
theorem blt_new (w : World) : Blt w.heap.size [] (w.alloc (.cells #[.pointer none, .slice none 0 0] 66)) := Lib.fresh_isBuilder _ _ w
set_option maxHeartbeats 8000000 in
set_option maxRecDepth 100000 in
theorem digitRows_c (v : Value) (us : List Value) (A : List (List Int)) (w : World) (hT : Tabs w) (hv : RII w v us A) (hne : A ≠ []) (hl : A.length ≤ 10) (hD : ∀ r ∈ A, Dig r) :
    Calls Tryz.prog 25 #[v] w (GivesT (sqT A) w) := by
  have e1 := hv.len
  have HD := Lib.hid hD
  have Hne := Lib.hid hne
  have HL := Lib.hid (sqT_len hl hD)
  have HT := Lib.hid hT
  clear hD hne hT
  have hS0 := emp_s (St.refl w)
  go_enter Tryz.func25, Tryz.ntmps25
  go_wp2_with fail
  go_loopw [3, 11] (fun wv iv' wr => ∃ (k : Nat), k ≤ A.length ∧ iv' = .int .i64 k ∧ St w.heap.size w wr [row 9 wv (sv ((A.take k).map rt))]) (fun _ i _ => A.length - (intOf i).toNat)
  case atStart => exact ⟨0, by omega, rfl, by simpa [sv] using hS0⟩
  case round =>
    clear hS0
    obtain ⟨k, hk, rfl, hS⟩ := hrel
    by_cases hlt : k < A.length
    · have hki : (k : Int) < (A.length : Int) := by omega
      have hvo := hS.oldII hv
      have hr1 := hvo.ixe (k : Int) k rfl hlt
      have hc := hvo.cell k hlt
      have hdr : Dig (xat A k) := HD.out _ (by rw [xat_eq hlt]; exact List.getElem_mem hlt)
      have hrow := hvo.row k hlt
      have e2 := hrow.len
      have Hdr := Lib.hid hdr
      have hr10 : (xat A k).length ≤ 10 := hdr.1
      clear hdr
      have hb0 := blt_new wr
      have hbl0 : Below wr.heap.size wr (wr.alloc (.cells #[.pointer none, .slice none 0 0] 66)) := (Below.refl _ wr).alloc (Nat.le_refl _) _
      go_wp2_with fail
      go_loopw [17] (fun i2 w2 => ∃ (j : Nat), j ≤ (xat A k).length ∧ i2 = .int .i64 j ∧ Below wr.heap.size wr w2 ∧ Blt wr.heap.size (rt ((xat A k).take j)) w2) (fun i _ => (xat A k).length - (intOf i).toNat)
      case atStart => exact ⟨0, by omega, rfl, hbl0, by simpa [rt] using hb0⟩
      case round =>
        clear hb0 hbl0
        obtain ⟨j, hj, rfl, hB, hb⟩ := hrel
        have hrow2 := hrow.keep hB
        by_cases hltj : j < (xat A k).length
        · have hkj : (j : Int) < ((xat A k).length : Int) := by omega
          have hr2 := hrow2.ixe (j : Int) j rfl hltj
          have hc2 := hrow2.cell j hltj
          have hx := Hdr.out.2 _ (nth_mem hltj)
          have hx1 : Lib.itoa (nth (xat A k) j) = [dig (nth (xat A k) j)] := dig_itoa hx.1 hx.2
          have hDc := Lib.hid (fun W (hW : Tabs W) => Decimal_c (nth (xat A k) j) W hW ⟨by have := hx.1; omega, by have := hx.2; omega⟩)
          rw [hx1] at hDc
          have et : rt ((xat A k).take (j + 1)) = rt ((xat A k).take j) ++ [dig (nth (xat A k) j)] := by rw [take_nth hltj]; simp [rt]
          have hlj : (rt ((xat A k).take j)).length ≤ 10 := by rw [rt_len, List.length_take]; have := Hdr.out.1; omega
          have HX := Lib.hid (show _ ∧ _ from ⟨et, hlj⟩)
          clear hx hx1 et hlj
          have hTw2 := HT.out.keep ((hS.below).trans (hB.mono hS.size))
          go_wp2_with fail
          refine (hDc.out _ hTw2).mono ?_
          rintro e w3 ⟨rfl, h3⟩
          have hb3 := builder_keep hb h3.below
          have hB3 := hB.trans (h3.below.mono hB.size)
          clear h3
          go_wp2_with fail
          refine (WriteString_c _ _ [dig (nth (xat A k) j)] w3 hb3 (by have := HX.out.2; omega) (by simp) hB3.size).mono ?_
          rintro e w4 ⟨v4, rfl, hb4, hB4⟩
          rw [← HX.out.1] at hb4
          have hB5 := hB3.trans hB4
          clear hB4 hB3 hb3
          go_wp2_with fail
          go_roundw
          case rel => exact ⟨j + 1, by omega, by go_num, hB5, hb4⟩
          case measure => simp [intOf]; omega
        · obtain rfl : j = (xat A k).length := by omega
          rw [List.take_length] at hb
          go_wp2_with fail
          refine (BString_c _ _ _ hb hB.size).mono ?_
          rintro e w3 ⟨rfl, hB3⟩
          have hS3 := hS.call0 (st_below (hB.trans hB3))
          clear hS hvo hrow hrow2 hB hB3 hb
          have hN := Lib.hid (show (sv ((A.take k).map rt)).length < 4294967296 by rw [sv_len]; simp; omega)
          go_wp2_with (at_builtin; refine wpList_st_app1 rfl _ _ 63 rfl 9 (.string ByteArray.empty) 16 Tryz.und_ss Tryz.info_s rfl hS3 0 rfl rfl _ rfl rfl (by omega) hN.out ?_; intro v5 w5 hS5; simp only [List.set_cons_zero] at hS5)
          have e5 : sv ((A.take k).map rt) ++ [Value.string (bb (rt (xat A k)))] = sv ((A.take (k + 1)).map rt) := by
            have : A.take (k + 1) = A.take k ++ [xat A k] := by rw [List.take_succ_eq_append_getElem hlt, xat_eq hlt]
            rw [this, List.map_append, sv_app]; rfl
          rw [e5] at hS5
          go_roundw
          case rel => exact ⟨k + 1, by omega, by go_num, hS5⟩
          case measure => simp [intOf]; omega
    · obtain rfl : k = A.length := by omega
      rw [List.take_length] at hS
      have c := Lib.hid (fun (v' : Value) (h : St w.heap.size w wr [row 9 v' (sv (A.map rt))]) => Join47_c h 0 rfl (by simpa using Hne.out) (by rw [List.length_map]; omega) (by have := HL.out; unfold sqT at this; omega))
      go_wp2_with fail
      refine (c.out _ hS).mono ?_
      rintro e w2 ⟨rfl, h2⟩
      go_wp2_with fail
      go_ret
      exact ⟨rfl, (hS.call0 h2).out⟩
end Go.Proofs.YtdlmohigkkdegaaGreatDoor
end

section
/- Walks: squares read from digits. -/
namespace Go.Proofs.YtdlmohigkkdegaaGreatDoor
set_option linter.unusedSimpArgs false
set_option linter.unusedVariables false
open Go Go.RowKit

/-- the bytes of a string, read -/
theorem rd_bytes (w : World) (l : List UInt8) (hl : l.length ≤ 1000) : RdB (Lib.bytesWorld w 5 (bb l)) (.slice (some ⟨w.heap.size, 0, none⟩) l.length (grownCap w l.length 0 5)) l := by
  refine ⟨⟨_, _, by rw [bv_len], by rw [bv_len]; exact grownCap_ge w l.length 0 _, grownCap_le_maxLen w l.length 0 _ (by unfold maxLen; omega), .inr (by simp)⟩, fun j u hu => ?_⟩
  have hj : j < l.length := by have := (List.getElem?_eq_some_iff.1 hu).1; rwa [bv_len] at this
  have h := Lib.bytesWorld_cell w 5 (bb l) j (by rw [bb_size]; exact hj)
  rw [bb_data] at h
  have e : u = .int .u8 (l.getD j 0).toNat := by
    simp only [bv, List.getElem?_map, List.getElem?_eq_getElem hj, Option.map_some, Option.some.injEq] at hu
    rw [← hu]; simp [List.getD, List.getElem?_eq_getElem hj]
  rw [e]
  show World.cell? _ (Addr.add ⟨w.heap.size, 0, none⟩ j) = _
  rw [add_mk]; exact h
theorem St.nilF {B : Nat} {w0 w : World} {L : List Ent} (h : St B w0 w L) (e : TypeId) : St B w0 w (row e (.slice none 0 0) [] :: L) :=
  ⟨h.below, h.base, fun x hx => by
    rcases List.mem_cons.1 hx with rfl | hx
    · exact .inr (.inl ⟨rfl, rfl, rfl⟩)
    · exact h.ok x hx, List.pairwise_cons.2 ⟨fun _ _ => .inl rfl, h.apart⟩⟩
theorem own2_snocT {B : Nat} {w0 w : World} {v v' : Value} {us : List Value} {xss : List (List Int)} {u : Value} {xs : List Int} {L2 : List Ent} (hl : us.length = xss.length)
    (h : St B w0 w ((own2 v us xss ++ L2 ++ [row 2 u (iv xs)]).set 0 (row 33 v' (us ++ [u])))) : St B w0 w (own2 v' (us ++ [u]) (xss ++ [xs]) ++ L2) := by
  rw [own2, rowsI_app hl]
  refine h.perm ?_
  show (row 33 v' (us ++ [u]) :: (rowsI us xss ++ L2 ++ [row 2 u (iv xs)])).Perm (row 33 v' (us ++ [u]) :: (rowsI us xss ++ [row 2 u (iv xs)] ++ L2))
  refine List.Perm.cons _ ?_
  rw [List.append_assoc, List.append_assoc]
  exact List.Perm.append_left _ List.perm_append_comm
set_option maxHeartbeats 8000000 in
set_option maxRecDepth 100000 in
theorem readDigitRows_c (A : List (List Int)) (w : World) (hT : Tabs w) (hne : A ≠ []) (hl : A.length ≤ 10) (hD : ∀ r ∈ A, Dig r) :
    Calls Tryz.prog 28 #[.string (bb (sqT A))] w (MakesII w A) := by
  have hp := sqT_parts hne hD
  have hSp := Lib.hid (Split47_c (sqT A) (A.map rt) w hT (by rw [List.length_map]; exact hp.1) hp.2 (by have := sqT_len hl hD; omega) (by rw [List.length_map]; omega))
  have HD := Lib.hid hD
  clear hp hD hne
  generalize bb (sqT A) = S at *
  go_enter Tryz.func28, Tryz.ntmps28
  go_wp2_with fail
  refine hSp.out.mono ?_
  rintro e w1 ⟨vs, rfl, h1⟩
  clear hSp
  have e1 : ∀ (ty : TypeId) (W : World), (Builtin.len_ #[63] ty #[vs]).run Tryz.prog W = .ok (.int .i64 A.length) W := fun ty W => by
    have := run_len_sl (P := Tryz.prog) (h1.rd 0 rfl).sl 63 ty Tryz.und_ss W; rwa [sv_len, List.length_map] at this
  have e2 := Lib.hid (fun (k : Nat) (hk : k < A.length) (W : World) => (by have := run_ix_sl (P := Tryz.prog) (h1.rd 0 rfl).sl 63 Tryz.und_ss (by kernel_rfl) .i64 (k : Int) (by omega) (by rw [sv_len, List.length_map]; omega) W; rwa [Int.toNat_natCast] at this : (Instr.indexAt 63 vs (.int .i64 (k : Int))).run Tryz.prog W = .ok (.pointer (some (el vs k))) W))
  have hS1 := h1.nilF 33
  clear h1
  go_wp2_with fail
  go_loopw [3, 12] (fun o iv' wr => ∃ (k : Nat) (v : Value) (us : List Value), v = o ∧ k ≤ A.length ∧ iv' = .int .i64 k ∧ Hid (us.length = (A.take k).length) ∧ St w.heap.size w wr (own2 v us (A.take k) ++ [row 9 vs (sv (A.map rt))])) (fun _ i _ => A.length - (intOf i).toNat)
  case atStart => exact ⟨0, _, [], rfl, by omega, rfl, by simp [Hid], hS1⟩
  case round =>
    clear hS1
    obtain ⟨k, v, us, rfl, hk, rfl, hlu, hS⟩ := hrel
    by_cases hlt : k < A.length
    · have hki : (k : Int) < (A.length : Int) := by omega
      have hr1 := e2.out k hlt
      have hmem := List.mem_append_right (own2 v us (A.take k)) (List.mem_singleton.2 (rfl : row 9 vs (sv (A.map rt)) = _))
      have hrv := (hS.sub (List.sublist_append_right _ _)).rd 0 rfl
      have hc := hrv.cell (i := k) (by rw [sv_len, List.length_map]; exact hlt)
      rw [sv_get2 (by rw [List.length_map]; exact hlt)] at hc
      have et : (A.map rt).getD k [] = rt (xat A k) := by rw [List.getD, List.getElem?_map, List.getElem?_eq_getElem hlt, xat_eq hlt]; rfl
      rw [et] at hc
      have Hdr := Lib.hid (show Dig (xat A k) from HD.out _ (by rw [xat_eq hlt]; exact List.getElem_mem hlt))
      have hr10 : (xat A k).length ≤ 10 := Hdr.out.1
      have hl10 : (rt (xat A k)).length ≤ 10 := by rw [rt_len]; exact Hdr.out.1
      have hcv := Lib.run_convert_string_bytes (P := Tryz.prog) wr 9 22 5 (bb (rt (xat A k))) Tryz.underlying9 Tryz.und_bs Tryz.underlying5
      have hrb := rd_bytes wr (rt (xat A k)) (by omega)
      rw [bb_size] at hcv
      have hS3 := hS.call0 (st_below (Lib.bytesWorld_below wr 5 (bb (rt (xat A k)))))
      have hNk := Lib.hid (show us.length < 4294967296 by rw [hlu.out, List.length_take]; omega)
      clear hmem hrv et hS
      have Hrl := Lib.hid (rt_len (xat A k))
      generalize Lib.bytesWorld wr 5 (bb (rt (xat A k))) = w3 at *
      generalize bb (rt (xat A k)) = D at *
      generalize Value.slice (some ⟨wr.heap.size, 0, none⟩) (rt (xat A k)).length (grownCap wr (rt (xat A k)).length 0 5) = vb at *
      have e3 := hrb.len
      rw [Hrl.out] at e3
      have hS0 := (St.refl w3).nilF 2
      go_wp2_with fail
      go_loopw [6, 19] (fun o2 i2 w2 => ∃ (j : Nat) (rv : Value), rv = o2 ∧ j ≤ (xat A k).length ∧ i2 = .int .i64 j ∧ St w3.heap.size w3 w2 [row 2 rv (iv ((xat A k).take j))]) (fun _ i _ => (xat A k).length - (intOf i).toNat)
      case atStart => exact ⟨0, _, rfl, by omega, rfl, hS0⟩
      case round =>
        clear hS0
        obtain ⟨j, rv, rfl, hj, rfl, hI⟩ := hrel
        have hrb2 : RdB _ vb (rt (xat A k)) := Rd.keep hrb hI.below
        by_cases hltj : j < (xat A k).length
        · have hkj : (j : Int) < ((xat A k).length : Int) := by omega
          have hr2 := hrb2.ix .i64 (j : Int) (by omega) (by rw [Hrl.out]; exact hkj)
          rw [Int.toNat_natCast] at hr2
          have hx := Hdr.out.2 _ (nth_mem hltj)
          have hc2 := Rd.cell (i := j) hrb2 (by rw [bv_len, Hrl.out]; exact hltj)
          have eb : (bv (rt (xat A k))).getD j undef = .int .u8 (48 + nth (xat A k) j) := by
            have : (rt (xat A k)).getD j 0 = dig (nth (xat A k) j) := by simp [rt, nth, List.getD, List.getElem?_eq_getElem hltj]
            have e2 : (bv (rt (xat A k))).getD j undef = .int .u8 ((rt (xat A k)).getD j 0).toNat := by
              have : j < (rt (xat A k)).length := by rw [Hrl.out]; exact hltj
              simp [bv, List.getD, List.getElem?_eq_getElem this]
            rw [e2, this, dig_nat hx.1 hx.2]
          rw [eb] at hc2
          have HI := Lib.hid hI
          have et : (xat A k).take (j + 1) = (xat A k).take j ++ [nth (xat A k) j] := take_nth hltj
          have Het := Lib.hid et
          have hNj := Lib.hid (show ((xat A k).take j).length < 4294967296 by rw [List.length_take]; omega)
          clear et eb hI hrb2
          generalize nth (xat A k) j = y at *
          go_wp2_with (at_builtin; refine appI HI.out 0 rfl hNj.out rfl _ _ rfl rfl _ rfl ?_; intro v5 w5 hS5; simp only [List.set_cons_zero] at hS5)
          rw [show 48 + y - 48 = y by omega] at hS5
          go_roundw
          case rel => exact ⟨j + 1, _, rfl, by omega, by go_num, by rw [Het.out]; exact hS5⟩
          case measure => simp [intOf]; omega
        · obtain rfl : j = (xat A k).length := by omega
          rw [List.take_length] at hI
          have hsl := (hI.rdI 0 rfl).sl
          have hone := Lib.hid hsl.one
          obtain ⟨ua, uc, rfl⟩ := hsl.sh
          have hS4 := hS3.call hI
          have Hlu := Lib.hid hlu
          clear hsl hI hS3 hlu
          go_wp2_with (at_builtin; refine appII hS4 0 rfl hNk.out rfl _ _ rfl rfl _ hone.out rfl ?_; intro v5 w5 hS5)
          have hS6 := own2_snocT Hlu.out.out hS5
          have ek : A.take k ++ [xat A k] = A.take (k + 1) := by rw [List.take_succ_eq_append_getElem hlt, xat_eq hlt]
          rw [ek] at hS6
          have hu6 : Hid ((us ++ [Value.slice ua (iv (xat A k)).length uc]).length = (A.take (k + 1)).length) := Lib.hid (by rw [← ek, List.length_append, List.length_append, Hlu.out.out]; rfl)
          go_roundw
          case rel => exact ⟨k + 1, _, _, rfl, by omega, by go_num, hu6, hS6⟩
          case measure => simp [intOf]; omega
    · obtain rfl : k = A.length := by omega
      rw [List.take_length] at hS hlu
      go_wp2_with fail
      go_ret
      exact ⟨_, us, rfl, hlu.out, hS.sub (List.sublist_append_left _ _)⟩
end Go.Proofs.YtdlmohigkkdegaaGreatDoor
end

section
/- Latin squares: where two rows are exchanged along a closed cycle of columns, the square stays Latin; cyclic squares and products of squares are Latin. In plain terms. -/
namespace Go.Proofs.YtdlmohigkkdegaaGreatDoor
set_option linter.unusedSimpArgs false
set_option linter.unusedVariables false
theorem Lat.rinj {A : List (List Int)} (h : Lat A) {x i j : Nat} (hx : x < A.length) (hi : i < A.length) (hj : j < A.length) (e : at2 A x i = at2 A x j) : i = j :=
  (h.row x hx).inj i j (by rw [h.len x hx]; exact hi) (by rw [h.len x hx]; exact hj) e
theorem Lat.cinj {A : List (List Int)} (h : Lat A) {y i j : Nat} (hy : y < A.length) (hi : i < A.length) (hj : j < A.length) (e : at2 A i y = at2 A j y) : i = j :=
  (h.col y hy).inj i j (by rw [colL_len]; exact hi) (by rw [colL_len]; exact hj) (by rw [nth_colL hi, nth_colL hj]; exact e)
theorem Lat.ronto {A : List (List Int)} (h : Lat A) {x : Nat} (hx : x < A.length) {s : Int} (h0 : 0 ≤ s) (h1 : s < A.length) : ∃ y, y < A.length ∧ at2 A x y = s := by
  have hp := h.row x hx
  have hl := h.len x hx
  obtain ⟨y, hy, e⟩ := hp.bij.onto (y := s.toNat) (by omega)
  refine ⟨y, by omega, ?_⟩
  have := nth_pf hp hy
  unfold at2; omega
/-! ### exchanging two rows along columns -/
/-- the rows x and z of A are exchanged at the columns T; y comes next -/
structure SwI (n : Nat) (A S : List (List Int)) (x z y : Nat) (f : Int) (T : List Nat) : Prop where
  sq : Sqr n S
  el : ∀ a b, a < n → b < n → at2 S a b = if b ∈ T then at2 A (if a = x then z else if a = z then x else a) b else at2 A a b
  nd : T.Nodup
  lt : ∀ t ∈ T, t < n
  yn : y ∉ T
  ylt : y < n
  c1 : ∀ t ∈ y :: T, at2 A x t = f ∨ ∃ u ∈ T, at2 A x t = at2 A z u
  c2 : ∀ u ∈ T, ∃ t ∈ y :: T, at2 A z u = at2 A x t
  c3 : ∃ t ∈ y :: T, at2 A x t = f
section
variable {n : Nat} {A S : List (List Int)} {x z y : Nat} {f : Int} {T : List Nat}
theorem SwI.start (hA : Sqr n A) (hy : y < n) : SwI n A A x z y (at2 A x y) [] where
  sq := hA
  el a b _ _ := by simp
  nd := List.nodup_nil
  lt t ht := by cases ht
  yn := by simp
  ylt := hy
  c1 t ht := by simp at ht; subst ht; exact .inl rfl
  c2 u hu := by cases hu
  c3 := ⟨y, by simp, rfl⟩
theorem length_le_of_nodup_lt {T : List Nat} {n : Nat} (h : T.Nodup) (hl : ∀ t ∈ T, t < n) : T.length ≤ n := by
  have := h.length_le_of_subset (l₂ := List.range n) (fun t ht => List.mem_range.2 (hl t ht))
  simpa using this
theorem SwI.len (h : SwI n A S x z y f T) : T.length < n := by
  have := length_le_of_nodup_lt (T := y :: T) (n := n) (List.nodup_cons.2 ⟨h.yn, h.nd⟩) (fun t ht => by
    rcases List.mem_cons.1 ht with rfl | ht
    · exact h.ylt
    · exact h.lt t ht)
  have h2 : T.length + 1 ≤ n := by simpa using this
  omega
theorem SwI.atx (h : SwI n A S x z y f T) (hx : x < n) : at2 S x y = at2 A x y := by rw [h.el x y hx h.ylt, if_neg h.yn]
theorem SwI.atz (h : SwI n A S x z y f T) (hz : z < n) : at2 S z y = at2 A z y := by rw [h.el z y hz h.ylt, if_neg h.yn]
/-- the entries behind the exchange at y -/
theorem SwI.put (h : SwI n A S x z y f T) (hx : x < n) (hz : z < n) (hxz : x ≠ z) :
    Sqr n (putS (putS S x y (at2 S z y)) z y (at2 S x y)) ∧ ∀ a b, a < n → b < n → at2 (putS (putS S x y (at2 S z y)) z y (at2 S x y)) a b = if b ∈ y :: T then at2 A (if a = x then z else if a = z then x else a) b else at2 A a b := by
  have q1 := putS_sqr h.sq hx y (at2 S z y)
  refine ⟨putS_sqr q1 hz y _, fun a b ha hb => ?_⟩
  rw [at2_putS q1 hz h.ylt, at2_putS h.sq hx h.ylt, h.atx hx, h.atz hz]
  by_cases e1 : z = a ∧ y = b
  · obtain ⟨rfl, rfl⟩ := e1
    rw [if_pos ⟨rfl, rfl⟩, if_pos (show y ∈ y :: T by simp), if_neg (fun e => hxz e.symm), if_pos rfl]
  · rw [if_neg e1]
    by_cases e2 : x = a ∧ y = b
    · obtain ⟨rfl, rfl⟩ := e2
      rw [if_pos ⟨rfl, rfl⟩, if_pos (show y ∈ y :: T by simp), if_pos rfl]
    · rw [if_neg e2, h.el a b ha hb]
      by_cases e3 : y = b
      · subst e3
        rw [if_neg h.yn, if_pos (show y ∈ y :: T by simp), if_neg (fun e => e2 ⟨e.symm, rfl⟩), if_neg (fun e => e1 ⟨e.symm, rfl⟩)]
      · by_cases e4 : b ∈ T
        · rw [if_pos e4, if_pos (show b ∈ y :: T from List.mem_cons_of_mem _ e4)]
        · rw [if_neg e4, if_neg (show b ∉ y :: T from fun hm => by rcases List.mem_cons.1 hm with e | e; exact e3 e.symm; exact e4 e)]
/-- the cycle goes on: the next column is the only one -/
theorem SwI.next (h : SwI n A S x z y f T) (hA : Lat A) (hn : A.length = n) (hx : x < n) (hz : z < n) (hxz : x ≠ z) (hf : at2 A z y ≠ f) :
    ∃ y', y' < n ∧ y' ≠ y ∧ at2 (putS (putS S x y (at2 S z y)) z y (at2 S x y)) x y' = at2 A z y ∧ (∀ i, i < n → i ≠ y → at2 (putS (putS S x y (at2 S z y)) z y (at2 S x y)) x i = at2 A z y → i = y') ∧
      SwI n A (putS (putS S x y (at2 S z y)) z y (at2 S x y)) x z y' f (y :: T) := by
  obtain ⟨q, el⟩ := h.put hx hz hxz
  generalize putS (putS S x y (at2 S z y)) z y (at2 S x y) = S3 at q el ⊢
  subst hn
  have h0 := hA.sq0
  obtain ⟨y', hy', e⟩ := hA.ronto hx (h0.el z y hz h.ylt).1 (h0.el z y hz h.ylt).2
  have hny : y' ≠ y := fun e2 => by subst e2; exact hxz (hA.cinj hy' hx hz e)
  have hnT : y' ∉ y :: T := fun hm => by
    rcases h.c1 y' hm with e2 | ⟨u, hu, e2⟩
    · exact hf (e.symm.trans e2)
    · have := hA.rinj hz (h.lt u hu) h.ylt (e2.symm.trans e)
      subst this; exact h.yn hu
  refine ⟨y', hy', hny, by rw [el x y' hx hy', if_neg hnT, e], fun i hi hiy e2 => ?_, ?_⟩
  · rw [el x i hx hi] at e2
    by_cases m : i ∈ y :: T
    · rw [if_pos m, if_pos rfl] at e2
      exact absurd (hA.rinj hz hi h.ylt e2) hiy
    · rw [if_neg m] at e2
      exact hA.rinj hx hi hy' (e2.trans e.symm)
  · refine ⟨q, el, List.nodup_cons.2 ⟨h.yn, h.nd⟩, fun t ht => ?_, hnT, hy', fun t ht => ?_, fun u hu => ?_, ?_⟩
    · rcases List.mem_cons.1 ht with rfl | ht
      · exact h.ylt
      · exact h.lt t ht
    · rcases List.mem_cons.1 ht with rfl | ht
      · exact .inr ⟨y, by simp, e⟩
      · rcases h.c1 t ht with e2 | ⟨u, hu, e2⟩
        · exact .inl e2
        · exact .inr ⟨u, by simp [hu], e2⟩
    · rcases List.mem_cons.1 hu with rfl | hu
      · exact ⟨y', by simp, e.symm⟩
      · obtain ⟨t, ht, e2⟩ := h.c2 u hu
        exact ⟨t, by simp only [List.mem_cons] at ht ⊢; exact .inr ht, e2⟩
    · obtain ⟨t, ht, e2⟩ := h.c3
      exact ⟨t, by simp only [List.mem_cons] at ht ⊢; exact .inr ht, e2⟩
end
/-! ### cyclic squares, products -/
end Go.Proofs.YtdlmohigkkdegaaGreatDoor
end

section
/- Isotopes and conjugates of Latin squares, in plain terms. Conjugates of Latin squares as lists of lists. In plain terms. -/
namespace Go.Proofs.YtdlmohigkkdegaaGreatDoor
set_option linter.unusedSimpArgs false
set_option linter.unusedVariables false

structure Latin (n : Nat) (a : Nat → Nat → Nat) : Prop where
  row : ∀ x, x < n → Bij n (a x)
  col : ∀ y, y < n → Bij n fun x => a x y
def IsoOf (n : Nat) (a : Nat → Nat → Nat) (r c s : Nat → Nat) (b : Nat → Nat → Nat) : Prop := ∀ x y, x < n → y < n → b (r x) (c y) = s (a x y)
section
variable {n : Nat} {a b d : Nat → Nat → Nat} {r c s q : Nat → Nat}
theorem IsoOf.comp {r' c' s' : Nat → Nat} (hr : Bij n r) (hc : Bij n c) (h1 : IsoOf n a r c s b) (h2 : IsoOf n b r' c' s' d) : IsoOf n a (fun x => r' (r x)) (fun x => c' (c x)) (fun x => s' (s x)) d := fun x y hx hy => by
  show d (r' (r x)) (c' (c y)) = s' (s (a x y))
  rw [h2 _ _ (hr.lt x hx) (hc.lt y hy), h1 x y hx hy]
theorem IsoOf.back {ri ci si : Nat → Nat} (hl : Latin n a) (hr : Bij n r) (hc : Bij n c) (h1 : IsoOf n a r c s b) (h2 : IsoOf n b ri ci si d) (er : ∀ x, x < n → ri (r x) = x) (ec : ∀ x, x < n → ci (c x) = x) (es : ∀ x, x < n → si (s x) = x)
    {x y : Nat} (hx : x < n) (hy : y < n) : d x y = a x y := by
  have := h2 _ _ (hr.lt x hx) (hc.lt y hy)
  rw [er x hx, ec y hy, h1 x y hx hy, es _ ((hl.row x hx).lt y hy)] at this
  exact this
theorem IsoOf.latin (hl : Latin n a) (hr : Bij n r) (hc : Bij n c) (hs : Bij n s) (h : IsoOf n a r c s b) : Latin n b where
  row x hx := by
    obtain ⟨x', hx', rfl⟩ := hr.onto hx
    refine ⟨fun y hy => ?_, fun y z hy hz e => ?_⟩
    · obtain ⟨y', hy', rfl⟩ := hc.onto hy
      rw [h x' y' hx' hy']; exact hs.lt _ ((hl.row x' hx').lt y' hy')
    · obtain ⟨y', hy', rfl⟩ := hc.onto hy
      obtain ⟨z', hz', rfl⟩ := hc.onto hz
      rw [h x' y' hx' hy', h x' z' hx' hz'] at e
      rw [(hl.row x' hx').inj y' z' hy' hz' (hs.inj _ _ ((hl.row x' hx').lt y' hy') ((hl.row x' hx').lt z' hz') e)]
  col y hy := by
    obtain ⟨y', hy', rfl⟩ := hc.onto hy
    refine ⟨fun x hx => ?_, fun x z hx hz e => ?_⟩
    · obtain ⟨x', hx', rfl⟩ := hr.onto hx
      rw [h x' y' hx' hy']; exact hs.lt _ ((hl.row x' hx').lt y' hy')
    · obtain ⟨x', hx', rfl⟩ := hr.onto hx
      obtain ⟨z', hz', rfl⟩ := hr.onto hz
      rw [h x' y' hx' hy', h z' y' hz' hy'] at e
      rw [(hl.col y' hy').inj x' z' hx' hz' (hs.inj _ _ ((hl.row x' hx').lt y' hy') ((hl.row z' hz').lt y' hy') e)]
/-- the triple of a place -/
def tri (x y s : Nat) : Nat → Nat := fun i => if i = 0 then x else if i = 1 then y else s
def ConjOf (n : Nat) (a : Nat → Nat → Nat) (p : Nat → Nat) (b : Nat → Nat → Nat) : Prop := ∀ x y, x < n → y < n → b (tri x y (a x y) (p 0)) (tri x y (a x y) (p 1)) = tri x y (a x y) (p 2)
theorem tri_lt {x y s : Nat} (hx : x < n) (hy : y < n) (hs : s < n) (i : Nat) : tri x y s i < n := by
  unfold tri; split
  · exact hx
  · split
    · exact hy
    · exact hs
theorem ConjOf.comp {p q : Nat → Nat} (hl : Latin n a) (hq : Bij 3 q) (h1 : ConjOf n a p b) (h2 : ConjOf n b q d) : ConjOf n a (fun i => p (q i)) d := fun x y hx hy => by
  have hs := (hl.row x hx).lt y hy
  have h := h2 _ _ (tri_lt hx hy hs (p 0)) (tri_lt hx hy hs (p 1))
  rw [h1 x y hx hy] at h
  have e : ∀ i, i < 3 → tri (tri x y (a x y) (p 0)) (tri x y (a x y) (p 1)) (tri x y (a x y) (p 2)) i = tri x y (a x y) (p i) := fun i hi => by
    rcases i with _ | _ | _ | i
    · rfl
    · rfl
    · rfl
    · omega
  rw [e _ (hq.lt 0 (by omega)), e _ (hq.lt 1 (by omega)), e _ (hq.lt 2 (by omega))] at h
  exact h
end

section
variable {n : Nat} {a : Nat → Nat → Nat}
/-- two of the three numbers of a place tell it -/
theorem tri_inj (hl : Latin n a) {i j : Nat} (hi : i < 3) (hj : j < 3) (hij : i ≠ j) {x y x' y' : Nat} (hx : x < n) (hy : y < n) (hx' : x' < n) (hy' : y' < n)
    (e1 : tri x y (a x y) i = tri x' y' (a x' y') i) (e2 : tri x y (a x y) j = tri x' y' (a x' y') j) : x = x' ∧ y = y' := by
  have r : ∀ y y', y < n → y' < n → x = x' → a x y = a x' y' → y = y' := fun y y' hy hy' e h => by subst e; exact (hl.row x hx).inj y y' hy hy' h
  have c : y = y' → a x y = a x' y' → x = x' := fun e h => by subst e; exact (hl.col y hy).inj x x' hx hx' h
  rcases i with _ | _ | _ | i <;> rcases j with _ | _ | _ | j <;> simp [tri] at e1 e2 hij <;> first | omega | skip
  all_goals first
    | exact ⟨e1, r y y' hy hy' e1 e2⟩
    | exact ⟨c e1 e2, e1⟩
    | exact ⟨e2, r y y' hy hy' e2 e1⟩
    | exact ⟨c e2 e1, e2⟩
theorem tri_onto (hl : Latin n a) {i j : Nat} (hi : i < 3) (hj : j < 3) (hij : i ≠ j) {u v : Nat} (hu : u < n) (hv : v < n) :
    ∃ x y, x < n ∧ y < n ∧ tri x y (a x y) i = u ∧ tri x y (a x y) j = v := by
  rcases i with _ | _ | _ | i <;> rcases j with _ | _ | _ | j <;> first | omega | skip
  · exact ⟨u, v, hu, hv, rfl, rfl⟩
  · obtain ⟨y, hy, e⟩ := (hl.row u hu).onto hv
    exact ⟨u, y, hu, hy, rfl, e⟩
  · exact ⟨v, u, hv, hu, rfl, rfl⟩
  · obtain ⟨x, hx, e⟩ := (hl.col u hu).onto hv
    exact ⟨x, u, hx, hu, rfl, e⟩
  · obtain ⟨y, hy, e⟩ := (hl.row v hv).onto hu
    exact ⟨v, y, hv, hy, e, rfl⟩
  · obtain ⟨x, hx, e⟩ := (hl.col v hv).onto hu
    exact ⟨x, v, hx, hv, e, rfl⟩
end
def af (A : List (List Int)) (x y : Nat) : Nat := (at2 A x y).toNat
theorem Lat.latin {A : List (List Int)} (h : Lat A) : Latin A.length (af A) where
  row x hx := by
    have := (h.row x hx).bij
    rw [h.len x hx] at this
    exact this
  col y hy := by
    have := (h.col y hy).bij
    rw [colL_len] at this
    refine ⟨fun x hx => ?_, fun x z hx hz e => this.inj x z hx hz ?_⟩
    · have h2 := this.lt x hx
      unfold pf at h2; rw [nth_colL hx] at h2; exact h2
    · unfold pf; rw [nth_colL hx, nth_colL hz]; exact e
/-- number i of the place of a square -/
def trA (A : List (List Int)) (x y i : Nat) : Nat := tri x y (af A x y) i
structure ConR (A : List (List Int)) (p : List Int) (B : List (List Int)) : Prop where
  sqr : Sqr A.length B
  at' : ∀ x y, x < A.length → y < A.length → at2 B (trA A x y (pf p 0)) (trA A x y (pf p 1)) = trA A x y (pf p 2)
structure ConP (A : List (List Int)) (p : List Int) (x y : Nat) (B : List (List Int)) : Prop where
  sqr : Sqr A.length B
  at' : ∀ x' y', x' < A.length → y' < A.length → (x' < x ∨ x' = x ∧ y' < y) → at2 B (trA A x' y' (pf p 0)) (trA A x' y' (pf p 1)) = trA A x' y' (pf p 2)
section
variable {A B C D : List (List Int)} {p q : List Int}
theorem trA_lt (h : Lat A) {x y : Nat} (hx : x < A.length) (hy : y < A.length) (i : Nat) : trA A x y i < A.length := tri_lt hx hy ((h.latin.row x hx).lt y hy) i
theorem p3_lt (hp : IsP p) (h3 : p.length = 3) {i : Nat} (hi : i < 3) : pf p i < 3 := by have := hp.pf_lt (j := i) (by omega); omega
theorem p3_ne (hp : IsP p) (h3 : p.length = 3) {i j : Nat} (hi : i < 3) (hj : j < 3) (h : i ≠ j) : pf p i ≠ pf p j := fun e => h (hp.bij.inj i j (by omega) (by omega) e)
theorem ConP.start : ConP A p 0 0 (sqF A.length fun _ _ => 0) := ⟨sqF_sqr _ _, fun _ _ _ _ h => by omega⟩
theorem ConP.step (hA : Lat A) (hp : IsP p) (h3 : p.length = 3) {x y : Nat} {S : List (List Int)} (h : ConP A p x y S) (hx : x < A.length) (hy : y < A.length) :
    ConP A p x (y + 1) (putS S (trA A x y (pf p 0)) (trA A x y (pf p 1)) (trA A x y (pf p 2))) := by
  have h1 := trA_lt hA hx hy (pf p 0)
  have h2 := trA_lt hA hx hy (pf p 1)
  refine ⟨putS_sqr h.sqr h1 _ _, fun x' y' hx' hy' hl => ?_⟩
  rw [at2_putS h.sqr h1 h2]
  split
  · rename_i e
    obtain ⟨rfl, rfl⟩ := tri_inj hA.latin (p3_lt hp h3 (by omega)) (p3_lt hp h3 (by omega)) (p3_ne hp h3 (i := 0) (j := 1) (by omega) (by omega) (by omega)) hx hy hx' hy' e.1 e.2
    rfl
  · rename_i e
    refine h.at' x' y' hx' hy' ?_
    rcases hl with hl | ⟨rfl, hl⟩
    · exact .inl hl
    · refine .inr ⟨rfl, ?_⟩
      by_cases e2 : y' = y
      · subst e2; exact absurd ⟨rfl, rfl⟩ e
      · omega
theorem ConP.next {x : Nat} {S : List (List Int)} (h : ConP A p x A.length S) : ConP A p (x + 1) 0 S :=
  ⟨h.sqr, fun x' y' hx' hy' hl => h.at' x' y' hx' hy' (by omega)⟩
theorem ConP.done {S : List (List Int)} (h : ConP A p A.length 0 S) : ConR A p S := ⟨h.sqr, fun x y hx hy => h.at' x y hx hy (.inl hx)⟩
theorem ConR.el (hA : Lat A) (hp : IsP p) (h3 : p.length = 3) (h : ConR A p B) : Sq0 A.length B := by
  refine ⟨h.sqr, fun u v hu hv => ?_⟩
  obtain ⟨x, y, hx, hy, rfl, rfl⟩ := tri_onto hA.latin (p3_lt hp h3 (i := 0) (by omega)) (p3_lt hp h3 (i := 1) (by omega)) (p3_ne hp h3 (by omega) (by omega) (by omega)) hu hv
  have e1 := h.at' x y hx hy
  have e2 := trA_lt hA hx hy (pf p 2)
  unfold trA at e1 e2
  rw [e1]; omega
/-- conjugates are Latin squares -/
theorem ConR.lat (hA : Lat A) (hp : IsP p) (h3 : p.length = 3) (h : ConR A p B) : Lat B := by
  have h0 := h.el hA hp h3
  have hb := h.sqr.len
  have on := fun {u v : Nat} (hu : u < A.length) (hv : v < A.length) => tri_onto hA.latin (p3_lt hp h3 (i := 0) (by omega)) (p3_lt hp h3 (i := 1) (by omega)) (p3_ne hp h3 (by omega) (by omega) (by omega)) hu hv
  refine ⟨by rw [hb]; exact hA.pos, by rw [hb]; exact hA.le, fun x hx => by rw [hb] at hx ⊢; exact h0.row x hx, fun u hu => ?_, fun v hv => ?_⟩
  · rw [hb] at hu
    refine ⟨fun v hv => ?_, fun v v' hv hv' e => ?_⟩
    · rw [h0.row u hu] at hv ⊢; exact h0.el u v hu hv
    · rw [h0.row u hu] at hv hv'
      obtain ⟨x, y, hx, hy, e1, e2⟩ := on hu hv
      obtain ⟨x', y', hx', hy', e1', e2'⟩ := on hu hv'
      have f1 := h.at' x y hx hy
      have f2 := h.at' x' y' hx' hy'
      unfold trA at f1 f2
      rw [e1, e2] at f1
      rw [e1', e2'] at f2
      have e' : at2 B u v = at2 B u v' := e
      rw [f1, f2] at e'
      obtain ⟨rfl, rfl⟩ := tri_inj hA.latin (p3_lt hp h3 (by omega)) (p3_lt hp h3 (by omega)) (p3_ne hp h3 (i := 0) (j := 2) (by omega) (by omega) (by omega)) hx hy hx' hy' (e1.trans e1'.symm) (by omega)
      rw [← e2, ← e2']
  · rw [hb] at hv
    refine ⟨fun u hu => ?_, fun u u' hu hu' e => ?_⟩
    · rw [colL_len, hb] at hu ⊢; rw [nth_colL (by rw [hb]; exact hu)]; exact h0.el u v hu hv
    · rw [colL_len, hb] at hu hu'
      rw [nth_colL (by rw [hb]; exact hu), nth_colL (by rw [hb]; exact hu')] at e
      obtain ⟨x, y, hx, hy, e1, e2⟩ := on hu hv
      obtain ⟨x', y', hx', hy', e1', e2'⟩ := on hu' hv
      have f1 := h.at' x y hx hy
      have f2 := h.at' x' y' hx' hy'
      unfold trA at f1 f2
      rw [e1, e2] at f1
      rw [e1', e2'] at f2
      rw [f1, f2] at e
      obtain ⟨rfl, rfl⟩ := tri_inj hA.latin (p3_lt hp h3 (by omega)) (p3_lt hp h3 (by omega)) (p3_ne hp h3 (i := 1) (j := 2) (by omega) (by omega) (by omega)) hx hy hx' hy' (e2.trans e2'.symm) (by omega)
      rw [← e1, ← e1']
/-- conjugates of conjugates -/
theorem ConR.comp (hA : Lat A) (hp : IsP p) (hq : IsP q) (h3 : p.length = 3) (hq3 : q.length = 3) (h1 : ConR A p B) (h2 : ConR B q C) : ConR A (cmpL q p) C := by
  have hb := h1.sqr.len
  have hl := hA.latin
  refine ⟨by rw [← hb]; exact h2.sqr, fun x y hx hy => ?_⟩
  have c1 : ConjOf A.length (af A) (pf p) (af B) := fun x y hx hy => by
    have := h1.at' x y hx hy
    show (at2 B (trA A x y (pf p 0)) (trA A x y (pf p 1))).toNat = trA A x y (pf p 2)
    rw [this]; simp
  have c2 : ConjOf A.length (af B) (pf q) (af C) := fun x y hx hy => by
    have := h2.at' x y (by omega) (by omega)
    show (at2 C (trA B x y (pf q 0)) (trA B x y (pf q 1))).toNat = trA B x y (pf q 2)
    rw [this]; simp
  have hq' : Bij 3 (pf q) := by have := hq.bij; rwa [hq3] at this
  have c3 := ConjOf.comp hl hq' c1 c2 x y hx hy
  rw [pf_cmpL (by omega), pf_cmpL (by omega), pf_cmpL (by omega)]
  have hz := h2.el (h1.lat hA hp h3) hq hq3
  have z := hz.el (trA A x y (pf p (pf q 0))) (trA A x y (pf p (pf q 1))) (by rw [hb]; exact trA_lt hA hx hy _) (by rw [hb]; exact trA_lt hA hx hy _)
  have e : (af C (trA A x y (pf p (pf q 0))) (trA A x y (pf p (pf q 1))) : Int) = trA A x y (pf p (pf q 2)) := by
    unfold trA; exact congrArg Int.ofNat c3
  rw [← e]; unfold af; omega
end

end Go.Proofs.YtdlmohigkkdegaaGreatDoor
end

section
/- Latin squares that are made from groups: the quadrangle criterion; reduced squares. In plain terms. -/
namespace Go.Proofs.YtdlmohigkkdegaaGreatDoor
set_option linter.unusedSimpArgs false
set_option linter.unusedVariables false
/-- quadrangles fit together -/
def Quad (n : Nat) (a : Nat → Nat → Nat) : Prop := ∀ r s c d u v e f, r < n → s < n → c < n → d < n → u < n → v < n → e < n → f < n → a u e = a r c → a u f = a r d → a v e = a s c → a s d = a v f
section
variable {n : Nat} {a b : Nat → Nat → Nat}
theorem quad_iso {r c s : Nat → Nat} (h : Latin n a) (hr : Bij n r) (hc : Bij n c) (hs : Bij n s) (hi : IsoOf n a r c s b) : Quad n b ↔ Quad n a := by
  constructor
  · intro hq x1 x2 y1 y2 x3 x4 y3 y4 h1 h2 h3 h4 h5 h6 h7 h8 e1 e2 e3
    have q := hq (r x1) (r x2) (c y1) (c y2) (r x3) (r x4) (c y3) (c y4) (hr.lt _ h1) (hr.lt _ h2) (hc.lt _ h3) (hc.lt _ h4) (hr.lt _ h5) (hr.lt _ h6) (hc.lt _ h7) (hc.lt _ h8)
      (by rw [hi _ _ h5 h7, hi _ _ h1 h3, e1]) (by rw [hi _ _ h5 h8, hi _ _ h1 h4, e2]) (by rw [hi _ _ h6 h7, hi _ _ h2 h3, e3])
    rw [hi _ _ h2 h4, hi _ _ h6 h8] at q
    exact hs.inj _ _ ((h.row _ h2).lt _ h4) ((h.row _ h6).lt _ h8) q
  · intro hq x1 x2 y1 y2 x3 x4 y3 y4 h1 h2 h3 h4 h5 h6 h7 h8 e1 e2 e3
    obtain ⟨x1, k1, rfl⟩ := hr.onto h1
    obtain ⟨x2, k2, rfl⟩ := hr.onto h2
    obtain ⟨y1, k3, rfl⟩ := hc.onto h3
    obtain ⟨y2, k4, rfl⟩ := hc.onto h4
    obtain ⟨x3, k5, rfl⟩ := hr.onto h5
    obtain ⟨x4, k6, rfl⟩ := hr.onto h6
    obtain ⟨y3, k7, rfl⟩ := hc.onto h7
    obtain ⟨y4, k8, rfl⟩ := hc.onto h8
    clear h1 h2 h3 h4 h5 h6 h7 h8
    rw [hi _ _ k5 k7, hi _ _ k1 k3] at e1
    rw [hi _ _ k5 k8, hi _ _ k1 k4] at e2
    rw [hi _ _ k6 k7, hi _ _ k2 k3] at e3
    have k := fun x y x' y' (hx : x < n) (hy : y < n) (hx' : x' < n) (hy' : y' < n) (e : s (a x y) = s (a x' y')) => hs.inj _ _ ((h.row x hx).lt y hy) ((h.row x' hx').lt y' hy') e
    rw [hi _ _ k2 k4, hi _ _ k6 k8, hq x1 x2 y1 y2 x3 x4 y3 y4 k1 k2 k3 k4 k5 k6 k7 k8 (k _ _ _ _ k5 k7 k1 k3 e1) (k _ _ _ _ k5 k8 k1 k4 e2) (k _ _ _ _ k6 k7 k2 k3 e3)]
end
/-! ### squares as lists -/
theorem isoL_isoOf {A : List (List Int)} {r c s : List Int} (h : Lat A) (hr : IsP r) (hc : IsP c) (hs : IsP s) (hrl : r.length = A.length) (hcl : c.length = A.length) (hsl : s.length = A.length) :
    IsoOf A.length (af A) (pf r) (pf c) (pf s) (af (isoL A r c s)) := fun x y hx hy => by
  have := h.sq0.el x y hx hy
  unfold af
  rw [isoL_at hr hc hrl hcl hx hy]
  rfl
/-- the square answers to a group -/
def GrpB (A : List (List Int)) : Prop := Quad A.length (af A)
theorem GrpB.iso {A : List (List Int)} {r c s : List Int} (h : Lat A) (hr : IsP r) (hc : IsP c) (hs : IsP s) (hrl : r.length = A.length) (hcl : c.length = A.length) (hsl : s.length = A.length) : GrpB (isoL A r c s) ↔ GrpB A := by
  unfold GrpB
  rw [isoL_len]
  exact quad_iso h.latin (by rw [← hrl]; exact hr.bij) (by rw [← hcl]; exact hc.bij) (by rw [← hsl]; exact hs.bij) (isoL_isoOf h hr hc hs hrl hcl hsl)
theorem isoL_iot {A : List (List Int)} (h : Sq0 A.length A) : isoL A (iot A.length) (iot A.length) (iot A.length) = A := by
  refine sq_ext2 (iot_isP A.length) (iot_isP A.length) (iot_len _) (iot_len _) (isoL_sqr _ _ _ _) h.toSqr fun x y hx hy => ?_
  rw [isoL_at (iot_isP _) (iot_isP _) (iot_len _) (iot_len _) hx hy]
  have h3 := h.el x y hx hy
  have e1 : pf (iot A.length) x = x := by unfold pf; rw [nth_iot hx]; rfl
  have e2 : pf (iot A.length) y = y := by unfold pf; rw [nth_iot hy]; rfl
  rw [e1, e2, nth_iot (by omega)]
  omega
theorem pf_iot {n x : Nat} (h : x < n) : pf (iot n) x = x := by unfold pf; rw [nth_iot h]; rfl
/-- the columns in the order of the first row -/
def ordL (A : List (List Int)) : List (List Int) := isoL A (iot A.length) (xat A 0) (iot A.length)
/-- the reduced square -/
def redL (A : List (List Int)) : List (List Int) := isoL (ordL A) (colL (ordL A) 0) (iot A.length) (iot A.length)
section
variable {A : List (List Int)} (h : Lat A)
include h
theorem Lat.row0 : IsP (xat A 0) ∧ (xat A 0).length = A.length := ⟨h.row 0 (by have := h.pos; omega), h.len 0 (by have := h.pos; omega)⟩
theorem ordL_lat : Lat (ordL A) := h.iso (iot_isP _) h.row0.1 (iot_isP _) (iot_len _) h.row0.2 (iot_len _)
omit h in
theorem ordL_len : (ordL A).length = A.length := isoL_len _ _ _ _
omit h in
theorem redL_len : (redL A).length = A.length := (isoL_len _ _ _ _).trans ordL_len
theorem ordL_at {x y : Nat} (hx : x < A.length) (hy : y < A.length) : at2 (ordL A) x (af A 0 y) = at2 A x y := by
  have e := isoL_at (A := A) (r := iot A.length) (c := xat A 0) (s := iot A.length) (iot_isP _) h.row0.1 (iot_len _) h.row0.2 hx hy
  rw [pf_iot hx] at e
  have h3 := h.sq0.el x y hx hy
  rw [nth_iot (by omega)] at e
  show at2 (isoL A _ _ _) x (pf (xat A 0) y) = _
  rw [e]; omega
theorem ordL_0 {y : Nat} (hy : y < A.length) : at2 (ordL A) 0 y = y := by
  obtain ⟨z, hz, rfl⟩ := h.row0.1.bij.onto (y := y) (by rw [h.row0.2]; exact hy)
  rw [h.row0.2] at hz
  have := ordL_at h (x := 0) h.pos hz
  show at2 (ordL A) 0 (af A 0 z) = _
  rw [this]
  have := h.sq0.el 0 z h.pos hz
  show _ = ((at2 A 0 z).toNat : Int)
  omega
theorem colP : IsP (colL (ordL A) 0) ∧ (colL (ordL A) 0).length = A.length := ⟨(ordL_lat h).col 0 (by rw [ordL_len]; exact h.pos), by rw [colL_len, ordL_len]⟩
theorem redL_at {x y : Nat} (hx : x < A.length) (hy : y < A.length) : at2 (redL A) (pf (colL (ordL A) 0) x) y = at2 (ordL A) x y := by
  have hl := ordL_len (A := A)
  have e := isoL_at (A := ordL A) (r := colL (ordL A) 0) (c := iot A.length) (s := iot A.length) (colP h).1 (iot_isP _) (by rw [(colP h).2, hl]) (by rw [iot_len, hl]) (x := x) (y := y) (by rw [hl]; exact hx) (by rw [hl]; exact hy)
  rw [pf_iot hy] at e
  have h3 := (ordL_lat h).sq0.el x y (by rw [hl]; exact hx) (by rw [hl]; exact hy)
  rw [hl] at h3
  rw [nth_iot (by omega)] at e
  rw [redL, e]; omega
theorem col0 : pf (colL (ordL A) 0) 0 = 0 := by
  unfold pf; rw [nth_colL (by rw [ordL_len]; exact h.pos), ordL_0 h h.pos]; rfl
theorem redL_lat : Lat (redL A) := (ordL_lat h).iso (colP h).1 (iot_isP _) (iot_isP _) (by rw [(colP h).2, ordL_len]) (by rw [iot_len, ordL_len]) (by rw [iot_len, ordL_len])
theorem redL_row {y : Nat} (hy : y < A.length) : at2 (redL A) 0 y = y := by
  have e := redL_at h (x := 0) h.pos hy
  rw [col0 h] at e
  rw [e, ordL_0 h hy]
theorem redL_col {x : Nat} (hx : x < A.length) : at2 (redL A) x 0 = x := by
  obtain ⟨z, hz, rfl⟩ := (colP h).1.bij.onto (y := x) (by rw [(colP h).2]; exact hx)
  rw [(colP h).2] at hz
  rw [redL_at h hz h.pos]
  have := nth_pf (colP h).1 (j := z) (by rw [(colP h).2]; exact hz)
  rw [← this, nth_colL (by rw [ordL_len]; exact hz)]
/-- a reduced square is its own reduced form -/
theorem redL_of (h1 : ∀ y, y < A.length → at2 A 0 y = y) (h2 : ∀ x, x < A.length → at2 A x 0 = x) : redL A = A := by
  have e1 : xat A 0 = iot A.length := nth_ext (by rw [h.row0.2, iot_len]) fun j hj => by rw [h.row0.2] at hj; rw [nth_iot hj]; exact h1 j hj
  have e2 : ordL A = A := by rw [ordL, e1]; exact isoL_iot h.sq0
  have e3 : colL A 0 = iot A.length := nth_ext (by rw [colL_len, iot_len]) fun j hj => by rw [colL_len] at hj; rw [nth_iot hj, nth_colL hj]; exact h2 j hj
  rw [redL, e2, e3]; exact isoL_iot h.sq0
theorem redL_redL : redL (redL A) = redL A := redL_of (redL_lat h) (fun y hy => redL_row h (by rw [← redL_len (A := A)]; exact hy)) (fun x hx => redL_col h (by rw [← redL_len (A := A)]; exact hx))
end
end Go.Proofs.YtdlmohigkkdegaaGreatDoor
end

section
/- Walks: arrays by value. Walks: valid arrays, equal arrays. -/
namespace Go.Proofs.YtdlmohigkkdegaaGreatDoor
set_option linter.unusedSimpArgs false
set_option linter.unusedVariables false
open Go.RowKit


/-- an array as a value -/
def av (lv co : Int) (v : Value) : Value := .agg #[.int .i64 lv, .int .i64 co, v]

/-- a block that holds an array -/
def BoxA (w : World) (g : Nat) (lv co : Int) (v : Value) : Prop :=
  w.cell? ⟨g, 0, none⟩ = some (.int .i64 lv) ∧ w.cell? ⟨g, 1, none⟩ = some (.int .i64 co) ∧ w.cell? ⟨g, 2, none⟩ = some v
theorem cell_keep {w w' : World} (hb : Below w.heap.size w w') {p : Addr} {u : Value} (h : w.cell? p = some u) : w'.cell? p = some u := by
  rw [hb.cell (World.block_lt_of_cell? _ _ h)]; exact h
theorem BoxA.keep {w w' : World} {g : Nat} {lv co : Int} {v : Value} (h : BoxA w g lv co v) (hb : Below w.heap.size w w') : BoxA w' g lv co v :=
  ⟨cell_keep hb h.1, cell_keep hb h.2.1, cell_keep hb h.2.2⟩
end Go.Proofs.YtdlmohigkkdegaaGreatDoor
end
