/- The texts of this claim, run 7: SqB Ge Gf Gu Gv Gs Gt Gw Gx PBu PBv PBw. -/
import Derived.Test.YtegmjlblehjccaaK4
import Derived.Test.YtegmjlblehjccaaK5
import Derived.Test.YtegmjlblehjccaaK6
import Derived.Deep.Cut
import Derived.Deep.CutRange
import Derived.IntWalk
import Derived.Deep.RegionHeld3
import Derived.Deep.DrawnRows
import Derived.Laws.BitsAllLaws
section
/- Walks: valid Latin squares, isotopes, of the program. Walks: isotopes of the program. -/
namespace Go.Proofs.Ytegmjlblehjccaa
set_option linter.unusedSimpArgs false
set_option linter.unusedVariables false
open Go.RowKit
attribute [local go_sem ↓] Go.wp_at_zero Go.wp_at_succ


/-- a permutation of n numbers -/
noncomputable def pvN (n : Nat) (xs : List Int) : Bool := decide (xs.length = n) && pvB xs
set_option maxHeartbeats 2000000 in
set_option maxRecDepth 100000 in
theorem areP1_c (v : Value) (xs : List Int) (n : Nat) (g : Nat) (w : World) (hv : RdI w v xs) (hb : w.cell? ⟨g, 0, none⟩ = some (.int .i64 n)) (hN : xs.length ≤ 1048576) :
    Calls Try.prog 51 #[v, .pointer (some ⟨g, 0, none⟩)] w (GivesB w (!pvN n xs)) := by
  have hq : ∀ s : SS w.heap.size w [], s.w.cell? ⟨g, 0, none⟩ = some (.int .i64 n) := fun s => by rw [s.st.below.cell (World.block_lt_of_cell? _ _ hb)]; exact hb
  have HZ := fun s : SS w.heap.size w [] => Lib.hid (sz_c v xs s.w (s.st.oldI hv))
  have HV := fun s : SS w.heap.size w [] => Lib.hid (ValidPermutation_c v xs s.w (s.st.oldI hv) hN)
  have hS := St.refl w
  by_cases h : xs.length = n
  · have f1 : ((xs.length : Int) != (n : Int)) = false := ne_f (by omega)
    have He : Hid ((!pvN n xs) = !pvB xs) := Lib.hid (by rw [pvN, decide_eq_true h]; rfl)
    rw [He.out]
    generalize pvB xs = b at *
    clear h He
    go_enter Try.func51, Try.ntmps51
    go_wp2_with fail
    have hne : Nonempty (SS _ _ _) := ⟨⟨_, hS⟩⟩
    refine wp_region_st (by kernel_rfl) (by kernel_rfl) hS ?_
    repeat (go_big_quiet_step ((first | (go_at_call 52; exact st_quiet0 (HZ _).out) | (go_at_call 53; exact st_quiet (HV _).out))))
    refine wpQuiet_nil ?_
    rintro _ ⟨s2, rfl⟩
    have hS2 := s2.st
    generalize s2.w = w2 at hS2 ⊢
    go_wp2_with fail
    go_ret
    exact ⟨rfl, hS2⟩
  · have f1 : ((xs.length : Int) != (n : Int)) = true := ne_t (by omega)
    have He : Hid ((!pvN n xs) = true) := Lib.hid (by rw [pvN, decide_eq_false h]; rfl)
    rw [He.out]
    clear h He
    go_enter Try.func51, Try.ntmps51
    go_wp2_with fail
    have hne : Nonempty (SS _ _ _) := ⟨⟨_, hS⟩⟩
    refine wp_region_st (by kernel_rfl) (by kernel_rfl) hS ?_
    repeat (go_big_quiet_step ((first | (go_at_call 52; exact st_quiet0 (HZ _).out) | (go_at_call 53; exact st_quiet (HV _).out))))
    refine wpQuiet_nil ?_
    rintro _ ⟨s2, rfl⟩
    have hS2 := s2.st
    generalize s2.w = w2 at hS2 ⊢
    go_wp2_with fail
    go_ret
    exact ⟨rfl, hS2⟩
/-- all rows are permutations of n numbers -/
noncomputable def allP (n : Nat) (A : List (List Int)) : Bool := !anyR (fun r => !pvN n r) A
theorem allP_of {n : Nat} {A : List (List Int)} (h : ∀ x, x < A.length → (xat A x).length = n ∧ pvB (xat A x) = true) : allP n A = true := by
  unfold allP anyR
  have : A.any (fun r => !pvN n r) = false := by
    rw [List.any_eq_false]
    intro r hr
    obtain ⟨x, hx, rfl⟩ := List.getElem_of_mem hr
    have := h x hx
    rw [xat_eq hx] at this
    simp [pvN, this]
  rw [this]; rfl
set_option maxHeartbeats 2000000 in
set_option maxRecDepth 100000 in
theorem arePermutations_c (n : Nat) (v : Value) (us : List Value) (A : List (List Int)) (w : World) (hv : RII w v us A) (hN : ∀ x, x < A.length → (xat A x).length ≤ 1048576) :
    Calls Try.prog 28 #[.int .i64 n, v] w (GivesB w (allP n A)) := by
  have hS1 := (St.refl w).newboxF 2 #[.int .i64 n]
  have hcf := callFunc_go Try.func51 (by kernel_rfl) (by kernel_rfl)
  have hmf : ∀ (fn : Fn) (first cap : Array Value) (w : World), (Instr.makeFunc fn first cap).run Try.prog w = .ok (.func fn first cap) w := fun _ _ _ _ => rfl
  have hcall := Lib.hid (ContainsFuncR_c 51 #[.pointer (some ⟨w.heap.size, 0, none⟩)] (fun r => !pvN n r) v us A _ (hS1.oldII hv) hcf (fun j W hW hj => areP1_c (vat us j) (xat A j) n w.heap.size W ((hW.oldII (hS1.oldII hv)).row j hj) (by
    rw [hW.below.cell (World.block_lt_of_cell? _ _ (hS1.bcell 0 rfl 0 rfl))]; exact hS1.bcell 0 rfl 0 rfl) (hN j hj)))
  clear hcf hN
  go_enter Try.func28, Try.ntmps28
  go_wp2_with fail
  refine hcall.out.mono ?_
  rintro e w1 ⟨rfl, h1⟩
  have hS2 := hS1.call0 h1
  go_wp2_with fail
  go_ret
  exact ⟨rfl, hS2.out⟩
theorem Lat.allP {A : List (List Int)} (h : Lat A) : allP A.length A = true := allP_of fun x hx => ⟨h.len x hx, pvB_yes (by rw [h.len x hx]; have := h.le; omega) (h.row x hx)⟩
/-- a square and a code -/
def IIK (w : World) (A : List (List Int)) (c : Int) (e : Ending) (w' : World) : Prop := ∃ v us, e = .returned (.tuple #[v, .int .i64 c]) ∧ us.length = A.length ∧ St w.heap.size w w' (own2 v us A)
theorem IIK.no {w w' : World} {L : List Ent} {c : Int} (h : St w.heap.size w w' L) : IIK w [] c (.returned (.tuple #[.slice none 0 0, .int .i64 c])) w' := ⟨_, [], rfl, rfl, h.out.newnil _⟩
end Go.Proofs.Ytegmjlblehjccaa
end

section
/- Walks: a valid group, and its generators, of the program. -/
namespace Go.Proofs.Ytegmjlblehjccaa
set_option linter.unusedSimpArgs false
set_option linter.unusedVariables false
open Go.RowKit
attribute [local go_sem ↓] Go.wp_at_zero Go.wp_at_succ

/-- a group as a value -/
def gv (n : Int) (v : Value) : Value := .agg #[.int .i64 n, v]
theorem Grp.allP {n : Nat} {A : List (List Int)} (h : Grp n A) (hn : n ≤ 32) : allP n A = true := by
  unfold Go.Proofs.Ytegmjlblehjccaa.allP anyR
  rw [Bool.not_eq_true', List.any_eq_false]
  intro x hx
  have hp := h.prm x hx
  unfold pvN
  simp [hp.2, pvB_yes (by rw [hp.2]; exact hn) hp.1]
set_option maxHeartbeats 16000000 in
set_option maxRecDepth 100000 in
theorem ValidGroup_c (n : Nat) (v : Value) (us : List Value) (A : List (List Int)) (w : World) (hv : RII w v us A) (hn : 1 ≤ n ∧ n ≤ 32) (hA : Grp n A) (hl : A.length ≤ 720) :
    Calls Try.prog 21 #[gv n v] w (GivesB w true) := by
  obtain ⟨a, c, hsh⟩ := hv.1.sl.sh
  rw [hv.2.1] at hsh
  subst hsh
  have hS0 := (St.refl w).newboxF 25 #[.int .i64 n, .slice a A.length c]
  have b0 := hS0.bcell 0 rfl 0 rfl
  have b1 := hS0.bcell 0 rfl 1 rfl
  have hln := hv.len
  have hix := hv.ixe
  have hpos := hA.pos
  have hN1 := hn.1
  have hN2 := hn.2
  have KW := Lib.hid (fun W => within_yes (n := (n : Int)) (a := 1) (b := 32) (by omega) W)
  have KP := Lib.hid (fun W (h : RII W (.slice a A.length c) us A) => arePermutations_c n (.slice a A.length c) us A W h (fun x hx => by rw [(hA.prm _ (xat_mem hx)).2]; omega))
  rw [hA.allP hN2] at KP
  have KC := Lib.hid (fun W (h : RII W (.slice a A.length c) us A) => chosen_c n (.slice a A.length c) us A W h hn hA hl)
  have HA := Lib.hid hA
  have Hv := Lib.hid hv
  have f1 : ¬ (A.length : Int) < 1 := by omega
  have f2 : ¬ (720 : Int) < (A.length : Int) := by omega
  unfold gv
  clear hv hA hn
  go_enter Try.func21, Try.ntmps21
  go_wp2_with (first
    | (go_at_call 22; refine (KW.out _).mono ?_; rintro e w1 ⟨rfl, hw⟩; subst hw)
    | (go_at_call 28; refine (KP.out _ (hS0.oldII Hv.out)).mono ?_; rintro e w2 ⟨rfl, h2⟩; have hS2 := hS0.call0 h2))
  clear b0 b1 KW KP
  go_loopw [3] (fun ki wr => ∃ (k : Nat), ki = .int .i64 k ∧ 1 ≤ k ∧ k ≤ A.length ∧ St w.heap.size w wr [box 25 w.heap.size [.int .i64 n, .slice a A.length c]]) (fun ki _ => A.length - (intOf ki).toNat)
  case atStart => exact ⟨1, rfl, by omega, by omega, hS2⟩
  case round =>
    clear hS0 hS2
    obtain ⟨k, rfl, hk1, hk, hS⟩ := hrel
    have b1 := hS.bcell 0 rfl 1 rfl
    by_cases hkA : k < A.length
    · have hki : (k : Int) < (A.length : Int) := by omega
      have xk := hix (k : Int) k rfl hkA
      have xp := hix ((k : Int) - 1) (k - 1) (by omega) (by omega)
      have w1 : IntKind.i64.wrap ((k : Int) - 1) = (k : Int) - 1 := IntWalk.i64_in _ (by omega)
      have hlt := HA.out.str.at' (show k - 1 < k by omega) hkA
      obtain ⟨L, hL⟩ : ∃ L, L = [box 25 w.heap.size [.int .i64 n, .slice a A.length c]] := ⟨_, rfl⟩
      have HL := Lib.hid hL
      have HC := Lib.hid (fun W (h : St w.heap.size w W L) => (show W.cell? ⟨w.heap.size, 1, none⟩ = some (.slice a A.length c) ∧ W.cell? (el (.slice a A.length c) k) = some (vat us k) ∧ W.cell? (el (.slice a A.length c) (k - 1)) = some (vat us (k - 1)) from by
        have hr := h.oldII Hv.out
        rw [hL] at h
        exact ⟨h.bcell 0 rfl 1 rfl, hr.cell k hkA, hr.cell (k - 1) (by omega)⟩))
      have KE := Lib.hid (fun s : SS w.heap.size w L => Compare_c (vat us (k - 1)) (vat us k) (xat A (k - 1)) (xat A k) s.w ((s.st.oldII Hv.out).row (k - 1) (by omega)) ((s.st.oldII Hv.out).row k hkA))
      rw [← hL] at hS
      have g1 := fun s : SS w.heap.size w L => (HC.out s.w s.st).1
      have g2 := fun s : SS w.heap.size w L => (HC.out s.w s.st).2.1
      have g3 := fun s : SS w.heap.size w L => (HC.out s.w s.st).2.2
      have f3 : ¬ 0 ≤ cmpI (xat A (k - 1)) (xat A k) := by omega
      have f3' : decide (0 ≤ cmpI (xat A (k - 1)) (xat A k)) = false := decide_eq_false f3
      generalize cmpI (xat A (k - 1)) (xat A k) = z at *
      clear hL hlt
      go_wp2_with fail
      have hne : Nonempty (SS _ _ _) := ⟨⟨_, hS⟩⟩
      refine wp_region_st (by kernel_rfl) (by kernel_rfl) hS ?_
      repeat (go_big_quiet_step ((go_at_call 49; exact st_quiet0 (KE.out _))))
      refine wpQuiet_nil ?_
      rintro _ ⟨s2, rfl⟩
      have hS3 := s2.st
      generalize s2.w = w3 at hS3 ⊢
      clear g1 g2 g3
      rw [HL.out] at hS3
      go_wp2_with fail
      go_roundw
      case rel => exact ⟨k + 1, by go_num, by omega, by omega, hS3⟩
      case measure => simp [intOf]; omega
    · obtain rfl : k = A.length := by omega
      have b0 := hS.bcell 0 rfl 0 rfl
      have KC2 := Lib.hid (KC.out wr (hS.oldII Hv.out))
      go_wp2_with fail
      refine KC2.out.mono ?_
      clear KC2 KC
      rintro e5 w5 ⟨vg, ug, G, va, ua, rfl, _, _, _, _, ra, h5⟩
      have hla := ra.len
      have hS5 := hS.call0 h5
      have b1 := hS5.bcell 0 rfl 1 rfl
      have f9 : ((A.length : Int) == (A.length : Int)) = true := eq_t rfl
      clear hS h5 ra b0
      go_wp2_with fail
      go_ret
      exact ⟨rfl, hS5.out⟩
end Go.Proofs.Ytegmjlblehjccaa
end

section
/- Walks: the number of orbits of colorings, by the program. -/
namespace Go.Proofs.Ytegmjlblehjccaa
set_option linter.unusedSimpArgs false
set_option linter.unusedVariables false
open Go.RowKit
attribute [local go_sem ↓] Go.wp_at_zero Go.wp_at_succ

theorem powerUpTo2_c (n : Nat) (w : World) (hn : n ≤ 9) : Calls Try.prog 23 #[.int .i64 2, .int .i64 n, .int .i64 1000000000000] w fun e w' => e = .returned (.int .i64 ((2 ^ n : Nat) : Int)) ∧ w = w' := by
  have hp : ∀ k, k ≤ n → 2 ^ k ≤ 512 := fun k hk => Nat.le_trans (Nat.pow_le_pow_right (by omega) (show k ≤ 9 by omega)) (by decide)
  have Hp := Lib.hid hp
  clear hp
  go_enter Try.func23, Try.ntmps23
  go_wp2_with fail
  go_loopw [1, 7] (fun ei pi wr => ∃ k : Nat, k ≤ n ∧ ei = .int .i64 ((n : Int) - k) ∧ pi = .int .i64 ((2 ^ k : Nat) : Int) ∧ w = wr) (fun ei _ _ => (intOf ei).toNat)
  case atStart => exact ⟨0, by omega, by simp, rfl, rfl⟩
  case round =>
    obtain ⟨k, hk, rfl, rfl, rfl⟩ := hrel
    have h1 := Hp.out k hk
    by_cases hkn : k < n
    · have f1 : (0 : Int) < (n : Int) - k := by omega
      have h2 := Hp.out (k + 1) hkn
      have hst := Lib.hid (show (2 ^ (k + 1) : Nat) = 2 ^ k * 2 from Nat.pow_succ 2 k)
      generalize hg : 2 ^ k = q at *
      have Hg := Lib.hid hg
      clear hg
      have f2 : (q : Int) ≤ 1000000000000 := by omega
      have v1 : IntKind.i64.wrap ((q : Int) * 2) = (q : Int) * 2 := IntWalk.i64_in _ (by omega)
      have v2 : IntKind.i64.wrap ((n : Int) - k - 1) = (n : Int) - k - 1 := IntWalk.i64_in _ (by omega)
      go_wp2_with fail
      go_roundw
      case rel => exact ⟨k + 1, hkn, by (first | (congr 1; omega) | (simp; omega)), by rw [hst.out]; (first | rfl | (congr 1) | simp), by first | trivial | rfl⟩
      case measure => simp [intOf]; omega
    · obtain rfl : k = n := by omega
      have f1 : ¬ (0 : Int) < (k : Int) - k := by omega
      go_wp2_with fail
      go_ret
      exact ⟨rfl, rfl⟩
/-- colorings that the first k elements leave as they are, counted by their cycles -/
noncomputable def fxS (c n : Nat) (A : List (List Int)) (k : Nat) : Nat := ((A.take k).map fun p => c ^ cyc n (pf p)).sum
theorem fxS_succ {c n : Nat} {A : List (List Int)} {k : Nat} (h : k < A.length) : fxS c n A (k + 1) = fxS c n A k + c ^ cyc n (pf (xat A k)) := by
  unfold fxS; rw [take_xat h]; simp
theorem fxS_le {c n : Nat} {A : List (List Int)} (hc : 1 ≤ c ∧ c ≤ 2) (hn : n ≤ 9) : ∀ k, k ≤ A.length → fxS c n A k ≤ 512 * k
  | 0, _ => by simp [fxS]
  | k + 1, h => by
    rw [fxS_succ h]
    have h1 := fxS_le (n := n) (A := A) hc hn k (by omega)
    have h2 : c ^ cyc n (pf (xat A k)) ≤ 2 ^ 9 := Nat.le_trans (Nat.pow_le_pow_left hc.2 _) (Nat.pow_le_pow_right (by omega) (Nat.le_trans (cyc_le n) hn))
    omega
def GivesBC (w : World) (m : Nat) (e : Ending) (w' : World) : Prop := e = .returned (.tuple #[.int .i64 m, .int .i64 0]) ∧ St w.heap.size w w' []
set_option maxHeartbeats 16000000 in
set_option maxRecDepth 100000 in
theorem BurnsideCount_c (n c : Nat) (v : Value) (us : List Value) (A : List (List Int)) (w : World) (hv : RII w v us A) (hn : 1 ≤ n ∧ n ≤ 9) (hA : Grp n A) (hl : A.length ≤ 120) (hc : 1 ≤ c ∧ c ≤ 2) :
    Calls Try.prog 6 #[gv n v, .int .i64 c] w (GivesBC w (fxS c n A A.length / A.length)) := by
  obtain ⟨a, ca, hsh⟩ := hv.1.sl.sh
  rw [hv.2.1] at hsh
  subst hsh
  have hS0 := (St.refl w).newboxF 25 #[.int .i64 n, .slice a A.length ca]
  have b0 := hS0.bcell 0 rfl 0 rfl
  have b1 := hS0.bcell 0 rfl 1 rfl
  have hln := hv.len
  have hix := hv.ixe
  have hpos := hA.pos
  have hN2 := hn.2
  have KV := Lib.hid (fun W (h : RII W (.slice a A.length ca) us A) => ValidGroup_c n (.slice a A.length ca) us A W h ⟨hn.1, by omega⟩ hA (by omega))
  have KW := Lib.hid (fun W => within_yes (n := (c : Int)) (a := 0) (b := 32) (by omega) W)
  have KP := Lib.hid (fun W => powerUpTo2_c n W hn.2)
  have h512 : 2 ^ n ≤ 512 := Nat.le_trans (Nat.pow_le_pow_right (by omega) hn.2) (by decide)
  have Hpr := Lib.hid (fun k (hk : k < A.length) => hA.prm _ (xat_mem hk))
  have Hle := Lib.hid (fun k (hk : k ≤ A.length) => fxS_le (n := n) (A := A) hc hn.2 k hk)
  have Hcp := Lib.hid (fun j (hj : j ≤ 9) => (show c ^ j ≤ 512 from Nat.le_trans (Nat.pow_le_pow_left hc.2 _) (Nat.le_trans (Nat.pow_le_pow_right (by omega) hj) (by decide))))
  have Hv := Lib.hid hv
  have hc1 := hc.1
  have hc2 := hc.2
  generalize 2 ^ n = q2 at KP h512
  have f1 : ¬ (1000000000000 : Int) < (q2 : Int) := by omega
  unfold gv at KV ⊢
  clear hv hA hn hc
  obtain ⟨bx, hbx⟩ : ∃ bx, bx = [box 25 w.heap.size [.int .i64 n, .slice a A.length ca]] := ⟨_, rfl⟩
  have HB := Lib.hid (fun W L (h : St w.heap.size w W (L ++ bx)) => (show W.cell? ⟨w.heap.size, 0, none⟩ = some (.int .i64 n) ∧ W.cell? ⟨w.heap.size, 1, none⟩ = some (.slice a A.length ca) from by
    have h := h.sub (List.sublist_append_right _ _)
    rw [hbx] at h
    exact ⟨h.bcell 0 rfl 0 rfl, h.bcell 0 rfl 1 rfl⟩))
  rw [← hbx] at hS0
  clear hbx
  go_enter Try.func6, Try.ntmps6
  go_wp2_with fail
  refine (KV.out _ (hS0.oldII Hv.out)).mono ?_
  clear KV
  rintro e w1 ⟨rfl, h1⟩
  have hS1 := hS0.call0 h1
  clear hS0 h1 b0 b1
  obtain ⟨b0, b1⟩ := HB.out _ [] hS1
  go_upto_region 3 with fail
  go_cut [26] from 10 (fun t w' => t = .bool false ∧ St w.heap.size w w' bx)
  case first =>
    rcases (show c = 1 ∨ c = 2 by omega) with rfl | rfl
    · have g1 : ¬ (1 : Int) < ((1 : Nat) : Int) := by omega
      rw [show ((1 : Nat) : Int) = (1 : Int) from rfl] at KW ⊢
      go_wp2_with (go_at_call 22; refine (KW.out _).mono ?_; rintro e w2 ⟨rfl, hw⟩; subst hw)
      go_meet
      case rel => exact ⟨rfl, hS1⟩
    · rw [show ((2 : Nat) : Int) = (2 : Int) from rfl] at KW ⊢
      go_wp2_with (first
        | (go_at_call 22; refine (KW.out _).mono ?_; rintro e w2 ⟨rfl, hw⟩; subst hw)
        | (go_at_call 23; refine (KP.out _).mono ?_; rintro e w3 ⟨rfl, hw⟩; subst hw))
      go_meet
      case rel => exact ⟨by congr 1; exact decide_eq_false (Int.not_lt.2 f1), hS1⟩
  clear hS1 b0 b1 KW KP
  obtain ⟨rfl, hS1⟩ := hcut
  obtain ⟨b0, b1⟩ := HB.out _ [] hS1
  go_wp2_with fail
  clear b0 b1
  go_loopw [30, 6, 8, 9] (fun ki si _ _ wr => ∃ k : Nat, ki = .int .i64 k ∧ k ≤ A.length ∧ si = .int .i64 (fxS c n A k : Nat) ∧ St w.heap.size w wr bx) (fun ki _ _ _ _ => A.length - (intOf ki).toNat)
  case atStart => exact ⟨0, rfl, by omega, rfl, hS1⟩
  case round =>
    clear hS1
    obtain ⟨k, rfl, hk, rfl, hS⟩ := hrel
    have hfx := Hle.out k hk
    by_cases hkA : k < A.length
    · have hki : (k : Int) < (A.length : Int) := by omega
      have xk := hix (k : Int) k rfl hkA
      have ck := (hS.oldII Hv.out).cell k hkA
      have hpr := Hpr.out k hkA
      have KC := Lib.hid (cyclesOf_c (vat us k) (xat A k) wr ((hS.oldII Hv.out).row k hkA) hpr.1 (by rw [hpr.2]; omega))
      have hcl : (cyM (xat A k) (xat A k).length).length = cyc n (pf (xat A k)) := by rw [cyM_cyc, hpr.2]
      have hcy : cyc n (pf (xat A k)) ≤ 9 := Nat.le_trans (cyc_le n) hN2
      have Hst := Lib.hid (fxS_succ (c := c) (n := n) hkA)
      have Hcl := Lib.hid hcl
      clear hpr hcl
      generalize cyM (xat A k) (xat A k).length = C at *
      generalize cyc n (pf (xat A k)) = m at *
      generalize hfe : fxS c n A k = S at *
      have Hfe := Lib.hid hfe
      clear hfe
      go_wp2_with fail
      refine KC.out.mono ?_
      clear KC
      rintro e4 w4 ⟨v4, u4, rfl, hl4, h4⟩
      have hlc := (h4.rii hl4).len
      rw [Hcl.out] at hlc
      have hS4 := hS.call0 h4.out
      have Hc := Hcp
      clear hS h4 hl4 ck
      go_wp2_with fail
      go_loopw [37, 9] (fun ji ci wr => ∃ j : Nat, ji = .int .i64 j ∧ j ≤ m ∧ ci = .int .i64 ((c ^ j : Nat) : Int) ∧ St w.heap.size w wr bx) (fun ji _ _ => m - (intOf ji).toNat)
      case atStart => exact ⟨0, rfl, by omega, rfl, hS4⟩
      case round =>
        clear hS4
        obtain ⟨j, rfl, hj, rfl, hS⟩ := hrel
        have h1 := Hc.out j (by omega)
        by_cases hjm : j < m
        · have hji : (j : Int) < (m : Int) := by omega
          have h2 := Hc.out (j + 1) (by omega)
          have hst := Lib.hid (show (c ^ (j + 1) : Nat) = c ^ j * c from Nat.pow_succ c j)
          rw [hst.out] at h2
          have hcast : (((c ^ j * c : Nat) : Nat) : Int) = ((c ^ j : Nat) : Int) * (c : Int) := by rw [Int.natCast_mul]
          generalize hg : c ^ j = q at *
          have Hg := Lib.hid hg
          clear hg
          have v1 : IntKind.i64.wrap ((q : Int) * (c : Int)) = (q : Int) * (c : Int) := IntWalk.i64_in _ (by rw [← hcast]; omega)
          have Hcast := Lib.hid hcast
          clear hcast h2
          go_wp2_with fail
          go_roundw
          case rel => exact ⟨j + 1, by go_num, by omega, by rw [hst.out, Hcast.out], hS⟩
          case measure => simp [intOf]; omega
        · obtain rfl : j = m := by omega
          generalize hg : c ^ j = q at *
          have v1 : IntKind.i64.wrap ((S : Int) + (q : Int)) = (S : Int) + (q : Int) := IntWalk.i64_in _ (by omega)
          have Hg := Lib.hid hg
          clear hg
          go_wp2_with fail
          go_roundw
          case rel => exact ⟨k + 1, by go_num, by omega, by rw [Hst.out, Int.natCast_add], hS⟩
          case measure => simp [intOf]; omega
    · obtain rfl : k = A.length := by omega
      have b1 := (HB.out _ [] hS).2
      have KZ := fun W (h : RII W (.slice a A.length ca) us A) => Lib.hid (szII_c (.slice a A.length ca) us A W h)
      generalize hfe : fxS c n A A.length = S at *
      have hq : ((S : Int).tdiv (A.length : Int)) = ((S / A.length : Nat) : Int) := by rw [Int.tdiv_eq_ediv_of_nonneg (by omega)]; exact (Int.natCast_ediv _ _).symm
      have hdl : S / A.length ≤ S := Nat.div_le_self _ _
      generalize S / A.length = D at *
      have hne : ¬ (A.length : Int) = 0 := by omega
      have hne2 : ((A.length : Int) == 0) = false := eq_f hne
      have hne3 : ¬ A.length = 0 := by omega
      have hS2 := hS.out
      have KZ2 := KZ wr (hS.oldII Hv.out)
      have hw : IntKind.i64.wrap ((S : Int).tdiv (A.length : Int)) = (D : Int) := by
        rw [hq]
        exact IntWalk.i64_in _ (by omega)
      have Hq := Lib.hid hq
      clear KZ
      go_wp2_with (go_at_call 25; refine KZ2.out.mono ?_; rintro e5 w5 ⟨rfl, hw5⟩; subst hw5)
      go_ret2
      exact ⟨by first | rfl | simp, hS2⟩
end Go.Proofs.Ytegmjlblehjccaa
end

section
/- Walks: the permutations x to a x + b modulo n. -/
namespace Go.Proofs.Ytegmjlblehjccaa
set_option linter.unusedSimpArgs false
set_option linter.unusedVariables false
open Go.RowKit
attribute [local go_sem ↓] Go.wp_at_zero Go.wp_at_succ

def turF (n a b x : Nat) : Int := ((a * x + b) % n : Nat)
def turL (n a b k : Nat) : List Int := (List.range k).map (turF n a b)
theorem turL_len (n a b k : Nat) : (turL n a b k).length = k := by simp [turL]
theorem turL_succ (n a b k : Nat) : turL n a b (k + 1) = turL n a b k ++ [turF n a b k] := by simp [turL, List.range_succ]
def isPB (l : List Int) : Bool := (List.range l.length).all fun j => decide (0 ≤ nth l j ∧ nth l j ≤ l.length - 1) && !((l.take j).contains (nth l j))
theorem isPB_t {l : List Int} (h : isPB l = true) : IsP l := isP_iff2.2 fun j hj => by
  have h1 := List.all_eq_true.1 h j (List.mem_range.2 hj)
  rw [Bool.and_eq_true, decide_eq_true_eq, Bool.not_eq_true'] at h1
  refine ⟨h1.1, fun hm => ?_⟩
  rw [← List.contains_iff_mem, h1.2] at hm
  cases hm
theorem tur_ok : (∀ n ∈ ([1, 2, 3, 4, 5, 6, 7, 8, 9, 10, 11, 12, 13] : List Nat), isPB (turL n 1 1 n) = true ∧ isPB (turL n (n - 1) 0 n) = true) ∧ (∀ n ∈ ([5, 7, 11, 13] : List Nat), ∀ a ∈ ([2, 3, 4] : List Nat), isPB (turL n a 0 n) = true) := by decide +kernel
theorem tur_1 {n : Nat} (h : 1 ≤ n ∧ n ≤ 13) : Prm n (turL n 1 1 n) ∧ Prm n (turL n (n - 1) 0 n) := by
  have hm : n ∈ ([1, 2, 3, 4, 5, 6, 7, 8, 9, 10, 11, 12, 13] : List Nat) := by simp; omega
  exact ⟨⟨isPB_t (tur_ok.1 n hm).1, turL_len _ _ _ _⟩, ⟨isPB_t (tur_ok.1 n hm).2, turL_len _ _ _ _⟩⟩
theorem tur_2 {n a : Nat} (h : n ∈ ([5, 7, 11, 13] : List Nat)) (ha : a ∈ ([2, 3, 4] : List Nat)) : Prm n (turL n a 0 n) := ⟨isPB_t (tur_ok.2 n h a ha), turL_len _ _ _ _⟩
set_option maxHeartbeats 4000000 in
set_option maxRecDepth 100000 in
theorem l05Turn_c (n a b : Nat) (w : World) (hn : 1 ≤ n ∧ n ≤ 13) (ha : a ≤ 13) (hb : b ≤ 13) : Calls Try.prog 65 #[.int .i64 n, .int .i64 a, .int .i64 b] w (MakesI w (turL n a b n)) := by
  have hS0 := St.emp0 (w := w)
  obtain ⟨h1, h2⟩ := hn
  have hn0 : ¬ (n : Int) = 0 := by omega
  have hn0n : ¬ n = 0 := by omega
  have hn0b : ((n : Int) == 0) = false := eq_f hn0
  go_enter Try.func65, Try.ntmps65
  go_wp2_with fail
  go_loopw [7, 8] (fun o x wr => ∃ k : Nat, k ≤ n ∧ x = .int .i64 k ∧ St w.heap.size w wr [row 2 o (iv (turL n a b k))]) (fun _ x _ => n - (intOf x).toNat)
  case atStart => exact ⟨0, by omega, rfl, hS0⟩
  case round =>
    clear hS0
    obtain ⟨k, hk, rfl, hS⟩ := hrel
    have hkl := turL_len n a b k
    by_cases hlt : k < n
    · have hki : (k : Int) < (n : Int) := by omega
      have hak : a * k ≤ 13 * 13 := Nat.mul_le_mul ha (by omega)
      have hst := Lib.hid (turL_succ n a b k)
      have hN := Lib.hid (show (turL n a b k).length < 4294967296 by rw [turL_len]; omega)
      obtain ⟨q, hq⟩ : ∃ q, a * k = q := ⟨_, rfl⟩
      have hqi : (a : Int) * (k : Int) = (q : Int) := by rw [← hq, Int.natCast_mul]
      have w1 : IntKind.i64.wrap ((a : Int) * (k : Int)) = (q : Int) := by rw [hqi]; exact IntWalk.i64_in _ (by omega)
      have w2 : IntKind.i64.wrap ((q : Int) + (b : Int)) = (q : Int) + (b : Int) := IntWalk.i64_in _ (by omega)
      have w3 : ((q : Int) + (b : Int)).tmod (n : Int) = turF n a b k := by
        rw [Int.tmod_eq_emod_of_nonneg (by omega)]
        unfold turF
        rw [hq, Int.natCast_emod, Int.natCast_add]
      have w4 : ((q : Int) + (b : Int)) % (n : Int) = turF n a b k := by
        unfold turF
        rw [hq, Int.natCast_emod, Int.natCast_add]
      have hfb : -9223372036854775808 ≤ turF n a b k ∧ turF n a b k ≤ 9223372036854775807 := by
        have : (a * k + b) % n < n := Nat.mod_lt _ (by omega)
        unfold turF; omega
      generalize turF n a b k = y at *
      have w5 : IntKind.i64.wrap y = y := IntWalk.i64_in _ hfb
      have w6 : (wrap64 (wrap64 (q : Int) + (b : Int))).tmod (n : Int) = y := by rw [IntWalk.wrap64_in (q : Int) (by omega), IntWalk.wrap64_in _ (by omega), w3]
      have W6 := Lib.hid w6
      clear w6
      clear hq hkl hak hfb
      go_wp2_with (at_builtin; refine appI hS 0 rfl hN.out rfl _ _ rfl rfl _ rfl ?_; intro v2 w2 hS2)
      simp only [List.set_cons_zero] at hS2
      rw [W6.out, ← hst.out] at hS2
      go_roundw
      case rel => exact ⟨k + 1, by omega, by go_num, hS2⟩
      case measure => simp [intOf]; omega
    · obtain rfl : k = n := by omega
      go_wp2_with fail
      go_ret
      exact ⟨_, rfl, hS⟩
end Go.Proofs.Ytegmjlblehjccaa
end

section
/- Walks: permutations that generate a small group, drawn. -/
namespace Go.Proofs.Ytegmjlblehjccaa
set_option linter.unusedSimpArgs false
set_option linter.unusedVariables false
open Go.RowKit
attribute [local go_sem ↓] Go.wp_at_zero Go.wp_at_succ

theorem Src.newrow {w0 w : World} {cv : Value} {g K : Nat} {L : List Ent} (h : Src w0 w cv g K L) (e : TypeId) (cs : Array Value) (hm : cs.size ≤ maxLen) :
    Src w0 (w.alloc (.cells cs e)) cv g K (row e (.slice (some ⟨w.heap.size, 0, none⟩) cs.size cs.size) cs.toList :: L) := by
  obtain ⟨p, s, h0, h1, hS⟩ := h
  refine ⟨p, s, h0, h1, ?_⟩
  refine (hS.new e cs hm).perm ?_
  refine List.Perm.trans (List.perm_append_comm) ?_
  simp only [List.cons_append, List.nil_append]
  exact List.Perm.swap _ _ _
/-- permutations of n points, and the source goes on -/
def SomeS (w0 : World) (cv : Value) (g K : Nat) (L : List Ent) (e : Ending) (w' : World) : Prop := ∃ (n : Nat) (v : Value) (us : List Value) (S : List (List Int)), e = .returned (.tuple #[.int .i64 n, v]) ∧ 1 ≤ n ∧ n ≤ 13 ∧ us.length = S.length ∧ (∀ q ∈ S, Prm n q) ∧ S.length ≤ 2 ∧ Src w0 w' cv g (K + 100) (own2 v us S ++ L)
set_option maxHeartbeats 16000000 in
set_option maxRecDepth 100000 in
theorem l05Some_c (w0 w : World) (cv : Value) (bs : List UInt8) (g K : Nat) (L : List Ent) (hb : RdB w0 cv bs) (h : Src w0 w cv g K L) (hK : K < 100000000) :
    Calls Try.prog 45 #[.pointer (some ⟨g, 0, none⟩)] w (SomeS w0 cv g K L) := by
  go_enter Try.func45, Try.ntmps45
  go_wp2_with fail
  refine (pick_c w0 w cv bs g _ _ _ hb h (by omega)).mono ?_
  rintro e w1 ⟨x, x0, x1, rfl, h1⟩
  obtain ⟨n', rfl⟩ := Int.eq_ofNat_of_zero_le x0
  have hn' : n' ≤ 7 := by omega
  have v1 : IntKind.i64.wrap (1 + (n' : Int)) = 1 + (n' : Int) := IntWalk.i64_in _ (by omega)
  clear x0 x1 h
  go_wp2_with fail
  refine (pick_c w0 w1 cv bs g _ _ _ hb h1 (by omega)).mono ?_
  rintro e w2 ⟨y, y0, y1, rfl, h2⟩
  obtain ⟨n, hn⟩ : ∃ n, 1 + n' = n := ⟨_, rfl⟩
  rw [show 1 + (n' : Int) = (n : Int) by omega]
  have hn1 : 1 ≤ n ∧ n ≤ 13 := by omega
  clear v1 h1 hn
  have KT := Lib.hid (fun a b W (ha : a ≤ 13) (hb : b ≤ 13) => l05Turn_c n a b W hn1 ha hb)
  rcases (show y = 0 ∨ y = 1 ∨ y = 2 ∨ y = 3 by omega) with rfl | rfl | rfl | rfl
  · have K1 := Lib.hid (KT.out 1 1 w2 (by omega) (by omega))
    rw [show ((1 : Nat) : Int) = (1 : Int) from rfl] at K1
    go_wp2_with fail
    refine K1.out.mono ?_
    rintro e w3 ⟨v3, rfl, h3⟩
    obtain ⟨a3, c3, hsh⟩ := (h3.rdI 0 rfl).sl.sh
    rw [iv_len, turL_len] at hsh
    subst hsh
    have h4 := (h2.call h3).newrow 30 #[.slice a3 n c3] (by simp [maxLen])
    go_wp2_with fail
    go_ret2
    exact ⟨n, _, _, [turL n 1 1 n], rfl, hn1.1, hn1.2, rfl, fun q hq => by rw [List.mem_singleton.1 hq]; exact (tur_1 hn1).1, by simp, (h4.perm (List.Perm.cons _ List.perm_append_comm)).mono (by omega)⟩
  · have K1 := Lib.hid (KT.out 1 1 w2 (by omega) (by omega))
    have K2 := Lib.hid (fun W => KT.out (n - 1) 0 W (by omega) (by omega))
    rw [show ((1 : Nat) : Int) = (1 : Int) from rfl] at K1
    rw [show ((0 : Nat) : Int) = (0 : Int) from rfl, show ((n - 1 : Nat) : Int) = (n : Int) - 1 by omega] at K2
    have v2 : IntKind.i64.wrap ((n : Int) - 1) = (n : Int) - 1 := IntWalk.i64_in _ (by omega)
    go_wp2_with fail
    refine K1.out.mono ?_
    rintro e w3 ⟨v3, rfl, h3⟩
    obtain ⟨a3, c3, hsh⟩ := (h3.rdI 0 rfl).sl.sh
    rw [iv_len, turL_len] at hsh
    subst hsh
    have h4 := h2.call h3
    go_wp2_with fail
    refine (K2.out _).mono ?_
    rintro e w4 ⟨v4, rfl, h5⟩
    obtain ⟨a4, c4, hsh⟩ := (h5.rdI 0 rfl).sl.sh
    rw [iv_len, turL_len] at hsh
    subst hsh
    have h6 := (h4.call h5).newrow 30 #[.slice a3 n c3, .slice a4 n c4] (by simp [maxLen])
    go_wp2_with fail
    go_ret2
    exact ⟨n, _, _, [turL n 1 1 n, turL n (n - 1) 0 n], rfl, hn1.1, hn1.2, rfl, fun q hq => by
      simp only [List.mem_cons, List.not_mem_nil, or_false] at hq
      rcases hq with rfl | rfl
      · exact (tur_1 hn1).1
      · exact (tur_1 hn1).2, by simp, (h6.perm (List.Perm.cons _ (by rw [List.append_assoc]; exact List.perm_append_comm))).mono (by omega)⟩
  · clear hn1 KT hn'
    go_wp2_with fail
    refine (among_lit [5, 7, 11, 13] w0 w2 cv bs g _ _ hb h2 (by decide) (by omega)).mono ?_
    rintro e w3 ⟨x, hx, rfl, h3⟩
    obtain ⟨q, rfl, hq⟩ : ∃ q : Nat, x = q ∧ q ∈ ([5, 7, 11, 13] : List Nat) := by
      simp only [List.mem_cons, List.not_mem_nil, or_false] at hx
      rcases hx with rfl | rfl | rfl | rfl
      · exact ⟨5, rfl, by decide⟩
      · exact ⟨7, rfl, by decide⟩
      · exact ⟨11, rfl, by decide⟩
      · exact ⟨13, rfl, by decide⟩
    have hn1 : 1 ≤ q ∧ q ≤ 13 := by simp at hq; omega
    have KT := Lib.hid (fun a b W (ha : a ≤ 13) (hb : b ≤ 13) => l05Turn_c q a b W hn1 ha hb)
    have Hq := Lib.hid hq
    have K1 := Lib.hid (KT.out 1 1 w3 (by omega) (by omega))
    rw [show ((1 : Nat) : Int) = (1 : Int) from rfl] at K1
    clear hx h2 hq
    go_wp2_with fail
    refine K1.out.mono ?_
    clear K1
    rintro e w4 ⟨v4, rfl, h4⟩
    obtain ⟨a3, c3, hsh⟩ := (h4.rdI 0 rfl).sl.sh
    rw [iv_len, turL_len] at hsh
    subst hsh
    have h5 := h3.call h4
    clear h3 h4
    go_wp2_with fail
    refine (among_lit [2, 3, 4] w0 w4 cv bs g _ _ hb h5 (by decide) (by omega)).mono ?_
    rintro e w5 ⟨x, hx, rfl, h6⟩
    obtain ⟨a, rfl, ha⟩ : ∃ a : Nat, x = a ∧ a ∈ ([2, 3, 4] : List Nat) := by
      simp only [List.mem_cons, List.not_mem_nil, or_false] at hx
      rcases hx with rfl | rfl | rfl
      · exact ⟨2, rfl, by decide⟩
      · exact ⟨3, rfl, by decide⟩
      · exact ⟨4, rfl, by decide⟩
    have K2 := Lib.hid (KT.out a 0 w5 (by simp at ha; omega) (by omega))
    rw [show ((0 : Nat) : Int) = (0 : Int) from rfl] at K2
    have Ha := Lib.hid ha
    clear hx h5 ha
    go_wp2_with fail
    refine K2.out.mono ?_
    clear K2
    rintro e w6 ⟨v6, rfl, h7⟩
    obtain ⟨a4, c4, hsh⟩ := (h7.rdI 0 rfl).sl.sh
    rw [iv_len, turL_len] at hsh
    subst hsh
    have h8 := (h6.call h7).newrow 30 #[.slice a3 q c3, .slice a4 q c4] (by simp [maxLen])
    go_wp2_with fail
    go_ret2
    exact ⟨q, _, _, [turL q 1 1 q, turL q a 0 q], rfl, hn1.1, hn1.2, rfl, fun r hr => by
      simp only [List.mem_cons, List.not_mem_nil, or_false] at hr
      rcases hr with rfl | rfl
      · exact (tur_1 hn1).1
      · exact tur_2 Hq.out Ha.out, by simp, (h8.perm (List.Perm.cons _ (by rw [List.append_assoc]; exact List.perm_append_comm))).mono (by omega)⟩
  · clear hn1 KT hn'
    go_wp2_with fail
    refine (pick_c w0 w2 cv bs g _ _ _ hb h2 (by omega)).mono ?_
    rintro e w3 ⟨x, x0, x1, rfl, h3⟩
    obtain ⟨n', rfl⟩ := Int.eq_ofNat_of_zero_le x0
    have hn' : n' ≤ 4 := by omega
    have v1 : IntKind.i64.wrap (1 + (n' : Int)) = 1 + (n' : Int) := IntWalk.i64_in _ (by omega)
    have h4 := h3.newrow 30 #[] (by simp [maxLen])
    clear x0 x1 h2 h3
    go_wp2_with fail
    refine (pick_c w0 _ cv bs g _ _ _ hb h4 (by omega)).mono ?_
    rintro e w5 ⟨y, y0, y1, rfl, h5⟩
    obtain ⟨k0, rfl⟩ := Int.eq_ofNat_of_zero_le y0
    have hk0 : k0 ≤ 2 := by omega
    obtain ⟨q, hq⟩ : ∃ q, 1 + n' = q := ⟨_, rfl⟩
    rw [show 1 + (n' : Int) = (q : Int) by omega]
    have hq1 : 1 ≤ q ∧ q ≤ 5 := by omega
    have h6 : Src w0 w5 cv g (K + 8 + 10 * ([] : List (List Int)).length) (own2 (.slice (some ⟨w3.heap.size, 0, none⟩) 0 0) [] [] ++ L) := h5.mono (by simp <;> omega)
    clear y0 y1 h4 h5 v1 hq hn'
    go_wp2_with fail
    go_loopw [5, 6] (fun o ki wr => ∃ (j : Nat) (us : List Value) (S : List (List Int)), ki = .int .i64 j ∧ Hid (us.length = S.length ∧ ∀ r ∈ S, Prm q r) ∧ S.length + j ≤ 2 ∧ Src w0 wr cv g (K + 8 + 10 * S.length) (own2 o us S ++ L)) (fun _ ki _ => (intOf ki).toNat)
    case atStart => exact ⟨k0, [], [], rfl, ⟨rfl, fun r hr => by simp at hr⟩, by simpa using hk0, h6⟩
    case round =>
      clear h6
      obtain ⟨j, us, S, rfl, hI, hj, hs⟩ := hrel
      by_cases hj0 : 0 < j
      · have hji : (0 : Int) < (j : Int) := by omega
        have KD := Lib.hid (l04DrawPerm_c w0 wr cv bs g _ _ q hb hs (by omega) (by omega))
        have v3 : IntKind.i64.wrap ((j : Int) - 1) = (j : Int) - 1 := IntWalk.i64_in _ (by omega)
        clear hs
        go_wp2_with fail
        refine KD.out.mono ?_
        clear KD
        rintro e w7 ⟨v7, xs, rfl, hxl, hxp, h7⟩
        obtain ⟨a7, c7, hsh⟩ := (h7.rdI 0 rfl).sl.sh
        rw [iv_len, hxl] at hsh
        subst hsh
        have hxs := Lib.hid (And.intro hxp hxl)
        have hul := Lib.hid (show us.length < 4294967296 by rw [hI.out.1]; omega)
        obtain ⟨pp, ss, s0, s1, hS⟩ := h7
        clear hxp hxl
        go_wp2_with (at_builtin; refine appII hS 2 rfl hul.out rfl _ _ rfl rfl _ rfl (by first | rfl | simp [Act.eval, World.size_alloc]) ?_; intro v8 w8 hS8)
        have hS9 : Src w0 w8 cv g (K + 8 + 10 * (S ++ [xs]).length) (own2 v8 (us ++ [.slice a7 q c7]) (S ++ [xs]) ++ L) := ⟨pp, ss, s0, by rw [List.length_append, List.length_singleton]; omega, hS8.perm (by
          have e9 : own2 v8 (us ++ [.slice a7 q c7]) (S ++ [xs]) = row 30 v8 (us ++ [.slice a7 q c7]) :: (rowsI us S ++ [row 2 (.slice a7 q c7) (iv xs)]) := by rw [own2, rowsI_app hI.out.1]
          rw [e9]
          refine List.Perm.cons _ ?_
          show (row 2 (.slice a7 q c7) (iv xs) :: row 30 v8 (us ++ [.slice a7 q c7]) :: (rowsI us S ++ L)).Perm (row 30 v8 (us ++ [.slice a7 q c7]) :: (rowsI us S ++ [row 2 (.slice a7 q c7) (iv xs)] ++ L))
          refine (List.Perm.swap _ _ _).trans (List.Perm.cons _ ?_)
          rw [List.append_assoc]
          exact List.perm_middle.symm)⟩
        go_roundw
        case rel => exact ⟨j - 1, _, _, by go_num, ⟨by rw [List.length_append, List.length_append, hI.out.1]; rfl, fun r hr => by
          rcases List.mem_append.1 hr with hr | hr
          · exact hI.out.2 r hr
          · rw [List.mem_singleton.1 hr]; exact hxs.out⟩, by rw [List.length_append, List.length_singleton]; omega, hS9⟩
        case measure => simp [intOf]; omega
      · obtain rfl : j = 0 := by omega
        rw [show ((0 : Nat) : Int) = (0 : Int) from rfl]
        go_wp2_with fail
        go_ret2
        exact ⟨q, _, us, S, rfl, by omega, by omega, hI.out.1, hI.out.2, by omega, hs.mono (by omega)⟩
end Go.Proofs.Ytegmjlblehjccaa
end

section
/- Walks: what permutations generate, by the reference. -/
namespace Go.Proofs.Ytegmjlblehjccaa
set_option linter.unusedSimpArgs false
set_option linter.unusedVariables false
open Go.RowKit
attribute [local go_sem ↓] Go.wp_at_zero Go.wp_at_succ

set_option maxHeartbeats 4000000 in
set_option maxRecDepth 100000 in
theorem l04TimesG_c (v u : Value) (xs ys : List Int) (w : World) (hv : RdI w v xs) (hu : RdI w u ys) (hp : IsP xs) (hl : xs.length = ys.length) (hN : xs.length ≤ 1000) :
    Calls Try.prog 68 #[v, u] w (MakesI w (cmpL xs ys)) := by
  have hlx := hv.len
  have hix := hv.ixe
  have hiu := hu.ixe
  rw [← hl] at hiu
  have hS0 : St w.heap.size w (w.alloc (.cells #[] 2)) [row 2 (.slice (some ⟨w.heap.size, 0, none⟩) 0 0) (iv ((cmpL xs ys).take 0))] := (St.refl w).new 2 #[] (by simp)
  have HT := fun j (hj : j < xs.length) => Lib.hid (show (cmpL xs ys).take (j + 1) = (cmpL xs ys).take j ++ [nth ys (pf xs j)] by rw [take_nth (by rw [cmpL_len]; exact hj), nth_cmpL hj])
  have HP := fun j (hj : j < xs.length) => Lib.hid (And.intro (nth_pf hp hj) (hp.pf_lt hj))
  have HE := Lib.hid (show (cmpL xs ys).take xs.length = cmpL xs ys by rw [← cmpL_len xs ys, List.take_length])
  have Hul := Lib.hid hl
  clear hl hp
  go_enter Try.func68, Try.ntmps68
  go_wp2_with fail
  go_loopw [5, 6] (fun o i wr => ∃ (j : Nat) (v2 : Value), v2 = o ∧ j ≤ xs.length ∧ i = .int .i64 j ∧ St w.heap.size w wr [row 2 v2 (iv ((cmpL xs ys).take j))]) (fun _ i _ => xs.length - (intOf i).toNat)
  case atStart => exact ⟨0, _, rfl, by omega, rfl, hS0⟩
  case round =>
    clear hS0
    obtain ⟨j, v2, rfl, hj, rfl, hS⟩ := hrel
    by_cases hlt : j < xs.length
    · have hji : (j : Int) < (xs.length : Int) := by omega
      obtain ⟨e1, e2⟩ := (HP j hlt).out
      have c1 := (hS.oldI hv).cell j hlt
      rw [e1] at c1
      have c2 := (hS.oldI hu).cell (pf xs j) (by rw [← Hul.out]; exact e2)
      have x1 := hix (j : Int) j rfl hlt
      have x2 := hiu ((pf xs j : Nat) : Int) (pf xs j) rfl e2
      have HT := HT j hlt
      have hN2 := Lib.hid (show ((cmpL xs ys).take j).length < 4294967296 by rw [List.length_take]; omega)
      generalize pf xs j = k at *
      clear e1
      go_wp2_with (at_builtin; refine appI hS 0 rfl hN2.out rfl _ _ rfl rfl _ rfl ?_; intro v5 w5 hS5; simp only [List.set_cons_zero] at hS5)
      rw [← HT.out] at hS5
      go_roundw
      case rel => exact ⟨j + 1, _, rfl, by omega, by go_num, hS5⟩
      case measure => simp [intOf]; omega
    · obtain rfl : j = xs.length := by omega
      rw [HE.out] at hS
      go_wp2_with fail
      go_ret
      exact ⟨_, rfl, hS⟩
/-- all that is generated, or too much -/
def MakesSC (w : World) (n : Nat) (S : List (List Int)) (most : Nat) (e : Ending) (w' : World) : Prop :=
  (∃ v us R, e = .returned (.tuple #[v, .bool true]) ∧ RII w' v us R ∧ ClO n S R ∧ R.length ≤ most ∧ St w.heap.size w w' []) ∨
  (e = .returned (.tuple #[.slice none 0 0, .bool false]) ∧ (∀ A, Grp n A → (∀ g ∈ S, g ∈ A) → most < A.length) ∧ St w.heap.size w w' [])
/-- an ordered list with the members of the queue -/
structure ScI (n : Nat) (S L Q : List (List Int)) (i k most : Nat) : Prop where
  bf : Bfs n S Q i k
  str : StrA L
  mem : ∀ p, p ∈ L ↔ p ∈ Q
  len : L.length = Q.length
  le : L.length ≤ most
section
variable {n i k most m : Nat} {S L Q : List (List Int)}
theorem ScI.fin (h : ScI n S L Q Q.length 0 most) : ClO n S L := ⟨h.str, fun p => by
  have := h.bf.fin.2 p
  rw [(srtL_perm Q).mem_iff] at this
  rw [h.mem p]; exact this⟩
theorem ScI.new (h : ScI n S L Q i k most) (hi : i < Q.length) (hk : k < S.length) {p : List Int} (hp : cmpL (xat Q i) (xat S k) = p) (hf : FndP L p m false) (hm : m ≤ L.length) (hne : L.length ≠ most) : ScI n S (insA L m p) (Q ++ [p]) i (k + 1) most := by
  have hpL : p ∉ L := fun q => by have := (hf.mem h.str q).1; cases this
  have hpQ : cmpL (xat Q i) (xat S k) ∉ Q := by rw [hp, ← h.mem]; exact hpL
  refine ⟨by have := h.bf.new hi hk hpQ; rwa [hp] at this, hf.ins h.str, fun q => ?_, by rw [insA_len hm, List.length_append, h.len]; rfl, by rw [insA_len hm]; have := h.le; omega⟩
  rw [insA_mem, List.mem_append, List.mem_singleton, h.mem]
  exact Or.comm
theorem ScI.big (h : ScI n S L Q i k most) (hi : i < Q.length) (hk : k < S.length) {p : List Int} (hp : cmpL (xat Q i) (xat S k) = p) (hpL : p ∉ L) (he : L.length = most) : ∀ A, Grp n A → (∀ g ∈ S, g ∈ A) → most < A.length := fun A hA hS => by
  have hnd : (p :: L).Nodup := List.nodup_cons.2 ⟨hpL, h.str.nodup⟩
  have := hnd.length_le_of_subset (l₂ := A) (by
    intro q hq
    rcases List.mem_cons.1 hq with rfl | hq
    · rw [← hp]; exact hA.gen hS ((h.bf.gen _ (xat_mem hi)).mul (xat_mem hk))
    · exact hA.gen hS (h.bf.gen q ((h.mem q).1 hq)))
  rw [List.length_cons] at this; omega
end
end Go.Proofs.Ytegmjlblehjccaa
end

section
/- Walks: what permutations generate, by the reference: the walk. -/
namespace Go.Proofs.Ytegmjlblehjccaa
set_option linter.unusedSimpArgs false
set_option linter.unusedVariables false
open Go.RowKit
attribute [local go_sem ↓] Go.wp_at_zero Go.wp_at_succ

theorem ins_rows {Pd : Value → List Int → Prop} {ul : List Value} {L : List (List Int)} {vp : Value} {p : List Int} {m : Nat} (hl : ul.length = L.length) (h : ∀ j, j < L.length → Pd (vat ul j) (xat L j)) (hp : Pd vp p) (hm : m ≤ L.length) :
    ∀ j, j < (insA L m p).length → Pd (vat (ul.take m ++ [vp] ++ ul.drop m) j) (xat (insA L m p) j) := fun j hj => by
  rw [insA_len hm] at hj
  unfold insA vat xat
  rw [ins_getD _ _ _ (by omega), ins_getD _ _ _ hm]
  by_cases h1 : j < m
  · rw [if_pos h1, if_pos h1]; exact h j (by omega)
  · rw [if_neg h1, if_neg h1]
    by_cases h2 : j = m
    · rw [if_pos h2, if_pos h2]; exact hp
    · rw [if_neg h2, if_neg h2]; exact h (j - 1) (by omega)
theorem app_rows {Pd : Value → List Int → Prop} {ul : List Value} {L : List (List Int)} {vp : Value} {p : List Int} (hl : ul.length = L.length) (h : ∀ j, j < L.length → Pd (vat ul j) (xat L j)) (hp : Pd vp p) :
    ∀ j, j < (L ++ [p]).length → Pd (vat (ul ++ [vp]) j) (xat (L ++ [p]) j) := fun j hj => by
  rw [List.length_append, List.length_singleton] at hj
  by_cases e : j < L.length
  · rw [xat_appL e, show vat (ul ++ [vp]) j = vat ul j from by
      unfold vat; rw [List.getD_eq_getElem?_getD, List.getElem?_append_left (by omega), ← List.getD_eq_getElem?_getD]]
    exact h j e
  · obtain rfl : j = L.length := by omega
    rw [show xat (L ++ [p]) L.length = p from by unfold xat; simp, show vat (ul ++ [vp]) L.length = vp from by rw [← hl]; unfold vat; simp]
    exact hp
theorem cell_keepS {w w' : World} (hb : Below w.heap.size w w') {p : Addr} {u : Value} (h : w.cell? p = some u) : w'.cell? p = some u := by
  rw [hb.cell (World.block_lt_of_cell? _ _ h)]; exact h
/-- what the loops know -/
def ScR (w : World) (n : Nat) (S L Q : List (List Int)) (i k most : Nat) (ul uq : List Value) (N : List Ent) : Prop :=
  ScI n S L Q i k most ∧ ul.length = L.length ∧ uq.length = Q.length ∧ ∀ W, St w.heap.size w W N → (∀ j, j < L.length → RdI W (vat ul j) (xat L j)) ∧ (∀ j, j < Q.length → RdI W (vat uq j) (xat Q j))
set_option maxHeartbeats 32000000 in
set_option maxRecDepth 100000 in
theorem l05Close_c (n most : Nat) (vg : Value) (ug : List Value) (S : List (List Int)) (w : World) (hv : RII w vg ug S) (hS : ∀ g ∈ S, Prm n g) (hn : n ≤ 32) (hm1 : 1 ≤ most) (hm2 : most ≤ 1000) :
    Calls Try.prog 46 #[.int .i64 n, vg, .int .i64 most] w (MakesSC w n S most) := by
  have hlng := hv.len
  have hixg := hv.ixe
  have hSl := hv.le
  have KO := Lib.hid (fun W => l04One_c n W (by omega))
  have Hv := Lib.hid hv
  have HS := Lib.hid hS
  clear hv hS
  go_enter Try.func46, Try.ntmps46
  go_wp2_with fail
  refine (KO.out _).mono ?_
  clear KO
  rintro e w1 ⟨v1, rfl, h1⟩
  obtain ⟨a1, c1, hsh⟩ := (h1.rdI 0 rfl).sl.sh
  rw [iv_len, iot_len] at hsh
  subst hsh
  have hS3 := ((h1.new 30 #[.slice a1 n c1] (by simp [maxLen])).new 30 #[.slice a1 n c1] (by simp [maxLen]))
  simp only [World.size_alloc] at hS3
  have hS4 := hS3.perm (L' := row 30 (.slice (some ⟨w1.heap.size, 0, none⟩) 1 1) [.slice a1 n c1] :: row 30 (.slice (some ⟨w1.heap.size + 1, 0, none⟩) 1 1) [.slice a1 n c1] :: [row 2 (.slice a1 n c1) (iv (iot n))]) (by
    show [_, _, _].Perm [_, _, _]
    exact (List.Perm.swap _ _ _).trans (List.Perm.cons _ (List.Perm.swap _ _ _)))
  have HI0 : Hid (ScR w n S [iot n] [iot n] 0 0 most [.slice a1 n c1] [.slice a1 n c1] [row 2 (.slice a1 n c1) (iv (iot n))]) := Lib.hid ⟨⟨Bfs.start n S, by unfold StrA; simp, fun p => Iff.rfl, rfl, hm1⟩, rfl, rfl, fun W h => by
    have hr : RdI W (.slice a1 n c1) (iot n) := h.rdI 0 rfl
    refine ⟨fun j hj => ?_, fun j hj => ?_⟩ <;> (obtain rfl : j = 0 := by simpa using hj) <;> exact hr⟩
  clear h1 hS3
  go_wp2_with fail
  go_loopw [9, 10, 11, 12, 13, 14, 15] (fun vl vq ii _ _ _ _ wr => ∃ (i : Nat) (ul uq : List Value) (N : List Ent) (L Q : List (List Int)), ii = .int .i64 i ∧ Hid (ScR w n S L Q i 0 most ul uq N) ∧ St w.heap.size w wr (row 30 vl ul :: row 30 vq uq :: N)) (fun _ _ ii _ _ _ _ _ => most + 1 - (intOf ii).toNat)
  case atStart => exact ⟨0, _, _, _, _, _, rfl, HI0, hS4⟩
  case round =>
    clear HI0 hS4
    obtain ⟨i, ul, uq, N, L, Q, rfl, hI, hS⟩ := hrel
    have hLm := hI.out.1.le
    have hLQ := hI.out.1.len
    have hlq := fun (ty : TypeId) (W : World) => run_len_sl (P := Try.prog) (hS.rd 1 (e := 30) rfl).sl 23 ty Try.und_iss W
    rw [hI.out.2.2.1] at hlq
    by_cases hiQ : i < Q.length
    · have hii : (i : Int) < (Q.length : Int) := by omega
      have HI1 : Hid (ScR w n S L Q i 0 most ul uq N ∧ i < Q.length) := Lib.hid ⟨hI.out, hiQ⟩
      have him : i < most := by omega
      clear hI hLQ
      go_wp2_with fail
      clear hlq
      go_loopw [9, 10, 12, 13, 14, 15] (fun vl vq ki _ _ _ wr => ∃ (k : Nat) (ul uq : List Value) (N : List Ent) (L Q : List (List Int)), ki = .int .i64 k ∧ k ≤ S.length ∧ Hid (ScR w n S L Q i k most ul uq N ∧ i < Q.length) ∧ St w.heap.size w wr (row 30 vl ul :: row 30 vq uq :: N)) (fun _ _ ki _ _ _ _ => S.length - (intOf ki).toNat)
      case atStart => exact ⟨0, ul, uq, N, L, Q, rfl, by omega, HI1, hS⟩
      case round =>
        clear HI1 hS hLm hiQ hii
        obtain ⟨k, ul, uq, N, L, Q, rfl, hk, hI, hS⟩ := hrel
        have hiQ := hI.out.2
        have hLm := hI.out.1.1.le
        by_cases hkS : k < S.length
        · have hki : (k : Int) < (S.length : Int) := by omega
          have xg := hixg (k : Int) k rfl hkS
          have cg := (hS.oldII Hv.out).cell k hkS
          have xq := run_ix_sl (P := Try.prog) (hS.rd 1 (e := 30) rfl).sl 23 Try.und_iss Try.size_is .i64 (i : Int) (by omega) (by rw [hI.out.1.2.2.1]; omega)
          rw [Int.toNat_natCast] at xq
          have cq := (hS.rd 1 (e := 30) rfl).cell (i := i) (by rw [hI.out.1.2.2.1]; exact hiQ)
          rw [show uq.getD i undef = vat uq i from rfl] at cq
          have hN0 := hS.drew.sub (L' := N) ((List.sublist_cons_self _ _).trans (List.sublist_cons_self _ _))
          have hpS := HS.out _ (xat_mem hkS)
          have hpQ := (hI.out.1.1.bf.gen _ (xat_mem hiQ)).prm HS.out
          have KT := Lib.hid (l04TimesG_c (vat uq i) (vat ug k) (xat Q i) (xat S k) _ ((hI.out.1.2.2.2 _ hN0).2 i hiQ) ((hS.drew.oldII Hv.out).row k hkS) hpQ.1 (by rw [hpQ.2, hpS.2]) (by rw [hpQ.2]; omega))
          have hpp := hpQ.cmp hpS
          obtain ⟨p, hp⟩ : ∃ p, cmpL (xat Q i) (xat S k) = p := ⟨_, rfl⟩
          rw [hp] at KT hpp
          have Hp := Lib.hid hp
          have hSd := hS.drew
          have hplen := Lib.hid hpp.2
          clear hp hN0 hpS hpQ hpp
          go_wp2_with fail
          go_region_held3 (fun w' => w'.cell? (el u10 i) = some (vat uq i) ∧ w'.cell? (el vg k) = some (vat ug k)) (((try dsimp only); (repeat' apply And.intro); all_goals (repeat (first | assumption | exact cell_dr (by assumption) | refine cell_dr ?_ | refine cell_al ?_ | refine cell_sc (by assumption) ?_)))) (first
            | (go_at_call 68; refine KT.out.mono ?_; rintro e6 w6 ⟨vp, rfl, h6⟩; have hS6 := hSd.call h6; have cq := cell_keepS h6.below (cell_dr cq); have cg := cell_keepS h6.below (cell_dr cg)))
          have r6 := h6.rdI 0 rfl
          obtain ⟨ap, cp, hsh⟩ := r6.sl.sh
          rw [iv_len, hplen.out] at hsh
          subst hsh
          have hNN := Lib.hid (fun W (h : St w.heap.size w W (N ++ [row 2 (.slice ap n cp) (iv p)])) => (show (∀ j, j < L.length → RdI W (vat ul j) (xat L j)) ∧ (∀ j, j < Q.length → RdI W (vat uq j) (xat Q j)) ∧ RdI W (.slice ap n cp) p from
            ⟨(hI.out.1.2.2.2 W (h.sub (List.sublist_append_left _ _))).1, (hI.out.1.2.2.2 W (h.sub (List.sublist_append_left _ _))).2, (h.sub (List.sublist_append_right _ _)).rdI 0 rfl⟩))
          have hS7 := hS6.perm (L' := row 30 u9 ul :: row 30 u10 uq :: (N ++ [row 2 (.slice ap n cp) (iv p)])) (List.Perm.refl _)
          have hN7 := hNN.out _ (hS7.sub ((List.sublist_cons_self _ _).trans (List.sublist_cons_self _ _)))
          have hRL : RII w6 u9 ul L := ⟨hS7.rd 0 rfl, hI.out.1.2.1, hN7.1⟩
          have hlL := hRL.len
          have KF := Lib.hid (l05Find_c u9 (.slice ap n cp) ul L p w6 hRL hN7.2.2 (by omega))
          clear hS hSd KT h6 r6 hS6 cq cg xg xq
          go_wp2_with fail
          refine KF.out.mono ?_
          clear KF
          rintro e7 w7 ⟨m, b, rfl, hf, h7⟩
          have hS8 := hS7.call0 h7
          have hmL := hf.1
          have HF := Lib.hid hf
          clear hS7 h7 hf hRL hN7
          cases b
          · by_cases hmost : L.length = most
            · have fm : ((L.length : Int) == (most : Int)) = true := eq_t (by omega)
              have hbig := Lib.hid (hI.out.1.1.big hiQ hkS Hp.out (fun q => by have := (HF.out.mem hI.out.1.1.str q).1; cases this) hmost)
              clear hmost
              go_wp2_with fail
              go_ret2
              exact .inr ⟨rfl, hbig.out, hS8.out⟩
            · have fm : ((L.length : Int) == (most : Int)) = false := eq_f (by omega)
              have hnew := Lib.hid (hI.out.1.1.new hiQ hkS Hp.out HF.out hmL hmost)
              have hN8 := hNN.out _ (hS8.sub ((List.sublist_cons_self _ _).trans (List.sublist_cons_self _ _)))
              have KP := Lib.hid (l05Put_c u9 (.slice ap n cp) ul L p m w7 ⟨hS8.rd 0 rfl, hI.out.1.2.1, hN8.1⟩ hN8.2.2 hmL (by omega))
              have hul := Lib.hid hI.out.1.2.1
              have huq := Lib.hid hI.out.1.2.2.1
              have huN := Lib.hid (show uq.length < 4294967296 by rw [hI.out.1.2.2.1, ← hI.out.1.1.len]; omega)
              clear hmost hN8 hI
              go_wp2_with fail
              refine KP.out.mono ?_
              clear KP
              rintro e9 w9 ⟨v9, rfl, h9⟩
              have hS10 := ((hS8.sub (List.sublist_cons_self _ _)).call h9).perm (L' := row 30 v9 (ul.take m ++ [.slice ap n cp] ++ ul.drop m) :: row 30 u10 uq :: (N ++ [row 2 (.slice ap n cp) (iv p)])) List.perm_append_comm
              clear hS8 h9
              go_wp2_with (at_builtin; refine appII hS10 1 rfl huN.out rfl _ _ rfl rfl _ rfl (by first | rfl | simp [Act.eval, World.size_alloc]) ?_; intro v11 w11 hS11; simp only [List.set_cons_succ, List.set_cons_zero] at hS11)
              go_roundw
              case rel => exact ⟨k + 1, _, _, _, _, _, by go_num, by omega, Lib.hid ⟨⟨hnew.out, by rw [insA_len hmL]; simp only [List.length_append, List.length_take, List.length_drop, List.length_singleton]; have := hul.out; omega, by rw [List.length_append, List.length_append, huq.out]; rfl, fun W h => ⟨ins_rows hul.out (hNN.out W h).1 (hNN.out W h).2.2 hmL, app_rows huq.out (hNN.out W h).2.1 (hNN.out W h).2.2⟩⟩, by rw [List.length_append]; omega⟩, hS11⟩
              case measure => simp [intOf]; omega
          · have hold : Hid (ScI n S L Q i (k + 1) most) := Lib.hid ⟨hI.out.1.1.bf.old (by rw [Hp.out, ← hI.out.1.1.mem]; have := HF.out.2.1 rfl; rw [← this.2]; exact xat_mem this.1), hI.out.1.1.str, hI.out.1.1.mem, hI.out.1.1.len, hI.out.1.1.le⟩
            have hR : Hid (ScR w n S L Q i (k + 1) most ul uq (N ++ [row 2 (.slice ap n cp) (iv p)]) ∧ i < Q.length) := Lib.hid ⟨⟨hold.out, hI.out.1.2.1, hI.out.1.2.2.1, fun W h => ⟨(hNN.out W h).1, (hNN.out W h).2.1⟩⟩, hiQ⟩
            clear hI hold
            go_wp2_with fail
            go_roundw
            case rel => exact ⟨k + 1, ul, uq, _, L, Q, by go_num, by omega, hR, hS8⟩
            case measure => simp [intOf]; omega
        · obtain rfl : k = S.length := by omega
          have hR : Hid (ScR w n S L Q (i + 1) 0 most ul uq N) := Lib.hid ⟨⟨hI.out.1.1.bf.next hiQ, hI.out.1.1.str, hI.out.1.1.mem, hI.out.1.1.len, hI.out.1.1.le⟩, hI.out.1.2⟩
          clear hI
          go_wp2_with fail
          go_roundw
          case rel => exact ⟨i + 1, ul, uq, N, L, Q, by go_num, hR, hS⟩
          case measure => simp [intOf]; omega
    · have hki := hI.out.1.bf.kl
      obtain rfl : i = Q.length := by omega
      have HF := Lib.hid hI.out.1.fin
      have hRL : RII wr u9 ul L := ⟨hS.rd 0 rfl, hI.out.2.1, (hI.out.2.2.2 wr (hS.sub ((List.sublist_cons_self _ _).trans (List.sublist_cons_self _ _)))).1⟩
      have HR := Lib.hid hRL
      have hout := hS.out
      clear hI hRL hS
      go_wp2_with fail
      go_ret2
      exact .inl ⟨_, ul, L, rfl, HR.out, HF.out, hLm, hout⟩
end Go.Proofs.Ytegmjlblehjccaa
end

section
/- Walks: a group drawn. -/
namespace Go.Proofs.Ytegmjlblehjccaa
set_option linter.unusedSimpArgs false
set_option linter.unusedVariables false
open Go.RowKit
attribute [local go_sem ↓] Go.wp_at_zero Go.wp_at_succ

/-- a group as a value -/
def gvS (n : Int) (v : Value) : Value := .agg #[.int .i64 n, v]
theorem StrA.srt {A : List (List Int)} (h : StrA A) : srtL A = A := srtL_id (srtB_pw.2 (h.imp fun {a b} hlt => by unfold leL; exact decide_eq_true (by omega)))
theorem Grp.triv (n : Nat) : Grp n [iot n] := ⟨by unfold StrA; simp, fun p hp => by rw [List.mem_singleton.1 hp]; exact Prm.one n, by simp, fun p q hp hq => by
  rw [List.mem_singleton.1 hp, List.mem_singleton.1 hq, iot_cmp (iot_len n)]; simp⟩
def DrawG (w0 : World) (cv : Value) (g K : Nat) (L : List Ent) (e : Ending) (w' : World) : Prop := ∃ (n : Nat) (v : Value) (us : List Value) (A : List (List Int)), e = .returned (gvS n v) ∧ 1 ≤ n ∧ n ≤ 13 ∧ Grp n A ∧ A.length ≤ 720 ∧ us.length = A.length ∧ Src w0 w' cv g (K + 200) (own2 v us A ++ L)
set_option maxHeartbeats 16000000 in
set_option maxRecDepth 100000 in
theorem l05Draw_c (w0 w : World) (cv : Value) (bs : List UInt8) (g K : Nat) (L : List Ent) (hb : RdB w0 cv bs) (h : Src w0 w cv g K L) (hK : K < 10000000) :
    Calls Try.prog 20 #[.pointer (some ⟨g, 0, none⟩)] w (DrawG w0 cv g K L) := by
  have h1 := h.newboxF 25 #[.int .i64 0, .slice none 0 0]
  clear h
  go_enter Try.func20, Try.ntmps20
  go_wp2_with fail
  refine (l05Some_c w0 _ cv bs g _ _ hb h1 (by omega)).mono ?_
  rintro e w2 ⟨n, v, us, S, rfl, hn1, hn2, hl, hS, hS2, h2⟩
  have hR := h2.riiS (v := v) (us := us) (A := S) (List.sublist_append_left _ _) hl
  have KC := Lib.hid (l05Close_c n 720 v us S w2 hR hS (by omega) (by omega) (by omega))
  rw [show ((720 : Nat) : Int) = (720 : Int) from rfl] at KC
  have HS := Lib.hid hS
  have h3 := h2.sub (L' := box 25 w.heap.size [.int .i64 0, .slice none 0 0] :: L) (List.sublist_append_right _ _)
  clear h1 h2 hR hS hl
  go_wp2_with fail
  refine KC.out.mono ?_
  clear KC
  rintro e w3 (⟨v3, us3, R, rfl, r3, hcl, hRl, h4⟩ | ⟨rfl, _, h4⟩)
  · have hG := Lib.hid (hcl.grp HS.out)
    have h5 := h3.call0 h4
    have KS := Lib.hid (l10Sort_c v3 us3 R w3 r3 (by omega) (fun xs hx => by rw [(hG.out.prm xs hx).2]; omega))
    rw [hG.out.str.srt] at KS
    clear h3 h4 hcl r3
    go_wp2_with fail
    refine KS.out.mono ?_
    clear KS
    rintro e w4 ⟨v4, us4, rfl, hl4, h6⟩
    obtain ⟨a4, c4, hv4⟩ := (h6.rd 0 (e := 30) (v := v4) (us := us4) rfl).sl.sh
    rw [hl4] at hv4
    subst hv4
    have h7 := h5.call h6
    have c0 := h7.box 0 (e := 25) rfl 0 rfl
    have c1 := h7.box 0 (e := 25) rfl 1 rfl
    have f0 := h7.bfree 0 (e := 25) rfl 0
    have f1 := h7.bfree 0 (e := 25) rfl 1
    have h9 := (h7.bstore 0 (e := 25) rfl 0 (.int .i64 n)).bstore 0 (e := 25) rfl 1 (.slice a4 R.length c4)
    have d0 := h9.box 0 (e := 25) rfl 0 rfl
    have d1 := h9.box 0 (e := 25) rfl 1 rfl
    have h10 := (h9.sub (List.sublist_cons_self _ _)).perm (L' := own2 (.slice a4 R.length c4) us4 R ++ L) List.perm_append_comm
    have HL := Lib.hid hl4
    have HX := Lib.hid (h10.mono (K' := K + 200) (by omega))
    clear h5 h6 h7 h9 h10 hl4
    go_wp2_with fail
    refine bodyPost_ret (v := .agg #[.int .i64 n, .slice a4 R.length c4]) (by simp [results, Try.results20, go_sem, d0, d1]) rfl ?_
    exact ⟨n, _, us4, R, rfl, hn1, hn2, hG.out, hRl, HL.out, HX.out⟩
  · have h5 := h3.call0 h4
    have hG := Lib.hid (Grp.triv n)
    have KO := Lib.hid (l04One_c n w3 (by omega))
    clear h3 h4
    go_wp2_with fail
    refine KO.out.mono ?_
    clear KO
    rintro e w4 ⟨v4, rfl, h6⟩
    obtain ⟨a4, c4, hsh⟩ := (h6.rdI 0 rfl).sl.sh
    rw [iv_len, iot_len] at hsh
    subst hsh
    have h7 := (h6.new 30 #[.slice a4 n c4] (by simp [maxLen])).perm (L' := own2 (.slice (some ⟨w4.heap.size, 0, none⟩) 1 1) [.slice a4 n c4] [iot n]) List.perm_append_comm
    have r7 := h7.rii rfl
    have h8 := h5.call0 h7.out
    have KS := Lib.hid (l10Sort_c _ _ [iot n] _ r7 (by simp) (fun xs hx => by rw [(hG.out.prm xs hx).2]; omega))
    rw [hG.out.str.srt] at KS
    clear h5 h6 h7 r7
    go_wp2_with fail
    refine KS.out.mono ?_
    clear KS
    rintro e w5 ⟨v5, us5, rfl, hl5, h9⟩
    obtain ⟨a5, c5, hv5⟩ := (h9.rd 0 (e := 30) (v := v5) (us := us5) rfl).sl.sh
    rw [hl5, show [iot n].length = 1 from rfl] at hv5
    subst hv5
    have h7 := h8.call h9
    have c0 := h7.box 0 (e := 25) rfl 0 rfl
    have c1 := h7.box 0 (e := 25) rfl 1 rfl
    have f0 := h7.bfree 0 (e := 25) rfl 0
    have f1 := h7.bfree 0 (e := 25) rfl 1
    have hB := (h7.bstore 0 (e := 25) rfl 0 (.int .i64 n)).bstore 0 (e := 25) rfl 1 (.slice a5 1 c5)
    have d0 := hB.box 0 (e := 25) rfl 0 rfl
    have d1 := hB.box 0 (e := 25) rfl 1 rfl
    have h10 := (hB.sub (List.sublist_cons_self _ _)).perm (L' := own2 (.slice a5 1 c5) us5 [iot n] ++ L) List.perm_append_comm
    have HL := Lib.hid hl5
    have HX := Lib.hid (h10.mono (K' := K + 200) (by omega))
    clear h8 h9 h7 hB h10 hl5
    go_wp2_with fail
    refine bodyPost_ret (v := .agg #[.int .i64 n, .slice a5 1 c5]) (by simp [results, Try.results20, go_sem, d0, d1]) rfl ?_
    exact ⟨n, _, us5, [iot n], rfl, hn1, hn2, hG.out, by simp, HL.out, HX.out⟩
end Go.Proofs.Ytegmjlblehjccaa
end

section
/- Walks: a group of at most 120 permutations of at most 9 points. -/
namespace Go.Proofs.Ytegmjlblehjccaa
set_option linter.unusedSimpArgs false
set_option linter.unusedVariables false
open Go.RowKit
attribute [local go_sem ↓] Go.wp_at_zero Go.wp_at_succ

def kl4 : List (List Int) := [[0, 1, 2, 3], [1, 0, 3, 2], [2, 3, 0, 1], [3, 2, 1, 0]]
theorem kl4_grp : Grp 4 kl4 := by
  refine ⟨by unfold StrA kl4; decide, fun p hp => ?_, by decide, ?_⟩
  · have : ∀ p ∈ kl4, isPB p = true ∧ p.length = 4 := by decide
    exact ⟨isPB_t (this p hp).1, (this p hp).2⟩
  · have : ∀ p ∈ kl4, ∀ q ∈ kl4, cmpL p q ∈ kl4 := by decide
    exact fun p q hp hq => this p hp q hq
def MakesG9 (w : World) (e : Ending) (w' : World) : Prop := ∃ (n : Nat) (v : Value) (us : List Value) (A : List (List Int)), e = .returned (gvS n v) ∧ 1 ≤ n ∧ n ≤ 9 ∧ Grp n A ∧ A.length ≤ 120 ∧ RII w' v us A ∧ St w.heap.size w w' []
set_option maxHeartbeats 16000000 in
set_option maxRecDepth 100000 in
theorem V8Group_c (w : World) (cv : Value) (bs : List UInt8) (hb : RdB w cv bs) : Calls Try.prog 5 #[cv] w (MakesG9 w) := by
  have hS0 := (St.refl w).newboxF 25 #[.int .i64 0, .slice none 0 0]
  go_enter Try.func5, Try.ntmps5
  go_wp2_with fail
  refine (l00FromS w _ cv bs _ hb hS0).mono ?_
  rintro e w1 ⟨g, rfl, h1⟩
  clear hS0
  go_wp2_with fail
  refine (l05Draw_c w _ cv bs g _ _ hb h1 (by omega)).mono ?_
  rintro e w2 ⟨n, v, us, A, rfl, hn1, hn2, hG, hA7, hl, h2⟩
  obtain ⟨a, c, hv⟩ := (h2.rd 0 (e := 30) (v := v) (us := us) rfl).sl.sh
  rw [hl] at hv
  subst hv
  have h3 := ((h2.perm (L' := box 25 w.heap.size [.int .i64 0, .slice none 0 0] :: own2 (.slice a A.length c) us A) List.perm_append_comm).newboxF 25 #[.int .i64 n, .slice a A.length c])
  have hR := h3.riiS (v := .slice a A.length c) (us := us) (A := A) ((List.sublist_cons_self _ _).trans (List.sublist_cons_self _ _)) hl
  have hln := hR.len
  have b0 := h3.box 0 (e := 25) rfl 0 rfl
  have b1 := h3.box 0 (e := 25) rfl 1 rfl
  have c0 := h3.box 1 (e := 25) rfl 0 rfl
  have c1 := h3.box 1 (e := 25) rfl 1 rfl
  have f0 := h3.bfree 1 (e := 25) rfl 0
  have f1 := h3.bfree 1 (e := 25) rfl 1
  have HG := Lib.hid hG
  have Hl := Lib.hid hl
  clear h1 h2 hG hR hl
  unfold gvS
  by_cases hc : A.length ≤ 120 ∧ n ≤ 9
  · have g1 : ¬ (120 : Int) < (A.length : Int) := by omega
    have g2 : ¬ (9 : Int) < (n : Int) := by omega
    have h9 := (h3.bstore 1 (e := 25) rfl 0 (.int .i64 n)).bstore 1 (e := 25) rfl 1 (.slice a A.length c)
    have d0 := h9.box 1 (e := 25) rfl 0 rfl
    have d1 := h9.box 1 (e := 25) rfl 1 rfl
    have hR := h9.riiS (v := .slice a A.length c) (us := us) (A := A) ((List.sublist_cons_self _ _).trans (List.sublist_cons_self _ _)) Hl.out
    have hX := h9.st.out
    have HR := Lib.hid (And.intro hR hX)
    have Hc := Lib.hid hc
    clear h3 h9 hR hX hc
    go_wp2_with fail
    refine bodyPost_ret (v := .agg #[.int .i64 n, .slice a A.length c]) (by simp [results, Try.results5, go_sem, d0, d1]) rfl ?_
    exact ⟨n, _, us, A, rfl, hn1, Hc.out.2, HG.out, Hc.out.1, HR.out.1, HR.out.2⟩
  · have hN := ((((h3.st.new 2 #[.int .i64 0, .int .i64 1, .int .i64 2, .int .i64 3] (by simp [maxLen])).new 2 #[.int .i64 1, .int .i64 0, .int .i64 3, .int .i64 2] (by simp [maxLen])).new 2 #[.int .i64 2, .int .i64 3, .int .i64 0, .int .i64 1] (by simp [maxLen])).new 2 #[.int .i64 3, .int .i64 2, .int .i64 1, .int .i64 0] (by simp [maxLen])).new 30 #[.slice (some ⟨w2.heap.size + 1, 0, none⟩) 4 4, .slice (some ⟨w2.heap.size + 2, 0, none⟩) 4 4, .slice (some ⟨w2.heap.size + 3, 0, none⟩) 4 4, .slice (some ⟨w2.heap.size + 4, 0, none⟩) 4 4] (by simp [maxLen])
    simp only [World.size_alloc] at hN
    have hN2 := hN.perm (L' := box 25 w2.heap.size [.int .i64 n, .slice a A.length c] :: box 25 w.heap.size [.int .i64 0, .slice none 0 0] :: (own2 (.slice a A.length c) us A ++ [row 2 (.slice (some ⟨w2.heap.size + 1, 0, none⟩) 4 4) (iv [0, 1, 2, 3]), row 2 (.slice (some ⟨w2.heap.size + 2, 0, none⟩) 4 4) (iv [1, 0, 3, 2]), row 2 (.slice (some ⟨w2.heap.size + 3, 0, none⟩) 4 4) (iv [2, 3, 0, 1]), row 2 (.slice (some ⟨w2.heap.size + 4, 0, none⟩) 4 4) (iv [3, 2, 1, 0]), row 30 (.slice (some ⟨w2.heap.size + 5, 0, none⟩) 4 4) [.slice (some ⟨w2.heap.size + 1, 0, none⟩) 4 4, .slice (some ⟨w2.heap.size + 2, 0, none⟩) 4 4, .slice (some ⟨w2.heap.size + 3, 0, none⟩) 4 4, .slice (some ⟨w2.heap.size + 4, 0, none⟩) 4 4]])) (by
      refine List.Perm.of_eq ?_
      simp only [List.append_assoc, List.cons_append, List.nil_append]
      rfl)
    have e0 := hN2.bcell 1 rfl 0 rfl
    have e1 := hN2.bcell 1 rfl 1 rfl
    have ef := hN2.bfree 1 rfl
    have h9 := (hN2.bstore 1 rfl 0 (.int .i64 4)).bstore 1 rfl 1 (.slice (some ⟨w2.heap.size + 5, 0, none⟩) 4 4)
    have d0 := h9.bcell 1 rfl 0 rfl
    have d1 := h9.bcell 1 rfl 1 rfl
    have hR : RII _ (.slice (some ⟨w2.heap.size + 5, 0, none⟩) 4 4) _ kl4 := ((h9.sub ((List.sublist_append_right _ _).trans ((List.sublist_cons_self _ _).trans (List.sublist_cons_self _ _)))).perm (L' := own2 (.slice (some ⟨w2.heap.size + 5, 0, none⟩) 4 4) [.slice (some ⟨w2.heap.size + 1, 0, none⟩) 4 4, .slice (some ⟨w2.heap.size + 2, 0, none⟩) 4 4, .slice (some ⟨w2.heap.size + 3, 0, none⟩) 4 4, .slice (some ⟨w2.heap.size + 4, 0, none⟩) 4 4] kl4) (by
      show [_, _, _, _, _].Perm [_, _, _, _, _]
      exact List.perm_append_comm (l₁ := [_, _, _, _]) (l₂ := [_]))).rii rfl
    have HX := Lib.hid (And.intro hR h9.out)
    clear h3 hN hN2 h9 hR c0 c1 f0 f1
    by_cases hc1 : 120 < A.length
    · have g1 : (120 : Int) < (A.length : Int) := by omega
      go_wp2_with fail
      refine bodyPost_ret (v := .agg #[.int .i64 4, .slice (some ⟨w2.heap.size + 5, 0, none⟩) 4 4]) (by simp [results, Try.results5, go_sem, d0, d1]) rfl ?_
      exact ⟨4, _, _, kl4, rfl, by omega, by omega, kl4_grp, by decide, HX.out.1, HX.out.2⟩
    · have g1 : ¬ (120 : Int) < (A.length : Int) := by omega
      have g2 : (9 : Int) < (n : Int) := by omega
      go_wp2_with fail
      refine bodyPost_ret (v := .agg #[.int .i64 4, .slice (some ⟨w2.heap.size + 5, 0, none⟩) 4 4]) (by simp [results, Try.results5, go_sem, d0, d1]) rfl ?_
      exact ⟨4, _, _, kl4, rfl, by omega, by omega, kl4_grp, by decide, HX.out.1, HX.out.2⟩
end Go.Proofs.Ytegmjlblehjccaa
end

section
/- Plain: colorings with two colors, moved by permutations; Burnside's count. -/
namespace Go.Proofs.Ytegmjlblehjccaa
set_option linter.unusedSimpArgs false
set_option linter.unusedVariables false
open Go

/-- the coloring x moved by p, its first k places -/
def actK (p : Nat → Nat) (x : Nat) : Nat → Nat
  | 0 => 0
  | k + 1 => actK p x k ||| ((x >>> k &&& 1) <<< p k)
theorem bit_one (x k : Nat) : x >>> k &&& 1 = if x.testBit k = true then 1 else 0 := by
  have : x >>> k &&& 1 = (x >>> k) % 2 := Nat.and_one_is_mod _
  rw [this, Nat.testBit_eq_decide_div_mod_eq, Nat.shiftRight_eq_div_pow]
  by_cases h : x / 2 ^ k % 2 = 1
  · simp [h]
  · simp [h]; omega
theorem actK_bit (p : Nat → Nat) (x : Nat) : ∀ k b, (actK p x k).testBit b = true ↔ ∃ j, j < k ∧ p j = b ∧ x.testBit j = true
  | 0, b => by simp [actK]
  | k + 1, b => by
    rw [actK, Nat.testBit_or, Bool.or_eq_true, actK_bit p x k b, bit_one]
    constructor
    · rintro (⟨j, h1, h2, h3⟩ | h)
      · exact ⟨j, by omega, h2, h3⟩
      · by_cases hx : x.testBit k = true
        · rw [if_pos hx, Nat.testBit_shiftLeft, Bool.and_eq_true, decide_eq_true_eq] at h
          have h2 := h.2
          rw [Nat.testBit_one_eq_true_iff_self_eq_zero] at h2
          exact ⟨k, by omega, by omega, hx⟩
        · rw [if_neg hx] at h; simp at h
    · rintro ⟨j, h1, h2, h3⟩
      by_cases e : j = k
      · subst e
        right
        rw [if_pos h3, Nat.testBit_shiftLeft, Bool.and_eq_true, decide_eq_true_eq, Nat.testBit_one_eq_true_iff_self_eq_zero]
        omega
      · exact .inl ⟨j, by omega, h2, h3⟩
def act (n : Nat) (p : Nat → Nat) (x : Nat) : Nat := actK p x n
section
variable {n : Nat} {p q : Nat → Nat}
theorem act_bit (h : Bij n p) (x : Nat) {j : Nat} (hj : j < n) : (act n p x).testBit (p j) = x.testBit j := by
  rw [Bool.eq_iff_iff]
  unfold act
  rw [actK_bit]
  constructor
  · rintro ⟨i, hi, e, hx⟩
    rw [← h.inj i j hi hj e]; exact hx
  · intro hx; exact ⟨j, hj, rfl, hx⟩
theorem act_high (h : Bij n p) (x : Nat) {b : Nat} (hb : n ≤ b) : (act n p x).testBit b = false := by
  rw [← Bool.not_eq_true]
  unfold act
  rw [actK_bit]
  rintro ⟨j, hj, e, _⟩
  have := h.lt j hj; omega
theorem act_lt (h : Bij n p) (x : Nat) : act n p x < 2 ^ n := Nat.lt_pow_two_of_testBit _ fun b hb => act_high h x hb
theorem high_bit {x b : Nat} (hx : x < 2 ^ n) (hb : n ≤ b) : x.testBit b = false := Nat.testBit_lt_two_pow (Nat.lt_of_lt_of_le hx (Nat.pow_le_pow_right (by omega) hb))
theorem act_comp (h : Bij n p) (hq : Bij n q) (x : Nat) : act n q (act n p x) = act n (fun j => q (p j)) x := by
  have hc := bij_comp h hq
  apply Nat.eq_of_testBit_eq
  intro b
  rcases Nat.lt_or_ge b n with hb | hb
  · obtain ⟨j, hj, e⟩ := hc.onto hb
    rw [← e, act_bit hc x hj, act_bit hq _ (h.lt j hj), act_bit h x hj]
  · rw [act_high hq _ hb, act_high hc _ hb]
theorem act_congr (h : Bij n p) (hpq : ∀ j, j < n → p j = q j) (x : Nat) : act n p x = act n q x := by
  unfold act
  have : ∀ k, k ≤ n → actK p x k = actK q x k := fun k => by
    induction k with
    | zero => intro _; rfl
    | succ k ih => intro hk; rw [actK, actK, ih (by omega), hpq k (by omega)]
  exact this n (Nat.le_refl _)
theorem act_fix (h : Bij n p) {x : Nat} (hx : x < 2 ^ n) : act n p x = x ↔ ∀ j, j < n → x.testBit (p j) = x.testBit j := by
  constructor
  · intro e j hj
    have := act_bit h x hj
    rw [e] at this; exact this
  · intro hf
    apply Nat.eq_of_testBit_eq
    intro b
    rcases Nat.lt_or_ge b n with hb | hb
    · obtain ⟨j, hj, e⟩ := h.onto hb
      rw [← e, act_bit h x hj, hf j hj]
    · rw [act_high h _ hb, high_bit hx hb]
/-! ### how many colorings a permutation leaves as they are -/
def fixB (n : Nat) (p : Nat → Nat) (x : Nat) : Bool := decide (∀ j, j < n → x.testBit (p j) = x.testBit j)
def fixN (n : Nat) (p : Nat → Nat) : Nat := ((List.range (2 ^ n)).filter (fixB n p)).length
theorem fix_step (h : Bij (n + 1) p) {x : Nat} (hx : x < 2 ^ n) (b : Bool) {X : Nat} (hX : ∀ j, j < n → X.testBit j = x.testBit j) (hXn : X.testBit n = b) : fixB (n + 1) p X = (fixB n (byp p n) x && (decide (p n = n) || (x.testBit (p n) == b))) := by
  rw [Bool.eq_iff_iff, Bool.and_eq_true, Bool.or_eq_true, decide_eq_true_eq, beq_iff_eq]
  unfold fixB
  rw [decide_eq_true_eq, decide_eq_true_eq]
  by_cases hp : p n = n
  · have hby : ∀ j, j < n → byp p n j = p j ∧ p j < n := fun j hj => by
      have h1 := h.lt j (by omega)
      have h2 : p j ≠ n := fun e => by have := h.inj j n (by omega) (by omega) (by rw [e, hp]); omega
      unfold byp
      rw [if_neg h2]; exact ⟨rfl, by omega⟩
    constructor
    · intro hf
      refine ⟨fun j hj => ?_, .inl hp⟩
      have := hf j (by omega)
      rw [hX j hj, hX _ (hby j hj).2] at this
      rw [(hby j hj).1]; exact this
    · rintro ⟨hf, _⟩ j hj
      by_cases e : j = n
      · subst e; rw [hp]
      · rw [hX j (by omega), hX _ (hby j (by omega)).2, ← (hby j (by omega)).1]
        exact hf j (by omega)
  · have hc : p n < n := by have := h.lt n (by omega); omega
    constructor
    · intro hf
      have h1 := hf n (by omega)
      rw [hX _ hc, hXn] at h1
      refine ⟨fun j hj => ?_, .inr h1⟩
      unfold byp
      have h2 := hf j (by omega)
      rw [hX j hj] at h2
      by_cases e : p j = n
      · rw [if_pos e, h1, ← h2, e, hXn]
      · have := h.lt j (by omega)
        rw [if_neg e, ← hX _ (show p j < n by omega)]; exact h2
    · rintro ⟨hf, h1⟩ j hj
      have h1 : x.testBit (p n) = b := by
        rcases h1 with h1 | h1
        · exact absurd h1 hp
        · exact h1
      by_cases e : j = n
      · subst e; rw [hX _ hc, hXn, h1]
      · have h2 := hf j (by omega)
        unfold byp at h2
        by_cases e2 : p j = n
        · rw [if_pos e2] at h2
          rw [e2, hXn, hX j (by omega), ← h2, h1]
        · have := h.lt j (by omega)
          rw [if_neg e2] at h2
          rw [hX j (by omega), hX _ (by omega)]; exact h2
theorem split_len (f g : Nat → Bool) : ∀ X : List Nat, (X.filter fun x => f x && (g x == false)).length + (X.filter fun x => f x && (g x == true)).length = (X.filter f).length
  | [] => rfl
  | x :: X => by
    have ih := split_len f g X
    rw [List.filter_cons, List.filter_cons, List.filter_cons]
    cases f x <;> cases g x
    · exact ih
    · exact ih
    · show ((x :: _).length + _ = (x :: _).length)
      rw [List.length_cons, List.length_cons]
      have : (false == true) = false := rfl
      simp only [this, Bool.and_false, Bool.false_eq_true, if_false]
      omega
    · have : (true == false) = false := rfl
      simp only [this, Bool.and_false, Bool.false_eq_true, if_false, beq_self_eq_true, Bool.and_self, if_true, List.length_cons]
      omega
theorem fixN_eq : ∀ (n : Nat) (p : Nat → Nat), Bij n p → fixN n p = 2 ^ cyc n p
  | 0, p, _ => by simp [fixN, fixB, cyc]
  | n + 1, p, h => by
    have ih := fixN_eq n (byp p n) (byp_bij h)
    rw [cyc_byp h, Nat.pow_add, ← ih]
    unfold fixN
    rw [show 2 ^ (n + 1) = 2 ^ n + 2 ^ n by rw [Nat.pow_succ]; omega, List.range_add, List.filter_append, List.length_append, List.filter_map, List.length_map]
    have e1 : (List.range (2 ^ n)).filter (fixB (n + 1) p) = (List.range (2 ^ n)).filter fun x => fixB n (byp p n) x && (decide (p n = n) || (x.testBit (p n) == false)) :=
      List.filter_congr fun x hx => fix_step h (List.mem_range.1 hx) false (fun _ _ => rfl) (high_bit (List.mem_range.1 hx) (Nat.le_refl _))
    have e2 : (List.range (2 ^ n)).filter (fixB (n + 1) p ∘ fun x => 2 ^ n + x) = (List.range (2 ^ n)).filter fun x => fixB n (byp p n) x && (decide (p n = n) || (x.testBit (p n) == true)) :=
      List.filter_congr fun x hx => by
        refine fix_step h (List.mem_range.1 hx) true (fun j hj => Nat.testBit_two_pow_add_gt hj x) ?_
        rw [Nat.testBit_two_pow_add_eq, high_bit (List.mem_range.1 hx) (Nat.le_refl _)]; rfl
    rw [e1, e2]
    by_cases hp : p n = n
    · simp only [hp, decide_true, Bool.true_or, Bool.and_true, if_true]
      rw [show (fun x => fixB n (byp p n) x) = fixB n (byp p n) from rfl]
      omega
    · simp only [hp, decide_false, Bool.false_or, if_false, Nat.pow_zero, Nat.mul_one]
      exact split_len (fixB n (byp p n)) (fun x => x.testBit (p n)) _
end
end Go.Proofs.Ytegmjlblehjccaa
end

section
/- Plain: Burnside's count of the orbits of colorings. -/
namespace Go.Proofs.Ytegmjlblehjccaa
set_option linter.unusedSimpArgs false
set_option linter.unusedVariables false
open Go

def acL (n : Nat) (p : List Int) (x : Nat) : Nat := act n (pf p) x
theorem Prm.bij {n : Nat} {p : List Int} (h : Prm n p) : Bij n (pf p) := by have := h.1.bij; rwa [h.2] at this
theorem acL_lt {n : Nat} {p : List Int} (h : Prm n p) (x : Nat) : acL n p x < 2 ^ n := act_lt h.bij x
theorem acL_cmp {n : Nat} {p q : List Int} (hp : Prm n p) (hq : Prm n q) (x : Nat) : acL n (cmpL p q) x = acL n q (acL n p x) := by
  unfold acL
  rw [act_comp hp.bij hq.bij x]
  exact act_congr (hp.cmp hq).bij (fun j hj => pf_cmpL (by rw [hp.2]; exact hj)) x
theorem acL_one {n x : Nat} (hx : x < 2 ^ n) : acL n (iot n) x = x := by
  unfold acL
  refine (act_fix (Prm.one n).bij hx).2 fun j hj => ?_
  have : pf (iot n) j = j := by unfold pf; rw [nth_iot hj, Int.toNat_natCast]
  rw [this]
theorem acL_back {n x : Nat} {p : List Int} (hp : Prm n p) (hx : x < 2 ^ n) : acL n (invL p) (acL n p x) = x := by
  have hi : Prm n (invL p) := ⟨hp.1.inv, by rw [invL_len, hp.2]⟩
  rw [← acL_cmp hp hi, cmp_inv hp.1, hp.2, acL_one hx]
/-! ### sums -/
theorem sum_swap {α β : Type} (R : α → β → Bool) (X : List β) : ∀ A : List α, (A.map fun p => (X.filter fun x => R p x).length).sum = (X.map fun x => (A.filter fun p => R p x).length).sum
  | [] => by
    simp only [List.map_nil, List.sum_nil, List.filter_nil, List.length_nil]
    induction X with
    | nil => rfl
    | cons x X ih => simp only [List.map_cons, List.sum_cons, ← ih, Nat.zero_add]
  | p :: A => by
    rw [List.map_cons, List.sum_cons, sum_swap R X A]
    clear sum_swap
    induction X with
    | nil => rfl
    | cons x X ih =>
      rw [List.map_cons, List.sum_cons, List.map_cons, List.sum_cons, List.filter_cons, List.filter_cons]
      cases R p x
      · simp only [Bool.false_eq_true, if_false]; omega
      · simp only [if_true, List.length_cons]; omega
theorem filter_one {α : Type} [DecidableEq α] {a : α} : ∀ {Y : List α}, Y.Nodup → a ∈ Y → (Y.filter fun x => decide (a = x)).length = 1
  | [], _, h => absurd h (by simp)
  | y :: Y, hn, h => by
    obtain ⟨h1, h2⟩ := List.nodup_cons.1 hn
    by_cases e : a = y
    · subst e
      have : (Y.filter fun x => decide (a = x)) = [] := by
        rw [List.filter_eq_nil_iff]
        intro x hx q
        have : a = x := by simpa using q
        exact h1 (this ▸ hx)
      rw [List.filter_cons_of_pos (by simp), this]; rfl
    · rw [List.filter_cons_of_neg (by simpa using e)]
      refine filter_one h2 ?_
      rcases List.mem_cons.1 h with q | q
      · exact absurd q e
      · exact q
theorem sum_ones {α : Type} {f : α → Nat} : ∀ {A : List α}, (∀ p ∈ A, f p = 1) → (A.map f).sum = A.length
  | [], _ => rfl
  | p :: A, h => by rw [List.map_cons, List.sum_cons, h p (by simp), sum_ones (A := A) fun q hq => h q (by simp [hq]), List.length_cons]; omega
theorem len_inj {B C : List (List Int)} (hB : B.Nodup) (f : List Int → List Int) (hf : ∀ b ∈ B, f b ∈ C) (hi : ∀ a ∈ B, ∀ b ∈ B, f a = f b → a = b) : B.length ≤ C.length := by
  have hnm : (B.map f).Nodup := by
    rw [List.nodup_iff_pairwise_ne, List.pairwise_map]
    rw [List.nodup_iff_pairwise_ne] at hB
    refine (List.Pairwise.and_mem.1 hB).imp ?_
    rintro x y ⟨hx, hy, hne⟩ e
    exact hne (hi x hx y hy e)
  have := hnm.length_le_of_subset (l₂ := C) (by
    intro x hx
    obtain ⟨a, ha, rfl⟩ := List.mem_map.1 hx
    exact hf a ha)
  rwa [List.length_map] at this
/-! ### orbits -/
def leastB (n : Nat) (A : List (List Int)) (x : Nat) : Bool := decide (∀ p ∈ A, x ≤ acL n p x)
def leastL (n : Nat) (A : List (List Int)) : List Nat := (List.range (2 ^ n)).filter (leastB n A)
def stN (n : Nat) (A : List (List Int)) (x : Nat) : Nat := (A.filter fun p => decide (acL n p x = x)).length
def mnO (n : Nat) (A : List (List Int)) (x : Nat) : Nat := (A.map fun p => acL n p x).foldr min x
theorem mn_le (x : Nat) : ∀ {l : List Nat} {y : Nat}, y ∈ l → l.foldr min x ≤ y
  | z :: l, y, h => by
    rw [List.foldr_cons]
    rcases List.mem_cons.1 h with rfl | h
    · exact Nat.min_le_left _ _
    · exact Nat.le_trans (Nat.min_le_right _ _) (mn_le x h)
theorem mn_mem (x : Nat) : ∀ l : List Nat, l.foldr min x = x ∨ l.foldr min x ∈ l
  | [] => .inl rfl
  | z :: l => by
    rw [List.foldr_cons]
    rcases Nat.le_total z (l.foldr min x) with h | h
    · rw [Nat.min_eq_left h]; exact .inr (by simp)
    · rw [Nat.min_eq_right h]
      rcases mn_mem x l with e | e
      · exact .inl e
      · exact .inr (List.mem_cons_of_mem _ e)
section
variable {n : Nat} {A : List (List Int)}
theorem mnO_le {x : Nat} {p : List Int} (hp : p ∈ A) : mnO n A x ≤ acL n p x := mn_le x (List.mem_map.2 ⟨p, hp, rfl⟩)
theorem Grp.mnO_at (h : Grp n A) {x : Nat} (hx : x < 2 ^ n) : ∃ p ∈ A, acL n p x = mnO n A x := by
  rcases mn_mem x (A.map fun p => acL n p x) with e | e
  · exact ⟨iot n, h.one, by rw [acL_one hx]; exact e.symm⟩
  · obtain ⟨p, hp, e⟩ := List.mem_map.1 e; exact ⟨p, hp, e⟩
theorem Grp.mnO_least (h : Grp n A) {x : Nat} (hx : x < 2 ^ n) : mnO n A x ∈ leastL n A := by
  obtain ⟨q, hq, e⟩ := h.mnO_at hx
  refine List.mem_filter.2 ⟨List.mem_range.2 (by rw [← e]; exact acL_lt (h.prm q hq) x), ?_⟩
  unfold leastB
  rw [decide_eq_true_eq]
  intro p hp
  have : acL n p (mnO n A x) = acL n (cmpL q p) x := by rw [acL_cmp (h.prm q hq) (h.prm p hp), e]
  rw [this]
  exact mnO_le (h.mul q p hq hp)
theorem Grp.mnO_of (h : Grp n A) {m : Nat} (hm : m ∈ leastL n A) {p : List Int} (hp : p ∈ A) : mnO n A (acL n p m) = m := by
  obtain ⟨hm1, hm2⟩ := List.mem_filter.1 hm
  have hm1 := List.mem_range.1 hm1
  unfold leastB at hm2
  rw [decide_eq_true_eq] at hm2
  have h1 : mnO n A (acL n p m) ≤ m := by
    have := mnO_le (n := n) (x := acL n p m) (h.inv hp)
    rwa [acL_back (h.prm p hp) hm1] at this
  obtain ⟨q, hq, e⟩ := h.mnO_at (acL_lt (h.prm p hp) m)
  have h2 := hm2 _ (h.mul p q hp hq)
  rw [acL_cmp (h.prm p hp) (h.prm q hq), e] at h2
  omega
/-- as many elements lead from m to y as leave y -/
theorem Grp.st_eq (h : Grp n A) {m : Nat} (hm : m < 2 ^ n) {p0 : List Int} (hp0 : p0 ∈ A) : (A.filter fun p => decide (acL n p m = acL n p0 m)).length = stN n A (acL n p0 m) := by
  have hP := h.prm p0 hp0
  have hi := h.inv hp0
  have hI := h.prm _ hi
  have hnd := h.str.nodup
  apply Nat.le_antisymm
  · refine len_inj (hnd.sublist List.filter_sublist) (fun p => cmpL (invL p0) p) (fun p hp => ?_) (fun a ha b hb e => ?_)
    · rw [List.mem_filter, decide_eq_true_eq] at hp ⊢
      refine ⟨h.mul _ _ hi hp.1, ?_⟩
      rw [acL_cmp hI (h.prm p hp.1), acL_back hP hm, hp.2]
    · exact (h.prm a (List.mem_filter.1 ha).1).left (h.prm b (List.mem_filter.1 hb).1) hI e
  · refine len_inj (hnd.sublist List.filter_sublist) (fun p => cmpL p0 p) (fun p hp => ?_) (fun a ha b hb e => ?_)
    · rw [List.mem_filter, decide_eq_true_eq] at hp ⊢
      refine ⟨h.mul _ _ hp0 hp.1, ?_⟩
      rw [acL_cmp hP (h.prm p hp.1), hp.2]
    · exact (h.prm a (List.mem_filter.1 ha).1).left (h.prm b (List.mem_filter.1 hb).1) hP e
theorem Grp.fib (h : Grp n A) {m : Nat} (hm : m ∈ leastL n A) : (((List.range (2 ^ n)).filter fun x => decide (mnO n A x = m)).map (stN n A)).sum = A.length := by
  have hm1 := List.mem_range.1 (List.mem_filter.1 hm).1
  have e1 : (((List.range (2 ^ n)).filter fun x => decide (mnO n A x = m)).map (stN n A)) = (((List.range (2 ^ n)).filter fun x => decide (mnO n A x = m)).map fun x => (A.filter fun p => decide (acL n p m = x)).length) := by
    refine List.map_congr_left fun x hx => ?_
    obtain ⟨hx1, hx2⟩ := List.mem_filter.1 hx
    have hx1 := List.mem_range.1 hx1
    rw [decide_eq_true_eq] at hx2
    obtain ⟨q, hq, e⟩ := h.mnO_at hx1
    rw [hx2] at e
    have hxe : x = acL n (invL q) m := by rw [← e, acL_back (h.prm q hq) hx1]
    rw [hxe]
    exact (h.st_eq hm1 (h.inv hq)).symm
  rw [e1, ← sum_swap (fun p x => decide (acL n p m = x))]
  refine sum_ones fun p hp => filter_one (List.nodup_range.sublist List.filter_sublist) (List.mem_filter.2 ⟨List.mem_range.2 (acL_lt (h.prm p hp) m), ?_⟩)
  rw [decide_eq_true_eq]; exact h.mnO_of hm hp
/-- Burnside -/
theorem Grp.burn (h : Grp n A) : (A.map fun p => 2 ^ cyc n (pf p)).sum = (leastL n A).length * A.length := by
  have e1 : (A.map fun p => 2 ^ cyc n (pf p)) = (A.map fun p => ((List.range (2 ^ n)).filter fun x => decide (acL n p x = x)).length) := by
    refine List.map_congr_left fun p hp => ?_
    rw [← fixN_eq n (pf p) (h.prm p hp).bij]
    unfold fixN
    congr 1
    refine List.filter_congr fun x hx => ?_
    unfold fixB
    rw [Bool.eq_iff_iff, decide_eq_true_eq, decide_eq_true_eq]
    exact (act_fix (h.prm p hp).bij (List.mem_range.1 hx)).symm
  rw [e1, sum_swap (fun p x => decide (acL n p x = x))]
  exact fibre_w (w := stN n A) (f := mnO n A) (c := A.length) (leastL n A) (List.range (2 ^ n)) (List.nodup_range.sublist List.filter_sublist) (fun x hx => h.mnO_least (List.mem_range.1 hx)) (fun m hm => h.fib hm)
end
end Go.Proofs.Ytegmjlblehjccaa
end

section
/- Plain: one step of a moved coloring, in machine words. -/
namespace Go.Proofs.Ytegmjlblehjccaa
set_option linter.unusedSimpArgs false
set_option linter.unusedVariables false
open Go Go.RowKit

theorem i64_or_n (a b : Nat) (ha : a < 9223372036854775808) (hb : b < 9223372036854775808) : bits .or .i64 (a : Int) (b : Int) = ((a ||| b : Nat) : Int) := by
  have hx : a ||| b < 2 ^ 63 := Nat.or_lt_two_pow (by omega) (by omega)
  show IntKind.i64.wrap ((BitVec.ofInt 64 (a : Int) ||| BitVec.ofInt 64 (b : Int)).toNat : Int) = _
  rw [BitVec.toNat_or, ofInt_u64 a (by omega), ofInt_u64 b (by omega), IntKind.wrap_i64]
  omega
theorem i64_and_n (a b : Nat) (ha : a < 9223372036854775808) (hb : b < 9223372036854775808) : bits .and .i64 (a : Int) (b : Int) = ((a &&& b : Nat) : Int) := by
  have hx : a &&& b < 2 ^ 63 := Nat.and_lt_two_pow _ (by omega)
  show IntKind.i64.wrap ((BitVec.ofInt 64 (a : Int) &&& BitVec.ofInt 64 (b : Int)).toNat : Int) = _
  rw [BitVec.toNat_and, ofInt_u64 a (by omega), ofInt_u64 b (by omega), IntKind.wrap_i64]
  omega
theorem act_word (x k pk y : Nat) (hx : x < 512) (hpk : pk ≤ 9) (hy : y < 512) :
    bits .or .i64 (y : Int) (wrap64 (bits .and .i64 ((x : Int) / 2 ^ k) 1 * 2 ^ min (IntKind.u64.wrap (pk : Int)).toNat 64)) = ((y ||| ((x >>> k &&& 1) <<< pk) : Nat) : Int) := by
  have e1 : (x : Int) / 2 ^ k = ((x >>> k : Nat) : Int) := by
    rw [Nat.shiftRight_eq_div_pow, Int.natCast_ediv, Int.natCast_pow]; rfl
  have hxk : x >>> k ≤ x := Nat.shiftRight_le _ _
  have e2 : bits .and .i64 ((x >>> k : Nat) : Int) 1 = ((x >>> k &&& 1 : Nat) : Int) := i64_and_n (x >>> k) 1 (by omega) (by omega)
  have e3 : IntKind.u64.wrap (pk : Int) = (pk : Int) := IntWalk.u64_in _ (by omega)
  have hb : x >>> k &&& 1 ≤ 1 := Nat.and_le_right
  have hp : 2 ^ pk ≤ 512 := Nat.le_trans (Nat.pow_le_pow_right (by omega) hpk) (by decide)
  have hm : (x >>> k &&& 1) * 2 ^ pk ≤ 1 * 512 := Nat.mul_le_mul hb hp
  rw [e1, e2, e3, Int.toNat_natCast, Nat.min_eq_left (by omega)]
  have e4 : ((x >>> k &&& 1 : Nat) : Int) * 2 ^ pk = (((x >>> k &&& 1) <<< pk : Nat) : Int) := by
    rw [Nat.shiftLeft_eq, Int.natCast_mul, Int.natCast_pow]; rfl
  rw [e4]
  have e5 : (x >>> k &&& 1) <<< pk ≤ 512 := by rw [Nat.shiftLeft_eq]; omega
  rw [IntWalk.wrap64_in _ (by omega)]
  exact i64_or_n _ _ (by omega) (by omega)
theorem actK_lt {n : Nat} {p : Nat → Nat} (h : Bij n p) (x : Nat) {k : Nat} (hk : k ≤ n) : actK p x k < 2 ^ n :=
  Nat.lt_pow_two_of_testBit _ fun b hb => by
    rw [← Bool.not_eq_true, actK_bit]
    rintro ⟨j, hj, e, _⟩
    have := h.lt j (by omega); omega
end Go.Proofs.Ytegmjlblehjccaa
end
