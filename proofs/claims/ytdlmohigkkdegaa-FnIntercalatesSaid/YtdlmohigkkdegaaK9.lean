/- The texts of this claim, run 9: It5 It2 It3 V8l Eqs8 LInt Prf PFnIntercalates. -/
import Derived.Test.YtdlmohigkkdegaaK4
import Derived.Test.YtdlmohigkkdegaaK5
import Derived.Test.YtdlmohigkkdegaaK7
import Derived.Test.YtdlmohigkkdegaaK8
import Derived.WalkKit
import Derived.Maps.OwnSet
import Derived.Maps.Views
import Derived.ProofKit
import Derived.OpenShut
import Derived.ShutString
import Derived.ChangeOld
import Derived.Below
section
/- Walks: the parities of a Latin square. -/
namespace Go.Proofs.Ytdlmohigkkdegaa
set_option linter.unusedSimpArgs false
set_option linter.unusedVariables false
open Go.RowKit
attribute [local go_sem ↓] Go.wp_at_zero Go.wp_at_succ

theorem oddN_le (n : Nat) (p : Nat → Nat → Nat) (m : Nat) : oddN n p m ≤ 1 := by rcases oddN_prs n p m with h | h <;> omega
set_option maxHeartbeats 4000000 in
set_option maxRecDepth 100000 in
theorem oddCount_c (v : Value) (us : List Value) (X : List (List Int)) (n : Nat) (w : World) (hv : RII w v us X) (hX : ∀ k, k < X.length → (xat X k).length = n ∧ IsP (xat X k)) (hn : n ≤ 32) :
    Calls Try.prog 62 #[v] w (GivesI w (oddN n (fun r => pf (xat X r)) X.length)) := by
  have hln := hv.len
  have hix := hv.ixe
  have hle := hv.le
  have HX := Lib.hid hX
  clear hX
  go_enter Try.func62, Try.ntmps62
  go_wp2_with fail
  go_loopw [8, 3, 5] (fun i o _ wr => ∃ k : Nat, k ≤ X.length ∧ i = .int .i64 k ∧ o = .int .i64 (oddN n (fun r => pf (xat X r)) k) ∧ St w.heap.size w wr []) (fun i _ _ _ => X.length - (intOf i).toNat)
  case atStart => exact ⟨0, by omega, rfl, rfl, St.refl w⟩
  case round =>
    obtain ⟨k, hk, rfl, rfl, hS⟩ := hrel
    by_cases hlt : k < X.length
    · have hc := (hS.oldII hv).cell k hlt
      have hx := hix (k : Int) k rfl hlt
      have hki : (k : Int) < (X.length : Int) := by omega
      obtain ⟨h1, h2⟩ := HX.out k hlt
      have KS := Lib.hid (SignOf_c (vat us k) (xat X k) wr ((hS.oldII hv).row k hlt) (pvB_yes (by omega) h2))
      have hsg : sgL (xat X k) = sgn n (pf (xat X k)) := by unfold sgL; rw [h1]
      rw [hsg] at KS
      have HO := Lib.hid (show oddN n (fun r => pf (xat X r)) (k + 1) = if sgn n (pf (xat X k)) < 0 then 1 - oddN n (fun r => pf (xat X r)) k else oddN n (fun r => pf (xat X r)) k from rfl)
      have hb := oddN_le n (fun r => pf (xat X r)) k
      generalize oddN n (fun r => pf (xat X r)) k = q at *
      generalize sgn n (pf (xat X k)) = z at *
      clear h1 h2 hsg
      have q1 : IntKind.i64.wrap (1 - (q : Int)) = ((1 - q : Nat) : Int) := by rw [IntWalk.i64_in _ (by omega)]; omega
      by_cases hz : z < 0
      · have HO2 : Hid (oddN n (fun r => pf (xat X r)) (k + 1) = 1 - q) := Lib.hid (by rw [HO.out, if_pos hz])
        go_wp2_with (go_at_call 94; refine KS.out.mono ?_; rintro e2 w2 ⟨rfl, h2⟩; have hS2 := hS.call0 h2)
        go_roundw
        case rel => exact ⟨k + 1, by omega, by go_num, by rw [HO2.out], hS2⟩
        case measure => simp [intOf]; omega
      · have HO2 : Hid (oddN n (fun r => pf (xat X r)) (k + 1) = q) := Lib.hid (by rw [HO.out, if_neg hz])
        go_wp2_with (go_at_call 94; refine KS.out.mono ?_; rintro e2 w2 ⟨rfl, h2⟩; have hS2 := hS.call0 h2)
        go_roundw
        case rel => exact ⟨k + 1, by omega, by go_num, by rw [HO2.out], hS2⟩
        case measure => simp [intOf]; omega
    · obtain rfl : k = X.length := by omega
      go_wp2_with fail
      go_ret
      exact ⟨rfl, hS⟩
/-! ### the three parities -/
/-- the columns of all symbols -/
def symL (A : List (List Int)) : List (List Int) := (List.range A.length).map fun s : Nat => colsL A (s : Int)
theorem symL_len (A : List (List Int)) : (symL A).length = A.length := by simp [symL]
theorem xat_symL {A : List (List Int)} {s : Nat} (h : s < A.length) : xat (symL A) s = colsL A s := by simp [symL, xat, h]
theorem symL_take {A : List (List Int)} {s : Nat} (h : s < A.length) : (symL A).take (s + 1) = (symL A).take s ++ [colsL A s] := by rw [take_xat (by rw [symL_len]; exact h), xat_symL h]
/-- the columns as rows -/
def tpL (A : List (List Int)) : List (List Int) := sqF A.length fun y x => at2 A x y
theorem tpL_row {A : List (List Int)} (hA : Lat A) {y : Nat} (hy : y < A.length) : xat (tpL A) y = colL A y := by
  unfold tpL; rw [xat_sqF hy]
  exact nth_ext (by rw [tab_len, colL_len]) fun j hj => by rw [tab_len] at hj; rw [nth_colL hj]; simp [tab, nth, hj]
/-- the parities -/
noncomputable def parL (A : List (List Int)) : List Int := [(oddN A.length (fun r => pf (xat A r)) A.length : Int), (oddN A.length (fun r => pf (xat (tpL A) r)) A.length : Int), (oddN A.length (fun r => pf (xat (symL A) r)) A.length : Int)]
theorem oddN_congr {n : Nat} {p q : Nat → Nat → Nat} : ∀ {m : Nat}, (∀ r, r < m → Bij n (p r) ∧ ∀ x, x < n → p r x = q r x) → oddN n p m = oddN n q m
  | 0, _ => rfl
  | m + 1, h => by
    rw [oddN, oddN, oddN_congr fun r hr => h r (by omega), sgn_congr (h m (by omega)).1 (h m (by omega)).2]
/-- their sum -/
theorem par_law {A : List (List Int)} (hA : Lat A) : (nth (parL A) 0 + nth (parL A) 1 + nth (parL A) 2) % 2 = ((A.length * (A.length - 1) / 2 % 2 : Nat) : Int) := by
  have L := hA.latin
  have h3 : ∀ s, s < A.length → Bij A.length (pf (colsL A s)) := fun s hs => by have := (colsL_isP hA hs).bij; rwa [colsL_len] at this
  have h := par_odd (n := A.length) (a := af A) (σ := fun s => pf (colsL A s)) L.row L.col h3 (fun r c hr hc => by
    have h0 := hA.sq0.el r c hr hc
    have := colsL_at hA hr hc (s := at2 A r c) rfl
    show pf (colsL A ((af A r c : Nat) : Int)) r = c
    rw [show ((af A r c : Nat) : Int) = at2 A r c by unfold af; omega]
    unfold pf; omega)
  have e1 : oddN A.length (fun r => pf (xat A r)) A.length = oddN A.length (af A) A.length := rfl
  have e2 : oddN A.length (fun r => pf (xat (tpL A) r)) A.length = oddN A.length (fun c r => af A r c) A.length := oddN_congr fun r hr => by
    rw [tpL_row hA hr]
    have hb := (hA.col r hr).bij
    rw [colL_len] at hb
    exact ⟨hb, fun x hx => by unfold pf af; rw [nth_colL hx]⟩
  have e3 : oddN A.length (fun r => pf (xat (symL A) r)) A.length = oddN A.length (fun s => pf (colsL A s)) A.length := oddN_congr fun r hr => by
    rw [xat_symL hr]; exact ⟨h3 r hr, fun _ _ => rfl⟩
  rw [← e1, ← e2, ← e3] at h
  simp only [parL, nth, List.getD_cons_zero, List.getD_cons_succ]
  omega
set_option maxHeartbeats 2000000 in
set_option maxRecDepth 100000 in
theorem par1_c (v : Value) (us : List Value) (A : List (List Int)) (g x y : Nat) (w : World) (hv : RII w v us A) (hA : Sq0 A.length A) (hb : w.cell? ⟨g, 0, none⟩ = some v) (hx : x < A.length) (hy : y < A.length) :
    Calls Try.prog 60 #[.int .i64 y, .int .i64 x, .pointer (some ⟨g, 0, none⟩)] w (GivesI w (at2 A x y)) := by
  have hrow := hv.row x hx
  have hl := hA.row x hx
  have c1 := hv.cell x hx
  have c2 := hrow.cell y (by rw [hl]; exact hy)
  rw [show nth (xat A x) y = at2 A x y from rfl] at c2
  have x1 := hv.ixe (x : Int) x rfl hx
  have x2 := hrow.ixe (y : Int) y rfl (by rw [hl]; exact hy)
  clear hl
  go_enter Try.func60, Try.ntmps60
  go_wp2_with fail
  go_ret
  exact ⟨rfl, St.refl w⟩
set_option maxHeartbeats 400000 in
set_option maxRecDepth 100000 in
theorem ParitiesOf_c (v : Value) (us : List Value) (A : List (List Int)) (w : World) (hv : RII w v us A) (hA : Lat A) : Calls Try.prog 24 #[v] w (MakesC1 w (parL A) 0) := by
  obtain ⟨va, vc, hsh⟩ := hv.1.sl.sh
  rw [hv.2.1] at hsh
  subst hsh
  have hS0 := (St.refl w).newboxF 24 #[.slice va A.length vc]
  have KV := fun W (h : RII W (.slice va A.length vc) us A) => Lib.hid (ValidSquare_c _ us A W h (fun x hx => by have := hA.len x hx; have := hA.le; omega))
  rw [latB_yes hA] at KV
  have KZ := fun W (h : RII W (.slice va A.length vc) us A) => Lib.hid (szII_c _ us A W h)
  have hln := hv.len
  have hA10 := hA.le
  have hcf := callFunc_go Try.func60 (by kernel_rfl) (by kernel_rfl)
  have hmf : ∀ (fn : Fn) (first cap : Array Value) (w : World), (Instr.makeFunc fn first cap).run Try.prog w = .ok (.func fn first cap) w := fun _ _ _ _ => rfl
  have KF' := fun W (h : RII W (.slice va A.length vc) us A) (hb : W.cell? ⟨w.heap.size, 0, none⟩ = some (.slice va A.length vc)) => Lib.hid (filledSquare_c 60 #[.pointer (some ⟨w.heap.size, 0, none⟩)] (fun y x => at2 A x y) A.length W (by omega) hcf (fun y x W' hW hy hx => par1_c _ us A w.heap.size x y W' (hW.oldII h) hA.sq0 (by rw [hW.below.cell (World.block_lt_of_cell? _ _ hb)]; exact hb) hx hy))
  have KS := fun s (hs : s < A.length) W (h : RII W (.slice va A.length vc) us A) => Lib.hid (SymbolColumns_c _ us A s W h hA hs)
  have KO1 := fun W (h : RII W (.slice va A.length vc) us A) => Lib.hid (oddCount_c _ us A A.length W h (fun k hk => ⟨hA.len k hk, hA.row k hk⟩) (by omega))
  have KO2 := fun vo uo W (h : RII W vo uo (tpL A)) => Lib.hid (oddCount_c vo uo (tpL A) A.length W h (fun k hk => by rw [show (tpL A).length = A.length from sqF_len _ _] at hk; rw [tpL_row hA hk]; exact ⟨colL_len _ _, hA.col k hk⟩) (by omega))
  have KO3 := fun vo uo W (h : RII W vo uo (symL A)) => Lib.hid (oddCount_c vo uo (symL A) A.length W h (fun k hk => by rw [symL_len] at hk; rw [xat_symL hk]; exact ⟨colsL_len _ _, colsL_isP hA hk⟩) (by omega))
  rw [show (tpL A).length = A.length from sqF_len _ _] at KO2
  rw [symL_len] at KO3
  have hE := Lib.hid (show (symL A).take A.length = symL A by rw [← symL_len A, List.take_length])
  have HP := Lib.hid (show parL A = _ from rfl)
  clear hcf hA
  go_enter Try.func24, Try.ntmps24
  have b0 := hS0.bcell 0 rfl 0 rfl
  have bl := (hS0.blt 0 rfl).1
  go_wp2_with (first
    | (go_at_call 59; have hz := hS2; clear hz; refine (KF' _ (hS2.oldII hv) b0).out.mono ?_; rintro e w3 ⟨o, uo, rfl, hlo, h3⟩; have hS3 := hS2.call h3; have b0 := hS3.bcell 0 rfl 0 rfl)
    | (go_at_call 33; refine (KZ _ (hS2.oldII hv)).out.mono ?_; rintro e wb ⟨rfl, hb⟩; subst hb)
    | (go_at_call 32; refine (KV _ (hS0.oldII hv)).out.mono ?_; rintro e wa ⟨rfl, ha⟩; have hS2 := hS0.call0 ha; have b0 := hS2.bcell 0 rfl 0 rfl))
  rw [sqF_len] at hlo
  rw [show (sqF A.length fun y x => at2 A x y) = tpL A from rfl] at hS3
  have hS4 := (hS3.newnil 28).perm (L' := own2 (.slice none 0 0) [] ((symL A).take 0) ++ ([box 24 w.heap.size [.slice va A.length vc]] ++ own2 o uo (tpL A))) List.perm_append_comm
  have Hlo := Lib.hid hlo
  obtain ⟨LB, hLB⟩ : ∃ LB, LB = [box 24 w.heap.size [.slice va A.length vc]] ++ own2 o uo (tpL A) := ⟨_, rfl⟩
  rw [← hLB] at hS4
  have hbx : Hid (LB[0]? = some (box 24 w.heap.size [.slice va A.length vc])) := Lib.hid (by rw [hLB]; rfl)
  have HLB := Lib.hid hLB
  clear hS3 hS2 hS0 h3 ha hlo hLB b0 bl
  go_loopw [18, 5, 6, 7, 8, 21] (fun i oo _ _ _ _ wr => ∃ (k : Nat) (v2 : Value) (us2 : List Value), v2 = oo ∧ k ≤ A.length ∧ i = .int .i64 k ∧ Hid (us2.length = ((symL A).take k).length) ∧ St w.heap.size w wr (own2 v2 us2 ((symL A).take k) ++ LB)) (fun i _ _ _ _ _ _ => A.length - (intOf i).toNat)
  case atStart => exact ⟨0, _, [], rfl, by omega, rfl, rfl, hS4⟩
  case round =>
    clear hS4
    obtain ⟨k, v2, us2, rfl, hk, rfl, hul, hS⟩ := hrel
    by_cases hlt : k < A.length
    · have hki : (k : Int) < (A.length : Int) := by omega
      have b0 := hS.bcell _ (at_cons (at_app hbx.out)) 0 rfl
      have HT := Lib.hid (symL_take (A := A) hlt)
      have hN := Lib.hid (show us2.length < 4294967296 by rw [hul.out, List.length_take]; omega)
      have KK := KS k hlt _ (hS.oldII hv)
      go_wp2_with (first
        | (at_builtin; have hz := hS2; clear hz; refine appII hS2 0 rfl hN.out rfl _ _ rfl rfl _ rfl rfl ?_; intro v5 w5 hS5)
        | (go_at_call 61; refine KK.out.mono ?_; rintro e2 w4 ⟨u4, rfl, h4⟩; obtain ⟨qa, qc, hq⟩ := (h4.rdI 0 rfl).sl.sh; rw [iv_len, colsL_len] at hq; subst hq; have hS2 := hS.call h4))
      have hS8 := own2_snocM hul.out hS5
      rw [← HT.out] at hS8
      have hu3 : Hid ((us2 ++ [Value.slice qa A.length qc]).length = ((symL A).take (k + 1)).length) := Lib.hid (by rw [HT.out]; simp [hul.out])
      clear hS2 h4 hS5 b0
      go_roundw
      case rel => exact ⟨k + 1, _, _, rfl, by omega, by go_num, hu3, hS8⟩
      case measure => simp [intOf]; omega
    · obtain rfl : k = A.length := by omega
      rw [hE.out] at hS hul
      have hul2 := hul.out
      have b0 := hS.bcell _ (at_cons (at_app hbx.out)) 0 rfl
      have R1 := fun W (h : St w.heap.size w W (own2 v2 us2 (symL A) ++ LB)) => Lib.hid ((h.sub (List.sublist_append_left _ _)).rii hul2)
      have R2 := fun W (h : St w.heap.size w W (own2 v2 us2 (symL A) ++ LB)) => Lib.hid ((h.sub (L' := own2 o uo (tpL A)) (by rw [HLB.out]; exact (List.sublist_append_right _ _).trans (List.sublist_append_right _ _))).rii (by rw [Hlo.out]; exact (sqF_len _ _).symm))
      have K1 := KO1 _ (hS.oldII hv)
      have HPe := Lib.hid (show parL A = [(oddN A.length (fun r => pf (xat A r)) A.length : Int), (oddN A.length (fun r => pf (xat (tpL A) r)) A.length : Int), (oddN A.length (fun r => pf (xat (symL A) r)) A.length : Int)] from rfl)
      clear HP
      generalize oddN A.length (fun r => pf (xat A r)) A.length = p1 at *
      generalize oddN A.length (fun r => pf (xat (tpL A) r)) A.length = p2 at *
      generalize oddN A.length (fun r => pf (xat (symL A) r)) A.length = p3 at *
      clear hul2
      go_wp2_with (first
        | (go_at_call_of 62 (Value.slice va A.length vc); refine K1.out.mono ?_; rintro e2 w4 ⟨rfl, h4⟩; have hS4 := hS.call0 h4)
        | (go_at_call_of 62 o; have hz := hS4; clear hz; refine (KO2 _ _ _ (R2 _ hS4).out).out.mono ?_; rintro e2 w5 ⟨rfl, h5⟩; have hS5 := hS4.call0 h5)
        | (go_at_call_of 62 v2; have hz := hS5; clear hz; refine (KO3 _ _ _ (R1 _ hS5).out).out.mono ?_; rintro e2 w6 ⟨rfl, h6⟩; have hS6 := hS5.call0 h6))
      have hS7 := (hS6.new 2 #[.int .i64 p1, .int .i64 p2, .int .i64 p3] (by simp [maxLen])).sub (List.sublist_append_right _ _)
      go_ret2
      exact ⟨_, rfl, by rw [HPe.out]; exact hS7⟩
end Go.Proofs.Ytdlmohigkkdegaa
end

section
/- Walks: intercalates of a Latin square, subsquares, a list among lists. -/
namespace Go.Proofs.Ytdlmohigkkdegaa
set_option linter.unusedSimpArgs false
set_option linter.unusedVariables false
open Go.RowKit Go.Maps
attribute [local go_sem ↓] Go.wp_at_zero Go.wp_at_succ

set_option maxHeartbeats 2000000 in
set_option maxRecDepth 100000 in
theorem IntercalatesOf_c (v : Value) (us : List Value) (A : List (List Int)) (w : World) (hv : RII w v us A) (hA : Lat A) : Calls Try.prog 18 #[v] w (IIK w (itL A) 0) := by
  have KV := fun W (h : RII W v us A) => Lib.hid (ValidSquare_c v us A W h (fun x hx => by have := hA.len x hx; have := hA.le; omega))
  rw [latB_yes hA] at KV
  have KI := fun W (h : RII W v us A) => Lib.hid (intercalatesOf_c v us A A.length W h hA.sq0 hA.le)
  have hS0 := St.refl w
  clear hA
  go_enter Try.func18, Try.ntmps18
  go_wp2_with (first
    | (go_at_call 32; refine (KV _ hv).out.mono ?_; rintro e w2 ⟨rfl, h2⟩; have hS2 := hS0.call0 h2)
    | (go_at_call 50; refine (KI _ (hS2.oldII hv)).out.mono ?_; rintro e w3 ⟨o, uo, rfl, hlo, h3⟩))
  have hS3 := hS2.call h3
  go_ret2
  exact ⟨o, uo, rfl, hlo, hS3⟩
/-! ### a list among lists -/
set_option maxHeartbeats 2000000 in
set_option maxRecDepth 100000 in
theorem hasList1_c (v u : Value) (xs ys : List Int) (g : Nat) (w : World) (hv : RdI w v xs) (hu : RdI w u ys) (hb : w.cell? ⟨g, 0, none⟩ = some u) :
    Calls Try.prog 91 #[v, .pointer (some ⟨g, 0, none⟩)] w (GivesB w (decide (xs = ys))) := by
  have KE := Lib.hid (Equal_c v u xs ys w hv hu)
  go_enter Try.func91, Try.ntmps91
  go_wp2_with (go_at_call 88; refine KE.out.mono ?_; rintro e w2 ⟨rfl, h2⟩)
  go_ret
  exact ⟨rfl, h2⟩
theorem anyR_mem (xs : List Int) (A : List (List Int)) : anyR (fun l => decide (l = xs)) A = decide (xs ∈ A) := by
  unfold anyR
  rw [Bool.eq_iff_iff, List.any_eq_true, decide_eq_true_iff]
  constructor
  · rintro ⟨x, hx, e⟩; rwa [← of_decide_eq_true e]
  · intro h; exact ⟨xs, h, by simp⟩
set_option maxHeartbeats 2000000 in
set_option maxRecDepth 100000 in
theorem hasList_c (v u : Value) (us : List Value) (A : List (List Int)) (xs : List Int) (w : World) (hv : RII w v us A) (hu : RdI w u xs) :
    Calls Try.prog 51 #[v, u] w (GivesB w (decide (xs ∈ A))) := by
  have hS1 := (St.refl w).newboxF 28 #[u]
  have hcf := callFunc_go Try.func91 (by kernel_rfl) (by kernel_rfl)
  have hmf : ∀ (fn : Fn) (first cap : Array Value) (w : World), (Instr.makeFunc fn first cap).run Try.prog w = .ok (.func fn first cap) w := fun _ _ _ _ => rfl
  have hcall := Lib.hid (ContainsFuncR_c 91 #[.pointer (some ⟨w.heap.size, 0, none⟩)] (fun l => decide (l = xs)) v us A _ (hS1.oldII hv) hcf (fun j W hW hj => hasList1_c (vat us j) u (xat A j) xs w.heap.size W ((hW.oldII (hS1.oldII hv)).row j hj) (hW.oldI (hS1.oldI hu)) (by
    rw [hW.below.cell (World.block_lt_of_cell? _ _ (hS1.bcell 0 rfl 0 rfl))]; exact hS1.bcell 0 rfl 0 rfl)))
  rw [anyR_mem] at hcall
  obtain ⟨ua, uc, hux⟩ := hu.sl.sh
  subst hux
  clear hcf
  go_enter Try.func51, Try.ntmps51
  go_wp2_with fail
  refine hcall.out.mono ?_
  rintro e w1 ⟨rfl, h1⟩
  have hS2 := hS1.call0 h1
  go_wp2_with fail
  go_ret
  exact ⟨rfl, hS2.out⟩
/-! ### subsquares -/
def kL (l : List Int) : List Lit := l.map fun x => .int .i64 x
/-- the entries of rows xs and columns ys -/
def entL (A : List (List Int)) (xs ys : List Int) : List Int := xs.flatMap fun x => ys.map fun y => at2 A x.toNat y.toNat
def entP (A : List (List Int)) (xs ys : List Int) (k j : Nat) : List Int := entL A (xs.take k) ys ++ (ys.take j).map fun y => at2 A (nth xs k).toNat y.toNat
/-- the number of different ones -/
def dcn (l : List Int) : Nat := ((kL l).foldl addKey []).length
theorem entP_step {A : List (List Int)} {xs ys : List Int} {k j : Nat} (hj : j < ys.length) : entP A xs ys k (j + 1) = entP A xs ys k j ++ [at2 A (nth xs k).toNat (nth ys j).toNat] := by
  unfold entP; rw [take_nth hj]; simp
theorem entP_next {A : List (List Int)} {xs ys : List Int} {k : Nat} (hk : k < xs.length) : entP A xs ys k ys.length = entP A xs ys (k + 1) 0 := by
  unfold entP entL; rw [take_nth hk]; simp
theorem entP_end (A : List (List Int)) (xs ys : List Int) : entP A xs ys xs.length 0 = entL A xs ys := by unfold entP; simp
theorem kL_key (l : List Int) : ∀ x ∈ kL l, WideAt.IsKeyLit x := fun x hx => by
  obtain ⟨y, _, rfl⟩ := List.mem_map.1 hx
  exact trivial
theorem entP_len (A : List (List Int)) (xs ys : List Int) (k j : Nat) : (entP A xs ys k j).length ≤ xs.length * ys.length + ys.length := by
  have h : ∀ l : List Int, (entL A l ys).length = l.length * ys.length := fun l => by
    induction l with
    | nil => simp [entL]
    | cons x l ih => unfold entL at ih ⊢; rw [List.flatMap_cons, List.length_append, ih, List.length_map, List.length_cons, Nat.succ_mul]; omega
  unfold entP
  rw [List.length_append, h, List.length_map, List.length_take, List.length_take]
  have : min k xs.length * ys.length ≤ xs.length * ys.length := Nat.mul_le_mul_right _ (by omega)
  omega
theorem St.mapped {w0 w w' : World} {b : Nat} (h : St w0.heap.size w0 w []) (hg : w.grownBy w' (some b)) (hb : w0.heap.size ≤ b) : St w0.heap.size w0 w' [] :=
  ⟨h.below.grown hg h.base (fun k hk => by cases hk; exact hb), Nat.le_trans h.base hg.size, by simp, by simp⟩
theorem Try.lawI : Keyed Try.prog 2 := int_keyed Try.underlying2
theorem vset_lt {xs : List Int} {n : Nat} (h : validSetB xs n = true) {j : Nat} (hj : j < xs.length) : 0 ≤ nth xs j ∧ nth xs j < n := by
  unfold validSetB at h
  have h1 : incB (-1) n xs = true := by revert h; cases incB (-1) (n : Int) xs <;> simp
  have := incB_gt h1 _ (nth_mem hj)
  omega
theorem vset_len {xs : List Int} {n : Nat} (h : validSetB xs n = true) : xs.length ≤ n := by
  have h1 : incB (-1) n xs = true := by unfold validSetB at h; revert h; cases incB (-1) (n : Int) xs <;> simp
  have key : ∀ (xs : List Int) (last : Int), incB last n xs = true → (xs.length : Int) ≤ n - 1 - last ∨ xs = [] := by
    intro xs
    induction xs with
    | nil => intro last _; exact .inr rfl
    | cons x r ih =>
      intro last h
      unfold incB at h
      by_cases e : x ≤ last ∨ (n : Int) ≤ x
      · rw [if_pos e] at h; cases h
      · rw [if_neg e] at h
        rcases ih x h with q | q
        · left; simp only [List.length_cons]; omega
        · subst q; left; simp only [List.length_cons, List.length_nil]; omega
  rcases key xs (-1) h1 with q | q
  · omega
  · subst q; simp
theorem i64_wf {z : Int} (h : -9223372036854775808 ≤ z ∧ z ≤ 9223372036854775807) : (Lit.int .i64 z).wf = true := by
  simp only [Lit.wf, IntKind.min, IntKind.max, IntKind.signed, IntKind.bits, Bool.and_eq_true, decide_eq_true_eq, if_true]
  omega
set_option maxHeartbeats 8000000 in
set_option maxRecDepth 100000 in
theorem IsSubsquare_c (v vx vy : Value) (us : List Value) (A : List (List Int)) (xs ys : List Int) (w : World) (hv : RII w v us A) (hx : RdI w vx xs) (hy : RdI w vy ys) (hA : Lat A)
    (h1 : validSetB xs A.length = true) (h2 : validSetB ys A.length = true) (hl : xs.length = ys.length) (h0 : 0 < xs.length) :
    Calls Try.prog 17 #[v, vx, vy] w (GivesB w (decide (dcn (entL A xs ys) = xs.length))) := by
  have hmm := @run_makeMap Try.prog
  have KV := fun W (h : RII W v us A) => Lib.hid (ValidSquare_c v us A W h (fun x hx => by have := hA.len x hx; have := hA.le; omega))
  rw [latB_yes hA] at KV
  have KZ := fun W (h : RII W v us A) => Lib.hid (szII_c v us A W h)
  have KX := fun W (h : RdI W vx xs) => Lib.hid (ValidSet_c vx xs A.length W h)
  have KY := fun W (h : RdI W vy ys) => Lib.hid (ValidSet_c vy ys A.length W h)
  rw [h1] at KX
  rw [h2] at KY
  have hlx := hx.len
  have hly := hy.len
  have hxx := hx.ixe
  have hyx := hy.ixe
  have hlex := hx.le
  have hley := hy.le
  have Hx := fun j hj => Lib.hid (vset_lt h1 (j := j) hj)
  have Hy := fun j hj => Lib.hid (vset_lt h2 (j := j) hj)
  have HA := Lib.hid hA
  have Hel := Lib.hid (show ∀ x y, x < A.length → y < A.length → 0 ≤ at2 A x y ∧ at2 A x y < 10 from fun x y a b => by have := hA.sq0.el x y a b; have := hA.le; omega)
  have Hend := Lib.hid (entP_end A xs ys)
  have hx10 : xs.length ≤ 10 := by have := vset_len h1; have := hA.le; omega
  have hS0 := St.refl w
  have fl : ((xs.length : Int) != (ys.length : Int)) = false := ne_f (by omega)
  have f0 : ((xs.length : Int) == 0) = false := eq_f (by omega)
  have Hcap := fun k j => Lib.hid (show (entP A xs ys k j).length < maxLen by
    have h3 := entP_len A xs ys k j
    have : xs.length * ys.length ≤ 10 * 10 := Nat.mul_le_mul hx10 (by omega)
    unfold maxLen; omega)
  have Hl := Lib.hid hl
  have Hx10 := Lib.hid hx10
  clear h1 h2 hA hl hx10
  go_enter Try.func17, Try.ntmps17
  go_wp2_with (first
    | (go_at_call 32; refine (KV _ (hS0.oldII hv)).out.mono ?_; rintro e w2 ⟨rfl, h2⟩; have hS2 := hS0.call0 h2; clear hS0)
    | (go_at_call 33; refine (KZ _ (hS2.oldII hv)).out.mono ?_; rintro e w3 ⟨rfl, h3⟩; subst h3)
    | (go_at_call_of 40 vx; refine (KX _ (hS2.oldI hx)).out.mono ?_; rintro e w4 ⟨rfl, h4⟩; subst h4)
    | (go_at_call_of 40 vy; refine (KY _ (hS2.oldI hy)).out.mono ?_; rintro e w4 ⟨rfl, h4⟩; subst h4))
  have hT2 := hS2.alloc' (.map #[] 0)
  have hbB := hS2.base
  obtain ⟨b, hb⟩ : ∃ b, b = w2.heap.size := ⟨_, rfl⟩
  rw [← hb] at hbB ⊢
  have hM0 : (w2.alloc (.map #[] 0)).ownsMap Try.prog 2 (plainElem (H := Unit) Try.prog 4) b 0 (setOf (.lit (.bool true)) (kL (entP A xs ys 0 0))) := by
    rw [hb]; exact World.ownsMap_made _ _ _ _
  generalize w2.alloc (.map #[] 0) = w3 at *
  clear hb hS2 h2
  go_loopw [44, 9, 11] (fun i _ _ wr => ∃ k : Nat, k ≤ xs.length ∧ i = .int .i64 k ∧ Hid (wr.ownsMap Try.prog 2 (plainElem (H := Unit) Try.prog 4) b (entP A xs ys k 0).length (setOf (.lit (.bool true)) (kL (entP A xs ys k 0)))) ∧ St w.heap.size w wr []) (fun i _ _ _ => xs.length - (intOf i).toNat)
  case atStart => exact ⟨0, by omega, rfl, by simpa [Hid, entP, entL] using hM0, hT2⟩
  case round =>
    clear hM0 hT2
    obtain ⟨k, hk, rfl, hM, hS⟩ := hrel
    by_cases hlt : k < xs.length
    · have hck := (hS.oldI hx).cell k hlt
      have hxk := hxx (k : Int) k rfl hlt
      have hN := Lib.hid (entP_next (A := A) (ys := ys) hlt)
      obtain ⟨x, hxe⟩ : ∃ x : Nat, nth xs k = (x : Int) := ⟨(nth xs k).toNat, by have := (Hx k hlt).out; omega⟩
      have hxn : x < A.length := by have := (Hx k hlt).out; omega
      rw [hxe] at hck
      have hkt : (k : Int) < (xs.length : Int) := by omega
      have HXE := Lib.hid hxe
      clear hxe
      go_wp2_with fail
      go_loopw [50, 11] (fun i _ wr => ∃ j : Nat, j ≤ ys.length ∧ i = .int .i64 j ∧ Hid (wr.ownsMap Try.prog 2 (plainElem (H := Unit) Try.prog 4) b (entP A xs ys k j).length (setOf (.lit (.bool true)) (kL (entP A xs ys k j)))) ∧ St w.heap.size w wr []) (fun i _ _ => ys.length - (intOf i).toNat)
      case atStart => exact ⟨0, by omega, rfl, hM.out, hS⟩
      case round =>
        clear hM hS hck
        obtain ⟨j, hj, rfl, hM, hS⟩ := hrel
        by_cases hlj : j < ys.length
        · have hcj := (hS.oldI hy).cell j hlj
          have hyj := hyx (j : Int) j rfl hlj
          obtain ⟨y, hye⟩ : ∃ y : Nat, nth ys j = (y : Int) := ⟨(nth ys j).toNat, by have := (Hy j hlj).out; omega⟩
          have hyn : y < A.length := by have := (Hy j hlj).out; omega
          rw [hye] at hcj
          have hjt : (j : Int) < (ys.length : Int) := by omega
          have hra := (hS.oldII hv).cell x hxn
          have hrx := hv.ixe (x : Int) x rfl hxn
          have hrow := (hS.oldII hv).row x hxn
          have hrl := HA.out.len x hxn
          have hca := hrow.cell y (by rw [hrl]; exact hyn)
          rw [show nth (xat A x) y = at2 A x y from rfl] at hca
          have hia := hrow.ixe (y : Int) y rfl (by rw [hrl]; exact hyn)
          have HS := Lib.hid (show entP A xs ys k (j + 1) = entP A xs ys k j ++ [at2 A x y] by rw [entP_step hlj, HXE.out, hye]; rfl)
          have hel := Hel.out x y hxn hyn
          have hkey : keyOf Try.prog 2 (.int .i64 (at2 A x y)) = some (.int .i64 (at2 A x y)) := keyOf_int_mk Try.underlying2 (i64_wf (by omega))
          have hM2 := hM.out
          have hcap := (Hcap k j).out
          generalize at2 A x y = z at *
          clear hye hrow hrl
          go_wp2_with (at_mapUpdate; refine wpList_mapUpdate_own _ rfl _ _ _ 63 rfl 2 4 Try.lawI Try.underlying63 (plainElem (H := Unit) Try.prog 4) b _ _ rfl hM2 hcap _ _ _ rfl rfl hkey _ [] (plainElem_bool Try.underlying4 true) ?_; intro w5 hM5 hg5)
          have hS5 := hS.mapped hg5 hbB
          have hM6 : w5.ownsMap Try.prog 2 (plainElem (H := Unit) Try.prog 4) b (entP A xs ys k (j + 1)).length (setOf (.lit (.bool true)) (kL (entP A xs ys k (j + 1)))) := by
            rw [HS.out, List.length_append, kL, List.map_append]
            exact (setOf_snoc (.lit (.bool true)) (kL (entP A xs ys k j)) (.int .i64 z)).symm ▸ hM5
          go_roundw
          case rel => exact ⟨j + 1, by omega, by go_num, hM6, hS5⟩
          case measure => simp [intOf]; omega
        · obtain rfl : j = ys.length := by omega
          have hM2 : Hid (wr.ownsMap Try.prog 2 (plainElem (H := Unit) Try.prog 4) b (entP A xs ys (k + 1) 0).length (setOf (.lit (.bool true)) (kL (entP A xs ys (k + 1) 0)))) := by rw [← hN.out]; exact hM
          go_wp2_with fail
          go_roundw
          case rel => exact ⟨k + 1, by omega, by go_num, hM2, hS⟩
          case measure => simp [intOf]; omega
    · obtain rfl : k = xs.length := by omega
      rw [Hend.out] at hM
      have hM2 := hM.out
      have Hsz := Lib.hid (size_setOf (H := Unit) (.lit (.bool true)) (kL (entL A xs ys)) (kL_key _))
      rw [show ((kL (entL A xs ys)).foldl addKey []).length = dcn (entL A xs ys) from rfl] at Hsz
      go_wp2_with (at_len; refine wpList_len_own (w := wr) rfl _ 63 rfl 2 4 Try.underlying63 (plainElem (H := Unit) Try.prog 4) b _ _ rfl hM2 ?_)
      go_ret
      exact ⟨ret_bool (by rw [Hsz.out, Bool.eq_iff_iff, beq_iff_eq, decide_eq_true_iff]; omega), hS⟩
end Go.Proofs.Ytdlmohigkkdegaa
end

section
/- Walks: an intercalate is switched. -/
namespace Go.Proofs.Ytdlmohigkkdegaa
set_option linter.unusedSimpArgs false
set_option linter.unusedVariables false
open Go.RowKit
attribute [local go_sem ↓] Go.wp_at_zero Go.wp_at_succ

/-- two rows exchanged at one column -/
def putC (S : List (List Int)) (r s y : Nat) : List (List Int) := putS (putS S r y (at2 S s y)) s y (at2 S r y)
theorem putC_sqr {n : Nat} {S : List (List Int)} (h : Sqr n S) {r s y : Nat} (hr : r < n) (hs : s < n) : Sqr n (putC S r s y) := putS_sqr (putS_sqr h hr _ _) hs _ _
theorem putC_at {n : Nat} {S : List (List Int)} (h : Sqr n S) {r s y : Nat} (hr : r < n) (hs : s < n) (hy : y < n) (hne : r ≠ s) (a b : Nat) :
    at2 (putC S r s y) a b = if b = y then (if a = r then at2 S s b else if a = s then at2 S r b else at2 S a b) else at2 S a b := by
  unfold putC
  rw [at2_putS (putS_sqr h hr _ _) hs hy, at2_putS h hr hy]
  by_cases e : b = y
  · subst e
    rw [if_pos rfl]
    by_cases e1 : a = r
    · subst e1
      rw [if_neg (fun q => hne q.1.symm), if_pos ⟨rfl, rfl⟩, if_pos rfl]
    · by_cases e2 : a = s
      · subst e2
        rw [if_pos ⟨rfl, rfl⟩, if_neg e1, if_pos rfl]
      · rw [if_neg (fun q => e2 q.1.symm), if_neg (fun q => e1 q.1.symm), if_neg e1, if_neg e2]
  · rw [if_neg (fun q => e q.2.symm), if_neg (fun q => e q.2.symm), if_neg e]
def swT (A : List (List Int)) (r s c d : Nat) : Nat → List (List Int)
  | 0 => A
  | k + 1 => putC (swT A r s c d k) r s (if k = 0 then c else d)
theorem swT_two {A : List (List Int)} {r s c d : Nat} (hA : Sqr A.length A) (hr : r < A.length) (hs : s < A.length) (hc : c < A.length) (hd : d < A.length) (hne : r ≠ s) (hcd : c ≠ d) : swT A r s c d 2 = swI A r s c d := by
  have q1 := putC_sqr hA hr hs (y := c)
  refine sq_ext (putC_sqr q1 hr hs) swI_sqr fun a b ha hb => ?_
  show at2 (putC (putC A r s c) r s d) a b = _
  rw [putC_at q1 hr hs hd hne, putC_at hA hr hs hc hne, putC_at hA hr hs hc hne, putC_at hA hr hs hc hne, swI_at ha hb]
  by_cases e1 : b = d
  · have e2 : ¬ b = c := fun e => hcd (e.symm.trans e1)
    simp only [if_pos e1, if_neg e2, if_pos (show b = c ∨ b = d from .inr e1)]
  · by_cases e2 : b = c
    · simp only [if_neg e1, if_pos e2, if_pos (show b = c ∨ b = d from .inl e2)]
    · simp only [if_neg e1, if_neg e2, if_neg (show ¬ (b = c ∨ b = d) from fun q => q.elim e2 e1)]
set_option maxHeartbeats 8000000 in
set_option maxRecDepth 100000 in
theorem SwitchIntercalate_c (v vw : Value) (us : List Value) (A : List (List Int)) (r s c d : Nat) (w : World) (hv : RII w v us A) (hw : RdI w vw (q4 r s c d)) (hA : Lat A)
    (h1 : r < s) (h2 : s < A.length) (h3 : c < d) (h4 : d < A.length) (hi : Inc A r s c d) :
    Calls Try.prog 19 #[v, vw] w (IIK w (swI A r s c d) 0) := by
  have KV := fun W (h : RII W v us A) => Lib.hid (ValidSquare_c v us A W h (fun x hx => by have := hA.len x hx; have := hA.le; omega))
  rw [latB_yes hA] at KV
  have KI := fun W (h : RII W v us A) => Lib.hid (intercalatesOf_c v us A A.length W h hA.sq0 hA.le)
  have KH := fun vo uo W (h : RII W vo uo (itL A)) (h' : RdI W vw (q4 r s c d)) => Lib.hid (hasList_c vo vw uo (itL A) (q4 r s c d) W h h')
  rw [decide_eq_true (mem_itL.2 ⟨r, s, c, d, h1, h2, h3, h4, hi, rfl⟩)] at KH
  have KC := fun W (h : RII W v us A) => Lib.hid (copyLists_c v us A W h (by have := hA.le; omega) (fun xs hx => by
    obtain ⟨j, hj, rfl⟩ := List.getElem_of_mem hx
    have := hA.len j hj
    rw [xat_eq hj] at this; have := hA.le; omega))
  have HT := Lib.hid (swT_two hA.sq0.toSqr (show r < A.length by omega) h2 (show c < A.length by omega) h4 (by omega) (by omega))
  have HA := Lib.hid hA.sq0.toSqr
  have hrn : r < A.length := by omega
  have hcn : c < A.length := by omega
  have Hn := Lib.hid (And.intro hrn (And.intro h2 (And.intro hcn (And.intro h4 hA.le))))
  have w0 := hw.ixe (0 : Int) 0 rfl (show 0 < 4 by omega)
  have w1 := hw.ixe (1 : Int) 1 rfl (show 1 < 4 by omega)
  have w2 := rsl_lo hw 2 (show 2 ≤ 4 by omega)
  rw [show (q4 r s c d).length = 4 from rfl] at w2
  rw [show ((2 : Nat) : Int) = 2 from rfl] at w2
  have hw2 := rsl_rd hw (lo := 2) (hi := 4) (by omega) (show 4 ≤ 4 by omega)
  have hwl := hw2.len
  have hwx := hw2.ixe
  rw [show (((q4 r s c d).take 4).drop 2) = [(c : Int), (d : Int)] from rfl] at hwl hwx hw2
  have hS0 := St.refl w
  clear hA hi
  go_enter Try.func19, Try.ntmps19
  go_wp2_with (first
    | (go_at_call 32; refine (KV _ hv).out.mono ?_; rintro e wa ⟨rfl, ha⟩; have hSa := hS0.call0 ha)
    | (go_at_call 50; refine (KI _ (hSa.oldII hv)).out.mono ?_; rintro e wb ⟨o, uo, rfl, hlo, hb⟩; have hSb := hSa.call hb; have hRo := (hSb.rii (v := o) hlo))
    | (go_at_call 51; refine (KH _ _ _ hRo (hSb.oldI hw)).out.mono ?_; rintro e wc ⟨rfl, hc⟩; have hSc := (hSb.call0 hc).out; clear hRo)
    | (go_at_call 52; refine (KC _ (hSc.oldII hv)).out.mono ?_; rintro e wd ⟨p, up, rfl, hlp, hd⟩; have hSd := hSc.call hd; clear hSa hSb))
  have hS : St w.heap.size w wd (own2 p up A ++ []) := by rw [List.append_nil]; exact hSd.sub (by simp)
  clear hSd hd hSc hc hb ha hS0
  obtain ⟨L, hL⟩ : ∃ L, L = own2 p up A ++ [] := ⟨_, rfl⟩
  rw [← hL] at hS
  have hq : ∀ {W : World}, St w.heap.size w W L → RII W p up A := fun h => by rw [hL] at h; exact rii2 h hlp
  have k1 := fun q : SS w.heap.size w L => (q.st.oldI hw).cell 0 (show 0 < 4 by omega)
  have k2 := fun q : SS w.heap.size w L => (q.st.oldI hw).cell 1 (show 1 < 4 by omega)
  rw [show nth (q4 r s c d) 0 = (r : Int) from rfl] at k1
  rw [show nth (q4 r s c d) 1 = (s : Int) from rfl] at k2
  have k3 := fun q : SS w.heap.size w L => (hq q.st).cell r Hn.out.1
  have k4 := fun q : SS w.heap.size w L => (hq q.st).cell s Hn.out.2.1
  have HLe := Lib.hid hL
  have x1 := (hq hS).ixe (r : Int) r rfl Hn.out.1
  have x2 := (hq hS).ixe (s : Int) s rfl Hn.out.2.1
  have Hlp := Lib.hid hlp
  have hw2x := Lib.hid hw2
  clear hw2 hlp hq hL
  have hne : Nonempty (SS _ _ _) := ⟨⟨_, hS⟩⟩
  refine wp_region_st (by kernel_rfl) (by kernel_rfl) hS ?_
  repeat (go_big_quiet_step (fail))
  refine wpQuiet_nil ?_
  rintro _ ⟨s2, rfl⟩
  have hS3 := s2.st
  generalize s2.w = w3 at hS3 ⊢
  clear hS k1 k2 k3 k4
  rw [HLe.out] at hS3
  have hS := hS3
  clear hS3
  go_wp2_with fail
  go_loopw [36, 10] (fun i _ wr => ∃ k : Nat, k ≤ 2 ∧ i = .int .i64 k ∧ Hid (Sqr A.length (swT A r s c d k)) ∧ St w.heap.size w wr (own2 p up (swT A r s c d k) ++ [])) (fun i _ _ => 2 - (intOf i).toNat)
  case atStart => exact ⟨0, by omega, rfl, HA.out, hS⟩
  case round =>
    clear hS
    obtain ⟨k, hk, rfl, hQ, hS⟩ := hrel
    by_cases hlt : k < 2
    · obtain ⟨y, hye, hyn⟩ : ∃ y : Nat, y = (if k = 0 then c else d) ∧ y < A.length := ⟨_, rfl, by have := Hn.out; split <;> omega⟩
      have hck := (hS.oldI hw2x.out).cell k hlt
      have hyk : nth [(c : Int), (d : Int)] k = (y : Int) := by
        rw [hye]; rcases k with _ | _ | k
        · rfl
        · rfl
        · omega
      rw [hyk] at hck
      have hxk := hwx (k : Int) k rfl hlt
      have HT2 := Lib.hid (show swT A r s c d (k + 1) = putC (swT A r s c d k) r s y by rw [hye]; rfl)
      generalize swT A r s c d k = S at *
      have hki : (k : Int) < 2 := by omega
      have hlS : S.length = A.length := hQ.out.len
      have hlu : up.length = S.length := by rw [Hlp.out, hlS]
      have hR := rii2 hS hlu
      have hrn := Hn.out.1
      have hsn := Hn.out.2.1
      have hsr : (xat S r).length = A.length := hQ.out.row r hrn
      have hss : (xat S s).length = A.length := hQ.out.row s hsn
      have c1 := (hR.row r (by rw [hlS]; exact hrn)).cell y (by rw [hsr]; exact hyn)
      have c2 := (hR.row s (by rw [hlS]; exact hsn)).cell y (by rw [hss]; exact hyn)
      have i1 := (hR.row r (by rw [hlS]; exact hrn)).ixe (y : Int) y rfl (by rw [hsr]; exact hyn)
      have i2 := (hR.row s (by rw [hlS]; exact hsn)).ixe (y : Int) y rfl (by rw [hss]; exact hyn)
      have hat := hS.at_row hlu (j := r) (by rw [hlS]; exact hrn)
      have u1 := hS.unfrozen (r + 1) hat (j := y) (by rw [iv_len, hsr]; exact hyn)
      have HS9 := hS.store (r + 1) hat (j := y) (by rw [iv_len, hsr]; exact hyn) (.int .i64 (at2 S s y))
      have q1 := putS_sqr hQ.out hrn y (at2 S s y)
      rw [iv_set, own2_set hlu (by rw [hlS]; exact hrn), show S.set r ((xat S r).set y (at2 S s y)) = putS S r y (at2 S s y) from rfl] at HS9
      have hlu1 : up.length = (putS S r y (at2 S s y)).length := by rw [Hlp.out, q1.len]
      have hat1 := HS9.at_row hlu1 (j := s) (by rw [q1.len]; exact hsn)
      have hss1 : (xat (putS S r y (at2 S s y)) s).length = A.length := q1.row s hsn
      have c3 := ((rii2 HS9 hlu1).row s (by rw [q1.len]; exact hsn)).cell y (by rw [hss1]; exact hyn)
      have u2 := HS9.unfrozen (s + 1) hat1 (j := y) (by rw [iv_len, hss1]; exact hyn)
      have HS10 := HS9.store (s + 1) hat1 (j := y) (by rw [iv_len, hss1]; exact hyn) (.int .i64 (at2 S r y))
      rw [iv_set, own2_set hlu1 (by rw [q1.len]; exact hsn)] at HS10
      have HQ2 := Lib.hid (putC_sqr hQ.out hrn hsn (y := y))
      have H10 := Lib.hid HS10
      rw [show nth (xat S r) y = at2 S r y from rfl] at c1
      rw [show nth (xat S s) y = at2 S s y from rfl] at c2
      obtain ⟨a, ha⟩ : ∃ a, a = at2 S r y := ⟨_, rfl⟩
      obtain ⟨b, hb⟩ : ∃ b, b = at2 S s y := ⟨_, rfl⟩
      have Hab := Lib.hid (And.intro ha hb)
      rw [← ha] at c1
      rw [← hb] at c2 u2 c3
      clear HS9 HS10 hat hat1 hR hQ hlS hlu hsr hss hss1 q1 hlu1 hye ha hb hrn hsn
      go_wp2_with fail
      refine regionG (fun w' => w'.cell? (el (vat up r) y) = some (.int .i64 a) ∧ w'.cell? (el (vat up s) y) = some (.int .i64 b)) 13 (by kernel_rfl) ⟨cell_dr c1, cell_dr c2⟩ (fun hHeld => ?_)
      refine takeP (i := 0) (v := ?_) rfl (by kernel_rfl) (fun _ _ _ h => h) (by rfl) ?_ (by assumption) ?_
      case refine_2 => (intro w'; go_simp; first | done | with_reducible rfl)
      try simp only [Act.put, List.setIfInBounds_toArray, List.set_cons_zero, List.set_cons_succ]
      refine takeP (i := 1) (v := ?_) rfl (by kernel_rfl) (fun _ _ _ h => h) (by rfl) ?_ (by assumption) ?_
      case refine_2 => (intro w'; go_simp; first | done | with_reducible rfl)
      try simp only [Act.put, List.setIfInBounds_toArray, List.set_cons_zero, List.set_cons_succ]
      refine takeP (i := 2) (v := ?_) rfl (by kernel_rfl) (fun _ _ _ h => h) (by rfl) ?_ (by assumption) ?_
      case refine_2 => (intro w'; go_simp; first | done | with_reducible rfl)
      try simp only [Act.put, List.setIfInBounds_toArray, List.set_cons_zero, List.set_cons_succ]
      refine takeP (i := 3) (v := ?_) rfl (by kernel_rfl) (fun _ _ _ h => h) (by rfl) ?_ (by assumption) ?_
      case refine_2 => (intro w'; go_simp; first | done | with_reducible rfl)
      try simp only [Act.put, List.setIfInBounds_toArray, List.set_cons_zero, List.set_cons_succ]
      refine takeP (i := 4) (v := ?_) rfl (by kernel_rfl) (fun _ _ _ h => h) (by rfl) ?_ (by assumption) ?_
      case refine_2 => (intro w'; go_simp; first | done | with_reducible rfl)
      try simp only [Act.put, List.setIfInBounds_toArray, List.set_cons_zero, List.set_cons_succ]
      refine takeP (i := 5) (v := ?_) rfl (by kernel_rfl) (fun _ _ _ h => h) (by rfl) ?_ (by assumption) ?_
      case refine_2 => (intro w'; go_simp; first | done | with_reducible rfl)
      try simp only [Act.put, List.setIfInBounds_toArray, List.set_cons_zero, List.set_cons_succ]
      refine takeP (i := 6) (v := ?_) rfl (by kernel_rfl) (fun _ _ _ h => h) (by rfl) ?_ (by assumption) ?_
      case refine_2 => (intro w'; go_simp; first | done | with_reducible rfl)
      try simp only [Act.put, List.setIfInBounds_toArray, List.set_cons_zero, List.set_cons_succ]
      refine takeH (i := 7) [] (v := ?_) rfl (by kernel_rfl) (fun _ _ _ h => h) (by rfl) ?_ (by assumption) ?_
      case refine_2 => (intro w' hSw; (try dsimp only at hSw); go_simp; first | done | with_reducible rfl)
      try simp only [Act.put, List.setIfInBounds_toArray, List.set_cons_zero, List.set_cons_succ]
      refine takeP (i := 8) (v := ?_) rfl (by kernel_rfl) (fun _ _ _ h => h) (by rfl) ?_ (by assumption) ?_
      case refine_2 => (intro w'; go_simp; first | done | with_reducible rfl)
      try simp only [Act.put, List.setIfInBounds_toArray, List.set_cons_zero, List.set_cons_succ]
      refine takeP (i := 9) (v := ?_) rfl (by kernel_rfl) (fun _ _ _ h => h) (by rfl) ?_ (by assumption) ?_
      case refine_2 => (intro w'; go_simp; first | done | with_reducible rfl)
      try simp only [Act.put, List.setIfInBounds_toArray, List.set_cons_zero, List.set_cons_succ]
      refine takeP (i := 10) (v := ?_) rfl (by kernel_rfl) (fun _ _ _ h => h) (by rfl) ?_ (by assumption) ?_
      case refine_2 => (intro w'; go_simp; first | done | with_reducible rfl)
      try simp only [Act.put, List.setIfInBounds_toArray, List.set_cons_zero, List.set_cons_succ]
      refine takeH (i := 11) [] (v := ?_) rfl (by kernel_rfl) (fun _ _ _ h => h) (by rfl) ?_ (by assumption) ?_
      case refine_2 => (intro w' hSw; (try dsimp only at hSw); go_simp; first | done | with_reducible rfl)
      try simp only [Act.put, List.setIfInBounds_toArray, List.set_cons_zero, List.set_cons_succ]
      refine takeP (i := 12) (v := ?_) rfl (by kernel_rfl) (fun _ _ _ h => h) (by rfl) ?_ (by assumption) ?_
      case refine_2 => (intro w'; go_simp; first | done | with_reducible rfl)
      try simp only [Act.put, List.setIfInBounds_toArray, List.set_cons_zero, List.set_cons_succ]
      refine readyG (rs := [13]) (by kernel_rfl) (by simp) ?_
      refine AllG.last rfl (by kernel_rfl) (fun K hK => ?_) AllG.nil
      go_simp
      refine hK.out _ _ ?_
      clear hK K
      try simp only [Act.put, List.setIfInBounds_toArray, List.set_cons_zero, List.set_cons_succ]
      refine readyG (rs := [14]) (by kernel_rfl) (by simp) ?_
      refine AllG.last rfl (by kernel_rfl) (fun K hK => ?_) AllG.nil
      go_simp
      refine hK.out _ _ ?_
      clear hK K
      try simp only [Act.put, List.setIfInBounds_toArray, List.set_cons_zero, List.set_cons_succ]
      refine readyG (rs := [15]) (by kernel_rfl) (by simp) ?_
      refine AllG.last rfl (by kernel_rfl) (fun K hK => ?_) AllG.nil
      go_simp
      refine hK.out _ _ ?_
      clear hK K
      try simp only [Act.put, List.setIfInBounds_toArray, List.set_cons_zero, List.set_cons_succ]
      refine doneG (by kernel_rfl) ?_ _
      refine NoPanic.normal ?_
      have hS9 : St w.heap.size w ((wr.setCell (el (vat up r) y) (.int .i64 b)).setCell (el (vat up s) y) (.int .i64 a)).drew (own2 p up (putC S r s y) ++ []) := by
        rw [Hab.out.1, Hab.out.2]; exact H10.out.drew
      go_wp2_with fail
      go_roundw
      case rel => exact ⟨k + 1, by omega, by go_num, by rw [HT2.out]; exact HQ2.out, by rw [HT2.out]; exact hS9⟩
      case measure => simp [intOf]; omega
    · obtain rfl : k = 2 := by omega
      rw [List.append_nil, HT.out] at hS
      go_wp2_with fail
      go_ret2
      exact ⟨p, up, rfl, by rw [swI_len]; exact Hlp.out, hS⟩
end Go.Proofs.Ytdlmohigkkdegaa
end

section
/- Walks: v8Long, v8At of the laws. -/
namespace Go.Proofs.Ytdlmohigkkdegaa
set_option linter.unusedSimpArgs false
set_option linter.unusedVariables false
open Go.RowKit

set_option maxHeartbeats 2000000 in
theorem v8Long_c (va vb : Value) (xs bs : List UInt8) (w : World) (ha : RdB w va xs) (hb : RdB w vb bs) :
    Calls Try.prog 5 #[va, vb] w fun e w' => e = .returned (.bool (decide (1048576 < (xs.length : Int)) || decide (1048576 < (bs.length : Int)))) ∧ w = w' := by
  have hla := ha.len
  have hlb := hb.len
  have hea := ha.le
  have heb := hb.le
  by_cases h1 : 1048576 < (xs.length : Int)
  · rw [decide_eq_true h1, Bool.true_or]
    go_enter Try.func5, Try.ntmps5
    go_wp2_with fail
    go_ret
    exact ⟨rfl, rfl⟩
  · rw [decide_eq_false h1, Bool.false_or]
    by_cases h2 : 1048576 < (bs.length : Int)
    · rw [decide_eq_true h2]
      go_enter Try.func5, Try.ntmps5
      go_wp2_with fail
      go_ret
      exact ⟨by simp [h1, h2], rfl⟩
    · rw [decide_eq_false h2]
      go_enter Try.func5, Try.ntmps5
      go_wp2_with fail
      go_ret
      exact ⟨by simp [h1, h2], rfl⟩
set_option maxHeartbeats 2000000 in
theorem v8At_c (v : Value) (bs : List UInt8) (k : Nat) (n : Int) (w : World) (hb : RdB w v bs) (hk : k ≤ 1000000) :
    Calls Try.prog 11 #[v, .int .i64 k, .int .i64 n] w (AnInt 0 (max (n - 1) 0) fun w' => w = w') := by
  have hln := hb.len
  have hle := hb.le
  by_cases h1 : n ≤ 1
  · go_enter Try.func11, Try.ntmps11
    go_wp2_with fail
    go_ret
    exact ⟨0, by omega, by omega, rfl, rfl⟩
  · by_cases h2 : k < bs.length
    · have hc := hb.cell k h2
      have hx := hb.ix .i64 (k : Int) (by omega) (by omega)
      rw [Int.toNat_natCast] at hx
      obtain ⟨b0, b1⟩ := bnth_bd bs k
      go_enter Try.func11, Try.ntmps11
      go_wp2_with fail
      go_ret
      have := Int.emod_nonneg (bnth bs k) (show n ≠ 0 by omega)
      have := Int.emod_lt_of_pos (bnth bs k) (show 0 < n by omega)
      exact ⟨_, by omega, by omega, rfl, rfl⟩
    · go_enter Try.func11, Try.ntmps11
      go_wp2_with fail
      go_ret
      exact ⟨0, by omega, by omega, rfl, rfl⟩
end Go.Proofs.Ytdlmohigkkdegaa
end

section
/- Walks: the laws' own comparisons of lists. -/
namespace Go.Proofs.Ytdlmohigkkdegaa
set_option linter.unusedSimpArgs false
set_option linter.unusedVariables false
open Go.RowKit

set_option maxHeartbeats 1000000 in
set_option maxRecDepth 100000 in
theorem v8Same_c (va vb : Value) (xs ys : List Int) (w : World) (ha : RdI w va xs) (hb : RdI w vb ys) :
    Calls Try.prog 16 #[va, vb] w (GivesB w (decide (xs = ys))) := by
  have hla := ha.len
  have hlb := hb.len
  have hia := ha.ix
  have hib := hb.ix
  have hma := ha.le
  by_cases hne : xs.length = ys.length
  · have f0 : ((xs.length : Int) != (ys.length : Int)) = false := ne_f (by omega)
    have hle : xs.length ≤ ys.length := by omega
    have Hne := Lib.hid hne; clear hne
    go_enter Try.func16, Try.ntmps16
    go_wp2_with fail
    go_loopw [5] (fun i wr => ∃ k : Nat, k ≤ xs.length ∧ i = .int .i64 k ∧ Hid (∀ j, j < k → nth xs j = nth ys j) ∧ St w.heap.size w wr []) (fun i _ => xs.length - (intOf i).toNat)
    case atStart => exact ⟨0, by omega, rfl, fun j hj => by omega, St.refl w⟩
    case round =>
      obtain ⟨k, hk, rfl, hI, hS⟩ := hrel
      by_cases hlt : k < xs.length
      · have hqa := fun s : SS w.heap.size w [] => (s.st.oldI ha).cell k hlt
        have hqb := fun s : SS w.heap.size w [] => (s.st.oldI hb).cell k (by omega)
        have hk2 : k < ys.length := by omega
        by_cases h1 : nth xs k = nth ys k
        · have f1 := ne_f h1
          have H1 := Lib.hid h1; clear h1
          go_wp2_with fail
          have hne : Nonempty (SS _ _ _) := ⟨⟨_, hS⟩⟩
          refine wp_region_st (by kernel_rfl) (by kernel_rfl) hS ?_
          repeat (go_big_quiet_step (fail))
          refine wpQuiet_nil ?_
          rintro _ ⟨s2, rfl⟩
          have hS2 := s2.st
          generalize s2.w = w2 at hS2 ⊢
          go_wp2_with fail
          go_roundw
          case rel => exact ⟨k + 1, by omega, by go_num, fun j hj => by
            by_cases e : j = k
            · subst e; exact H1.out
            · exact hI.out j (by omega), hS2⟩
          case measure => simp [intOf]; omega
        · have f1 := ne_t h1
          have H1 := Lib.hid h1; clear h1
          go_wp2_with fail
          have hne : Nonempty (SS _ _ _) := ⟨⟨_, hS⟩⟩
          refine wp_region_st (by kernel_rfl) (by kernel_rfl) hS ?_
          repeat (go_big_quiet_step (fail))
          refine wpQuiet_nil ?_
          rintro _ ⟨s2, rfl⟩
          have hS2 := s2.st
          generalize s2.w = w2 at hS2 ⊢
          go_wp2_with fail
          go_ret
          exact ⟨ret_bool (by symm; rw [decide_eq_false_iff_not]; intro e; subst e; exact H1.out rfl), hS2⟩
      · go_wp2_with fail
        go_ret
        refine ⟨ret_bool ?_, hS⟩
        symm; rw [decide_eq_true_iff]
        apply List.ext_getElem Hne.out
        intro j h1 h2
        have := hI.out j (by omega)
        rwa [nth_eq h1, nth_eq h2] at this
  · have f0 : ((xs.length : Int) != (ys.length : Int)) = true := ne_t (by omega)
    have Hne := Lib.hid hne; clear hne
    go_enter Try.func16, Try.ntmps16
    go_wp2_with fail
    go_ret
    exact ⟨ret_bool (by symm; rw [decide_eq_false_iff_not]; intro e; exact Hne.out (by rw [e])), St.refl w⟩

end Go.Proofs.Ytdlmohigkkdegaa
end

section
/- The law FnIntercalates, walked. -/
namespace Go.Proofs.Ytdlmohigkkdegaa
set_option linter.unusedSimpArgs false
set_option linter.unusedVariables false
open Go.RowKit
attribute [local go_sem ↓] Go.wp_at_zero Go.wp_at_succ

theorem quad_sub {A : List (List Int)} (hA : Lat A) {r s c d : Nat} (h1 : r < s) (h2 : s < A.length) (h3 : c < d) (h4 : d < A.length) (h : Inc A r s c d) :
    dcn (entL A [(r : Int), (s : Int)] [(c : Int), (d : Int)]) = 2 ∧ validSetB [(r : Int), (s : Int)] A.length = true ∧ validSetB [(c : Int), (d : Int)] A.length = true := by
  have hn := hA.le
  have hne : at2 A r c ≠ at2 A r d := fun e => by have := hA.rinj (show r < A.length by omega) (show c < A.length by omega) h4 e; omega
  have i1 : inB (A.length : Int) 0 32 = true := inB_true (by omega)
  refine ⟨?_, ?_, ?_⟩
  · have e : entL A [(r : Int), (s : Int)] [(c : Int), (d : Int)] = [at2 A r c, at2 A r d, at2 A r d, at2 A r c] := by
      simp [entL, h.1, h.2]
    rw [e]
    have hne' : at2 A r d ≠ at2 A r c := fun e => hne e.symm
    simp [dcn, kL, Go.Maps.addKey, Lit.sameKey, hne, hne']
  · unfold validSetB; rw [i1, Bool.and_true]; simp [incB]; omega
  · unfold validSetB; rw [i1, Bool.and_true]; simp [incB]; omega
theorem par_ex {A : List (List Int)} (hA : Lat A) : ∃ p0 p1 p2 : Nat, parL A = [(p0 : Int), (p1 : Int), (p2 : Int)] ∧ p0 ≤ 1 ∧ p1 ≤ 1 ∧ p2 ≤ 1 ∧ (p0 + p1 + p2) % 2 = A.length * (A.length - 1) / 2 % 2 := by
  have h := par_law hA
  refine ⟨_, _, _, rfl, oddN_le _ _ _, oddN_le _ _ _, oddN_le _ _ _, ?_⟩
  simp only [parL, nth, List.getD_cons_zero, List.getD_cons_succ] at h
  omega
theorem latIso {A : List (List Int)} {r c s : List Int} (hA : Lat A) (hr : IsP r) (hc : IsP c) (hs : IsP s) (hrl : r.length = A.length) (hcl : c.length = A.length) (hsl : s.length = A.length) : Lat (isoL A r c s) := hA.iso hr hc hs hrl hcl hsl
set_option maxHeartbeats 16000000 in
set_option maxRecDepth 100000 in
theorem FnIntercalates_law (w : World) (cv : Value) (bs : List UInt8) (cm : Value) (ms : List UInt8) (hb : RdB w cv bs) (hm : RdB w cm ms) :
    Calls Try.prog 4 #[cv, cm] w (GivesB w true) := by
  have KL := Lib.hid (v8Long_c cv cm bs ms w hb hm)
  by_cases hlo : (decide (1048576 < (bs.length : Int)) || decide (1048576 < (ms.length : Int))) = true
  · rw [hlo] at KL
    clear hlo
    go_enter Try.func4, Try.ntmps4
    go_wp2_with (go_at_call 5; refine KL.out.mono ?_; rintro e w2 ⟨rfl, rfl⟩)
    go_ret
    exact ⟨rfl, St.refl _⟩
  · rw [Bool.not_eq_true] at hlo
    rw [hlo] at KL
    clear hlo
    go_enter Try.func4, Try.ntmps4
    go_wp2_with (go_at_call 5; refine KL.out.mono ?_; rintro e w2 ⟨rfl, rfl⟩)
    refine (V8Square_c w cv bs hb).mono ?_
    clear KL
    rintro e w1 ⟨va, ua, A, rfl, hA, hn6, hl, h1⟩
    have ra := h1.rii (v := va) hl
    have st1 := h1.out
    have hm1 := hm.keep h1.below
    obtain ⟨aa, ac, hsh⟩ := ra.1.sl.sh
    rw [ra.2.1] at hsh
    subst hsh
    have HA := Lib.hid hA
    clear hA h1 hl hb hm
    go_wp2_with fail
    refine (V8Isotope_c w1 cm _ ms ua A hm1 ra HA.out).mono ?_
    rintro e w2 ⟨vb, ub, pr, pc, ps, rfl, i1, i2, i3, i4, i5, i6, hl2, h2⟩
    have HB := Lib.hid (latIso HA.out i1 i2 i3 i4 i5 i6)
    have HI := Lib.hid (itL_iso HA.out i1 i2 i3 i4 i5 i6)
    have rb := h2.rii (v := vb) (hl2.trans (isoL_len _ _ _ _).symm)
    have ra2 := ra.keep h2.below
    have st2 := (st1.call0 h2.out).out
    have hm2 := hm1.keep h2.below
    clear i1 i2 i3 i4 i5 i6 hl2 h2 ra st1 hm1
    generalize isoL A pr pc ps = B at *
    have hlen2 := ra2.len
    go_wp2_with fail
    refine (IntercalatesOf_c _ ua A w2 ra2 HA.out).mono ?_
    rintro e w3 ⟨vl, ul, rfl, hl3, h3⟩
    have rl := h3.rii (v := vl) hl3
    have ra3 := ra2.keep h3.below
    have rb3 := rb.keep h3.below
    have st3 := (st2.call0 h3.out).out
    have hm3 := hm2.keep h3.below
    have Hl3 := Lib.hid hl3
    clear rb ra2 st2 hm2 hl3 h3 hlen2
    go_wp2_with fail
    refine (IntercalatesOf_c vb ub B w3 rb3 HB.out).mono ?_
    rintro e w4 ⟨vo, uo, rfl, hl4, h4⟩
    have ro := h4.rii (v := vo) hl4
    have rl4 := rl.keep h4.below
    have ra4 := ra3.keep h4.below
    have st4 := (st3.call0 h4.out).out
    have hm4 := hm3.keep h4.below
    clear hl4 h4 rl ra3 rb3 st3 hm3
    have hlo := ro.len
    rw [HI.out] at hlo
    have hll := rl4.len
    have hln := ra4.len
    have hlx := rl4.ixe
    have hle := rl4.le
    have f1 : (((itL A).length : Int) != ((itL A).length : Int)) = false := ne_f rfl
    have HM := Lib.hid (show ∀ k, k < (itL A).length → ∃ r s c d, r < s ∧ s < A.length ∧ c < d ∧ d < A.length ∧ Inc A r s c d ∧ xat (itL A) k = q4 r s c d from fun k hk => mem_itL.1 (xat_mem hk))
    clear HI ro HB
    generalize hI : itL A = I at *
    have HIe := Lib.hid hI
    clear hI
    go_wp2_with fail
    go_loopw [12] (fun i wr => ∃ k : Nat, k ≤ I.length ∧ i = .int .i64 k ∧ St w4.heap.size w4 wr []) (fun i _ => I.length - (intOf i).toNat)
    case atStart => exact ⟨0, by omega, rfl, St.refl w4⟩
    case round =>
      obtain ⟨k, hk, rfl, hS⟩ := hrel
      by_cases hlt : k < I.length
      · have hki : (k : Int) < (I.length : Int) := by omega
        obtain ⟨r, s, c, d, q1, q2, q3, q4', q5, q6⟩ := HM.out k hlt
        obtain ⟨z1, z2, z3⟩ := quad_sub HA.out q1 q2 q3 q4' q5
        have hrow := rl4.row k hlt
        rw [q6] at hrow
        have hx := hlx (k : Int) k rfl hlt
        have kc := fun q : SS w4.heap.size w4 [] => (q.st.oldII rl4).cell k hlt
        have hl4 := hrow.len
        rw [show (q4 r s c d).length = 4 from rfl] at hl4
        have s1 := rsl_hi hrow 2 (show 2 ≤ 4 by omega)
        have s2 := rsl_lo hrow 2 (show 2 ≤ 4 by omega)
        rw [show (q4 r s c d).length = 4 from rfl] at s2
        rw [show ((2 : Nat) : Int) = 2 from rfl] at s1 s2
        have R1 := rsl_rd hrow (lo := 0) (hi := 2) (by omega) (show 2 ≤ 4 by omega)
        have R2 := rsl_rd hrow (lo := 2) (hi := 4) (by omega) (show 4 ≤ 4 by omega)
        rw [show ((q4 r s c d).take 2).drop 0 = [(r : Int), (s : Int)] from rfl] at R1
        rw [show ((q4 r s c d).take 4).drop 2 = [(c : Int), (d : Int)] from rfl] at R2
        have KQ := fun q : SS w4.heap.size w4 [] => Lib.hid (IsSubsquare_c _ _ _ ua A _ _ q.w (q.st.oldII ra4) (q.st.oldI R1) (q.st.oldI R2) HA.out z2 z3 rfl (by simp))
        rw [z1, show decide (2 = [(r : Int), (s : Int)].length) = true from rfl] at KQ
        clear hrow z1 z2 z3 q1 q2 q3 q4' q5 q6 R1 R2
        go_wp2_with fail
        have hne : Nonempty (SS _ _ _) := ⟨⟨_, hS⟩⟩
        refine wp_region_st (by kernel_rfl) (by kernel_rfl) hS ?_
        repeat (go_big_quiet_step ((go_at_call 17; exact st_quiet (KQ _).out)))
        refine wpQuiet_nil ?_
        rintro _ ⟨s2, rfl⟩
        have hS5 := s2.st
        generalize s2.w = w5 at hS5 ⊢
        go_wp2_with fail
        go_roundw
        case rel => exact ⟨k + 1, by omega, by go_num, hS5⟩
        case measure => simp [intOf]; omega
      · obtain rfl : k = I.length := by omega
        by_cases hI0 : I.length = 0
        · have f2 : ¬ (0 : Int) < (I.length : Int) := by omega
          have hS6 := hS
          clear hk hlt hS
          go_wp2_with fail
          have hmT := hm4.keep hS6.below
          have KA := Lib.hid (v8At_c cm ms 1 (A.length : Int) _ hmT (by omega))
          rw [show ((1 : Nat) : Int) = 1 from rfl] at KA
          refine KA.out.mono ?_
          rintro e w10 ⟨z, z0, z1, rfl, rfl⟩
          obtain ⟨r, rfl⟩ := Int.eq_ofNat_of_zero_le z0
          have hA1 := HA.out.pos
          have hr : r < A.length := by omega
          clear KA z0 z1
          go_wp2_with fail
          have KA := Lib.hid (v8At_c cm ms 2 (A.length : Int) _ hmT (by omega))
          rw [show ((2 : Nat) : Int) = 2 from rfl] at KA
          refine KA.out.mono ?_
          rintro e w10 ⟨z, z0, z1, rfl, rfl⟩
          obtain ⟨s, rfl⟩ := Int.eq_ofNat_of_zero_le z0
          have hs : s < A.length := by omega
          clear KA z0 z1 hmT
          have K1 := fun W (h : RII W (.slice aa A.length ac) ua A) => Lib.hid (RowMap_c _ ua A 0 r W h HA.out (by omega) hr)
          have K2 := fun W (h : RII W (.slice aa A.length ac) ua A) => Lib.hid (RowMap_c _ ua A r s W h HA.out hr hs)
          have K3 := fun W (h : RII W (.slice aa A.length ac) ua A) => Lib.hid (RowMap_c _ ua A 0 s W h HA.out (by omega) hs)
          rw [show ((0 : Nat) : Int) = 0 from rfl] at K1 K3
          have K4 := fun v1 v2 W (h1 : RdI W v1 (rowM A 0 r)) (h2 : RdI W v2 (rowM A r s)) => Lib.hid (sCompose_c v1 v2 _ _ W h1 h2 (rowM_isP HA.out (by omega) hr) (rowM_isP HA.out hr hs) (by rw [rowM_len HA.out (by omega), rowM_len HA.out hr]) (by rw [rowM_len HA.out (by omega)]; omega))
          rw [rowM_cmp HA.out (by omega) hr hs] at K4
          have K5 := fun W (h : RII W (.slice aa A.length ac) ua A) => Lib.hid (ParitiesOf_c _ ua A W h HA.out)
          have K6 := fun v1 v2 W (h1 : RdI W v1 (rowM A 0 s)) (h2 : RdI W v2 (rowM A 0 s)) => Lib.hid (v8Same_c v1 v2 _ _ W h1 h2)
          rw [decide_eq_true rfl] at K6
          generalize rowM A 0 r = M1 at *
          generalize rowM A r s = M2 at *
          generalize rowM A 0 s = M3 at *
          go_wp2_with fail
          refine (K1 _ (hS6.oldII ra4)).out.mono ?_
          rintro e w11 ⟨x1, rfl, h11⟩
          have d1 := h11.rdI 0 rfl
          have st11 := (hS6.call0 h11.out).out
          clear h11 hS6 K1
          go_wp2_with fail
          refine (K2 _ (st11.oldII ra4)).out.mono ?_
          rintro e w12 ⟨x2, rfl, h12⟩
          have d2 := h12.rdI 0 rfl
          have d1 := d1.keep h12.below
          have st12 := (st11.call0 h12.out).out
          clear h12 st11 K2
          go_wp2_with fail
          refine (K3 _ (st12.oldII ra4)).out.mono ?_
          rintro e w13 ⟨x3, rfl, h13⟩
          have d3 := h13.rdI 0 rfl
          have d1 := d1.keep h13.below
          have d2 := d2.keep h13.below
          have st13 := (st12.call0 h13.out).out
          clear h13 st12 K3
          go_wp2_with fail
          refine (K4 x1 x2 _ d1 d2).out.mono ?_
          rintro e w14 ⟨x4, rfl, h14⟩
          have d4 := h14.rdI 0 rfl
          have d3 := d3.keep h14.below
          have st14 := (st13.call0 h14.out).out
          clear h14 st13 K4 d1 d2
          go_wp2_with fail
          refine (K5 _ (st14.oldII ra4)).out.mono ?_
          rintro e w15 ⟨x5, rfl, h15⟩
          have d5 := h15.rdI 0 rfl
          have d3 := d3.keep h15.below
          have d4 := d4.keep h15.below
          have st15 := (st14.call0 h15.out).out
          have l5 := d5.len
          rw [show (parL A).length = 3 from rfl] at l5
          clear h15 st14 K5
          go_wp2_with (go_at_call 16; refine (K6 x3 x4 _ d3 d4).out.mono ?_; rintro e w16 ⟨rfl, h16⟩; have d5 := d5.keep h16.below; have st16 := st15.call0 h16)
          obtain ⟨p0, p1, p2, he, hp0, hp1, hp2, hz⟩ := par_ex HA.out
          rw [he] at d5
          obtain ⟨M, hM⟩ : ∃ M : Nat, M = A.length * (A.length - 1) := ⟨_, rfl⟩
          have hM30 : M ≤ 6 * 6 := by rw [hM]; exact Nat.mul_le_mul hn6 (by omega)
          rw [← hM] at hz
          have w3 : IntKind.i64.wrap ((A.length : Int) - 1) = (A.length : Int) - 1 := IntWalk.i64_in _ (by omega)
          have w4 : IntKind.i64.wrap ((A.length : Int) * ((A.length : Int) - 1)) = (M : Int) := by
            have e : (A.length : Int) * ((A.length : Int) - 1) = (M : Int) := by
              rw [hM, Int.natCast_mul, Int.natCast_sub (by omega)]; rfl
            rw [e, IntWalk.i64_in _ (by omega)]
          obtain ⟨H, hH⟩ : ∃ H : Nat, H = M / 2 := ⟨_, rfl⟩
          have w5 : (M : Int).tdiv 2 = (H : Int) := by rw [hH, Int.tdiv_eq_ediv_of_nonneg (by omega)]; rfl
          have w5' : IntKind.i64.wrap (H : Int) = (H : Int) := IntWalk.i64_in _ (by omega)
          rw [← hH] at hz
          obtain ⟨z, hzz⟩ : ∃ z : Nat, z = H % 2 := ⟨_, rfl⟩
          have w6 : (H : Int).tmod 2 = (z : Int) := by rw [hzz, Int.tmod_eq_emod_of_nonneg (by omega)]; rfl
          obtain ⟨a, ha⟩ : ∃ a : Nat, a = p0 + p1 := ⟨_, rfl⟩
          obtain ⟨b, hb⟩ : ∃ b : Nat, b = a + p2 := ⟨_, rfl⟩
          have w1 : IntKind.i64.wrap ((p0 : Int) + (p1 : Int)) = (a : Int) := by rw [IntWalk.i64_in _ (by omega), ha]; rfl
          have w2 : IntKind.i64.wrap ((a : Int) + (p2 : Int)) = (b : Int) := by rw [IntWalk.i64_in _ (by omega), hb]; rfl
          have w7 : (b : Int).tmod 2 = (z : Int) := by
            rw [Int.tmod_eq_emod_of_nonneg (by omega)]; omega
          have wb : IntKind.i64.wrap (b : Int) = (b : Int) := IntWalk.i64_in _ (by omega)
          have kz : ((z : Int) == (z : Int)) = true := eq_t rfl
          have y0 := d5.ixe (0 : Int) 0 rfl (by simp)
          have y1 := d5.ixe (1 : Int) 1 rfl (by simp)
          have y2 := d5.ixe (2 : Int) 2 rfl (by simp)
          have c0 := fun q : SS w16.heap.size w16 [] => (q.st.oldI d5).cell 0 (by simp)
          have c1 := fun q : SS w16.heap.size w16 [] => (q.st.oldI d5).cell 1 (by simp)
          have c2 := fun q : SS w16.heap.size w16 [] => (q.st.oldI d5).cell 2 (by simp)
          rw [show nth [(p0 : Int), (p1 : Int), (p2 : Int)] 0 = (p0 : Int) from rfl] at c0
          rw [show nth [(p0 : Int), (p1 : Int), (p2 : Int)] 1 = (p1 : Int) from rfl] at c1
          rw [show nth [(p0 : Int), (p1 : Int), (p2 : Int)] 2 = (p2 : Int) from rfl] at c2
          have hS := St.refl w16
          clear hz hM hH hzz ha hb he d5 d3 d4 hM30 hp0 hp1 hp2
          have hne : Nonempty (SS _ _ _) := ⟨⟨_, hS⟩⟩
          refine wp_region_st (by kernel_rfl) (by kernel_rfl) hS ?_
          repeat (go_big_quiet_step (fail))
          refine wpQuiet_nil ?_
          rintro _ ⟨s2, rfl⟩
          have hS17 := s2.st
          generalize s2.w = w17 at hS17 ⊢
          go_wp2_with fail
          go_ret
          exact ⟨rfl, (st4.call0 st16.out).call0 hS17⟩
        · have f2 : (0 : Int) < (I.length : Int) := by omega
          have KA := Lib.hid (v8At_c cm ms 0 (I.length : Int) wr (hm4.keep hS.below) (by omega))
          rw [show ((0 : Nat) : Int) = 0 from rfl] at KA
          go_wp2_with fail
          refine KA.out.mono ?_
          rintro e w5 ⟨z, z0, z1, rfl, rfl⟩
          obtain ⟨j, rfl⟩ := Int.eq_ofNat_of_zero_le z0
          have hj : j < I.length := by omega
          have hxj := hlx (j : Int) j rfl hj
          have hcj := (hS.oldII rl4).cell j hj
          obtain ⟨r, s, c, d, q1, q2, q3, q4', q5, q6⟩ := HM.out j hj
          have hrow := rl4.row j hj
          rw [q6] at hrow
          have K1 := Lib.hid (SwitchIntercalate_c _ (vat ul j) ua A r s c d wr (hS.oldII ra4) (hS.oldI hrow) HA.out q1 q2 q3 q4' q5)
          have hXl := swI_lat HA.out q1 q2 q3 q4' q5
          have HX := Lib.hid hXl
          have hXn := swI_len (A := A) (r := r) (s := s) (c := c) (d := d)
          have K2 := fun vx ux W (hx : RII W vx ux (swI A r s c d)) (hr : RdI W (vat ul j) (q4 r s c d)) => Lib.hid (SwitchIntercalate_c vx (vat ul j) ux (swI A r s c d) r s c d W hx hr hXl q1 (by rw [hXn]; exact q2) q3 (by rw [hXn]; exact q4') (swI_inc q1 q2 q3 q4' q5))
          rw [swI_swI HA.out q1 q2 q3 q4'] at K2
          have hne := swI_ne HA.out q1 q2 q3 q4'
          have hXn' := Lib.hid hXn
          have D1 := Lib.hid (show decide (swI A r s c d = A) = false from decide_eq_false hne)
          have HrX := fun W (h : St w4.heap.size w4 W []) => Lib.hid (h.oldI hrow)
          clear z0 z1 q1 q2 q3 q4' q5 q6 hXl hne hXn hrow
          generalize swI A r s c d = X at *
          have L1 := fun vx ux W (hx : RII W vx ux X) => Lib.hid (sValidSquare_c vx ux X W hx)
          rw [latB_yes HX.out] at L1
          have L2 := fun vx ux va ua W (hx : RII W vx ux X) (ha : RII W va ua A) => Lib.hid (SameSquare_c vx va ux ua X A W hx ha)
          rw [D1.out] at L2
          have L3 := fun vx ux va ua W (hx : RII W vx ux A) (ha : RII W va ua A) => Lib.hid (SameSquare_c vx va ux ua A A W hx ha)
          rw [decide_eq_true rfl] at L3
          clear D1 KA
          go_wp2_with fail
          refine K1.out.mono ?_
          clear K1
          rintro e w5 ⟨vx, ux, rfl, hlx5, h5⟩
          have rx5 := h5.rii (v := vx) hlx5
          have st5 := (hS.call0 h5.out).out
          clear hlx5 h5 hS hcj
          go_wp2_with fail
          refine (K2 vx ux _ rx5 (HrX _ st5).out).out.mono ?_
          clear K2
          rintro e w6 ⟨vy, uy, rfl, hly6, h6⟩
          have ry6 := h6.rii (v := vy) hly6
          have rx6 := rx5.keep h6.below
          have st6 := (st5.call0 h6.out).out
          clear hly6 h6 rx5 st5
          go_wp2_with (first
            | (go_at_call 20; refine (L1 vx ux _ rx6).out.mono ?_; rintro e w7 ⟨rfl, h7⟩; have rx7 := rx6.keep h7.below; have ry7 := ry6.keep h7.below; have st7 := st6.call0 h7; clear rx6 ry6 st6)
            | (go_at_call_of 21 vx; refine (L2 vx ux _ ua _ rx7 (st7.oldII ra4)).out.mono ?_; rintro e w8 ⟨rfl, h8⟩; have ry8 := ry7.keep h8.below; have st8 := st7.call0 h8; clear rx7 ry7 st7)
            | (go_at_call_of 21 vy; have hz := st8; clear hz; refine (L3 vy uy _ ua _ ry8 (st8.oldII ra4)).out.mono ?_; rintro e w9 ⟨rfl, h9⟩; have hS6 := st8.call0 h9; clear ry8 st8))
          have hmT := hm4.keep hS6.below
          have KA := Lib.hid (v8At_c cm ms 1 (A.length : Int) _ hmT (by omega))
          rw [show ((1 : Nat) : Int) = 1 from rfl] at KA
          refine KA.out.mono ?_
          rintro e w10 ⟨z, z0, z1, rfl, rfl⟩
          obtain ⟨r, rfl⟩ := Int.eq_ofNat_of_zero_le z0
          have hA1 := HA.out.pos
          have hr : r < A.length := by omega
          clear KA z0 z1
          go_wp2_with fail
          have KA := Lib.hid (v8At_c cm ms 2 (A.length : Int) _ hmT (by omega))
          rw [show ((2 : Nat) : Int) = 2 from rfl] at KA
          refine KA.out.mono ?_
          rintro e w10 ⟨z, z0, z1, rfl, rfl⟩
          obtain ⟨s, rfl⟩ := Int.eq_ofNat_of_zero_le z0
          have hs : s < A.length := by omega
          clear KA z0 z1 hmT
          have K1 := fun W (h : RII W (.slice aa A.length ac) ua A) => Lib.hid (RowMap_c _ ua A 0 r W h HA.out (by omega) hr)
          have K2 := fun W (h : RII W (.slice aa A.length ac) ua A) => Lib.hid (RowMap_c _ ua A r s W h HA.out hr hs)
          have K3 := fun W (h : RII W (.slice aa A.length ac) ua A) => Lib.hid (RowMap_c _ ua A 0 s W h HA.out (by omega) hs)
          rw [show ((0 : Nat) : Int) = 0 from rfl] at K1 K3
          have K4 := fun v1 v2 W (h1 : RdI W v1 (rowM A 0 r)) (h2 : RdI W v2 (rowM A r s)) => Lib.hid (sCompose_c v1 v2 _ _ W h1 h2 (rowM_isP HA.out (by omega) hr) (rowM_isP HA.out hr hs) (by rw [rowM_len HA.out (by omega), rowM_len HA.out hr]) (by rw [rowM_len HA.out (by omega)]; omega))
          rw [rowM_cmp HA.out (by omega) hr hs] at K4
          have K5 := fun W (h : RII W (.slice aa A.length ac) ua A) => Lib.hid (ParitiesOf_c _ ua A W h HA.out)
          have K6 := fun v1 v2 W (h1 : RdI W v1 (rowM A 0 s)) (h2 : RdI W v2 (rowM A 0 s)) => Lib.hid (v8Same_c v1 v2 _ _ W h1 h2)
          rw [decide_eq_true rfl] at K6
          generalize rowM A 0 r = M1 at *
          generalize rowM A r s = M2 at *
          generalize rowM A 0 s = M3 at *
          go_wp2_with fail
          refine (K1 _ (hS6.oldII ra4)).out.mono ?_
          rintro e w11 ⟨x1, rfl, h11⟩
          have d1 := h11.rdI 0 rfl
          have st11 := (hS6.call0 h11.out).out
          clear h11 hS6 K1
          go_wp2_with fail
          refine (K2 _ (st11.oldII ra4)).out.mono ?_
          rintro e w12 ⟨x2, rfl, h12⟩
          have d2 := h12.rdI 0 rfl
          have d1 := d1.keep h12.below
          have st12 := (st11.call0 h12.out).out
          clear h12 st11 K2
          go_wp2_with fail
          refine (K3 _ (st12.oldII ra4)).out.mono ?_
          rintro e w13 ⟨x3, rfl, h13⟩
          have d3 := h13.rdI 0 rfl
          have d1 := d1.keep h13.below
          have d2 := d2.keep h13.below
          have st13 := (st12.call0 h13.out).out
          clear h13 st12 K3
          go_wp2_with fail
          refine (K4 x1 x2 _ d1 d2).out.mono ?_
          rintro e w14 ⟨x4, rfl, h14⟩
          have d4 := h14.rdI 0 rfl
          have d3 := d3.keep h14.below
          have st14 := (st13.call0 h14.out).out
          clear h14 st13 K4 d1 d2
          go_wp2_with fail
          refine (K5 _ (st14.oldII ra4)).out.mono ?_
          rintro e w15 ⟨x5, rfl, h15⟩
          have d5 := h15.rdI 0 rfl
          have d3 := d3.keep h15.below
          have d4 := d4.keep h15.below
          have st15 := (st14.call0 h15.out).out
          have l5 := d5.len
          rw [show (parL A).length = 3 from rfl] at l5
          clear h15 st14 K5
          go_wp2_with (go_at_call 16; refine (K6 x3 x4 _ d3 d4).out.mono ?_; rintro e w16 ⟨rfl, h16⟩; have d5 := d5.keep h16.below; have st16 := st15.call0 h16)
          obtain ⟨p0, p1, p2, he, hp0, hp1, hp2, hz⟩ := par_ex HA.out
          rw [he] at d5
          obtain ⟨M, hM⟩ : ∃ M : Nat, M = A.length * (A.length - 1) := ⟨_, rfl⟩
          have hM30 : M ≤ 6 * 6 := by rw [hM]; exact Nat.mul_le_mul hn6 (by omega)
          rw [← hM] at hz
          have w3 : IntKind.i64.wrap ((A.length : Int) - 1) = (A.length : Int) - 1 := IntWalk.i64_in _ (by omega)
          have w4 : IntKind.i64.wrap ((A.length : Int) * ((A.length : Int) - 1)) = (M : Int) := by
            have e : (A.length : Int) * ((A.length : Int) - 1) = (M : Int) := by
              rw [hM, Int.natCast_mul, Int.natCast_sub (by omega)]; rfl
            rw [e, IntWalk.i64_in _ (by omega)]
          obtain ⟨H, hH⟩ : ∃ H : Nat, H = M / 2 := ⟨_, rfl⟩
          have w5 : (M : Int).tdiv 2 = (H : Int) := by rw [hH, Int.tdiv_eq_ediv_of_nonneg (by omega)]; rfl
          have w5' : IntKind.i64.wrap (H : Int) = (H : Int) := IntWalk.i64_in _ (by omega)
          rw [← hH] at hz
          obtain ⟨z, hzz⟩ : ∃ z : Nat, z = H % 2 := ⟨_, rfl⟩
          have w6 : (H : Int).tmod 2 = (z : Int) := by rw [hzz, Int.tmod_eq_emod_of_nonneg (by omega)]; rfl
          obtain ⟨a, ha⟩ : ∃ a : Nat, a = p0 + p1 := ⟨_, rfl⟩
          obtain ⟨b, hb⟩ : ∃ b : Nat, b = a + p2 := ⟨_, rfl⟩
          have w1 : IntKind.i64.wrap ((p0 : Int) + (p1 : Int)) = (a : Int) := by rw [IntWalk.i64_in _ (by omega), ha]; rfl
          have w2 : IntKind.i64.wrap ((a : Int) + (p2 : Int)) = (b : Int) := by rw [IntWalk.i64_in _ (by omega), hb]; rfl
          have w7 : (b : Int).tmod 2 = (z : Int) := by
            rw [Int.tmod_eq_emod_of_nonneg (by omega)]; omega
          have wb : IntKind.i64.wrap (b : Int) = (b : Int) := IntWalk.i64_in _ (by omega)
          have kz : ((z : Int) == (z : Int)) = true := eq_t rfl
          have y0 := d5.ixe (0 : Int) 0 rfl (by simp)
          have y1 := d5.ixe (1 : Int) 1 rfl (by simp)
          have y2 := d5.ixe (2 : Int) 2 rfl (by simp)
          have c0 := fun q : SS w16.heap.size w16 [] => (q.st.oldI d5).cell 0 (by simp)
          have c1 := fun q : SS w16.heap.size w16 [] => (q.st.oldI d5).cell 1 (by simp)
          have c2 := fun q : SS w16.heap.size w16 [] => (q.st.oldI d5).cell 2 (by simp)
          rw [show nth [(p0 : Int), (p1 : Int), (p2 : Int)] 0 = (p0 : Int) from rfl] at c0
          rw [show nth [(p0 : Int), (p1 : Int), (p2 : Int)] 1 = (p1 : Int) from rfl] at c1
          rw [show nth [(p0 : Int), (p1 : Int), (p2 : Int)] 2 = (p2 : Int) from rfl] at c2
          have hS := St.refl w16
          clear hz hM hH hzz ha hb he d5 d3 d4 hM30 hp0 hp1 hp2
          have hne : Nonempty (SS _ _ _) := ⟨⟨_, hS⟩⟩
          refine wp_region_st (by kernel_rfl) (by kernel_rfl) hS ?_
          repeat (go_big_quiet_step (fail))
          refine wpQuiet_nil ?_
          rintro _ ⟨s2, rfl⟩
          have hS17 := s2.st
          generalize s2.w = w17 at hS17 ⊢
          go_wp2_with fail
          go_ret
          exact ⟨rfl, (st4.call0 st16.out).call0 hS17⟩
end Go.Proofs.Ytdlmohigkkdegaa
end

section
/- How arguments that come in read. How bytes that come in read. -/
namespace Go.Proofs.Ytdlmohigkkdegaa
set_option linter.unusedSimpArgs false
set_option linter.unusedVariables false
open Go.RowKit


/-- what came in as a slice of integers: nothing, or a row of numbers that fit -/
def IsRow (k : IntKind) (w : World) (a : Option Addr) (len cap : Nat) (zs : List Int) : Prop :=
  (a = none ∧ len = 0 ∧ cap = 0 ∧ zs = []) ∨
  ∃ x, a = some x ∧ len ≤ cap ∧ cap ≤ maxLen ∧ zs.length = cap ∧ (∀ i, i < zs.length → w.cell? (x.add i) = some (.int k (zs.getD i 0))) ∧ ∀ n ∈ zs, (Lit.int k n).wf = true

theorem IsRow.rd {k : IntKind} {w : World} {a : Option Addr} {len cap : Nat} {zs : List Int} (h : IsRow k w a len cap zs) : Rd w (.slice a len cap) ((zs.take len).map (Value.int k)) := by
  rcases h with ⟨rfl, rfl, rfl, rfl⟩ | ⟨x, rfl, h1, h2, h3, h4, h5⟩
  · exact Rd.nil w
  · have hl : ((zs.take len).map (Value.int k)).length = len := by simp; omega
    refine ⟨⟨some x, cap, by rw [hl], by omega, h2, .inr (by simp)⟩, ?_⟩
    intro i u hu
    have hi : i < len := by have := (List.getElem?_eq_some_iff.1 hu).1; omega
    have := h4 i (by omega)
    simp only [List.getElem?_map, List.getElem?_take, hi, if_true] at hu
    rw [List.getElem?_eq_getElem (by omega)] at hu
    simp at hu
    simp only [el]
    rw [this, ← hu]
    simp [List.getD, List.getElem?_eq_getElem (show i < zs.length by omega)]


theorem IsRow.rdB {w : World} {a : Option Addr} {len cap : Nat} {zs : List Int} (h : IsRow .u8 w a len cap zs) : ∃ bs, RdB w (.slice a len cap) bs := by
  refine ⟨(zs.take len).map fun n => UInt8.ofNat n.toNat, ?_⟩
  have h1 := h.rd
  have hw : ∀ n ∈ zs, 0 ≤ n ∧ n ≤ 255 := by
    rcases h with ⟨_, _, _, rfl⟩ | ⟨_, _, _, _, _, _, h5⟩
    · simp
    · intro n hn; have := h5 n hn; simpa [Lit.wf, IntKind.min, IntKind.max, IntKind.signed, IntKind.bits] using this
  unfold RdB bv
  rw [List.map_map]
  rw [List.map_congr_left (g := Value.int .u8)]
  · exact h1
  · intro n hn
    have := hw n (List.mem_of_mem_take hn)
    simp only [Function.comp]
    congr 1
    rw [UInt8.toNat_ofNat']
    omega

end Go.Proofs.Ytdlmohigkkdegaa
end

section
/- FnIntercalates holds: for every input the call returns true and leaves its arguments as they are. No condition. -/
namespace Go.Proofs.Ytdlmohigkkdegaa.fnIntercalates
set_option linter.unusedSimpArgs false
set_option linter.unusedVariables false
open Go.ChangeShapes Go.WideShapes Go.ChangeAt Go.RowKit
set_option linter.unusedVariables false

theorem own : ownKnob Try.prog.godebug = none := by kernel_rfl
theorem laidOut : laidOutB Try.prog = true := by kernel_rfl

set_option maxRecDepth 100000 in
theorem lifted (os : Os) (started : os.Started) (H : Type) (enc : TypeId × Value → H) :
    ReturnsInHanded {} Try.checked os 4 .any (Rows.fnIntercalatesSpec.pre6 enc Try.prog Try.f4 Rows.fnIntercalatesRow.domain false) (Rows.fnIntercalatesSpec.post enc Try.prog Try.f4 false true false false) := by
  refine returnsInHanded_of_change (C := Try.checked) own started (by kernel_rfl) Try.func4
    (ChangeSpec.witness6 (enc := enc) (C := Try.checked) false ⟨#[], #[.slice none 0 0, .slice none 0 0], []⟩ 8 (by kernel_rfl) (by kernel_rfl) (by kernel_rfl) (by kernel_rfl)) ?_
  intro W base args ds gs before hval0 hW hcnd _
  have hval : ∀ (j : Nat) t v, Try.f4.params[j]? = some t → args[j]? = some v → Value.okWide Try.prog W .any base t v := hval0
  have hW' := hW
  obtain ⟨p, q, hA0, hV, rfl, hfz, hnd⟩ := hW
  have hA : DataW.TrodAll enc Try.prog W 0 (fun _ => true) true Try.f4.params.toList args.toList ds p := hA0
  rw [Try.params4] at hA hval
  obtain ⟨v0, vs0, d0, ds0, p0, q0, hargs, rfl, rfl, h0, r0⟩ := trodAll_cons hA
  obtain ⟨v1, vs1, d1, ds1, p1, q1, rfl, rfl, rfl, h1, r1⟩ := trodAll_cons r0
  obtain ⟨rfl, rfl, rfl⟩ := trodAll_nil r1
  obtain rfl : args = #[v0, v1] := by cases args; simp_all
  obtain ⟨rfl, rfl⟩ := trodVars_none hV
  obtain ⟨a0, len0, cap0, rfl⟩ := okWide_slice Try.underlying22 (hval 0 22 v0 rfl rfl)
  have k0 := h0
  have lt0 : ∀ x ∈ p0, x.block < W.heap.size := by obtain ⟨m, hm⟩ := k0; exact DataW.trod_lt m _ _ _ hm
  obtain ⟨bs0, rd0⟩ : ∃ bs, RdB W (.slice a0 len0 cap0) bs := by
    obtain ⟨fuel, hf⟩ := h0
    rcases open_ints Try.underlying22 Try.underlying5 (by kernel_rfl) hf with ⟨hcs, _⟩ | ⟨x, l, c, zs, hcs, _, hl, hm, hz, _, hcell, hwz⟩
    · simp [Value.cells] at hcs
      obtain ⟨rfl, rfl, rfl⟩ := hcs
      exact IsRow.rdB (zs := []) (.inl ⟨rfl, rfl, rfl, rfl⟩)
    · simp [Value.cells] at hcs
      obtain ⟨rfl, rfl, rfl⟩ := hcs
      exact IsRow.rdB (zs := zs) (.inr ⟨_, rfl, hl, hm, by simpa using hz, hcell, hwz⟩)
  obtain ⟨a1, len1, cap1, rfl⟩ := okWide_slice Try.underlying22 (hval 1 22 v1 rfl rfl)
  have k1 := h1
  have lt1 : ∀ x ∈ p1, x.block < W.heap.size := by obtain ⟨m, hm⟩ := k1; exact DataW.trod_lt m _ _ _ hm
  obtain ⟨bs1, rd1⟩ : ∃ bs, RdB W (.slice a1 len1 cap1) bs := by
    obtain ⟨fuel, hf⟩ := h1
    rcases open_ints Try.underlying22 Try.underlying5 (by kernel_rfl) hf with ⟨hcs, _⟩ | ⟨x, l, c, zs, hcs, _, hl, hm, hz, _, hcell, hwz⟩
    · simp [Value.cells] at hcs
      obtain ⟨rfl, rfl, rfl⟩ := hcs
      exact IsRow.rdB (zs := []) (.inl ⟨rfl, rfl, rfl, rfl⟩)
    · simp [Value.cells] at hcs
      obtain ⟨rfl, rfl, rfl⟩ := hcs
      exact IsRow.rdB (zs := zs) (.inr ⟨_, rfl, hl, hm, by simpa using hz, hcell, hwz⟩)
  clear hA0 hval0
  refine (FnIntercalates_law W _ bs0 _ bs1 rd0 rd1).mono fun e W' ⟨he, hst⟩ => ?_
  have bel := hst.below
  subst he
  exact ⟨_, rfl, _, _, _, [], _, [], hW', trodAll_mk1 (shut_bool Try.underlying4 _), (trodAll_cons_mk (Below.trod laidOut (by kernel_rfl) (of_decide_eq_true (by kernel_rfl)) k0 bel lt0) (trodAll_cons_mk (Below.trod laidOut (by kernel_rfl) (of_decide_eq_true (by kernel_rfl)) k1 bel lt1) trodAll_mk0)), rfl, bel.frame _, fun h => by cases h⟩

theorem over : Rows.fnIntercalatesRow.holds Try.pinned (OpenSpec.ofChange Rows.fnIntercalatesSpec) :=
  OpenClaim.holds_of_wide 4 Try.f4 rfl rfl rfl rfl rfl rfl rfl ⟨rfl, rfl, rfl, rfl, rfl⟩ rfl rfl rfl rfl rfl (by kernel_rfl) Try.func4 (by kernel_rfl)
    (of_decide_eq_true (by kernel_rfl)) (by unfold Func.isWrapper; first | (rw [if_pos (by decide +kernel)]; kernel_rfl) | (rw [if_neg (by decide +kernel)]; exact ⟨rfl, rfl⟩))
    (fun os started H enc _ => lifted os started H enc)

theorem proved : Rows.FnIntercalatesSaid := over
#print axioms proved
end Go.Proofs.Ytdlmohigkkdegaa.fnIntercalates
end
