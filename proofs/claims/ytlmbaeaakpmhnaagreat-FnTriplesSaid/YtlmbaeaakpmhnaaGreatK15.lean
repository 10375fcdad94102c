/- The texts of this claim, run 15: Qg4 Tr10 Tr5 Tr6 Tr9 Tr7 Tr8 PTs4 V8l LTri Prf PFnTriples. -/
import Derived.Test.YtlmbaeaakpmhnaaGreatK4
import Derived.Test.YtlmbaeaakpmhnaaGreatK5
import Derived.Test.YtlmbaeaakpmhnaaGreatK6
import Derived.Test.YtlmbaeaakpmhnaaGreatK8
import Derived.Test.YtlmbaeaakpmhnaaGreatK11
import Derived.Test.YtlmbaeaakpmhnaaGreatK12
import Derived.Test.YtlmbaeaakpmhnaaGreatK14
import Derived.ProofKit
import Derived.OpenShut
import Derived.ShutString
import Derived.ChangeOld
import Derived.Below
section
/- Walks: the identities that a square satisfies. -/
namespace Go.Proofs.YtlmbaeaakpmhnaaGreat
set_option linter.unusedSimpArgs false
set_option linter.unusedVariables false
open Go.RowKit
attribute [local go_sem ↓] Go.wp_at_zero Go.wp_at_succ

section
variable {g x y : Nat} {a : Option Addr} {c : Nat} {us : List Value} {A : List (List Int)} {W : World}
set_option maxHeartbeats 4000000 in
set_option maxRecDepth 100000 in
theorem sat1_c (hb : BxS W g a c us A) (hA : Sq0 A.length A) (hx : x < A.length) : Calls Tryz.prog 127 #[.int .i64 x, .pointer (some ⟨g, 0, none⟩)] W (GivesB W (decide (at2 A x x = x))) := by
  have s0 := hb.bx
  have r1 := hb.row hx
  have c1 := hb.ent hA hx hx
  have i1 := hb.ix hx
  have j1 := hb.ixr hA hx hx
  generalize at2 A x x = p at *
  clear hb hx
  go_enter Tryz.func127, Tryz.ntmps127
  go_wp2_with fail
  go_ret
  exact ⟨ret_bool (by rw [beq_dec]), St.refl W⟩
set_option maxHeartbeats 4000000 in
set_option maxRecDepth 100000 in
theorem sat2_c (hb : BxS W g a c us A) (hA : Sq0 A.length A) (hx : x < A.length) : Calls Tryz.prog 128 #[.int .i64 x, .pointer (some ⟨g, 0, none⟩)] W (GivesB W (decide (at2 A x x = at2 A 0 0))) := by
  have h0 : 0 < A.length := by omega
  have s0 := fun q : SS W.heap.size W [] => (hb.keep q.st).bx
  have r1 := fun q : SS W.heap.size W [] => (hb.keep q.st).row hx
  have r2 := fun q : SS W.heap.size W [] => (hb.keep q.st).row h0
  have c1 := fun q : SS W.heap.size W [] => (hb.keep q.st).ent hA hx hx
  have c2 := fun q : SS W.heap.size W [] => (hb.keep q.st).ent hA h0 h0
  have i1 := hb.ix hx
  have j1 := hb.ixr hA hx hx
  have i2 := hb.ix h0
  have j2 := hb.ixr hA h0 h0
  rw [show ((0 : Nat) : Int) = 0 from rfl] at i2 j2
  generalize at2 A x x = p at *
  generalize at2 A 0 0 = q at *
  clear hb hx h0
  have hS := St.refl W
  go_enter Tryz.func128, Tryz.ntmps128
  go_wp2_with fail
  have hne : Nonempty (SS _ _ _) := ⟨⟨_, hS⟩⟩
  refine wp_region_st (by kernel_rfl) (by kernel_rfl) hS ?_
  repeat (go_big_quiet_step (fail))
  refine wpQuiet_nil ?_
  rintro _ ⟨s2, rfl⟩
  have hS2 := s2.st
  generalize s2.w = w2 at hS2 ⊢
  go_wp2_with fail
  go_ret
  exact ⟨ret_bool (by rw [beq_dec]), hS2⟩
set_option maxHeartbeats 4000000 in
set_option maxRecDepth 100000 in
theorem sat3_c (hb : BxS W g a c us A) (hA : Sq0 A.length A) (hx : x < A.length) (hy : y < A.length) : Calls Tryz.prog 130 #[.int .i64 x, .int .i64 y, .pointer (some ⟨g, 0, none⟩)] W (GivesB W (decide (at2 A x y = at2 A y x))) := by
  have s0 := fun q : SS W.heap.size W [] => (hb.keep q.st).bx
  have r1 := fun q : SS W.heap.size W [] => (hb.keep q.st).row hx
  have r2 := fun q : SS W.heap.size W [] => (hb.keep q.st).row hy
  have c1 := fun q : SS W.heap.size W [] => (hb.keep q.st).ent hA hx hy
  have c2 := fun q : SS W.heap.size W [] => (hb.keep q.st).ent hA hy hx
  have i1 := hb.ix hx
  have j1 := hb.ixr hA hx hy
  have i2 := hb.ix hy
  have j2 := hb.ixr hA hy hx
  generalize at2 A x y = p at *
  generalize at2 A y x = q at *
  clear hb hx hy
  have hS := St.refl W
  go_enter Tryz.func130, Tryz.ntmps130
  go_wp2_with fail
  have hne : Nonempty (SS _ _ _) := ⟨⟨_, hS⟩⟩
  refine wp_region_st (by kernel_rfl) (by kernel_rfl) hS ?_
  repeat (go_big_quiet_step (fail))
  refine wpQuiet_nil ?_
  rintro _ ⟨s2, rfl⟩
  have hS2 := s2.st
  generalize s2.w = w2 at hS2 ⊢
  go_wp2_with fail
  go_ret
  exact ⟨ret_bool (by rw [beq_dec]), hS2⟩
set_option maxHeartbeats 4000000 in
set_option maxRecDepth 100000 in
theorem sat4_c (hb : BxS W g a c us A) (hA : Sq0 A.length A) (hx : x < A.length) (hy : y < A.length) : Calls Tryz.prog 134 #[.int .i64 x, .int .i64 y, .pointer (some ⟨g, 0, none⟩)] W (GivesB W (decide (at2 A x (af A y x) = y))) := by
  obtain ⟨e1, m1⟩ := ent hA hy hx
  have s0 := fun q : SS W.heap.size W [] => (hb.keep q.st).bx
  have r1 := fun q : SS W.heap.size W [] => (hb.keep q.st).row hx
  have r2 := fun q : SS W.heap.size W [] => (hb.keep q.st).row hy
  have c1 := fun q : SS W.heap.size W [] => (hb.keep q.st).ent hA hy hx
  have c2 := fun q : SS W.heap.size W [] => (hb.keep q.st).ent hA hx m1
  have i1 := hb.ix hx
  have j1 := hb.ixr hA hx m1
  have i2 := hb.ix hy
  have j2 := hb.ixr hA hy hx
  rw [e1] at c1
  generalize af A y x = m at *
  generalize at2 A x m = q at *
  clear hb hx hy e1 m1
  have hS := St.refl W
  go_enter Tryz.func134, Tryz.ntmps134
  go_wp2_with fail
  have hne : Nonempty (SS _ _ _) := ⟨⟨_, hS⟩⟩
  refine wp_region_st (by kernel_rfl) (by kernel_rfl) hS ?_
  repeat (go_big_quiet_step (fail))
  refine wpQuiet_nil ?_
  rintro _ ⟨s2, rfl⟩
  have hS2 := s2.st
  generalize s2.w = w2 at hS2 ⊢
  go_wp2_with fail
  go_ret
  exact ⟨ret_bool (by rw [beq_dec]), hS2⟩
end
/-- whether the square satisfies the identity of a kind -/
noncomputable def satB (A : List (List Int)) (k : Nat) : Bool :=
  if k = 1 then allB A.length fun x => decide (at2 A x x = x)
  else if k = 2 then allB A.length fun x => decide (at2 A x x = at2 A 0 0)
  else if k = 3 then allB A.length fun x => allB A.length fun y => decide (at2 A x y = at2 A y x)
  else if k = 4 then decide (0 ≤ luI A)
  else if k = 5 then decide (0 ≤ ruI A)
  else if k = 6 then ascB A
  else allB A.length fun x => allB A.length fun y => decide (at2 A x (af A y x) = y)
set_option maxHeartbeats 8000000 in
set_option maxRecDepth 100000 in
theorem satisfies_c (a : Option Addr) (c : Nat) (us : List Value) (A : List (List Int)) (k : Nat) (w : World) (hv : RII w (.slice a A.length c) us A) (hA : Sq0 A.length A) (hn : A.length ≤ 1000) (h1 : 1 ≤ k) (h7 : k ≤ 7) :
    Calls Tryz.prog 55 #[.slice a A.length c, .int .i64 k] w (GivesB w (satB A k)) := by
  have hS1 := (St.refl w).newboxF 27 #[.slice a A.length c]
  have b0 := hS1.bcell 0 rfl 0 rfl
  have hb : ∀ {W : World}, St (w.alloc (.cells #[.slice a A.length c] 27)).heap.size (w.alloc (.cells #[.slice a A.length c] 27)) W [] → BxS W w.heap.size a c us A := fun h => ⟨(hS1.call0 h).oldII hv, (hS1.call0 h).bcell 0 rfl 0 rfl⟩
  have hmf : ∀ (fn : Fn) (first cap : Array Value) (w : World), (Instr.makeFunc fn first cap).run Tryz.prog w = .ok (.func fn first cap) w := fun _ _ _ _ => rfl
  have cf1 := callFunc_go Tryz.func127 (by kernel_rfl) (by kernel_rfl)
  have cf2 := callFunc_go Tryz.func128 (by kernel_rfl) (by kernel_rfl)
  have cf3 := callFunc_go Tryz.func130 (by kernel_rfl) (by kernel_rfl)
  have cf4 := callFunc_go Tryz.func134 (by kernel_rfl) (by kernel_rfl)
  have K1 := Lib.hid (forAll_c 127 #[.pointer (some ⟨w.heap.size, 0, none⟩)] (fun x => decide (at2 A x x = x)) (.slice a A.length c) us A _ (hS1.oldII hv) cf1 (fun x W' hW hx => sat1_c (hb hW) hA hx))
  have K2 := Lib.hid (forAll_c 128 #[.pointer (some ⟨w.heap.size, 0, none⟩)] (fun x => decide (at2 A x x = at2 A 0 0)) (.slice a A.length c) us A _ (hS1.oldII hv) cf2 (fun x W' hW hx => sat2_c (hb hW) hA hx))
  have K3 := Lib.hid (forPairs_c 130 #[.pointer (some ⟨w.heap.size, 0, none⟩)] (fun x y => decide (at2 A x y = at2 A y x)) a c us A _ (hS1.oldII hv) cf3 (fun x y W' hW hx hy => sat3_c (hb hW) hA hx hy))
  have K7 := Lib.hid (forPairs_c 134 #[.pointer (some ⟨w.heap.size, 0, none⟩)] (fun x y => decide (at2 A x (af A y x) = y)) a c us A _ (hS1.oldII hv) cf4 (fun x y W' hW hx hy => sat4_c (hb hW) hA hx hy))
  have K4 := Lib.hid (leftUnit_c a c us A _ (hS1.oldII hv) hn)
  have K5 := Lib.hid (rightUnit_c a c us A _ (hS1.oldII hv) hA hn)
  have K6 := Lib.hid (associative_c a c us A _ (hS1.oldII hv) hA)
  clear cf1 cf2 cf3 cf4 hA hb
  have hk : k = 1 ∨ k = 2 ∨ k = 3 ∨ k = 4 ∨ k = 5 ∨ k = 6 ∨ k = 7 := by omega
  clear h1 h7
  have HD := Lib.hid (show ∀ z : Int, (decide (z ≥ 0)) = decide (0 ≤ z) from fun _ => rfl)
  rcases hk with rfl | rfl | rfl | rfl | rfl | rfl | rfl
  · rw [show satB A 1 = allB A.length fun x => decide (at2 A x x = x) from rfl]
    go_enter Tryz.func55, Tryz.ntmps55
    go_wp2_with fail
    refine K1.out.mono ?_
    rintro e w2 ⟨rfl, h3⟩
    have hS2 := hS1.call0 h3
    go_wp2_with fail
    go_ret
    exact ⟨rfl, hS2.out⟩
  · rw [show satB A 2 = allB A.length fun x => decide (at2 A x x = at2 A 0 0) from rfl]
    go_enter Tryz.func55, Tryz.ntmps55
    go_wp2_with fail
    refine K2.out.mono ?_
    rintro e w2 ⟨rfl, h3⟩
    have hS2 := hS1.call0 h3
    go_wp2_with fail
    go_ret
    exact ⟨rfl, hS2.out⟩
  · rw [show satB A 3 = allB A.length fun x => allB A.length fun y => decide (at2 A x y = at2 A y x) from rfl]
    go_enter Tryz.func55, Tryz.ntmps55
    go_wp2_with fail
    refine K3.out.mono ?_
    rintro e w2 ⟨rfl, h3⟩
    have hS2 := hS1.call0 h3
    go_wp2_with fail
    go_ret
    exact ⟨rfl, hS2.out⟩
  · rw [show satB A 4 = decide (0 ≤ luI A) from rfl]
    generalize luI A = z at *
    go_enter Tryz.func55, Tryz.ntmps55
    go_wp2_with fail
    refine K4.out.mono ?_
    rintro e w2 ⟨rfl, h3⟩
    have hS2 := hS1.call0 h3
    go_wp2_with fail
    go_ret
    exact ⟨by first | rfl | exact ret_bool (by simp), hS2.out⟩
  · rw [show satB A 5 = decide (0 ≤ ruI A) from rfl]
    generalize ruI A = z at *
    go_enter Tryz.func55, Tryz.ntmps55
    go_wp2_with fail
    refine K5.out.mono ?_
    rintro e w2 ⟨rfl, h3⟩
    have hS2 := hS1.call0 h3
    go_wp2_with fail
    go_ret
    exact ⟨by first | rfl | exact ret_bool (by simp), hS2.out⟩
  · rw [show satB A 6 = ascB A from rfl]
    go_enter Tryz.func55, Tryz.ntmps55
    go_wp2_with fail
    refine K6.out.mono ?_
    rintro e w2 ⟨rfl, h3⟩
    have hS2 := hS1.call0 h3
    go_wp2_with fail
    go_ret
    exact ⟨rfl, hS2.out⟩
  · rw [show satB A 7 = allB A.length fun x => allB A.length fun y => decide (at2 A x (af A y x) = y) from rfl]
    go_enter Tryz.func55, Tryz.ntmps55
    go_wp2_with fail
    refine K7.out.mono ?_
    rintro e w2 ⟨rfl, h3⟩
    have hS2 := hS1.call0 h3
    go_wp2_with fail
    go_ret
    exact ⟨rfl, hS2.out⟩
/-- with the last kind -/
noncomputable def satB8 (A : List (List Int)) (k : Nat) : Bool := if k = 8 then satB A 3 && satB A 7 else satB A k
set_option maxHeartbeats 8000000 in
set_option maxRecDepth 100000 in
theorem satisfies8_c (a : Option Addr) (c : Nat) (us : List Value) (A : List (List Int)) (w : World) (hv : RII w (.slice a A.length c) us A) (hA : Sq0 A.length A) (hn : A.length ≤ 1000) :
    Calls Tryz.prog 55 #[.slice a A.length c, .int .i64 8] w (GivesB w (satB A 3 && satB A 7)) := by
  have hS1 := (St.refl w).newboxF 27 #[.slice a A.length c]
  have b0 := hS1.bcell 0 rfl 0 rfl
  have K3 := fun W (h : RII W (.slice a A.length c) us A) => Lib.hid (satisfies_c a c us A 3 W h hA hn (by omega) (by omega))
  have K7 := fun W (h : RII W (.slice a A.length c) us A) => Lib.hid (satisfies_c a c us A 7 W h hA hn (by omega) (by omega))
  rw [show ((3 : Nat) : Int) = 3 from rfl] at K3
  rw [show ((7 : Nat) : Int) = 7 from rfl] at K7
  generalize satB A 3 = p at *
  generalize satB A 7 = q at *
  clear hA
  cases p
  · go_enter Tryz.func55, Tryz.ntmps55
    go_wp2_with (go_at_call_of 55 (Value.int IntKind.i64 3); refine (K3 _ (hS1.oldII hv)).out.mono ?_; rintro e w2 ⟨rfl, h2⟩; have hS2 := hS1.call0 h2; have b0 := hS2.bcell 0 rfl 0 rfl)
    go_ret
    exact ⟨rfl, hS2.out⟩
  · go_enter Tryz.func55, Tryz.ntmps55
    go_wp2_with (first
      | (go_at_call_of 55 (Value.int IntKind.i64 3); refine (K3 _ (hS1.oldII hv)).out.mono ?_; rintro e w2 ⟨rfl, h2⟩; have hS2 := hS1.call0 h2; have b0 := hS2.bcell 0 rfl 0 rfl)
      | (go_at_call_of 55 (Value.int IntKind.i64 7); refine (K7 _ (hS2.oldII hv)).out.mono ?_; rintro e w3 ⟨rfl, h3⟩; have hS3 := hS2.call0 h3))
    go_ret
    exact ⟨rfl, hS3.out⟩
theorem satAll_c (a : Option Addr) (c : Nat) (us : List Value) (A : List (List Int)) (k : Nat) (w : World) (hv : RII w (.slice a A.length c) us A) (hA : Sq0 A.length A) (hn : A.length ≤ 1000) (h1 : 1 ≤ k) (h8 : k ≤ 8) :
    Calls Tryz.prog 55 #[.slice a A.length c, .int .i64 k] w (GivesB w (satB8 A k)) := by
  by_cases e : k = 8
  · subst e; exact satisfies8_c a c us A w hv hA hn
  · rw [satB8, if_neg e]; exact satisfies_c a c us A k w hv hA hn h1 (by omega)
end Go.Proofs.YtlmbaeaakpmhnaaGreat
end

section
/- Walks: the triples of a square of third points. -/
namespace Go.Proofs.YtlmbaeaakpmhnaaGreat
set_option linter.unusedSimpArgs false
set_option linter.unusedVariables false
open Go.RowKit
attribute [local go_sem ↓] Go.wp_at_zero Go.wp_at_succ

def tsI (P : Nat) (f : Nat → Nat → Nat) (x j : Nat) : List (List Int) := (List.range j).flatMap (tsR P f x)
def tsO (P : Nat) (f : Nat → Nat → Nat) (k : Nat) : List (List Int) := (List.range k).flatMap fun x => tsI P f x P
theorem tsO_end (P : Nat) (f : Nat → Nat → Nat) : tsO P f P = tsL P f := rfl
theorem tsO_succ (P : Nat) (f : Nat → Nat → Nat) (k : Nat) : tsO P f (k + 1) = tsO P f k ++ tsI P f k P := by
  unfold tsO; rw [List.range_succ, List.flatMap_append]; simp
theorem tsI_succ (P : Nat) (f : Nat → Nat → Nat) (x j : Nat) : tsI P f x (j + 1) = tsI P f x j ++ tsR P f x j := by
  unfold tsI; rw [List.range_succ, List.flatMap_append]; simp
theorem tsI_lo {P : Nat} {f : Nat → Nat → Nat} {x : Nat} : ∀ j, j ≤ x + 1 → tsI P f x j = []
  | 0, _ => rfl
  | j + 1, h => by rw [tsI_succ, tsI_lo j (by omega), tsR, if_neg (by omega)]; rfl
theorem tsI_len (P : Nat) (f : Nat → Nat → Nat) (x : Nat) : ∀ j, (tsI P f x j).length ≤ j
  | 0 => Nat.le_refl _
  | j + 1 => by
    rw [tsI_succ, List.length_append]
    have h1 := tsI_len P f x j
    have h2 : (tsR P f x j).length ≤ 1 := by unfold tsR; split <;> simp
    omega
theorem tsO_len (P : Nat) (f : Nat → Nat → Nat) : ∀ k, (tsO P f k).length ≤ k * P
  | 0 => Nat.zero_le _
  | k + 1 => by
    rw [tsO_succ, List.length_append, Nat.succ_mul]
    have h1 := tsO_len P f k
    have h2 := tsI_len P f k P
    omega
theorem own2_snocT {B : Nat} {w0 w : World} {v v' : Value} {us : List Value} {xss : List (List Int)} {u : Value} {xs : List Int} {L2 : List Ent} (hl : us.length = xss.length)
    (h : St B w0 w ((own2 v us xss ++ L2 ++ [row 2 u (iv xs)]).set 0 (row 24 v' (us ++ [u])))) : St B w0 w (own2 v' (us ++ [u]) (xss ++ [xs]) ++ L2) := by
  rw [own2, rowsI_app hl]
  refine h.perm ?_
  show (row 24 v' (us ++ [u]) :: (rowsI us xss ++ L2 ++ [row 2 u (iv xs)])).Perm (row 24 v' (us ++ [u]) :: (rowsI us xss ++ [row 2 u (iv xs)] ++ L2))
  refine List.Perm.cons _ ?_
  rw [List.append_assoc, List.append_assoc]
  exact List.Perm.append_left _ List.perm_append_comm
theorem TS.sat {P : Nat} {A : List (List Int)} (hA : TS P A) : satB8 (sqF P fun x y => (thF A x y : Int)) 1 = true ∧ satB8 (sqF P fun x y => (thF A x y : Int)) 8 = true := by
  have hl : (sqF P fun x y => (thF A x y : Int)).length = P := sqF_len P _
  constructor
  · unfold satB8
    rw [if_neg (by decide), satB, if_pos rfl, hl, allB_iff]
    intro x hx
    rw [at2_sqF hx hx, thF_self]; simp
  · unfold satB8
    rw [if_pos rfl, Bool.and_eq_true]
    constructor
    · rw [satB, if_neg (by decide), if_neg (by decide), if_pos rfl, hl, allB_iff]
      intro x hx
      rw [allB_iff]
      intro y hy
      rw [at2_sqF hx hy, at2_sqF hy hx, hA.th_symm hx hy]; simp
    · rw [satB, if_neg (by decide), if_neg (by decide), if_neg (by decide), if_neg (by decide), if_neg (by decide), if_neg (by decide), hl, allB_iff]
      intro x hx
      rw [allB_iff]
      intro y hy
      have e : af (sqF P fun x y => (thF A x y : Int)) y x = thF A x y := by
        unfold af; rw [at2_sqF hy hx, hA.th_symm hy hx]; rfl
      rw [e, at2_sqF hx (hA.th_lt hx hy), hA.th_back hx hy]; simp
set_option maxHeartbeats 8000000 in
set_option maxRecDepth 100000 in
theorem TriplesOfSquare_c (v : Value) (us : List Value) (A : List (List Int)) (P : Nat) (w : World) (hv : RII w v us (sqF P fun x y => (thF A x y : Int))) (hA : TS P A) (h10 : P ≤ 10) : Calls Tryz.prog 15 #[v] w (MakesD w P A 0) := by
  have hl : (sqF P fun x y => (thF A x y : Int)).length = P := sqF_len P _
  obtain ⟨a, c, hsh⟩ := hv.1.sl.sh
  rw [hv.2.1, hl] at hsh
  subst hsh
  have hlat := hA.lat h10
  have p3 := hA.p3
  have hS0 := (St.refl w).newboxF 29 #[.int .i64 0, .slice none 0 0]
  have HZ := fun W (h : RII W (.slice a P c) us (sqF P fun x y => (thF A x y : Int))) => Lib.hid (szII_c (.slice a P c) us _ W h)
  have KV := Lib.hid (ValidSquare_c (.slice a P c) us _ _ (hS0.oldII hv) (fun x hx => by rw [(sqF_sqr P _).row x (by rw [hl] at hx; exact hx)]; omega))
  rw [show latB (sqF P fun x y => (thF A x y : Int)) = true from latB_yes hlat] at KV
  have hsq : Sq0 (sqF P fun x y => (thF A x y : Int)).length (sqF P fun x y => (thF A x y : Int)) := hlat.sq0
  have K1 := fun W h => Lib.hid (satAll_c a c us (sqF P fun x y => (thF A x y : Int)) 1 W h hsq (by rw [hl]; omega) (by decide) (by decide))
  have K8 := fun W h => Lib.hid (satAll_c a c us (sqF P fun x y => (thF A x y : Int)) 8 W h hsq (by rw [hl]; omega) (by decide) (by decide))
  rw [hA.sat.1] at K1
  rw [hA.sat.2] at K8
  rw [hl] at HZ K1 K8
  have HB := Lib.hid hA.back
  have HR := Lib.hid (fun x y (hx : x < P) (hy : y < P) => hA.th_lt hx hy)
  have Hcell := fun x (hx : x < P) y (hy : y < P) => Lib.hid (show (∀ W : World, (Instr.indexAt 24 (vat us x) (.int .i64 (y : Int))).run Tryz.prog W = .ok (.pointer (some (el (vat us x) y))) W) ∧ ∀ W : World, RII W (.slice a P c) us (sqF P fun x y => (thF A x y : Int)) → W.cell? (el (vat us x) y) = some (.int .i64 (thF A x y)) from by
    have hlx : (xat (sqF P fun x y => (thF A x y : Int)) x).length = P := (sqF_sqr P _).row x hx
    have e : nth (xat (sqF P fun x y => (thF A x y : Int)) x) y = (thF A x y : Int) := at2_sqF hx hy
    exact ⟨fun W => (hv.row x (by rw [hl]; exact hx)).ixe (y : Int) y rfl (by rw [hlx]; exact hy) W, fun W hW => by
      have := (hW.row x (by rw [hl]; exact hx)).cell y (by rw [hlx]; exact hy)
      rw [e] at this; exact this⟩)
  have Hrow := fun x (hx : x < P) => Lib.hid (show (∀ W : World, (Instr.indexAt 27 (.slice a P c) (.int .i64 (x : Int))).run Tryz.prog W = .ok (.pointer (some (el (.slice a P c) x))) W) ∧ ∀ W : World, RII W (.slice a P c) us (sqF P fun x y => (thF A x y : Int)) → W.cell? (el (.slice a P c) x) = some (vat us x) from
    ⟨fun W => hv.ixe (x : Int) x rfl (by rw [hl]; exact hx) W, fun W hW => hW.cell x (by rw [hl]; exact hx)⟩)
  have HRows : Hid (∀ xs ∈ tsL P (thF A), xs.length ≤ 1048576) := Lib.hid fun xs hx => by
    obtain ⟨_, _, _, _, _, rfl⟩ := tsL_mem.1 hx
    simp
  have Hv := Lib.hid hv
  have f3 : ¬ (P : Int) < 3 := by omega
  clear hA hlat hsq hv
  generalize hS : sqF P (fun x y => (thF A x y : Int)) = S at *
  generalize hf : thF A = f at *
  clear hS hl
  go_enter Tryz.func15, Tryz.ntmps15
  go_wp2_with fail
  refine KV.out.mono ?_
  rintro e w1 ⟨rfl, h1⟩
  have hS1 := hS0.call0 h1
  clear KV h1 hS0
  go_wp2_with fail
  refine (HZ _ (hS1.oldII Hv.out)).out.mono ?_
  rintro e w2 ⟨rfl, rfl⟩
  go_wp2_with fail
  refine (K1 _ (hS1.oldII Hv.out)).out.mono ?_
  rintro e w3 ⟨rfl, h3⟩
  have hS3 := hS1.call0 h3
  clear h3 hS1 K1
  go_wp2_with fail
  refine (K8 _ (hS3.oldII Hv.out)).out.mono ?_
  rintro e w4 ⟨rfl, h4⟩
  have hS4 := hS3.call0 h4
  clear h4 hS3 K8
  obtain ⟨LB, hLB⟩ : ∃ LB : List Ent, LB = [box 29 w.heap.size [.int .i64 0, .slice none 0 0]] := ⟨_, rfl⟩
  rw [← hLB] at hS4
  have HLB := Lib.hid hLB
  clear hLB
  have hS5 : St w.heap.size w _ (own2 (.slice none 0 0) [] (tsO P f 0) ++ LB) := (hS4.newnil 24).perm (by rw [show tsO P f 0 = [] from rfl, own2_nil']; exact List.perm_append_comm)
  clear hS4
  go_wp2_with fail
  go_loopw [5, 6, 7] (fun o xi _ wr => ∃ (x : Nat) (uo : List Value), x ≤ P ∧ xi = .int .i64 x ∧ Hid (uo.length = (tsO P f x).length) ∧ St w.heap.size w wr (own2 o uo (tsO P f x) ++ LB)) (fun _ xi _ _ => P - (intOf xi).toNat)
  case atStart => exact ⟨0, [], by omega, rfl, rfl, hS5⟩
  case round =>
    clear hS5
    obtain ⟨x, uo, hx, rfl, hlo, hS⟩ := hrel
    by_cases hxP : x < P
    · have hxi : (x : Int) < (P : Int) := by omega
      have w1 : IntKind.i64.wrap ((x : Int) + 1) = (x : Int) + 1 := IntWalk.i64_in _ (by omega)
      have HE := Lib.hid (tsO_succ P f x)
      have hS2 : St w.heap.size w wr (own2 u5 uo (tsO P f x ++ tsI P f x (x + 1)) ++ LB) := by rw [tsI_lo _ (Nat.le_refl _), List.append_nil]; exact hS
      have hlo2 : Hid (uo.length = (tsO P f x ++ tsI P f x (x + 1)).length) := by rw [tsI_lo _ (Nat.le_refl _), List.append_nil]; exact hlo
      clear hS hlo
      go_wp2_with fail
      go_loopw [5, 7] (fun o yi wr => ∃ (y : Nat) (uo : List Value), x + 1 ≤ y ∧ y ≤ P ∧ yi = .int .i64 y ∧ Hid (uo.length = (tsO P f x ++ tsI P f x y).length) ∧ St w.heap.size w wr (own2 o uo (tsO P f x ++ tsI P f x y) ++ LB)) (fun _ yi _ => P - (intOf yi).toNat)
      case atStart => exact ⟨x + 1, uo, by omega, by omega, by first | rfl | go_num, hlo2, hS2⟩
      case round =>
        clear hS2 hlo2
        obtain ⟨y, uo, hy1, hy2, rfl, hlo, hS⟩ := hrel
        by_cases hyP : y < P
        · have hyi : (y : Int) < (P : Int) := by omega
          have hN : (tsO P f x ++ tsI P f x y).length ≤ 1000 := by
            have h1 := tsO_len P f x
            have h2 := tsI_len P f x y
            have h3 : x * P ≤ 10 * 10 := Nat.mul_le_mul (by omega) h10
            rw [List.length_append]; omega
          have HI := Lib.hid (tsI_succ P f x y)
          have r1 := (Hrow x hxP).out
          have e1 := (Hcell x hxP y hyP).out
          have x1 := r1.1
          have x2 := e1.1
          have c1 := r1.2 _ (hS.oldII Hv.out)
          have c2 := e1.2 _ (hS.oldII Hv.out)
          have hfP := HR.out x y hxP hyP
          obtain ⟨z, hz⟩ : ∃ z, f x y = z := ⟨_, rfl⟩
          have hul := Lib.hid (show uo.length < 4294967296 by rw [hlo.out]; omega)
          rw [hz] at c2 hfP
          have Hz := Lib.hid hz
          clear hz hN r1 e1
          by_cases hyz : y < z
          · have f1 : (y : Int) < (z : Int) := by omega
            have Hst := Lib.hid (show tsO P f x ++ tsI P f x (y + 1) = tsO P f x ++ tsI P f x y ++ [[(x : Int), (y : Int), (z : Int)]] by rw [HI.out, tsR, if_pos ⟨by omega, by rw [Hz.out]; exact hyz⟩, Hz.out, List.append_assoc])
            generalize tsO P f x ++ tsI P f x y = X at *
            have hS3 : St w.heap.size w _ (own2 u5 uo X ++ LB ++ [row 2 (.slice (some ⟨wr.heap.size, 0, none⟩) 3 3) (iv [(x : Int), (y : Int), (z : Int)])]) := hS.new 2 #[.int .i64 x, .int .i64 y, .int .i64 z] (by simp [maxLen])
            clear hS
            go_wp2_with (at_builtin; refine appII hS3 0 rfl hul.out rfl _ _ rfl rfl _ rfl (by first | rfl | simp [Act.eval, World.size_alloc]) ?_; intro v8 w8 hS8)
            have hS9 := own2_snocT hlo.out hS8
            rw [← Hst.out] at hS9
            go_roundw
            case rel => exact ⟨y + 1, _, by omega, by omega, by go_num, by rw [Hid, Hst.out, List.length_append, List.length_append, hlo.out]; rfl, hS9⟩
            case measure => simp [intOf]; omega
          · have f1 : ¬ (y : Int) < (z : Int) := by omega
            have Hst := Lib.hid (show tsO P f x ++ tsI P f x (y + 1) = tsO P f x ++ tsI P f x y by rw [HI.out, tsR, if_neg (by rw [Hz.out]; omega), List.append_nil])
            go_wp2_with fail
            go_roundw
            case rel => exact ⟨y + 1, uo, by omega, by omega, by go_num, by rw [Hst.out]; exact hlo, by rw [Hst.out]; exact hS⟩
            case measure => simp [intOf]; omega
        · obtain rfl : y = P := by omega
          go_wp2_with fail
          go_roundw
          case rel => exact ⟨x + 1, uo, by omega, by go_num, by rw [HE.out]; exact hlo, by rw [HE.out]; exact hS⟩
          case measure => simp [intOf]; omega
    · obtain rfl : x = P := by omega
      rw [tsO_end] at hS hlo
      have rR := (hS.sub (List.sublist_append_left _ _)).rii hlo.out
      have hSb := hS.sub (L' := LB) (List.sublist_append_right _ _)
      have hle : (tsL x f).length ≤ 128 := by
        rw [← tsO_end]
        have h1 := tsO_len x f x
        have h3 : x * x ≤ 10 * 10 := Nat.mul_le_mul h10 h10
        omega
      have KS := Lib.hid (sorted_c (x : Int) u5 uo _ _ rR hle HRows.out)
      rw [HB.out] at KS
      clear rR hS hle
      rw [HLB.out] at hSb
      go_wp2_with (go_at_call 45; refine KS.out.mono ?_; rintro e4 w4 ⟨v4, us4, rfl, hl4, h4⟩; obtain ⟨a4, c4, hv4⟩ := (h4.rd 0 (e := 24) (v := v4) (us := us4) rfl).sl.sh; rw [hl4] at hv4; subst hv4; unfold dv; have hB := hSb.call h4; have e0 := hB.bcell 0 rfl 0 rfl; have e1 := hB.bcell 0 rfl 1 rfl; have f0 := hB.bfree 0 rfl; have h6 := (hB.bstore 0 rfl 0 (.int .i64 (x : Int))).bstore 0 rfl 1 (.slice a4 A.length c4); have g0 := h6.bcell 0 rfl 0 rfl; have g1 := h6.bcell 0 rfl 1 rfl)
      refine bodyPost_ret (v := .tuple #[.agg #[.int .i64 (x : Int), .slice a4 A.length c4], .int .i64 0]) (by simp [results, Tryz.results15, go_sem, g0, g1]) rfl ?_
      exact ⟨_, us4, rfl, hl4, h6.sub (.cons _ (.refl _))⟩
end Go.Proofs.YtlmbaeaakpmhnaaGreat
end

section
/- Walks: the loop of a triple system. -/
namespace Go.Proofs.YtlmbaeaakpmhnaaGreat
set_option linter.unusedSimpArgs false
set_option linter.unusedVariables false
open Go.RowKit

set_option maxHeartbeats 4000000 in
set_option maxRecDepth 100000 in
theorem TripleLoop1_c (P : Nat) (A : List (List Int)) (x y g4 g5 : Nat) (oa : Option Addr) (oc : Nat) (uo : List Value) (W : World) (hx : x < P + 1) (hy : y < P + 1) (hu : W.cell? ⟨g4, 0, none⟩ = some (.int .i64 P)) (ht : W.cell? ⟨g5, 0, none⟩ = some (.slice oa P oc))
    (hR : RII W (.slice oa P oc) uo (sqF P fun x y => (thF A x y : Int))) :
    Calls Tryz.prog 59 #[.int .i64 x, .int .i64 y, .pointer (some ⟨g4, 0, none⟩), .pointer (some ⟨g5, 0, none⟩)] W (GivesI W (loF P A x y)) := by
  have HL := Lib.hid (show loF P A x y = if x = y then P else if x = P then y else if y = P then x else thF A x y from rfl)
  generalize loF P A x y = C at *
  by_cases e1 : x = y
  · have hC := HL.out
    rw [if_pos e1] at hC
    subst hC
    have f1 : ((x : Int) == (y : Int)) = true := eq_t (by omega)
    clear HL
    subst e1
    go_enter Tryz.func59, Tryz.ntmps59
    go_wp2_with fail
    go_ret
    exact ⟨rfl, St.refl _⟩
  · have f1 : ((x : Int) == (y : Int)) = false := eq_f (by omega)
    by_cases e2 : x = P
    · have hC := HL.out
      rw [if_neg e1, if_pos e2] at hC
      subst hC
      have f2 : ((x : Int) == (P : Int)) = true := eq_t (by omega)
      clear HL hR ht
      subst e2
      go_enter Tryz.func59, Tryz.ntmps59
      go_wp2_with fail
      go_ret
      exact ⟨rfl, St.refl _⟩
    · have f2 : ((x : Int) == (P : Int)) = false := eq_f (by omega)
      by_cases e3 : y = P
      · have hC := HL.out
        rw [if_neg e1, if_neg e2, if_pos e3] at hC
        subst hC
        have f3 : ((y : Int) == (P : Int)) = true := eq_t (by omega)
        clear HL hR ht
        subst e3
        go_enter Tryz.func59, Tryz.ntmps59
        go_wp2_with fail
        go_ret
        exact ⟨rfl, St.refl _⟩
      · have hC := HL.out
        rw [if_neg e1, if_neg e2, if_neg e3] at hC
        subst hC
        have f3 : ((y : Int) == (P : Int)) = false := eq_f (by omega)
        have hxP : x < P := by omega
        have hyP : y < P := by omega
        have x1 := hR.ixe (x : Int) x rfl (by rw [sqF_len]; exact hxP)
        have c1 := hR.cell x (by rw [sqF_len]; exact hxP)
        have hr := hR.row x (by rw [sqF_len]; exact hxP)
        have hl : (xat (sqF P fun x y => (thF A x y : Int)) x).length = P := (sqF_sqr P _).row x hxP
        have x2 := hr.ixe (y : Int) y rfl (by rw [hl]; exact hyP)
        have c2 := hr.cell y (by rw [hl]; exact hyP)
        rw [show nth (xat (sqF P fun x y => (thF A x y : Int)) x) y = (thF A x y : Int) from at2_sqF hxP hyP] at c2
        clear hR hr hl HL
        go_enter Tryz.func59, Tryz.ntmps59
        go_wp2_with fail
        go_ret
        exact ⟨rfl, St.refl _⟩
end Go.Proofs.YtlmbaeaakpmhnaaGreat
end

section
/- Walks: the loop of a triple system. -/
namespace Go.Proofs.YtlmbaeaakpmhnaaGreat
set_option linter.unusedSimpArgs false
set_option linter.unusedVariables false
open Go.RowKit

set_option maxHeartbeats 8000000 in
set_option maxRecDepth 100000 in
theorem TripleLoop_c (P : Nat) (v : Value) (us : List Value) (A : List (List Int)) (w : World) (hv : RII w v us A) (hA : TS P A) (h9 : P ≤ 9) :
    Calls Tryz.prog 18 #[dv P v] w (IIK w (sqF (P + 1) fun x y => (loF P A x y : Int)) 0) := by
  obtain ⟨a, c, hsh⟩ := hv.1.sl.sh
  rw [hv.2.1] at hsh
  subst hsh
  have hS1 := (St.refl w).newboxF 29 #[.int .i64 P, .slice a A.length c]
  have b0 := hS1.bcell 0 rfl 0 rfl
  have b1 := hS1.bcell 0 rfl 1 rfl
  have K1 := Lib.hid (IsTripleSystem_c P (.slice a A.length c) us A _ (hS1.oldII hv) hA)
  have K2 := Lib.hid (fun W (h : RII W (.slice a A.length c) us A) => thirdPoints_c P (.slice a A.length c) us A W h hA)
  clear hA
  unfold dv at K1 K2 ⊢
  have hcf := callFunc_go Tryz.func59 (by kernel_rfl) (by kernel_rfl)
  have KF := Lib.hid (fun (W : World) (g4 g5 : Nat) (oa : Option Addr) (oc : Nat) (uo : List Value) (hu : W.cell? ⟨g4, 0, none⟩ = some (.int .i64 P)) (ht : W.cell? ⟨g5, 0, none⟩ = some (.slice oa P oc)) (hR : RII W (.slice oa P oc) uo (sqF P fun x y => (thF A x y : Int))) =>
    filledSquare_c 59 #[.pointer (some ⟨g4, 0, none⟩), .pointer (some ⟨g5, 0, none⟩)] (fun x y => (loF P A x y : Int)) (P + 1) W (by omega) hcf (fun x y W' hW hx hy => TripleLoop1_c P A x y g4 g5 oa oc uo W' hx hy (by rw [hW.below.cell (World.block_lt_of_cell? _ _ hu)]; exact hu) (by rw [hW.below.cell (World.block_lt_of_cell? _ _ ht)]; exact ht) (hW.oldII hR)))
  clear hcf
  have hmf : ∀ (fn : Fn) (first cap : Array Value) (w : World), (Instr.makeFunc fn first cap).run Tryz.prog w = .ok (.func fn first cap) w := fun _ _ _ _ => rfl
  have q1 : IntKind.i64.wrap ((P : Int) + 1) = (P : Int) + 1 := IntWalk.i64_in _ (by omega)
  have f10 : ¬ (10 : Int) < (P : Int) + 1 := by omega
  go_enter Tryz.func18, Tryz.ntmps18
  go_wp2_with fail
  refine K1.out.mono ?_
  rintro e w2 ⟨rfl, h2⟩
  have hS2 := hS1.call0 h2
  have b0 := hS2.bcell 0 rfl 0 rfl
  have b1 := hS2.bcell 0 rfl 1 rfl
  have hS3 := hS2.newboxF 2 #[.int .i64 P]
  have b2 := hS3.bcell 0 rfl 0 rfl
  have b3 := hS3.bcell 1 rfl 0 rfl
  have b4 := hS3.bcell 1 rfl 1 rfl
  have Hv := hS3.oldII hv
  clear h2 hS1 hS2
  go_wp2_with fail
  refine (K2.out _ Hv).mono ?_
  rintro e w3 ⟨o, uo, rfl, hlo, h3⟩
  rw [sqF_len] at hlo
  have hR := h3.rii (by rw [hlo, sqF_len])
  obtain ⟨oa, oc, ho⟩ := hR.1.sl.sh
  rw [hlo] at ho
  subst ho
  have hS4 := hS3.call h3
  have hS5 := hS4.newboxF 27 #[.slice oa P oc]
  have b5 := hS5.bcell 0 rfl 0 rfl
  have b6 := hS5.bcell 1 rfl 0 rfl
  have hN := (St.refl w3).newboxF 27 #[.slice oa P oc]
  have KK := Lib.hid (KF.out _ _ _ oa oc uo b6 b5 (hN.oldII hR))
  clear KF K2 hR hS4 hN b0 b1 b2 b3 b4
  rw [show ((P + 1 : Nat) : Int) = (P : Int) + 1 by omega] at KK
  go_wp2_with fail
  refine KK.out.mono ?_
  rintro e w4 ⟨vq, uq, rfl, hlq, h4⟩
  have hS6 := hS5.call h4
  go_wp2_with fail
  go_ret2
  exact ⟨vq, uq, rfl, hlq, hS6.sub (List.sublist_append_right _ _)⟩
end Go.Proofs.YtlmbaeaakpmhnaaGreat
end

section
/- Walks: a triple system too large for a loop. -/
namespace Go.Proofs.YtlmbaeaakpmhnaaGreat
set_option linter.unusedSimpArgs false
set_option linter.unusedVariables false
open Go.RowKit

set_option maxHeartbeats 8000000 in
set_option maxRecDepth 100000 in
theorem TripleLoop_no (P : Nat) (v : Value) (us : List Value) (A : List (List Int)) (w : World) (hv : RII w v us A) (hA : TS P A) (h9 : 9 < P) :
    Calls Tryz.prog 18 #[dv P v] w fun e w' => e = .returned (.tuple #[.slice none 0 0, .int .i64 5]) ∧ St w.heap.size w w' [] := by
  obtain ⟨a, c, hsh⟩ := hv.1.sl.sh
  rw [hv.2.1] at hsh
  subst hsh
  have hS1 := (St.refl w).newboxF 29 #[.int .i64 P, .slice a A.length c]
  have b0 := hS1.bcell 0 rfl 0 rfl
  have b1 := hS1.bcell 0 rfl 1 rfl
  have hP := hA.p32
  have K1 := Lib.hid (IsTripleSystem_c P (.slice a A.length c) us A _ (hS1.oldII hv) hA)
  clear hA
  unfold dv at K1 ⊢
  have q1 : IntKind.i64.wrap ((P : Int) + 1) = (P : Int) + 1 := IntWalk.i64_in _ (by omega)
  have f10 : (10 : Int) < (P : Int) + 1 := by omega
  go_enter Tryz.func18, Tryz.ntmps18
  go_wp2_with fail
  refine K1.out.mono ?_
  rintro e w2 ⟨rfl, h2⟩
  have hS2 := hS1.call0 h2
  have b0 := hS2.bcell 0 rfl 0 rfl
  have b1 := hS2.bcell 0 rfl 1 rfl
  have hS3 := hS2.newboxF 2 #[.int .i64 P]
  clear h2 hS1 hS2
  go_wp2_with fail
  go_ret2
  exact ⟨rfl, hS3.out⟩
end Go.Proofs.YtlmbaeaakpmhnaaGreat
end

section
/- Walks: the unit of a square (specification). -/
namespace Go.Proofs.YtlmbaeaakpmhnaaGreat
set_option linter.unusedSimpArgs false
set_option linter.unusedVariables false
open Go.RowKit

/-- whether e is a unit from the left or from the right -/
def uniP (A : List (List Int)) (e : Nat) (l : Bool) (x : Nat) : Prop := if l = true then at2 A e x = x else at2 A x e = x
instance (A : List (List Int)) (e : Nat) (l : Bool) (x : Nat) : Decidable (uniP A e l x) := by unfold uniP; infer_instance
def uniB (A : List (List Int)) (e : Nat) (l : Bool) : Bool := decide (∀ x, x < A.length → uniP A e l x)
set_option maxHeartbeats 4000000 in
set_option maxRecDepth 100000 in
theorem l08Unit_c (v : Value) (us : List Value) (A : List (List Int)) (e : Nat) (l : Bool) (w : World) (hv : RII w v us A) (hL : ∀ x, x < A.length → (xat A x).length = A.length) (he : e < A.length) (hn : A.length ≤ 32) :
    Calls Tryz.prog 60 #[v, .int .i64 e, .bool l] w (GivesB w (uniB A e l)) := by
  have hln := hv.len
  have HL := Lib.hid hL
  have HU := Lib.hid (show uniB A e l = decide (∀ x, x < A.length → uniP A e l x) from rfl)
  generalize uniB A e l = C at *
  clear hL
  go_enter Tryz.func60, Tryz.ntmps60
  go_wp2_with fail
  go_loopw [7] (fun iv' wr => ∃ k : Nat, k ≤ A.length ∧ iv' = .int .i64 k ∧ Hid (∀ x, x < k → uniP A e l x) ∧ St w.heap.size w wr []) (fun i _ => A.length - (intOf i).toNat)
  case atStart => exact ⟨0, by omega, rfl, Lib.hid (fun x hx => by omega), St.refl _⟩
  case round =>
    obtain ⟨k, hk, rfl, hI, hS⟩ := hrel
    by_cases hlt : k < A.length
    · have hki : (k : Int) < (A.length : Int) := by omega
      have hvo := hS.oldII hv
      have xe := hvo.ixe (e : Int) e rfl he
      have ce := hvo.cell e he
      have xk := hvo.ixe (k : Int) k rfl hlt
      have ck := hvo.cell k hlt
      have yk := (hvo.row e he).ixe (k : Int) k rfl (by rw [HL.out e he]; exact hlt)
      have dk := (hvo.row e he).cell k (by rw [HL.out e he]; exact hlt)
      have ye := (hvo.row k hlt).ixe (e : Int) e rfl (by rw [HL.out k hlt]; exact he)
      have de := (hvo.row k hlt).cell e (by rw [HL.out k hlt]; exact he)
      have no : ¬ uniP A e l k → C = false := fun h => by rw [HU.out]; exact decide_eq_false (fun q => h (q k hlt))
      have yes : uniP A e l k → Hid (∀ x, x < k + 1 → uniP A e l x) := fun h => Lib.hid (fun x hx => by
        by_cases q : x = k
        · subst q; exact h
        · exact hI.out x (by omega))
      clear hvo
      cases l
      · have hp : uniP A e false k ↔ nth (xat A k) e = k := by unfold uniP at2; simp
        generalize nth (xat A k) e = t at *
        by_cases ht : t = k
        · have hI2 := yes (hp.2 ht)
          have f0 : (t != (k : Int)) = false := ne_f ht
          clear no yes hp
          go_wp2_with fail
          go_roundw
          case rel => exact ⟨k + 1, by omega, by go_num, hI2, hS⟩
          case measure => simp [intOf]; omega
        · have hC := no (fun q => ht (hp.1 q))
          have f0 : (t != (k : Int)) = true := ne_t ht
          clear no yes hp
          subst hC
          go_wp2_with fail
          go_ret
          exact ⟨rfl, hS⟩
      · have hp : uniP A e true k ↔ nth (xat A e) k = k := by unfold uniP at2; simp
        generalize nth (xat A e) k = t at *
        by_cases ht : t = k
        · have hI2 := yes (hp.2 ht)
          have f0 : (t != (k : Int)) = false := ne_f ht
          clear no yes hp
          go_wp2_with fail
          go_roundw
          case rel => exact ⟨k + 1, by omega, by go_num, hI2, hS⟩
          case measure => simp [intOf]; omega
        · have hC := no (fun q => ht (hp.1 q))
          have f0 : (t != (k : Int)) = true := ne_t ht
          clear no yes hp
          subst hC
          go_wp2_with fail
          go_ret
          exact ⟨rfl, hS⟩
    · obtain rfl : k = A.length := by omega
      have hC : C = true := by rw [HU.out]; exact decide_eq_true hI.out
      subst hC
      go_wp2_with fail
      go_ret
      exact ⟨rfl, hS⟩
end Go.Proofs.YtlmbaeaakpmhnaaGreat
end

section
/- Walks: the unit of a square (specification). -/
namespace Go.Proofs.YtlmbaeaakpmhnaaGreat
set_option linter.unusedSimpArgs false
set_option linter.unusedVariables false
open Go.RowKit

set_option maxHeartbeats 4000000 in
set_option maxRecDepth 100000 in
theorem sUnitOf_c (v : Value) (us : List Value) (A : List (List Int)) (u : Nat) (w : World) (hv : RII w v us A) (hA : Lat A) (hu : u < A.length) (h1 : uniB A u true = true) (h2 : uniB A u false = true) (h3 : ∀ e, e < u → uniB A e true = false) :
    Calls Tryz.prog 19 #[v] w fun e w' => e = .returned (.tuple #[.int .i64 u, .bool true]) ∧ St w.heap.size w w' [] := by
  have K0 := Lib.hid (l06Ok_c v us A w hv)
  rw [latB_yes hA] at K0
  have hn := hA.le
  have KU := Lib.hid (fun (e : Nat) (l : Bool) (he : e < A.length) W (h : RII W v us A) => l08Unit_c v us A e l W h hA.len he (by omega))
  have H3 := Lib.hid h3
  clear h3 hA
  have hln := hv.len
  go_enter Tryz.func19, Tryz.ntmps19
  go_wp2_with fail
  refine K0.out.mono ?_
  rintro e w1 ⟨rfl, hw1⟩
  go_wp2_with fail
  go_loopw [4] (fun iv' wr => ∃ k : Nat, k ≤ u ∧ iv' = .int .i64 k ∧ St w.heap.size w wr []) (fun i _ => A.length - (intOf i).toNat)
  case atStart => exact ⟨0, by omega, rfl, hw1⟩
  case round =>
    clear hw1 K0
    obtain ⟨k, hk, rfl, hS⟩ := hrel
    have hki : (k : Int) < (A.length : Int) := by omega
    have c1 := Lib.hid (KU.out k true (by omega) _ (hS.oldII hv))
    by_cases hlt : k < u
    · rw [H3.out k hlt] at c1
      go_wp2_with fail
      refine c1.out.mono ?_
      rintro e w2 ⟨rfl, h4⟩
      have hS2 := hS.call0 h4
      go_wp2_with fail
      go_roundw
      case rel => exact ⟨k + 1, by omega, by go_num, hS2⟩
      case measure => simp [intOf]; omega
    · obtain rfl : k = u := by omega
      rw [h1] at c1
      have c2 := Lib.hid (fun W (h : RII W v us A) => (by have := KU.out k false hu W h; rw [h2] at this; exact this : Calls Tryz.prog 60 #[v, .int .i64 k, .bool false] W (GivesB W true)))
      go_wp2_with fail
      refine c1.out.mono ?_
      rintro e w2 ⟨rfl, h4⟩
      have hS2 := hS.call0 h4
      go_wp2_with fail
      refine (c2.out _ (hS2.oldII hv)).mono ?_
      rintro e w3 ⟨rfl, h5⟩
      have hS3 := hS2.call0 h5
      go_wp2_with fail
      go_ret2
      exact ⟨rfl, hS3⟩
end Go.Proofs.YtlmbaeaakpmhnaaGreat
end

section
/- Plain: the unit of the loop of a triple system. -/
namespace Go.Proofs.YtlmbaeaakpmhnaaGreat
set_option linter.unusedSimpArgs false
set_option linter.unusedVariables false
open Go

section
variable {P : Nat} {A : List (List Int)}
theorem lo_at {x y : Nat} (hx : x < P + 1) (hy : y < P + 1) : at2 (sqF (P + 1) fun x y => (loF P A x y : Int)) x y = loF P A x y := at2_sqF hx hy
theorem lo_unit (l : Bool) : uniB (sqF (P + 1) fun x y => (loF P A x y : Int)) P l = true := by
  refine decide_eq_true fun x hx => ?_
  rw [sqF_len] at hx
  have h1 : loF P A P x = x := by
    unfold loF
    by_cases e : P = x
    · rw [if_pos e]; exact e
    · rw [if_neg e, if_pos rfl]
  have h2 : loF P A x P = x := by
    unfold loF
    by_cases e : x = P
    · rw [if_pos e]; exact e.symm
    · rw [if_neg e, if_neg e, if_pos rfl]
  unfold uniP
  cases l
  · rw [if_neg (by decide), lo_at hx (by omega), h2]
  · rw [if_pos rfl, lo_at (by omega) hx, h1]
theorem lo_no {e : Nat} (he : e < P) : uniB (sqF (P + 1) fun x y => (loF P A x y : Int)) e true = false := by
  refine decide_eq_false fun h => ?_
  have := h e (by rw [sqF_len]; omega)
  unfold uniP at this
  rw [if_pos rfl, lo_at (by omega) (by omega)] at this
  unfold loF at this
  rw [if_pos rfl] at this
  omega
end
end Go.Proofs.YtlmbaeaakpmhnaaGreat
end

section
/- Walks: v8Long, v8At of the laws. -/
namespace Go.Proofs.YtlmbaeaakpmhnaaGreat
set_option linter.unusedSimpArgs false
set_option linter.unusedVariables false
open Go.RowKit

set_option maxHeartbeats 2000000 in
theorem v8Long_c (va vb : Value) (xs bs : List UInt8) (w : World) (ha : RdB w va xs) (hb : RdB w vb bs) :
    Calls Tryz.prog 7 #[va, vb] w fun e w' => e = .returned (.bool (decide (1048576 < (xs.length : Int)) || decide (1048576 < (bs.length : Int)))) ∧ w = w' := by
  have hla := ha.len
  have hlb := hb.len
  have hea := ha.le
  have heb := hb.le
  by_cases h1 : 1048576 < (xs.length : Int)
  · rw [decide_eq_true h1, Bool.true_or]
    go_enter Tryz.func7, Tryz.ntmps7
    go_wp2_with fail
    go_ret
    exact ⟨rfl, rfl⟩
  · rw [decide_eq_false h1, Bool.false_or]
    by_cases h2 : 1048576 < (bs.length : Int)
    · rw [decide_eq_true h2]
      go_enter Tryz.func7, Tryz.ntmps7
      go_wp2_with fail
      go_ret
      exact ⟨by simp [h1, h2], rfl⟩
    · rw [decide_eq_false h2]
      go_enter Tryz.func7, Tryz.ntmps7
      go_wp2_with fail
      go_ret
      exact ⟨by simp [h1, h2], rfl⟩
set_option maxHeartbeats 2000000 in
theorem v8At_c (v : Value) (bs : List UInt8) (k : Nat) (n : Int) (w : World) (hb : RdB w v bs) (hk : k ≤ 1000000) :
    Calls Tryz.prog 9 #[v, .int .i64 k, .int .i64 n] w (AnInt 0 (max (n - 1) 0) fun w' => w = w') := by
  have hln := hb.len
  have hle := hb.le
  by_cases h1 : n ≤ 1
  · go_enter Tryz.func9, Tryz.ntmps9
    go_wp2_with fail
    go_ret
    exact ⟨0, by omega, by omega, rfl, rfl⟩
  · by_cases h2 : k < bs.length
    · have hc := hb.cell k h2
      have hx := hb.ix .i64 (k : Int) (by omega) (by omega)
      rw [Int.toNat_natCast] at hx
      obtain ⟨b0, b1⟩ := bnth_bd bs k
      go_enter Tryz.func9, Tryz.ntmps9
      go_wp2_with fail
      go_ret
      have := Int.emod_nonneg (bnth bs k) (show n ≠ 0 by omega)
      have := Int.emod_lt_of_pos (bnth bs k) (show 0 < n by omega)
      exact ⟨_, by omega, by omega, rfl, rfl⟩
    · go_enter Tryz.func9, Tryz.ntmps9
      go_wp2_with fail
      go_ret
      exact ⟨0, by omega, by omega, rfl, rfl⟩
end Go.Proofs.YtlmbaeaakpmhnaaGreat
end

section
/- The law FnTriples, walked. -/
namespace Go.Proofs.YtlmbaeaakpmhnaaGreat
set_option linter.unusedSimpArgs false
set_option linter.unusedVariables false
open Go.RowKit
attribute [local go_sem ↓] Go.wp_at_zero Go.wp_at_succ

theorem trO_big {P : Nat} (h : P ∈ trO) : P ≤ 9 ∨ 13 ≤ P := by
  have : ∀ P ∈ trO, P ≤ 9 ∨ 13 ≤ P := by decide
  exact this P h
theorem TripleSquare_yes (P : Nat) (v : Value) (us : List Value) (A : List (List Int)) (w : World) (hv : RII w v us A) (hA : TS P A) (h : P ≤ 10) :
    Calls Tryz.prog 14 #[dv P v] w (IIK w (sqF P fun x y => (thF A x y : Int)) 0) := by
  have := TripleSquare_c P v us A w hv hA
  rw [funext fun e => funext fun w' => if_pos h] at this
  exact this
def NoSq (w : World) (e : Ending) (w' : World) : Prop := e = .returned (.tuple #[.slice none 0 0, .int .i64 5]) ∧ St w.heap.size w w' []
theorem TripleSquare_no (P : Nat) (v : Value) (us : List Value) (A : List (List Int)) (w : World) (hv : RII w v us A) (hA : TS P A) (h : ¬ P ≤ 10) :
    Calls Tryz.prog 14 #[dv P v] w (NoSq w) := by
  have := TripleSquare_c P v us A w hv hA
  rw [funext fun e => funext fun w' => if_neg h] at this
  exact this
def Th (w : World) (a b : Int) (e : Ending) (w' : World) : Prop := e = .returned (.tuple #[.int .i64 a, .int .i64 b]) ∧ St w.heap.size w w' []
theorem ThirdPoint_yes (P : Nat) (v : Value) (us : List Value) (A : List (List Int)) (w : World) (hv : RII w v us A) (hA : TS P A) (x y : Nat) (hx : x < P) (hy : y < P) (h : x ≠ y) :
    Calls Tryz.prog 13 #[dv P v, .int .i64 x, .int .i64 y] w (Th w (thF A x y : Nat) 0) := by
  have := ThirdPoint_c P v us A w hv hA x y hx hy
  rw [if_neg h, if_neg h] at this
  exact this
theorem ThirdPoint_no (P : Nat) (v : Value) (us : List Value) (A : List (List Int)) (w : World) (hv : RII w v us A) (hA : TS P A) (x : Nat) (hx : x < P) :
    Calls Tryz.prog 13 #[dv P v, .int .i64 x, .int .i64 x] w (Th w 0 2) := by
  have := ThirdPoint_c P v us A w hv hA x x hx hx
  rw [if_pos rfl, if_pos rfl] at this
  exact this
theorem v8At_l {w : World} {v : Value} {bs : List UInt8} (hb : RdB w v bs) (n : Nat) (hn : 1 ≤ n) (k : Nat) (K : Int) (hk : K = (k : Int)) (hk2 : k ≤ 100) : Calls Tryz.prog 9 #[v, .int .i64 K, .int .i64 n] w fun e w' => ∃ j : Nat, j < n ∧ e = .returned (.int .i64 j) ∧ w = w' := by
  rw [hk]
  refine (v8At_c v bs k n w hb (by omega)).mono ?_
  rintro e w' ⟨z, z0, z1, he, hw⟩
  obtain ⟨j, rfl⟩ := Int.eq_ofNat_of_zero_le z0
  exact ⟨j, by omega, he, hw⟩
set_option maxHeartbeats 32000000 in
set_option maxRecDepth 100000 in
theorem FnTriples_law (w : World) (cv : Value) (bs : List UInt8) (cm : Value) (ms : List UInt8) (hb : RdB w cv bs) (hm : RdB w cm ms) :
    Calls Tryz.prog 3 #[cv, cm] w (GivesB w true) := by
  have KL := Lib.hid (v8Long_c cv cm bs ms w hb hm)
  by_cases hlo : (decide (1048576 < (bs.length : Int)) || decide (1048576 < (ms.length : Int))) = true
  · rw [hlo] at KL
    clear hlo
    go_enter Tryz.func3, Tryz.ntmps3
    go_wp2_with (go_at_call 7; refine KL.out.mono ?_; rintro e w2 ⟨rfl, rfl⟩)
    go_ret
    exact ⟨rfl, St.refl _⟩
  · rw [Bool.not_eq_true] at hlo
    rw [hlo] at KL
    clear hlo
    go_enter Tryz.func3, Tryz.ntmps3
    go_wp2_with (go_at_call 7; refine KL.out.mono ?_; rintro e w2 ⟨rfl, rfl⟩)
    refine (TripleOrders_c _).mono ?_
    clear KL
    rintro e w1 ⟨vo, rfl, h1⟩
    have ro := h1.rdI (xs := [3, 7, 9, 13, 15, 19, 21, 25, 27]) 0 rfl
    have lo := ro.len
    simp only [List.length_cons, List.length_nil] at lo
    have hm1 := h1.oldB hm
    have K0 := Lib.hid (v8At_l hm1 9 (by decide) 0 0 rfl (by decide))
    rw [show ((9 : Nat) : Int) = (9 : Int) from rfl] at K0
    have hS1 := h1.out
    clear h1
    go_wp2_with fail
    refine K0.out.mono ?_
    clear K0
    rintro e w2 ⟨j, hj, rfl, rfl⟩
    obtain ⟨v, hv, hvm⟩ : ∃ v : Nat, nth [3, 7, 9, 13, 15, 19, 21, 25, 27] j = v ∧ v ∈ trL9 := by
      rcases (show j = 0 ∨ j = 1 ∨ j = 2 ∨ j = 3 ∨ j = 4 ∨ j = 5 ∨ j = 6 ∨ j = 7 ∨ j = 8 by omega) with rfl | rfl | rfl | rfl | rfl | rfl | rfl | rfl | rfl
      · exact ⟨3, rfl, by decide⟩
      · exact ⟨7, rfl, by decide⟩
      · exact ⟨9, rfl, by decide⟩
      · exact ⟨13, rfl, by decide⟩
      · exact ⟨15, rfl, by decide⟩
      · exact ⟨19, rfl, by decide⟩
      · exact ⟨21, rfl, by decide⟩
      · exact ⟨25, rfl, by decide⟩
      · exact ⟨27, rfl, by decide⟩
    have xo := ro.ixe (j : Int) j rfl (by simpa using hj)
    have co := ro.cell j (by simpa using hj)
    rw [hv] at co
    obtain ⟨hTm, KM⟩ := MakeTriples_c v w1 hvm
    have KM := Lib.hid KM
    clear hv hvm ro
    generalize srtL (mkTI v) = M at *
    go_wp2_with fail
    refine KM.out.mono ?_
    clear KM xo co
    rintro e w3 ⟨v3, us3, rfl, hl3, h3⟩
    have rM := h3.rii hl3
    obtain ⟨a3, c3, hsh⟩ := rM.1.sl.sh
    rw [rM.2.1] at hsh
    subst hsh
    have hS3 := hS1.call0 h3.out
    have hN := hS3.newboxF 29 #[.int .i64 v, .slice a3 M.length c3]
    have b0 := hN.bcell 0 rfl 0 rfl
    have b1 := hN.bcell 0 rfl 1 rfl
    have KI := Lib.hid (sIsTripleSystem_c v (.slice a3 M.length c3) us3 M _ (rM.keep ((St.refl w3).newboxF 29 #[.int .i64 v, .slice a3 M.length c3]).below) hTm)
    unfold dv at KI ⊢
    clear h3 hS3 rM hTm hl3
    go_wp2_with fail
    refine KI.out.mono ?_
    clear KI b0 b1
    rintro e w4 ⟨rfl, h4⟩
    have hS4 := hN.call0 h4
    have b0 := hS4.bcell 0 rfl 0 rfl
    clear hN h4
    have hb4 := hS4.oldB hb
    go_wp2_with fail
    refine (V8Triples_c _ cv bs hb4).mono ?_
    rintro e w5 ⟨P, A, vd, ud, hP, hT, rfl, rd, h5⟩
    obtain ⟨ad, cd, hsh⟩ := rd.1.sl.sh
    rw [rd.2.1] at hsh
    subst hsh
    have hS5 := hS4.out.call0 h5
    have hm5 := hS5.oldB hm
    have hP32 := hT.p32
    have hP3 := hT.p3
    clear hS4 h5 b0 hb4 hS1 hm1
    have hX := (St.refl w5).newboxF 29 #[.int .i64 P, .slice ad A.length cd]
    have d0 := hX.bcell 0 rfl 0 rfl
    have d1 := hX.bcell 0 rfl 1 rfl
    have KX := fun W (h : St w5.heap.size w5 W []) K k h1 h2 => Lib.hid (v8At_l (h.oldB hm5) P (by omega) k K h1 h2)
    have HT := Lib.hid hT
    have Rd := Lib.hid rd
    clear hT rd
    unfold dv
    go_wp2_with fail
    refine (KX _ hX.out 1 1 rfl (by decide)).out.mono ?_
    rintro e w6 ⟨x, hx, rfl, hw⟩
    subst hw
    go_wp2_with fail
    refine (KX _ hX.out 2 2 rfl (by decide)).out.mono ?_
    rintro e w6 ⟨y, hy, rfl, hw⟩
    subst hw
    clear KX hm5
    by_cases hxy : x = y
    · subst hxy
      have f1 : ((x : Int) == (x : Int)) = true := eq_t rfl
      have K1 := Lib.hid (ThirdPoint_no P (.slice ad A.length cd) ud A _ (hX.oldII Rd.out) HT.out x hx)
      unfold dv at K1
      go_wp2_with fail
      refine K1.out.mono ?_
      clear K1
      rintro e w7 ⟨rfl, h7⟩
      have hY := hX.call0 h7
      clear hX h7 d0 d1 f1
      have d0 := hY.bcell 0 rfl 0 rfl
      have d1 := hY.bcell 0 rfl 1 rfl
      rcases trO_big hP with h9 | h13
      · have g1 : (P : Int) ≤ 10 := by omega
        have KS := Lib.hid (TripleSquare_yes P (.slice ad A.length cd) ud A _ (hY.oldII Rd.out) HT.out (by omega))
        have HLs := Lib.hid (HT.out.lat (by omega))
        have HLl := Lib.hid (HT.out.lo_lat h9)
        unfold dv at KS
        go_wp2_with fail
        refine KS.out.mono ?_
        clear KS d0 d1
        rintro e w9 ⟨vs, us, rfl, hls, h9s⟩
        have rS := h9s.rii hls
        have hZ := hY.call0 h9s.out
        have d0 := hZ.bcell 0 rfl 0 rfl
        have d1 := hZ.bcell 0 rfl 1 rfl
        have KB := Lib.hid (TriplesOfSquare_c vs us A P _ rS HT.out (by omega))
        have RS := Lib.hid rS
        clear hY h9s rS
        go_wp2_with fail
        refine KB.out.mono ?_
        clear KB d0 d1
        rintro e w10 ⟨vk, uk, rfl, hlk, hk⟩
        have rK := hk.rii hlk
        obtain ⟨ak, ck, hsh⟩ := rK.1.sl.sh
        rw [rK.2.1] at hsh
        subst hsh
        have hZ2 := (hZ.call0 hk.out).newboxF 29 #[.int .i64 P, .slice ak A.length ck]
        have d0 := hZ2.bcell 1 rfl 0 rfl
        have d1 := hZ2.bcell 1 rfl 1 rfl
        have k0 := hZ2.bcell 0 rfl 0 rfl
        have k1 := hZ2.bcell 0 rfl 1 rfl
        have hbN := ((St.refl w10).newboxF 29 #[.int .i64 P, .slice ak A.length ck]).below
        have KD := Lib.hid (SameDesign_c P P (.slice ak A.length ck) (.slice ad A.length cd) uk ud A A _ (rK.keep hbN) (hZ2.oldII Rd.out))
        rw [decide_eq_true (And.intro rfl rfl)] at KD
        have RS2 := Lib.hid ((hk.out.oldII RS.out).keep hbN)
        unfold dv at KD ⊢
        clear hZ hk rK hbN RS hlk
        go_wp2_with fail
        refine KD.out.mono ?_
        clear KD d0 d1 k0 k1
        rintro e w11 ⟨rfl, h11⟩
        have hZ3 := hZ2.call0 h11
        have KV := Lib.hid (sValidSquare_c vs us _ w11 (h11.oldII RS2.out))
        rw [latB_yes HLs.out] at KV
        clear h11 hZ2 RS2
        go_wp2_with fail
        refine KV.out.mono ?_
        clear KV
        rintro e w12 ⟨rfl, h12⟩
        have hZ4 := (hZ3.call0 h12).sub (L' := [box 29 w5.heap.size [.int .i64 P, .slice ad A.length cd]]) (List.sublist_cons_self _ _)
        have d0 := hZ4.bcell 0 rfl 0 rfl
        have d1 := hZ4.bcell 0 rfl 1 rfl
        have KO := Lib.hid (TripleLoop_c P (.slice ad A.length cd) ud A _ (hZ4.oldII Rd.out) HT.out h9)
        unfold dv at KO
        clear hZ3 h12
        go_wp2_with fail
        refine KO.out.mono ?_
        clear KO d0 d1
        rintro e w13 ⟨vl, ul, rfl, hll, h13l⟩
        have rL := h13l.rii hll
        have hZ5 := hZ4.call0 h13l.out
        have d0 := hZ5.bcell 0 rfl 0 rfl
        have d1 := hZ5.bcell 0 rfl 1 rfl
        have KU := Lib.hid (sUnitOf_c vl ul _ P w13 rL HLl.out (by rw [sqF_len]; omega) (lo_unit true) (lo_unit false) (fun e he => lo_no he))
        have RL := Lib.hid rL
        clear hZ4 h13l rL
        go_wp2_with fail
        refine KU.out.mono ?_
        clear KU
        rintro e w14 ⟨rfl, h14⟩
        have hZ6 := hZ5.call0 h14
        have KW := Lib.hid (sValidSquare_c vl ul _ w14 (h14.oldII RL.out))
        rw [latB_yes HLl.out] at KW
        clear d0 d1
        have d0 := hZ6.bcell 0 rfl 0 rfl
        have d1 := hZ6.bcell 0 rfl 1 rfl
        clear h14 hZ5 RL
        go_wp2_with fail
        refine KW.out.mono ?_
        clear KW d0 d1
        rintro e w15 ⟨rfl, h15⟩
        have hZ7 := hZ6.call0 h15
        clear hZ6 h15
        go_wp2_with fail
        refine (sMakeTriples3_c _).mono ?_
        rintro e w16 ⟨vt, ut, rfl, hlt, h16⟩
        have rT := h16.rii hlt
        obtain ⟨tt, ct, hsh⟩ := rT.1.sl.sh
        rw [rT.2.1, show b3L.length = 1 from rfl] at hsh
        subst hsh
        have hZ8 := (hZ7.call0 h16.out).newboxF 29 #[.int .i64 3, .slice tt 1 ct]
        have d0 := hZ8.bcell 1 rfl 0 rfl
        have d1 := hZ8.bcell 1 rfl 1 rfl
        have k0 := hZ8.bcell 0 rfl 0 rfl
        have k1 := hZ8.bcell 0 rfl 1 rfl
        have hbN := ((St.refl w16).newboxF 29 #[.int .i64 3, .slice tt 1 ct]).below
        have KP := Lib.hid (ProductTriples_c P (.slice ad A.length cd) (.slice tt 1 ct) ud ut A _ (hZ8.oldII Rd.out) (rT.keep hbN) HT.out h9)
        have HPr := Lib.hid (HT.out.prod h9)
        unfold dv at KP ⊢
        clear hZ7 h16 rT hbN
        go_wp2_with fail
        refine KP.out.mono ?_
        clear KP d0 d1 k0 k1
        rintro e w17 ⟨vp, up, rfl, hlp, h17⟩
        have rP := h17.rii hlp
        obtain ⟨pa, pc, hsh⟩ := rP.1.sl.sh
        rw [rP.2.1] at hsh
        generalize srtL (pdL P A) = D at *
        subst hsh
        have h3P : ((3 * P : Nat) : Int) = 3 * (P : Int) := by omega
        have hZ9 := (hZ8.call0 h17.out).newboxF 29 #[.int .i64 ((3 * P : Nat) : Int), .slice pa D.length pc]
        have d0 := hZ9.bcell 2 rfl 0 rfl
        have d1 := hZ9.bcell 2 rfl 1 rfl
        have k0 := hZ9.bcell 0 rfl 0 rfl
        have k1 := hZ9.bcell 0 rfl 1 rfl
        have hbN := ((St.refl w17).newboxF 29 #[.int .i64 ((3 * P : Nat) : Int), .slice pa D.length pc]).below
        have KT := Lib.hid (sIsTripleSystem_c (3 * P) (.slice pa D.length pc) up D _ (rP.keep hbN) HPr.out)
        rw [h3P] at KT k0 hZ9
        rw [h3P]
        have v0 : IntKind.i64.wrap (3 * (P : Int)) = 3 * (P : Int) := IntWalk.i64_in _ (by omega)
        have f9 : ((3 * (P : Int)) == 3 * (P : Int)) = true := eq_t rfl
        unfold dv at KT ⊢
        clear hZ8 h17 rP hbN h3P
        go_wp2_with fail
        refine KT.out.mono ?_
        clear KT d0 d1 k0 k1
        rintro e w18 ⟨rfl, h18⟩
        have hZ10 := hZ9.call0 h18
        have d0 := hZ10.bcell 2 rfl 0 rfl
        have k0 := hZ10.bcell 0 rfl 0 rfl
        clear hZ9 h18
        go_wp2_with fail
        go_ret
        exact ⟨rfl, hS5.call0 hZ10.out⟩
      · have g1 : ¬ (P : Int) ≤ 10 := by omega
        have g2 : (9 : Int) < (P : Int) := by omega
        have KS := Lib.hid (TripleSquare_no P (.slice ad A.length cd) ud A _ (hY.oldII Rd.out) HT.out (by omega))
        unfold dv at KS
        go_wp2_with fail
        refine KS.out.mono ?_
        clear KS d0 d1
        rintro e w9 ⟨rfl, h9s⟩
        have hZ := hY.call0 h9s
        have d0 := hZ.bcell 0 rfl 0 rfl
        have d1 := hZ.bcell 0 rfl 1 rfl
        have KO := Lib.hid (TripleLoop_no P (.slice ad A.length cd) ud A _ (hZ.oldII Rd.out) HT.out (by omega))
        unfold dv at KO
        clear hY h9s
        go_wp2_with fail
        refine KO.out.mono ?_
        clear KO d0 d1
        rintro e w13 ⟨rfl, h13l⟩
        have hZ7 := hZ.call0 h13l
        clear hZ h13l
        go_wp2_with fail
        refine (sMakeTriples3_c _).mono ?_
        rintro e w16 ⟨vt, ut, rfl, hlt, h16⟩
        have rT := h16.rii hlt
        obtain ⟨tt, ct, hsh⟩ := rT.1.sl.sh
        rw [rT.2.1, show b3L.length = 1 from rfl] at hsh
        subst hsh
        have hZ8 := (hZ7.call0 h16.out).newboxF 29 #[.int .i64 3, .slice tt 1 ct]
        have d0 := hZ8.bcell 1 rfl 0 rfl
        have d1 := hZ8.bcell 1 rfl 1 rfl
        have k0 := hZ8.bcell 0 rfl 0 rfl
        have k1 := hZ8.bcell 0 rfl 1 rfl
        have hbN := ((St.refl w16).newboxF 29 #[.int .i64 3, .slice tt 1 ct]).below
        have KP := Lib.hid (ProductTriples_no P (.slice ad A.length cd) (.slice tt 1 ct) ud ut A _ (hZ8.oldII Rd.out) (rT.keep hbN) HT.out (by omega))
        unfold dv at KP ⊢
        clear hZ7 h16 rT hbN
        go_wp2_with fail
        refine KP.out.mono ?_
        clear KP d0 d1 k0 k1
        rintro e w17 ⟨vp, up, rfl, hlp, h17⟩
        obtain ⟨pa, pc, hsh⟩ := (h17.rii hlp).1.sl.sh
        rw [(h17.rii hlp).2.1] at hsh
        simp only [List.length_nil] at hsh
        subst hsh
        unfold dv
        have hZ9 := (hZ8.call0 h17.out).newboxF 29 #[.int .i64 0, .slice pa 0 pc]
        have d0 := hZ9.bcell 2 rfl 0 rfl
        have d1 := hZ9.bcell 2 rfl 1 rfl
        have k0 := hZ9.bcell 0 rfl 0 rfl
        have k1 := hZ9.bcell 0 rfl 1 rfl
        clear hZ8 h17
        go_wp2_with fail
        go_ret
        exact ⟨rfl, hS5.call0 hZ9.out⟩
    · have f1 : ((x : Int) == (y : Int)) = false := eq_f (by omega)
      have K1 := Lib.hid (ThirdPoint_yes P (.slice ad A.length cd) ud A _ (hX.oldII Rd.out) HT.out x y hx hy hxy)
      have hz := HT.out.th_lt hx hy
      have hzx := (HT.out.th_ne hx hy hxy).1
      have hzz : thF A (thF A x y) x = y := by rw [HT.out.th_symm hz hx, HT.out.th_back hx hy]
      unfold dv at K1
      go_wp2_with fail
      refine K1.out.mono ?_
      clear K1
      rintro e w7 ⟨rfl, h7⟩
      have hX7 := hX.call0 h7
      have K2 := Lib.hid (ThirdPoint_yes P (.slice ad A.length cd) ud A _ (hX7.oldII Rd.out) HT.out (thF A x y) x hz hx hzx)
      rw [hzz] at K2
      generalize thF A x y = z at *
      unfold dv at K2
      clear hX h7 d0 d1 hz hzx hzz
      have d0 := hX7.bcell 0 rfl 0 rfl
      have d1 := hX7.bcell 0 rfl 1 rfl
      go_wp2_with fail
      refine K2.out.mono ?_
      clear K2
      rintro e w8 ⟨rfl, h8⟩
      have hY := hX7.call0 h8
      clear hX7 h8 d0 d1
      have d0 := hY.bcell 0 rfl 0 rfl
      have d1 := hY.bcell 0 rfl 1 rfl
      rcases trO_big hP with h9 | h13
      · have g1 : (P : Int) ≤ 10 := by omega
        have KS := Lib.hid (TripleSquare_yes P (.slice ad A.length cd) ud A _ (hY.oldII Rd.out) HT.out (by omega))
        have HLs := Lib.hid (HT.out.lat (by omega))
        have HLl := Lib.hid (HT.out.lo_lat h9)
        unfold dv at KS
        go_wp2_with fail
        refine KS.out.mono ?_
        clear KS d0 d1
        rintro e w9 ⟨vs, us, rfl, hls, h9s⟩
        have rS := h9s.rii hls
        have hZ := hY.call0 h9s.out
        have d0 := hZ.bcell 0 rfl 0 rfl
        have d1 := hZ.bcell 0 rfl 1 rfl
        have KB := Lib.hid (TriplesOfSquare_c vs us A P _ rS HT.out (by omega))
        have RS := Lib.hid rS
        clear hY h9s rS
        go_wp2_with fail
        refine KB.out.mono ?_
        clear KB d0 d1
        rintro e w10 ⟨vk, uk, rfl, hlk, hk⟩
        have rK := hk.rii hlk
        obtain ⟨ak, ck, hsh⟩ := rK.1.sl.sh
        rw [rK.2.1] at hsh
        subst hsh
        have hZ2 := (hZ.call0 hk.out).newboxF 29 #[.int .i64 P, .slice ak A.length ck]
        have d0 := hZ2.bcell 1 rfl 0 rfl
        have d1 := hZ2.bcell 1 rfl 1 rfl
        have k0 := hZ2.bcell 0 rfl 0 rfl
        have k1 := hZ2.bcell 0 rfl 1 rfl
        have hbN := ((St.refl w10).newboxF 29 #[.int .i64 P, .slice ak A.length ck]).below
        have KD := Lib.hid (SameDesign_c P P (.slice ak A.length ck) (.slice ad A.length cd) uk ud A A _ (rK.keep hbN) (hZ2.oldII Rd.out))
        rw [decide_eq_true (And.intro rfl rfl)] at KD
        have RS2 := Lib.hid ((hk.out.oldII RS.out).keep hbN)
        unfold dv at KD ⊢
        clear hZ hk rK hbN RS hlk
        go_wp2_with fail
        refine KD.out.mono ?_
        clear KD d0 d1 k0 k1
        rintro e w11 ⟨rfl, h11⟩
        have hZ3 := hZ2.call0 h11
        have KV := Lib.hid (sValidSquare_c vs us _ w11 (h11.oldII RS2.out))
        rw [latB_yes HLs.out] at KV
        clear h11 hZ2 RS2
        go_wp2_with fail
        refine KV.out.mono ?_
        clear KV
        rintro e w12 ⟨rfl, h12⟩
        have hZ4 := (hZ3.call0 h12).sub (L' := [box 29 w5.heap.size [.int .i64 P, .slice ad A.length cd]]) (List.sublist_cons_self _ _)
        have d0 := hZ4.bcell 0 rfl 0 rfl
        have d1 := hZ4.bcell 0 rfl 1 rfl
        have KO := Lib.hid (TripleLoop_c P (.slice ad A.length cd) ud A _ (hZ4.oldII Rd.out) HT.out h9)
        unfold dv at KO
        clear hZ3 h12
        go_wp2_with fail
        refine KO.out.mono ?_
        clear KO d0 d1
        rintro e w13 ⟨vl, ul, rfl, hll, h13l⟩
        have rL := h13l.rii hll
        have hZ5 := hZ4.call0 h13l.out
        have d0 := hZ5.bcell 0 rfl 0 rfl
        have d1 := hZ5.bcell 0 rfl 1 rfl
        have KU := Lib.hid (sUnitOf_c vl ul _ P w13 rL HLl.out (by rw [sqF_len]; omega) (lo_unit true) (lo_unit false) (fun e he => lo_no he))
        have RL := Lib.hid rL
        clear hZ4 h13l rL
        go_wp2_with fail
        refine KU.out.mono ?_
        clear KU
        rintro e w14 ⟨rfl, h14⟩
        have hZ6 := hZ5.call0 h14
        have KW := Lib.hid (sValidSquare_c vl ul _ w14 (h14.oldII RL.out))
        rw [latB_yes HLl.out] at KW
        clear d0 d1
        have d0 := hZ6.bcell 0 rfl 0 rfl
        have d1 := hZ6.bcell 0 rfl 1 rfl
        clear h14 hZ5 RL
        go_wp2_with fail
        refine KW.out.mono ?_
        clear KW d0 d1
        rintro e w15 ⟨rfl, h15⟩
        have hZ7 := hZ6.call0 h15
        clear hZ6 h15
        go_wp2_with fail
        refine (sMakeTriples3_c _).mono ?_
        rintro e w16 ⟨vt, ut, rfl, hlt, h16⟩
        have rT := h16.rii hlt
        obtain ⟨tt, ct, hsh⟩ := rT.1.sl.sh
        rw [rT.2.1, show b3L.length = 1 from rfl] at hsh
        subst hsh
        have hZ8 := (hZ7.call0 h16.out).newboxF 29 #[.int .i64 3, .slice tt 1 ct]
        have d0 := hZ8.bcell 1 rfl 0 rfl
        have d1 := hZ8.bcell 1 rfl 1 rfl
        have k0 := hZ8.bcell 0 rfl 0 rfl
        have k1 := hZ8.bcell 0 rfl 1 rfl
        have hbN := ((St.refl w16).newboxF 29 #[.int .i64 3, .slice tt 1 ct]).below
        have KP := Lib.hid (ProductTriples_c P (.slice ad A.length cd) (.slice tt 1 ct) ud ut A _ (hZ8.oldII Rd.out) (rT.keep hbN) HT.out h9)
        have HPr := Lib.hid (HT.out.prod h9)
        unfold dv at KP ⊢
        clear hZ7 h16 rT hbN
        go_wp2_with fail
        refine KP.out.mono ?_
        clear KP d0 d1 k0 k1
        rintro e w17 ⟨vp, up, rfl, hlp, h17⟩
        have rP := h17.rii hlp
        obtain ⟨pa, pc, hsh⟩ := rP.1.sl.sh
        rw [rP.2.1] at hsh
        generalize srtL (pdL P A) = D at *
        subst hsh
        have h3P : ((3 * P : Nat) : Int) = 3 * (P : Int) := by omega
        have hZ9 := (hZ8.call0 h17.out).newboxF 29 #[.int .i64 ((3 * P : Nat) : Int), .slice pa D.length pc]
        have d0 := hZ9.bcell 2 rfl 0 rfl
        have d1 := hZ9.bcell 2 rfl 1 rfl
        have k0 := hZ9.bcell 0 rfl 0 rfl
        have k1 := hZ9.bcell 0 rfl 1 rfl
        have hbN := ((St.refl w17).newboxF 29 #[.int .i64 ((3 * P : Nat) : Int), .slice pa D.length pc]).below
        have KT := Lib.hid (sIsTripleSystem_c (3 * P) (.slice pa D.length pc) up D _ (rP.keep hbN) HPr.out)
        rw [h3P] at KT k0 hZ9
        rw [h3P]
        have v0 : IntKind.i64.wrap (3 * (P : Int)) = 3 * (P : Int) := IntWalk.i64_in _ (by omega)
        have f9 : ((3 * (P : Int)) == 3 * (P : Int)) = true := eq_t rfl
        unfold dv at KT ⊢
        clear hZ8 h17 rP hbN h3P
        go_wp2_with fail
        refine KT.out.mono ?_
        clear KT d0 d1 k0 k1
        rintro e w18 ⟨rfl, h18⟩
        have hZ10 := hZ9.call0 h18
        have d0 := hZ10.bcell 2 rfl 0 rfl
        have k0 := hZ10.bcell 0 rfl 0 rfl
        clear hZ9 h18
        go_wp2_with fail
        go_ret
        exact ⟨rfl, hS5.call0 hZ10.out⟩
      · have g1 : ¬ (P : Int) ≤ 10 := by omega
        have g2 : (9 : Int) < (P : Int) := by omega
        have KS := Lib.hid (TripleSquare_no P (.slice ad A.length cd) ud A _ (hY.oldII Rd.out) HT.out (by omega))
        unfold dv at KS
        go_wp2_with fail
        refine KS.out.mono ?_
        clear KS d0 d1
        rintro e w9 ⟨rfl, h9s⟩
        have hZ := hY.call0 h9s
        have d0 := hZ.bcell 0 rfl 0 rfl
        have d1 := hZ.bcell 0 rfl 1 rfl
        have KO := Lib.hid (TripleLoop_no P (.slice ad A.length cd) ud A _ (hZ.oldII Rd.out) HT.out (by omega))
        unfold dv at KO
        clear hY h9s
        go_wp2_with fail
        refine KO.out.mono ?_
        clear KO d0 d1
        rintro e w13 ⟨rfl, h13l⟩
        have hZ7 := hZ.call0 h13l
        clear hZ h13l
        go_wp2_with fail
        refine (sMakeTriples3_c _).mono ?_
        rintro e w16 ⟨vt, ut, rfl, hlt, h16⟩
        have rT := h16.rii hlt
        obtain ⟨tt, ct, hsh⟩ := rT.1.sl.sh
        rw [rT.2.1, show b3L.length = 1 from rfl] at hsh
        subst hsh
        have hZ8 := (hZ7.call0 h16.out).newboxF 29 #[.int .i64 3, .slice tt 1 ct]
        have d0 := hZ8.bcell 1 rfl 0 rfl
        have d1 := hZ8.bcell 1 rfl 1 rfl
        have k0 := hZ8.bcell 0 rfl 0 rfl
        have k1 := hZ8.bcell 0 rfl 1 rfl
        have hbN := ((St.refl w16).newboxF 29 #[.int .i64 3, .slice tt 1 ct]).below
        have KP := Lib.hid (ProductTriples_no P (.slice ad A.length cd) (.slice tt 1 ct) ud ut A _ (hZ8.oldII Rd.out) (rT.keep hbN) HT.out (by omega))
        unfold dv at KP ⊢
        clear hZ7 h16 rT hbN
        go_wp2_with fail
        refine KP.out.mono ?_
        clear KP d0 d1 k0 k1
        rintro e w17 ⟨vp, up, rfl, hlp, h17⟩
        obtain ⟨pa, pc, hsh⟩ := (h17.rii hlp).1.sl.sh
        rw [(h17.rii hlp).2.1] at hsh
        simp only [List.length_nil] at hsh
        subst hsh
        unfold dv
        have hZ9 := (hZ8.call0 h17.out).newboxF 29 #[.int .i64 0, .slice pa 0 pc]
        have d0 := hZ9.bcell 2 rfl 0 rfl
        have d1 := hZ9.bcell 2 rfl 1 rfl
        have k0 := hZ9.bcell 0 rfl 0 rfl
        have k1 := hZ9.bcell 0 rfl 1 rfl
        clear hZ8 h17
        go_wp2_with fail
        go_ret
        exact ⟨rfl, hS5.call0 hZ9.out⟩
end Go.Proofs.YtlmbaeaakpmhnaaGreat
end

section
/- How arguments that come in read. How bytes that come in read. -/
namespace Go.Proofs.YtlmbaeaakpmhnaaGreat
set_option linter.unusedSimpArgs false
set_option linter.unusedVariables false
open Go.RowKit


/-- what came in as a slice of integers: nothing, or a row of numbers that fit -/
def IsRow (k : IntKind) (w : World) (a : Option Addr) (len cap : Nat) (zs : List Int) : Prop :=
  (a = none ∧ len = 0 ∧ cap = 0 ∧ zs = []) ∨
  ∃ x, a = some x ∧ len ≤ cap ∧ cap ≤ maxLen ∧ zs.length = cap ∧ (∀ i, i < zs.length → w.cell? (x.add i) = some (.int k (zs.getD i 0))) ∧ ∀ n ∈ zs, (Lit.int k n).wf = true

theorem IsRow.rd {k : IntKind} {w : World} {a : Option Addr} {len cap : Nat} {zs : List Int} (h : IsRow k w a len cap zs) : Rd w (.slice a len cap) ((zs.take len).map (Value.int k)) := by
  rcases h with ⟨rfl, rfl, rfl, rfl⟩ | ⟨x, rfl, h1, h2, h3, h4, h5⟩
  · exact Rd.nil w
  · have hl : ((zs.take len).map (Value.int k)).length = len := by simp; omega
    refine ⟨⟨some x, cap, by rw [hl], by omega, h2, .inr (by simp)⟩, ?_⟩
    intro i u hu
    have hi : i < len := by have := (List.getElem?_eq_some_iff.1 hu).1; omega
    have := h4 i (by omega)
    simp only [List.getElem?_map, List.getElem?_take, hi, if_true] at hu
    rw [List.getElem?_eq_getElem (by omega)] at hu
    simp at hu
    simp only [el]
    rw [this, ← hu]
    simp [List.getD, List.getElem?_eq_getElem (show i < zs.length by omega)]


theorem IsRow.rdB {w : World} {a : Option Addr} {len cap : Nat} {zs : List Int} (h : IsRow .u8 w a len cap zs) : ∃ bs, RdB w (.slice a len cap) bs := by
  refine ⟨(zs.take len).map fun n => UInt8.ofNat n.toNat, ?_⟩
  have h1 := h.rd
  have hw : ∀ n ∈ zs, 0 ≤ n ∧ n ≤ 255 := by
    rcases h with ⟨_, _, _, rfl⟩ | ⟨_, _, _, _, _, _, h5⟩
    · simp
    · intro n hn; have := h5 n hn; simpa [Lit.wf, IntKind.min, IntKind.max, IntKind.signed, IntKind.bits] using this
  unfold RdB bv
  rw [List.map_map]
  rw [List.map_congr_left (g := Value.int .u8)]
  · exact h1
  · intro n hn
    have := hw n (List.mem_of_mem_take hn)
    simp only [Function.comp]
    congr 1
    rw [UInt8.toNat_ofNat']
    omega

end Go.Proofs.YtlmbaeaakpmhnaaGreat
end

section
/- FnTriples holds: for every input the call returns true and leaves its arguments as they are. No condition. -/
namespace Go.Proofs.YtlmbaeaakpmhnaaGreat.fnTriples
set_option linter.unusedSimpArgs false
set_option linter.unusedVariables false
open Go.ChangeShapes Go.WideShapes Go.ChangeAt Go.RowKit
set_option linter.unusedVariables false

theorem own : ownKnob Tryz.prog.godebug = none := by kernel_rfl
theorem laidOut : laidOutB Tryz.prog = true := by kernel_rfl

set_option maxRecDepth 100000 in
theorem lifted (os : Os) (started : os.Started) (H : Type) (enc : TypeId × Value → H) :
    ReturnsInHanded {} Tryz.checked os 3 .any (Rows.fnTriplesSpec.pre6 enc Tryz.prog Tryz.f3 Rows.fnTriplesRow.domain false) (Rows.fnTriplesSpec.post enc Tryz.prog Tryz.f3 false true false false) := by
  refine returnsInHanded_of_change (C := Tryz.checked) own started (by kernel_rfl) Tryz.func3
    (ChangeSpec.witness6 (enc := enc) (C := Tryz.checked) false ⟨#[], #[.slice none 0 0, .slice none 0 0], []⟩ 8 (by kernel_rfl) (by kernel_rfl) (by kernel_rfl) (by kernel_rfl)) ?_
  intro W base args ds gs before hval0 hW hcnd _
  have hval : ∀ (j : Nat) t v, Tryz.f3.params[j]? = some t → args[j]? = some v → Value.okWide Tryz.prog W .any base t v := hval0
  have hW' := hW
  obtain ⟨p, q, hA0, hV, rfl, hfz, hnd⟩ := hW
  have hA : DataW.TrodAll enc Tryz.prog W 0 (fun _ => true) true Tryz.f3.params.toList args.toList ds p := hA0
  rw [Tryz.params3] at hA hval
  obtain ⟨v0, vs0, d0, ds0, p0, q0, hargs, rfl, rfl, h0, r0⟩ := trodAll_cons hA
  obtain ⟨v1, vs1, d1, ds1, p1, q1, rfl, rfl, rfl, h1, r1⟩ := trodAll_cons r0
  obtain ⟨rfl, rfl, rfl⟩ := trodAll_nil r1
  obtain rfl : args = #[v0, v1] := by cases args; simp_all
  obtain ⟨rfl, rfl⟩ := trodVars_none hV
  obtain ⟨a0, len0, cap0, rfl⟩ := okWide_slice Tryz.underlying22 (hval 0 22 v0 rfl rfl)
  have k0 := h0
  have lt0 : ∀ x ∈ p0, x.block < W.heap.size := by obtain ⟨m, hm⟩ := k0; exact DataW.trod_lt m _ _ _ hm
  obtain ⟨bs0, rd0⟩ : ∃ bs, RdB W (.slice a0 len0 cap0) bs := by
    obtain ⟨fuel, hf⟩ := h0
    rcases open_ints Tryz.underlying22 Tryz.underlying5 (by kernel_rfl) hf with ⟨hcs, _⟩ | ⟨x, l, c, zs, hcs, _, hl, hm, hz, _, hcell, hwz⟩
    · simp [Value.cells] at hcs
      obtain ⟨rfl, rfl, rfl⟩ := hcs
      exact IsRow.rdB (zs := []) (.inl ⟨rfl, rfl, rfl, rfl⟩)
    · simp [Value.cells] at hcs
      obtain ⟨rfl, rfl, rfl⟩ := hcs
      exact IsRow.rdB (zs := zs) (.inr ⟨_, rfl, hl, hm, by simpa using hz, hcell, hwz⟩)
  obtain ⟨a1, len1, cap1, rfl⟩ := okWide_slice Tryz.underlying22 (hval 1 22 v1 rfl rfl)
  have k1 := h1
  have lt1 : ∀ x ∈ p1, x.block < W.heap.size := by obtain ⟨m, hm⟩ := k1; exact DataW.trod_lt m _ _ _ hm
  obtain ⟨bs1, rd1⟩ : ∃ bs, RdB W (.slice a1 len1 cap1) bs := by
    obtain ⟨fuel, hf⟩ := h1
    rcases open_ints Tryz.underlying22 Tryz.underlying5 (by kernel_rfl) hf with ⟨hcs, _⟩ | ⟨x, l, c, zs, hcs, _, hl, hm, hz, _, hcell, hwz⟩
    · simp [Value.cells] at hcs
      obtain ⟨rfl, rfl, rfl⟩ := hcs
      exact IsRow.rdB (zs := []) (.inl ⟨rfl, rfl, rfl, rfl⟩)
    · simp [Value.cells] at hcs
      obtain ⟨rfl, rfl, rfl⟩ := hcs
      exact IsRow.rdB (zs := zs) (.inr ⟨_, rfl, hl, hm, by simpa using hz, hcell, hwz⟩)
  clear hA0 hval0
  refine (FnTriples_law W _ bs0 _ bs1 rd0 rd1).mono fun e W' ⟨he, hst⟩ => ?_
  have bel := hst.below
  subst he
  exact ⟨_, rfl, _, _, _, [], _, [], hW', trodAll_mk1 (shut_bool Tryz.underlying4 _), (trodAll_cons_mk (Below.trod laidOut (by kernel_rfl) (of_decide_eq_true (by kernel_rfl)) k0 bel lt0) (trodAll_cons_mk (Below.trod laidOut (by kernel_rfl) (of_decide_eq_true (by kernel_rfl)) k1 bel lt1) trodAll_mk0)), rfl, bel.frame _, fun h => by cases h⟩

theorem over : Rows.fnTriplesRow.holds Tryz.pinned (OpenSpec.ofChange Rows.fnTriplesSpec) :=
  OpenClaim.holds_of_wide 3 Tryz.f3 rfl rfl rfl rfl rfl rfl rfl ⟨rfl, rfl, rfl, rfl, rfl⟩ rfl rfl rfl rfl rfl (by kernel_rfl) Tryz.func3 (by kernel_rfl)
    (of_decide_eq_true (by kernel_rfl)) (by unfold Func.isWrapper; first | (rw [if_pos (by decide +kernel)]; kernel_rfl) | (rw [if_neg (by decide +kernel)]; exact ⟨rfl, rfl⟩))
    (fun os started H enc _ => lifted os started H enc)

theorem proved : Rows.FnTriplesSaid := over
#print axioms proved
end Go.Proofs.YtlmbaeaakpmhnaaGreat.fnTriples
end
