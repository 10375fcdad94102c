/- The texts of this claim, run 12: Rv2 Rv3 Rv4 Rv5 PRw. -/
import Derived.Test.YtljemlfocajhnaaGreatK7
import Derived.Test.YtljemlfocajhnaaGreatK8
import Derived.Test.YtljemlfocajhnaaGreatK10
import Derived.Test.YtljemlfocajhnaaGreatK11
import Derived.Deep.CutRange
section
/- Walks: the search for a resolution: a block is used, or no longer. -/
namespace Go.Proofs.YtljemlfocajhnaaGreat
set_option linter.unusedSimpArgs false
set_option linter.unusedVariables false
open Go.RowKit
attribute [local go_sem ↓] Go.wp_at_zero Go.wp_at_succ

theorem xat_lastV (C : List (List Int)) (c : List Int) : xat (C ++ [c]) C.length = c := by unfold xat; simp
theorem set_lastV (C : List (List Int)) (c d : List Int) : (C ++ [c]).set C.length d = C ++ [d] := by simp
theorem mkK_take {K : List Bool} {B : List Int} {v : Bool} {j : Nat} (h : j < B.length) : mkK K (B.take (j + 1)) v = (mkK K (B.take j) v).set (nth B j).toNat v := by
  unfold mkK; rw [take_nth h, List.foldl_append]; rfl
theorem mkK_all (K : List Bool) (B : List Int) (v : Bool) : mkK K (B.take B.length) v = mkK K B v := by rw [List.take_length]
section
variable {g : Nat} {left : Int} {sp : Bool} {P : Int} {vB vU vC vK : Value} {U K : List Bool} {uc : List Value} {C : List (List Int)} {L : List Ent}
theorem rvL_setU (k : Nat) (b : Bool) : (rvL g left sp P vB vU vC vK U K uc C L).set 1 (row 4 vU (bo (U.set k b))) = rvL g left sp P vB vU vC vK (U.set k b) K uc C L := rfl
theorem rvL_setK (k : Nat) (b : Bool) : (rvL g left sp P vB vU vC vK U K uc C L).set 2 (row 4 vK (bo (K.set k b))) = rvL g left sp P vB vU vC vK U (K.set k b) uc C L := rfl
theorem rvL_at (hl : uc.length = C.length) {j : Nat} (hj : j < C.length) : (rvL g left sp P vB vU vC vK U K uc C L)[j + 4]? = some (row 2 (vat uc j) (iv (xat C j))) := own2_atP (v := vC) (us := uc) (L2 := L) hl hj
theorem rvL_put (hl : uc.length = C.length) {j : Nat} (hj : j < C.length) (u : Value) (r : List Int) : ((rvL g left sp P vB vU vC vK U K uc C L).set (j + 4) (row 2 u (iv r))).set 3 (row 46 vC (uc.set j u)) = rvL g left sp P vB vU vC vK U K (uc.set j u) (C.set j r) L := by
  unfold rvL
  rw [List.set_cons_succ, List.set_cons_succ, List.set_cons_succ, List.set_cons_succ, List.set_cons_succ, List.set_cons_succ, own2_putP hl hj]
end
/-- behind 'take' -/
def TakeP (w0 : World) (g : Nat) (left : Int) (sp : Bool) (P : Int) (vB vU vC vK : Value) (U K : List Bool) (C : List (List Int)) (L : List Ent) (e : Ending) (w' : World) : Prop :=
  ∃ uc : List Value, e = .returned (.tuple #[]) ∧ uc.length = C.length ∧ St w0.heap.size w0 w' (rvL g left sp P vB vU vC vK U K uc C L)
set_option maxHeartbeats 16000000 in
set_option maxRecDepth 100000 in
theorem take_t (k g : Nat) (left : Int) (sp : Bool) (P : Nat) (a : Option Addr) (c : Nat) (vU vC vK : Value) (U K : List Bool) (us uc : List Value) (A Cf : List (List Int)) (d : List Int) (L : List Ent) (w0 w : World) (hv : RII w0 (.slice a A.length c) us A)
    (h : St w0.heap.size w0 w (rvL g left sp P (.slice a A.length c) vU vC vK U K uc (Cf ++ [d]) L)) (hl : uc.length = (Cf ++ [d]).length) (hA : BlkV P A) (hk : k < A.length) (hU : U.length = A.length) (hK : K.length = P) (hC : Cf.length ≤ 1000) (hd : d.length ≤ 1000) (hb : ∀ i, i < A.length → (xat A i).length ≤ 1000) :
    Calls Tryz.prog 40 #[.pointer (some ⟨g, 0, none⟩), .int .i64 k, .bool true] w (TakeP w0 g left sp P (.slice a A.length c) vU vC vK (U.set k true) (mkK K (xat A k) true) (Cf ++ [d ++ [(k : Int)]]) L) := by
  have e0 := h.bcell 0 rfl 3 rfl
  have e2 := h.bcell 0 rfl 4 rfl
  have e3 := h.bcell 0 rfl 5 rfl
  have hlC : uc.length = Cf.length + 1 := by rw [hl]; simp
  have hrC := h.rd 3 (e := 46) (v := vC) (us := uc) rfl
  have hlnC := run_len_sl (P := Tryz.prog) hrC.sl 24 3 Tryz.und_iss
  rw [hlC] at hlnC
  have w1 : IntKind.i64.wrap (((Cf.length + 1 : Nat) : Int) - 1) = (Cf.length : Int) := by rw [IntWalk.i64_in _ (by omega)]; omega
  have xU := (h.rdO 1 (e := 4) (v := vU) (xs := U) rfl).ixe (k : Int) k rfl (by rw [hU]; exact hk)
  have hkU : k < U.length := by rw [hU]; exact hk
  have xk := hv.ixe (k : Int) k rfl hk
  have Hv := Lib.hid hv
  have HA := Lib.hid hA
  have Hl := Lib.hid hl
  have HlC := Lib.hid hlC
  have HK := Lib.hid hK
  clear hv hA hl hrC hU
  go_enter Tryz.func40, Tryz.ntmps40
  go_wp2_with (refine stoO h 1 rfl k hkU rfl _ _ rfl rfl true rfl ?_; intro w2 h2; rw [rvL_setU] at h2; have q0 := h2.bcell 0 rfl 3 rfl; have ck := (h2.oldII Hv.out).cell k hk; have hlk := ((h2.oldII Hv.out).row k hk).len; have hixk := ((h2.oldII Hv.out).row k hk).ixe)
  have hbk := hb k hk
  have h3 : St w0.heap.size w0 w2 (rvL g left sp P (.slice a A.length c) vU vC vK (U.set k true) (mkK K ((xat A k).take 0) true) uc (Cf ++ [d]) L) := h2
  clear h h2 e0 e2 e3 q0 ck xU xk
  go_loopw [31, 8] (fun ji _ wr => ∃ j : Nat, ji = .int .i64 j ∧ j ≤ (xat A k).length ∧ St w0.heap.size w0 wr (rvL g left sp P (.slice a A.length c) vU vC vK (U.set k true) (mkK K ((xat A k).take j) true) uc (Cf ++ [d]) L)) (fun ji _ _ => (xat A k).length - (intOf ji).toNat)
  case atStart => exact ⟨0, rfl, by omega, h3⟩
  case round =>
    clear h3
    obtain ⟨j, rfl, hj, h⟩ := hrel
    by_cases hjB : j < (xat A k).length
    · have hji : (j : Int) < ((xat A k).length : Int) := by omega
      have xj := hixk (j : Int) j rfl hjB
      have cj := ((h.oldII Hv.out).row k hk).cell j hjB
      obtain ⟨x, hx, hxP⟩ := HA.out.pt k hk _ (nth_mem hjB)
      rw [hx] at cj
      have e6 := h.bcell 0 rfl 6 rfl
      have hxl : x < (mkK K ((xat A k).take j) true).length := by rw [mkK_len, HK.out]; exact hxP
      have xK := (h.rdO 2 (e := 4) (v := vK) (xs := mkK K ((xat A k).take j) true) rfl).ixe (x : Int) x rfl hxl
      have hst := Lib.hid (mkK_take (K := K) (v := true) hjB)
      rw [hx, Int.toNat_natCast] at hst
      have Hxl := Lib.hid hxl
      clear hx hxl
      go_wp2_with (refine stoO h 2 rfl x Hxl.out rfl _ _ rfl rfl true rfl ?_; intro w4 h4; rw [rvL_setK, ← hst.out] at h4)
      go_roundw
      case rel => exact ⟨j + 1, by go_num, by omega, h4⟩
      case measure => simp [intOf]; omega
    · obtain rfl : j = (xat A k).length := by omega
      rw [mkK_all] at h
      have e3 := h.bcell 0 rfl 5 rfl
      have hrC := h.rd 3 (e := 46) (v := vC) (us := uc) rfl
      have cC : wr.cell? (el vC Cf.length) = some (vat uc Cf.length) := hrC.cell (by rw [HlC.out]; omega)
      have xC := run_ix_sl (P := Tryz.prog) hrC.sl 24 Tryz.und_iss Tryz.size_is
      have xC1 : ∀ W, (Instr.indexAt 24 vC (.int .i64 (Cf.length : Int))).run Tryz.prog W = .ok (.pointer (some (el vC Cf.length))) W := fun W => by
        have := xC .i64 (Cf.length : Int) (by omega) (by rw [HlC.out]; omega) W
        rwa [Int.toNat_natCast] at this
      have hS := h.drew
      have hdl := Lib.hid (show d.length < 4294967296 by omega)
      clear xC hrC
      go_wp2_with fail
      refine regionG (fun w' => w'.cell? ⟨g, 5, none⟩ = some vC ∧ w'.cell? (el vC Cf.length) = some (vat uc Cf.length)) 16 (by kernel_rfl) ⟨cell_dr e3, cell_dr cC⟩ (fun hHeld => ?_)
      refine takeP (i := 0) (v := ?_) rfl (by kernel_rfl) (fun _ _ _ h => h) (by rfl) ?_ (by assumption) ?_
      case refine_2 => (intro w'; go_simp; first | done | with_reducible rfl)
      try simp only [Act.put, List.setIfInBounds_toArray, List.set_cons_zero, List.set_cons_succ]
      refine takeP (i := 1) (v := ?_) rfl (by kernel_rfl) (fun _ _ _ h => h) (by rfl) ?_ (by assumption) ?_
      case refine_2 => (intro w'; go_simp; first | done | with_reducible rfl)
      try simp only [Act.put, List.setIfInBounds_toArray, List.set_cons_zero, List.set_cons_succ]
      refine takeP (i := 2) (v := ?_) rfl (by kernel_rfl) (fun _ _ _ h => h) (by rfl) ?_ (by assumption) ?_
      case refine_2 => (intro w'; go_simp; first | done | with_reducible rfl)
      try simp only [Act.put, List.setIfInBounds_toArray, List.set_cons_zero, List.set_cons_succ]
      refine takeH (i := 3) [15] (v := ?_) rfl (by kernel_rfl) (fun _ _ _ h => h) (by rfl) ?_ (by assumption) ?_
      case refine_2 => (intro w' hSw; (try dsimp only at hSw); go_simp; first | done | with_reducible rfl)
      try simp only [Act.put, List.setIfInBounds_toArray, List.set_cons_zero, List.set_cons_succ]
      refine takeP (i := 4) (v := ?_) rfl (by kernel_rfl) (fun _ _ _ h => h) (by rfl) ?_ (by assumption) ?_
      case refine_2 => (intro w'; go_simp; first | done | with_reducible rfl)
      try simp only [Act.put, List.setIfInBounds_toArray, List.set_cons_zero, List.set_cons_succ]
      refine takeP (i := 5) (v := ?_) rfl (by kernel_rfl) (fun _ _ _ h => h) (by rfl) ?_ (by assumption) ?_
      case refine_2 => (intro w'; go_simp; first | done | with_reducible rfl)
      try simp only [Act.put, List.setIfInBounds_toArray, List.set_cons_zero, List.set_cons_succ]
      refine takeP (i := 6) (v := ?_) rfl (by kernel_rfl) (fun _ _ _ h => h) (by rfl) ?_ (by assumption) ?_
      case refine_2 => (intro w'; go_simp; first | done | with_reducible rfl)
      try simp only [Act.put, List.setIfInBounds_toArray, List.set_cons_zero, List.set_cons_succ]
      refine takeP (i := 7) (v := ?_) rfl (by kernel_rfl) (fun _ _ _ h => h) (by rfl) ?_ (by assumption) ?_
      case refine_2 => (intro w'; go_simp; first | done | with_reducible rfl)
      try simp only [Act.put, List.setIfInBounds_toArray, List.set_cons_zero, List.set_cons_succ]
      refine takeH (i := 8) [10, 11, 14] (v := ?_) rfl (by kernel_rfl) (fun _ _ _ h => h) (by rfl) ?_ (by assumption) ?_
      case refine_2 => (intro w' hSw; (try dsimp only at hSw); go_simp; first | done | with_reducible rfl)
      try simp only [Act.put, List.setIfInBounds_toArray, List.set_cons_zero, List.set_cons_succ]
      refine takeP (i := 9) (v := ?_) rfl (by kernel_rfl) (fun _ _ _ h => h) (by rfl) ?_ (by assumption) ?_
      case refine_2 => (intro w'; go_simp; first | done | with_reducible rfl)
      try simp only [Act.put, List.setIfInBounds_toArray, List.set_cons_zero, List.set_cons_succ]
      refine takeP (i := 10) (v := ?_) rfl (by kernel_rfl) (fun _ _ _ h => h) (by rfl) ?_ (by assumption) ?_
      case refine_2 => (intro w'; go_simp; first | done | with_reducible rfl)
      try simp only [Act.put, List.setIfInBounds_toArray, List.set_cons_zero, List.set_cons_succ]
      refine takeH (i := 11) [14] (v := ?_) rfl (by kernel_rfl) (fun _ _ _ h => h) (by rfl) ?_ (by assumption) ?_
      case refine_2 => (intro w' hSw; (try dsimp only at hSw); go_simp; first | done | with_reducible rfl)
      try simp only [Act.put, List.setIfInBounds_toArray, List.set_cons_zero, List.set_cons_succ]
      refine takeP (i := 12) (v := ?_) rfl (by kernel_rfl) (fun _ _ _ h => h) (by rfl) ?_ (by assumption) ?_
      case refine_2 => (intro w'; go_simp; first | done | with_reducible rfl)
      try simp only [Act.put, List.setIfInBounds_toArray, List.set_cons_zero, List.set_cons_succ]
      refine readyG (rs := [13]) (by kernel_rfl) (by simp) ?_
      refine AllG.cons rfl (fun K hK => ?_) AllG.nil
      go_simp
      refine hK.out _ _ ⟨cell_al hHeld.1, cell_al hHeld.2⟩ (fun hHeld2 => ?_)
      clear hK K
      try simp only [Act.put, List.setIfInBounds_toArray, List.set_cons_zero, List.set_cons_succ]
      have hat := rvL_at (g := g) (left := left) (sp := sp) (P := (P : Int)) (vB := .slice a A.length c) (vU := vU) (vC := vC) (vK := vK) (U := U.set k true) (K := mkK K (xat A k) true) (uc := uc) (C := Cf ++ [d]) (L := L) Hl.out (j := Cf.length) (by simp)
      rw [xat_lastV] at hat
      have Hput := Lib.hid (fun u r => rvL_put (g := g) (left := left) (sp := sp) (P := (P : Int)) (vB := .slice a A.length c) (vU := vU) (vC := vC) (vK := vK) (U := U.set k true) (K := mkK K (xat A k) true) (uc := uc) (C := Cf ++ [d]) (L := L) Hl.out (j := Cf.length) (by simp) u r)
      refine readyG (rs := [14]) (by kernel_rfl) (by simp) ?_
      refine AllG.cons rfl (fun K hK => ?_) AllG.nil
      refine stepI1 hS (Cf.length + 4) hat hdl.out rfl (.tmp 55) (.tmp 57) rfl (by first | rfl | simp [Act.eval, Act.put]) (k : Int) (by first | rfl | simp [Act.eval, Act.put]) ?_
      intro v5 w5 hS5
      obtain ⟨fa, fc, hv5⟩ := (hS5.rdI (Cf.length + 4) (List.getElem?_set_self (List.getElem?_eq_some_iff.1 hat).1)).sl.sh
      rw [iv_len, List.length_append, List.length_singleton] at hv5
      subst hv5
      have hS5b := hS5
      have e3 := hS5b.bcell 0 rfl 5 rfl
      have hrC := hS5b.rd 3 (e := 46) (v := vC) (us := uc) rfl
      have cC : w5.cell? (el vC Cf.length) = some (vat uc Cf.length) := hrC.cell (by rw [HlC.out]; omega)
      have u1 := hS5b.unfrozen 3 (e := 46) (v := vC) (us := uc) rfl (j := Cf.length) (by rw [HlC.out]; omega)
      refine hK.out _ _ ⟨e3, cC⟩ (fun hHeld3 => ?_)
      clear hK K
      try simp only [Act.put, List.setIfInBounds_toArray, List.set_cons_zero, List.set_cons_succ]
      refine readyG (rs := [15]) (by kernel_rfl) (by simp) ?_
      refine AllG.cons rfl (fun K hK => ?_) AllG.nil
      go_simp
      refine hK.out _ _ hHeld3 (fun hHeld4 => ?_)
      clear hK K
      try simp only [Act.put, List.setIfInBounds_toArray, List.set_cons_zero, List.set_cons_succ]
      refine readyG (rs := [16]) (by kernel_rfl) (by simp) ?_
      refine AllG.last rfl (by kernel_rfl) (fun K hK => ?_) AllG.nil
      go_simp
      refine hK.out _ _ ?_
      clear hK K
      try simp only [Act.put, List.setIfInBounds_toArray, List.set_cons_zero, List.set_cons_succ]
      refine doneG (by kernel_rfl) ?_ _
      refine NoPanic.normal ?_
      have hS6 := hS5b.store 3 (e := 46) (v := vC) (us := uc) rfl (j := Cf.length) (by rw [HlC.out]; omega) (.slice fa (d.length + 1) fc)
      rw [Hput.out, set_lastV] at hS6
      have HS6 := Lib.hid hS6
      clear hS5 hS5b hS6 hrC hat u1
      go_wp2_with fail
      refine bodyPost_end (results_none rfl _ _ _) rfl ?_
      exact ⟨_, rfl, by rw [List.length_set, Hl.out]; simp, HS6.out⟩
set_option maxHeartbeats 16000000 in
set_option maxRecDepth 100000 in
theorem take_f (k g : Nat) (left : Int) (sp : Bool) (P : Nat) (a : Option Addr) (c : Nat) (vU vC vK : Value) (U K : List Bool) (us uc : List Value) (A Cf : List (List Int)) (d : List Int) (z : Int) (L : List Ent) (w0 w : World) (hv : RII w0 (.slice a A.length c) us A)
    (h : St w0.heap.size w0 w (rvL g left sp P (.slice a A.length c) vU vC vK U K uc (Cf ++ [d ++ [z]]) L)) (hl : uc.length = (Cf ++ [d ++ [z]]).length) (hA : BlkV P A) (hk : k < A.length) (hU : U.length = A.length) (hK : K.length = P) (hC : Cf.length ≤ 1000) (hd : d.length ≤ 1000) (hb : ∀ i, i < A.length → (xat A i).length ≤ 1000) :
    Calls Tryz.prog 40 #[.pointer (some ⟨g, 0, none⟩), .int .i64 k, .bool false] w (TakeP w0 g left sp P (.slice a A.length c) vU vC vK (U.set k false) (mkK K (xat A k) false) (Cf ++ [d]) L) := by
  have e0 := h.bcell 0 rfl 3 rfl
  have e2 := h.bcell 0 rfl 4 rfl
  have e3 := h.bcell 0 rfl 5 rfl
  have hlC : uc.length = Cf.length + 1 := by rw [hl]; simp
  have hrC := h.rd 3 (e := 46) (v := vC) (us := uc) rfl
  have hlnC := run_len_sl (P := Tryz.prog) hrC.sl 24 3 Tryz.und_iss
  rw [hlC] at hlnC
  have w1 : IntKind.i64.wrap (((Cf.length + 1 : Nat) : Int) - 1) = (Cf.length : Int) := by rw [IntWalk.i64_in _ (by omega)]; omega
  have xU := (h.rdO 1 (e := 4) (v := vU) (xs := U) rfl).ixe (k : Int) k rfl (by rw [hU]; exact hk)
  have hkU : k < U.length := by rw [hU]; exact hk
  have xk := hv.ixe (k : Int) k rfl hk
  have Hv := Lib.hid hv
  have HA := Lib.hid hA
  have Hl := Lib.hid hl
  have HlC := Lib.hid hlC
  have HK := Lib.hid hK
  clear hv hA hl hrC hU
  go_enter Tryz.func40, Tryz.ntmps40
  go_wp2_with (refine stoO h 1 rfl k hkU rfl _ _ rfl rfl false rfl ?_; intro w2 h2; rw [rvL_setU] at h2; have q0 := h2.bcell 0 rfl 3 rfl; have ck := (h2.oldII Hv.out).cell k hk; have hlk := ((h2.oldII Hv.out).row k hk).len; have hixk := ((h2.oldII Hv.out).row k hk).ixe)
  have hbk := hb k hk
  have h3 : St w0.heap.size w0 w2 (rvL g left sp P (.slice a A.length c) vU vC vK (U.set k false) (mkK K ((xat A k).take 0) false) uc (Cf ++ [d ++ [z]]) L) := h2
  clear h h2 e0 e2 e3 q0 ck xU xk
  go_loopw [31, 8] (fun ji _ wr => ∃ j : Nat, ji = .int .i64 j ∧ j ≤ (xat A k).length ∧ St w0.heap.size w0 wr (rvL g left sp P (.slice a A.length c) vU vC vK (U.set k false) (mkK K ((xat A k).take j) false) uc (Cf ++ [d ++ [z]]) L)) (fun ji _ _ => (xat A k).length - (intOf ji).toNat)
  case atStart => exact ⟨0, rfl, by omega, h3⟩
  case round =>
    clear h3
    obtain ⟨j, rfl, hj, h⟩ := hrel
    by_cases hjB : j < (xat A k).length
    · have hji : (j : Int) < ((xat A k).length : Int) := by omega
      have xj := hixk (j : Int) j rfl hjB
      have cj := ((h.oldII Hv.out).row k hk).cell j hjB
      obtain ⟨x, hx, hxP⟩ := HA.out.pt k hk _ (nth_mem hjB)
      rw [hx] at cj
      have e6 := h.bcell 0 rfl 6 rfl
      have hxl : x < (mkK K ((xat A k).take j) false).length := by rw [mkK_len, HK.out]; exact hxP
      have xK := (h.rdO 2 (e := 4) (v := vK) (xs := mkK K ((xat A k).take j) false) rfl).ixe (x : Int) x rfl hxl
      have hst := Lib.hid (mkK_take (K := K) (v := false) hjB)
      rw [hx, Int.toNat_natCast] at hst
      have Hxl := Lib.hid hxl
      clear hx hxl
      go_wp2_with (refine stoO h 2 rfl x Hxl.out rfl _ _ rfl rfl false rfl ?_; intro w4 h4; rw [rvL_setK, ← hst.out] at h4)
      go_roundw
      case rel => exact ⟨j + 1, by go_num, by omega, h4⟩
      case measure => simp [intOf]; omega
    · obtain rfl : j = (xat A k).length := by omega
      rw [mkK_all] at h
      have e3 := h.bcell 0 rfl 5 rfl
      have hrC := h.rd 3 (e := 46) (v := vC) (us := uc) rfl
      have cC : wr.cell? (el vC Cf.length) = some (vat uc Cf.length) := hrC.cell (by rw [HlC.out]; omega)
      have xC := run_ix_sl (P := Tryz.prog) hrC.sl 24 Tryz.und_iss Tryz.size_is
      have xC1 : ∀ W, (Instr.indexAt 24 vC (.int .i64 (Cf.length : Int))).run Tryz.prog W = .ok (.pointer (some (el vC Cf.length))) W := fun W => by
        have := xC .i64 (Cf.length : Int) (by omega) (by rw [HlC.out]; omega) W
        rwa [Int.toNat_natCast] at this
      have hat := rvL_at (g := g) (left := left) (sp := sp) (P := (P : Int)) (vB := .slice a A.length c) (vU := vU) (vC := vC) (vK := vK) (U := U.set k false) (K := mkK K (xat A k) false) (uc := uc) (C := Cf ++ [d ++ [z]]) (L := L) Hl.out (j := Cf.length) (by simp)
      rw [xat_lastV] at hat
      have Hput := Lib.hid (fun u r => rvL_put (g := g) (left := left) (sp := sp) (P := (P : Int)) (vB := .slice a A.length c) (vU := vU) (vC := vC) (vK := vK) (U := U.set k false) (K := mkK K (xat A k) false) (uc := uc) (C := Cf ++ [d ++ [z]]) (L := L) Hl.out (j := Cf.length) (by simp) u r)
      have hrow := h.rdI (Cf.length + 4) hat
      have hsl := run_len_sl (P := Tryz.prog) hrow.sl 46 3 Tryz.und_is
      rw [iv_len, List.length_append, List.length_singleton] at hsl
      have i1 := rsl_hi hrow d.length (by simp)
      have hsh := (rsl_rd hrow (lo := 0) (hi := d.length) (by omega) (by simp)).sl.sh
      have hS1 := h.drew.shrink (Cf.length + 4) hat d.length (by rw [iv_len]; simp)
      rw [show (iv (d ++ [z])).take d.length = iv d by simp [iv]] at hS1
      obtain ⟨sa, sc, hs⟩ := hsh
      rw [show (iv (((d ++ [z]).take d.length).drop 0)).length = d.length by simp [iv]] at hs
      rw [hs] at i1 hS1
      have v1 : IntKind.i64.wrap (((d.length + 1 : Nat) : Int) - 1) = (d.length : Int) := by rw [IntWalk.i64_in _ (by omega)]; omega
      have v2 : IntKind.i64.wrap (d.length : Int) = (d.length : Int) := IntWalk.i64_in _ (by omega)
      have e3b := hS1.bcell 0 rfl 5 rfl
      have hrC2 := hS1.rd 3 (e := 46) (v := vC) (us := uc) rfl
      have u1 := hS1.unfrozen 3 (e := 46) (v := vC) (us := uc) rfl (j := Cf.length) (by rw [HlC.out]; omega)
      have hS6 := hS1.store 3 (e := 46) (v := vC) (us := uc) rfl (j := Cf.length) (by rw [HlC.out]; omega) (.slice sa d.length sc)
      rw [Hput.out, set_lastV] at hS6
      have HS6 := Lib.hid hS6
      clear xC hrC hS1 hS6 hrow hs hat hrC2 h e3b
      go_wp2_with fail
      refine regionG (fun w' => w'.cell? ⟨g, 5, none⟩ = some vC ∧ w'.cell? (el vC Cf.length) = some (vat uc Cf.length)) 23 (by kernel_rfl) ⟨cell_dr e3, cell_dr cC⟩ (fun hHeld => ?_)
      refine takeP (i := 0) (v := ?_) rfl (by kernel_rfl) (fun _ _ _ h => h) (by rfl) ?_ (by assumption) ?_
      case refine_2 => (intro w'; go_simp; first | done | with_reducible rfl)
      try simp only [Act.put, List.setIfInBounds_toArray, List.set_cons_zero, List.set_cons_succ]
      refine takeP (i := 1) (v := ?_) rfl (by kernel_rfl) (fun _ _ _ h => h) (by rfl) ?_ (by assumption) ?_
      case refine_2 => (intro w'; go_simp; first | done | with_reducible rfl)
      try simp only [Act.put, List.setIfInBounds_toArray, List.set_cons_zero, List.set_cons_succ]
      refine takeP (i := 2) (v := ?_) rfl (by kernel_rfl) (fun _ _ _ h => h) (by rfl) ?_ (by assumption) ?_
      case refine_2 => (intro w'; go_simp; first | done | with_reducible rfl)
      try simp only [Act.put, List.setIfInBounds_toArray, List.set_cons_zero, List.set_cons_succ]
      refine takeH (i := 3) [22] (v := ?_) rfl (by kernel_rfl) (fun _ _ _ h => h) (by rfl) ?_ (by assumption) ?_
      case refine_2 => (intro w' hSw; (try dsimp only at hSw); go_simp; first | done | with_reducible rfl)
      try simp only [Act.put, List.setIfInBounds_toArray, List.set_cons_zero, List.set_cons_succ]
      refine takeP (i := 4) (v := ?_) rfl (by kernel_rfl) (fun _ _ _ h => h) (by rfl) ?_ (by assumption) ?_
      case refine_2 => (intro w'; go_simp; first | done | with_reducible rfl)
      try simp only [Act.put, List.setIfInBounds_toArray, List.set_cons_zero, List.set_cons_succ]
      refine takeP (i := 5) (v := ?_) rfl (by kernel_rfl) (fun _ _ _ h => h) (by rfl) ?_ (by assumption) ?_
      case refine_2 => (intro w'; go_simp; first | done | with_reducible rfl)
      try simp only [Act.put, List.setIfInBounds_toArray, List.set_cons_zero, List.set_cons_succ]
      refine takeP (i := 6) (v := ?_) rfl (by kernel_rfl) (fun _ _ _ h => h) (by rfl) ?_ (by assumption) ?_
      case refine_2 => (intro w'; go_simp; first | done | with_reducible rfl)
      try simp only [Act.put, List.setIfInBounds_toArray, List.set_cons_zero, List.set_cons_succ]
      refine takeP (i := 7) (v := ?_) rfl (by kernel_rfl) (fun _ _ _ h => h) (by rfl) ?_ (by assumption) ?_
      case refine_2 => (intro w'; go_simp; first | done | with_reducible rfl)
      try simp only [Act.put, List.setIfInBounds_toArray, List.set_cons_zero, List.set_cons_succ]
      refine takeH (i := 8) [10, 11, 21] (v := ?_) rfl (by kernel_rfl) (fun _ _ _ h => h) (by rfl) ?_ (by assumption) ?_
      case refine_2 => (intro w' hSw; (try dsimp only at hSw); go_simp; first | done | with_reducible rfl)
      try simp only [Act.put, List.setIfInBounds_toArray, List.set_cons_zero, List.set_cons_succ]
      refine takeP (i := 9) (v := ?_) rfl (by kernel_rfl) (fun _ _ _ h => h) (by rfl) ?_ (by assumption) ?_
      case refine_2 => (intro w'; go_simp; first | done | with_reducible rfl)
      try simp only [Act.put, List.setIfInBounds_toArray, List.set_cons_zero, List.set_cons_succ]
      refine takeP (i := 10) (v := ?_) rfl (by kernel_rfl) (fun _ _ _ h => h) (by rfl) ?_ (by assumption) ?_
      case refine_2 => (intro w'; go_simp; first | done | with_reducible rfl)
      try simp only [Act.put, List.setIfInBounds_toArray, List.set_cons_zero, List.set_cons_succ]
      refine takeH (i := 11) [21] (v := ?_) rfl (by kernel_rfl) (fun _ _ _ h => h) (by rfl) ?_ (by assumption) ?_
      case refine_2 => (intro w' hSw; (try dsimp only at hSw); go_simp; first | done | with_reducible rfl)
      try simp only [Act.put, List.setIfInBounds_toArray, List.set_cons_zero, List.set_cons_succ]
      refine takeP (i := 12) (v := ?_) rfl (by kernel_rfl) (fun _ _ _ h => h) (by rfl) ?_ (by assumption) ?_
      case refine_2 => (intro w'; go_simp; first | done | with_reducible rfl)
      try simp only [Act.put, List.setIfInBounds_toArray, List.set_cons_zero, List.set_cons_succ]
      refine takeP (i := 13) (v := ?_) rfl (by kernel_rfl) (fun _ _ _ h => h) (by rfl) ?_ (by assumption) ?_
      case refine_2 => (intro w'; go_simp; first | done | with_reducible rfl)
      try simp only [Act.put, List.setIfInBounds_toArray, List.set_cons_zero, List.set_cons_succ]
      refine takeP (i := 14) (v := ?_) rfl (by kernel_rfl) (fun _ _ _ h => h) (by rfl) ?_ (by assumption) ?_
      case refine_2 => (intro w'; go_simp; first | done | with_reducible rfl)
      try simp only [Act.put, List.setIfInBounds_toArray, List.set_cons_zero, List.set_cons_succ]
      refine takeH (i := 15) [17, 18, 19, 20, 21] (v := ?_) rfl (by kernel_rfl) (fun _ _ _ h => h) (by rfl) ?_ (by assumption) ?_
      case refine_2 => (intro w' hSw; (try dsimp only at hSw); go_simp; first | done | with_reducible rfl)
      try simp only [Act.put, List.setIfInBounds_toArray, List.set_cons_zero, List.set_cons_succ]
      refine takeP (i := 16) (v := ?_) rfl (by kernel_rfl) (fun _ _ _ h => h) (by rfl) ?_ (by assumption) ?_
      case refine_2 => (intro w'; go_simp; first | done | with_reducible rfl)
      try simp only [Act.put, List.setIfInBounds_toArray, List.set_cons_zero, List.set_cons_succ]
      refine takeP (i := 17) (v := ?_) rfl (by kernel_rfl) (fun _ _ _ h => h) (by rfl) ?_ (by assumption) ?_
      case refine_2 => (intro w'; go_simp; first | done | with_reducible rfl)
      try simp only [Act.put, List.setIfInBounds_toArray, List.set_cons_zero, List.set_cons_succ]
      refine takeH (i := 18) [19, 20, 21] (v := ?_) rfl (by kernel_rfl) (fun _ _ _ h => h) (by rfl) ?_ (by assumption) ?_
      case refine_2 => (intro w' hSw; (try dsimp only at hSw); go_simp; first | done | with_reducible rfl)
      try simp only [Act.put, List.setIfInBounds_toArray, List.set_cons_zero, List.set_cons_succ]
      refine takeP (i := 19) (v := ?_) rfl (by kernel_rfl) (fun _ _ _ h => h) (by rfl) ?_ (by assumption) ?_
      case refine_2 => (intro w'; go_simp; first | done | with_reducible rfl)
      try simp only [Act.put, List.setIfInBounds_toArray, List.set_cons_zero, List.set_cons_succ]
      refine takeP (i := 20) (v := ?_) rfl (by kernel_rfl) (fun _ _ _ h => h) (by rfl) ?_ (by assumption) ?_
      case refine_2 => (intro w'; go_simp; first | done | with_reducible rfl)
      try simp only [Act.put, List.setIfInBounds_toArray, List.set_cons_zero, List.set_cons_succ]
      refine takeP (i := 21) (v := ?_) rfl (by kernel_rfl) (fun _ _ _ h => h) (by rfl) ?_ (by assumption) ?_
      case refine_2 => (intro w'; go_simp; first | done | with_reducible rfl)
      try simp only [Act.put, List.setIfInBounds_toArray, List.set_cons_zero, List.set_cons_succ]
      refine readyG (rs := [22]) (by kernel_rfl) (by simp) ?_
      refine AllG.cons rfl (fun K hK => ?_) AllG.nil
      go_simp
      refine hK.out _ _ hHeld (fun hHeld4 => ?_)
      clear hK K
      try simp only [Act.put, List.setIfInBounds_toArray, List.set_cons_zero, List.set_cons_succ]
      refine readyG (rs := [23]) (by kernel_rfl) (by simp) ?_
      refine AllG.last rfl (by kernel_rfl) (fun K hK => ?_) AllG.nil
      go_simp
      refine hK.out _ _ ?_
      clear hK K
      try simp only [Act.put, List.setIfInBounds_toArray, List.set_cons_zero, List.set_cons_succ]
      refine doneG (by kernel_rfl) ?_ _
      refine NoPanic.normal ?_
      go_wp2_with fail
      refine bodyPost_end (results_none rfl _ _ _) rfl ?_
      exact ⟨_, rfl, by rw [List.length_set, Hl.out]; simp, HS6.out⟩
end Go.Proofs.YtljemlfocajhnaaGreat
end

section
/- Walks: the search for a resolution: a class is begun. -/
namespace Go.Proofs.YtljemlfocajhnaaGreat
set_option linter.unusedSimpArgs false
set_option linter.unusedVariables false
open Go.RowKit
attribute [local go_sem ↓] Go.wp_at_zero Go.wp_at_succ

/-- some place that is not marked, or none -/
def IdxP (K : List Bool) (w : World) (e : Ending) (w' : World) : Prop := ∃ r : Int, e = .returned (.int .i64 r) ∧ w = w' ∧ ((r = -1 ∧ ∀ j, j < K.length → bat K j = true) ∨ ∃ j : Nat, j < K.length ∧ r = j ∧ bat K j = false)
set_option maxHeartbeats 2000000 in
set_option maxRecDepth 100000 in
theorem IndexV_c (v : Value) (xs : List Bool) (w : World) (hv : RdO w v xs) :
    Calls Tryz.prog 38 #[v, .bool false] w (IdxP xs w) := by
  have hln := hv.len
  have hix := hv.ixe
  have Hc := Lib.hid hv.cell
  have hm := hv.le
  clear hv
  go_enter Tryz.func38, Tryz.ntmps38
  go_wp2_with fail
  go_loop [5, 8] (fun _ i => ∃ k : Nat, k ≤ xs.length ∧ i = .int .i64 k ∧ Hid (∀ j, j < k → bat xs j = true)) (fun _ i => xs.length - (intOf i).toNat)
  case atStart => exact ⟨0, by omega, rfl, Lib.hid (fun j hj => by omega)⟩
  case round =>
    obtain ⟨k, hk, rfl, hI⟩ := hrel
    by_cases hlt : k < xs.length
    · have xk := hix (k : Int) k rfl hlt
      have ck := Hc.out k hlt
      cases hb : bat xs k
      · rw [hb] at ck
        have Hb := Lib.hid hb
        clear hb
        go_wp2_with fail
        go_ret
        exact ⟨(k : Int), rfl, rfl, .inr ⟨k, hlt, rfl, Hb.out⟩⟩
      · rw [hb] at ck
        have HI : Hid (∀ j, j < k + 1 → bat xs j = true) := Lib.hid (fun j hj => by
          by_cases e : j = k
          · rw [e]; exact hb
          · exact hI.out j (by omega))
        clear hb
        go_wp2_with fail
        go_round
        case rel => exact ⟨k + 1, by omega, by go_num, HI⟩
        case measure => simp [intOf]; omega
    · obtain rfl : k = xs.length := by omega
      go_wp2_with fail
      go_ret
      exact ⟨-1, rfl, rfl, .inl ⟨rfl, hI.out⟩⟩
theorem St.madeO {B : Nat} {w0 w : World} {L : List Ent} (h : St B w0 w L) (n : Nat) (hn : n ≤ 4294967296) :
    St B w0 (w.alloc (.cells (madeCells #[.bool false] n) 4)) (L ++ [row 4 (.slice (some ⟨w.heap.size, 0, none⟩) n n) (bo (List.replicate n false))]) := by
  have hsz : (madeCells #[Value.bool false] n).size = n := size_madeCells _ _
  have hlist : (madeCells #[Value.bool false] n).toList = bo (List.replicate n false) := by
    rw [← bo_rep]
    apply List.ext_getElem
    · simp [hsz]
    · intro i h1 h2; simp [madeCells, Nat.mod_one]
  have h2 := h.new 4 (madeCells #[.bool false] n) (by rw [hsz]; unfold maxLen; omega)
  rw [hsz, hlist] at h2
  exact h2
theorem run_mkO (n : Nat) (hn : n ≤ 4294967296) (w : World) : (Instr.makeSlice 42 (.int .i64 (n : Int)) (.int .i64 (n : Int))).run Tryz.prog w = .ok (.slice (some ⟨w.heap.size, 0, none⟩) n n) (w.alloc (.cells (madeCells #[.bool false] n) 4)) :=
  run_make_row' 42 4 (.bool false) 1 Tryz.und_os Tryz.info_o rfl .i64 .i64 n (by omega) (by omega) w
/-- the search has found a resolution -/
def Won (P : Nat) (A : List (List Int)) (g : Nat) (vB : Value) (w0 w' : World) : Prop :=
  ∃ (l : Int) (s : Bool) (vU vC vK : Value) (U K : List Bool) (uc : List Value) (C : List (List Int)), RsB P A U C ∧ (∀ i, i < A.length → bat U i = true) ∧ uc.length = C.length ∧ St w0.heap.size w0 w' (rvL g l s P vB vU vC vK U K uc C [])
/-- behind 'begin' and 'extend' -/
def SrE (w0 : World) (P : Nat) (A : List (List Int)) (g : Nat) (sp : Bool) (vB vU vK : Value) (U K : List Bool) (C : List (List Int)) (L : List Ent) (e : Ending) (w' : World) : Prop :=
  ∃ (b : Bool) (l' : Int) (s' : Bool), e = .returned (.bool b) ∧ (sp = true → s' = true) ∧ ((b = true ∧ Won P A g vB w0 w') ∨ (b = false ∧ (s' = false → ¬ Cmp P A C) ∧ ∃ (vC : Value) (uc : List Value), uc.length = C.length ∧ St w0.heap.size w0 w' (rvL g l' s' P vB vU vC vK U K uc C L)))
theorem rvL_sub (g : Nat) (l : Int) (s : Bool) (P : Int) (vB vU vC vK : Value) (U K : List Bool) (uc : List Value) (C : List (List Int)) (L : List Ent) : (rvL g l s P vB vU vC vK U K uc C []).Sublist (rvL g l s P vB vU vC vK U K uc C L) := by
  unfold rvL
  rw [List.append_nil]
  exact (((List.sublist_append_left _ _).cons_cons _).cons_cons _).cons_cons _
/-- how many there are -/
theorem flat_le {A : List (List Int)} {X : List Int} (hn : X.Nodup) (h : ∀ z ∈ X, ∃ i : Nat, z = i ∧ i < A.length) : X.length ≤ A.length := by
  have := hn.length_le_of_subset (l₂ := (List.range A.length).map fun k : Nat => (k : Int)) (fun z hz => by
    obtain ⟨i, rfl, hi⟩ := h z hz
    exact List.mem_map.2 ⟨i, List.mem_range.2 hi, rfl⟩)
  rwa [List.length_map, List.length_range] at this
theorem flat_ne : ∀ {C : List (List Int)}, (∀ d ∈ C, 0 < d.length) → C.length ≤ C.flatten.length
  | [], _ => by simp
  | d :: C, h => by
    have ih := flat_ne (C := C) fun x hx => h x (by simp [hx])
    have := h d (by simp)
    rw [List.flatten_cons, List.length_append, List.length_cons]; omega
theorem Cpl.pos {P : Nat} {A : List (List Int)} {d : List Int} (h : Cpl P A d) (hP : 1 ≤ P) : 0 < d.length := by
  obtain ⟨i, hi, _⟩ := h 0 (by omega)
  exact List.length_pos_of_mem hi
theorem RsB.bd {P : Nat} {A C : List (List Int)} {U : List Bool} (h : RsB P A U C) (hP : 1 ≤ P) : C.length ≤ A.length :=
  Nat.le_trans (flat_ne fun d hd => (h.full d hd).pos hP) (flat_le h.nd fun z hz => by
    obtain ⟨d, hd, hzd⟩ := List.mem_flatten.1 hz
    exact h.idx d hd z hzd)
theorem RsI.bd {P : Nat} {A C : List (List Int)} {U K : List Bool} {c : List Int} (h : RsI P A U K C c) (hP : 1 ≤ P) : C.length ≤ A.length ∧ c.length ≤ A.length := by
  have h1 := flat_le h.nd fun z hz => (by
    obtain ⟨d, hd, hzd⟩ := List.mem_flatten.1 hz
    exact h.idx d hd z hzd)
  rw [flat_snoc, List.length_append] at h1
  have h2 := flat_ne (C := C) fun d hd => (h.full d hd).pos hP
  omega
/-- what is known of the design -/
structure Dsg (P : Nat) (A : List (List Int)) : Prop where
  blk : BlkV P A
  p1 : 1 ≤ P
  p32 : P ≤ 32
  len : A.length ≤ 128
  bl : ∀ i, i < A.length → (xat A i).length ≤ 1000
end Go.Proofs.YtljemlfocajhnaaGreat
end

section
/- Walks: the search for a resolution: a class is begun. -/
namespace Go.Proofs.YtljemlfocajhnaaGreat
set_option linter.unusedSimpArgs false
set_option linter.unusedVariables false
open Go.RowKit
attribute [local go_sem ↓] Go.wp_at_zero Go.wp_at_succ

/-- a class is about to be filled -/
def CutB (w0 : World) (g : Nat) (l : Int) (s : Bool) (P : Nat) (vB vU vK : Value) (U K : List Bool) (uc : List Value) (C : List (List Int)) (L : List Ent) (s4 : Value) (w' : World) : Prop :=
  s4 = vK ∧ ∃ (ca : Option Addr) (cc : Nat) (na : Option Addr) (nc : Nat), St w0.heap.size w0 w' (rvL g l s P vB vU (.slice ca (uc.length + 1) cc) (.slice na P nc) U (List.replicate P false) (uc ++ [.slice none 0 0]) (C ++ [[]]) (row 4 vK (bo K) :: L))
/-- between the two: vC and vK as the box holds them -/
def rvT (g : Nat) (l : Int) (s : Bool) (P : Int) (vB vU vC vK vK0 v7 : Value) (U K : List Bool) (uc : List Value) (C : List (List Int)) (L : List Ent) : List Ent :=
  box 44 g [.int .i64 l, .bool s, .int .i64 P, vB, vU, vC, vK] :: row 4 vU (bo U) :: row 4 vK0 (bo K) :: row 46 v7 (uc ++ [.slice none 0 0]) :: (rowsI uc C ++ L)
theorem rvT_st6 {w0 w' : World} {g : Nat} {l : Int} {s : Bool} {P : Int} {vB vU vC vK vK0 v7 v : Value} {U K : List Bool} {uc X : List Value} {C : List (List Int)} {L : List Ent} (h : St w0.heap.size w0 w' (rvT g l s P vB vU vC vK vK0 v7 U K uc C L ++ [row 4 v X])) :
    St w0.heap.size w0 (w'.setCell ⟨g, 6, none⟩ v) (rvT g l s P vB vU vC v vK0 v7 U K uc C L ++ [row 4 v X]) := h.bstore 0 rfl 6 v
theorem CutB.of {w0 : World} {g : Nat} {l : Int} {s : Bool} {P : Nat} {vB vU vK : Value} {U K : List Bool} {uc : List Value} {C : List (List Int)} {L : List Ent} {ca : Option Addr} {cc : Nat} {na : Option Addr} {nc : Nat} {w' : World} (hl : Hid (uc.length = C.length))
    (h : St w0.heap.size w0 w' (rvT g l s P vB vU (.slice ca (uc.length + 1) cc) (.slice na P nc) vK (.slice ca (uc.length + 1) cc) U K uc C L ++ [row 4 (.slice na P nc) (bo (List.replicate P false))])) : CutB w0 g l s P vB vU vK U K uc C L vK w' := by
  refine ⟨rfl, ca, cc, na, nc, (h.newnil 2).perm ?_⟩
  unfold rvT rvL
  rw [own2, rowsI_app hl.out, show (iv []) = [] from rfl]
  exact (by (try simp only [own2, List.cons_append, List.nil_append, List.append_nil]); classical exact List.perm_iff_count.2 (fun a => by simp only [List.cons_append, List.nil_append, List.append_nil, List.count_append, List.count_cons, List.count_nil] <;> omega))
/-- the class is taken away again -/
theorem begin_end {w0 w' : World} {g : Nat} {l : Int} {s : Bool} {P : Int} {vB vU vN vK vS : Value} {U K K7 : List Bool} {uc : List Value} {C : List (List Int)} {L : List Ent} (hl : uc.length = C.length + 1)
    (h : St w0.heap.size w0 w' (box 44 g [.int .i64 l, .bool s, .int .i64 P, vB, vU, vS, vK] :: row 4 vU (bo U) :: row 4 vN (bo K7) :: row 46 vS (uc.take C.length) :: (rowsI uc (C ++ [[]]) ++ (row 4 vK (bo K) :: L)))) :
    St w0.heap.size w0 w' (rvL g l s P vB vU vS vK U K (uc.take C.length) C L) := by
  obtain ⟨u, hu⟩ : ∃ u, uc.drop C.length = [u] := List.length_eq_one_iff.1 (by rw [List.length_drop]; omega)
  have he : uc = uc.take C.length ++ [u] := by rw [← hu, List.take_append_drop]
  have hr : rowsI uc (C ++ [[]]) = rowsI (uc.take C.length) C ++ [row 2 u (iv [])] := by
    have := rowsI_app (us := uc.take C.length) (xss := C) (by rw [List.length_take]; omega) u []
    rwa [← he] at this
  rw [hr] at h
  generalize uc.take C.length = X at *
  have h2 := h.perm (L' := row 4 vN (bo K7) :: row 2 u (iv []) :: (box 44 g [.int .i64 l, .bool s, .int .i64 P, vB, vU, vS, vK] :: row 4 vU (bo U) :: row 4 vK (bo K) :: (row 46 vS X :: (rowsI X C ++ L)))) (by (try simp only [own2, List.cons_append, List.nil_append, List.append_nil]); classical exact List.perm_iff_count.2 (fun a => by simp only [List.cons_append, List.nil_append, List.append_nil, List.count_append, List.count_cons, List.count_nil] <;> omega))
  exact h2.sub ((List.sublist_cons_self _ _).trans (List.sublist_cons_self _ _))
set_option maxHeartbeats 32000000 in
set_option maxRecDepth 100000 in
theorem begin_step (g P : Nat) (a : Option Addr) (c : Nat) (us : List Value) (A : List (List Int)) (w0 : World) (hv : RII w0 (.slice a A.length c) us A) (hD : Dsg P A) (U : List Bool)
    (hE : ∀ (U' K' : List Bool) (Cf : List (List Int)) (d : List Int) (l : Int) (s : Bool) (vU vC vK : Value) (uc : List Value) (L : List Ent) (w : World), unU U' < unU U → RsI P A U' K' Cf d → uc.length = (Cf ++ [d]).length → St w0.heap.size w0 w (rvL g l s P (.slice a A.length c) vU vC vK U' K' uc (Cf ++ [d]) L) →
      Calls Tryz.prog 41 #[.pointer (some ⟨g, 0, none⟩)] w (SrE w0 P A g s (.slice a A.length c) vU vK U' K' (Cf ++ [d]) L))
    (l : Int) (s : Bool) (vU vC vK : Value) (K : List Bool) (uc : List Value) (C : List (List Int)) (L : List Ent) (w : World) (hR : RsB P A U C) (hl : uc.length = C.length) (h : St w0.heap.size w0 w (rvL g l s P (.slice a A.length c) vU vC vK U K uc C L)) :
    Calls Tryz.prog 14 #[.pointer (some ⟨g, 0, none⟩)] w (SrE w0 P A g s (.slice a A.length c) vU vK U K C L) := by
  obtain ⟨ka, kc, hsh⟩ := (h.rd 2 (e := 4) (v := vK) (us := bo K) rfl).sl.sh
  rw [bo_len] at hsh
  subst hsh
  have c4 := h.bcell 0 rfl 4 rfl
  have c1 := h.bcell 0 rfl 1 rfl
  have KI := Lib.hid (IndexV_c vU U w (h.rdO 1 rfl))
  have HR := Lib.hid hR
  have HD := Lib.hid hD
  have HE := Lib.hid hE
  have Hv := Lib.hid hv
  have hlu : Hid (uc.length = C.length) := Lib.hid hl
  clear hR hD hE hv hl
  go_enter Tryz.func14, Tryz.ntmps14
  go_wp2_with fail
  refine KI.out.mono ?_
  clear KI
  rintro e w1 ⟨r, rfl, hw, hr⟩
  subst hw
  rcases hr with ⟨rfl, hall⟩ | ⟨k, hk, rfl, hu⟩
  · have HW := Lib.hid (show Won P A g (.slice a A.length c) w0 w from ⟨l, s, vU, vC, _, U, K, uc, C, HR.out, fun i hi => hall i (by rw [HR.out.ulen]; exact hi), hlu.out, h.sub (rvL_sub _ _ _ _ _ _ _ _ _ _ _ _ _)⟩)
    clear h c4 c1 hall
    go_wp2_with fail
    go_ret
    exact ⟨true, l, s, rfl, fun q => q, .inl ⟨rfl, HW.out⟩⟩
  · have hk0 : ¬ (k : Int) < 0 := by omega
    rw [HR.out.ulen] at hk
    have Hu := Lib.hid hu
    clear hu
    cases s
    · have KN := Lib.hid (node_c g l false (P : Int) (.slice a A.length c) vU vC (.slice ka K.length kc) U K uc C L w0 w h)
      clear c4
      go_wp2_with fail
      refine KN.out.mono ?_
      clear KN c1 h
      rintro e w2 ⟨b2, l2, s2, rfl, hf, ht, h⟩
      cases b2
      · obtain rfl := hf rfl
        have H2 := Lib.hid h
        clear hf ht h
        go_wp2_with fail
        go_ret
        exact ⟨false, l2, true, rfl, fun _ => rfl, .inr ⟨rfl, (fun q => by cases q), vC, uc, hlu.out, H2.out⟩⟩
      obtain rfl := ht rfl
      clear hf ht
      have c6 := h.bcell 0 rfl 6 rfl
      have c5 := h.bcell 0 rfl 5 rfl
      have c2 := h.bcell 0 rfl 2 rfl
      have hS := h.drew
      have hbd := HR.out.bd HD.out.p1
      have hlen := HD.out.len
      have hN : Hid (uc.length + [Value.slice none 0 0].length ≤ 4294967296) := Lib.hid (by have := hlu.out; simp; omega)
      have hP32 := HD.out.p32
      have hmO := fun W => run_mkO P (by omega) W
      go_wp2_with fail
      go_cut [4] from 28 to 45 (fun s4 w' => CutB w0 g l2 false P (.slice a A.length c) vU (.slice ka K.length kc) U K uc C L s4 w')
      case first =>
        refine regionG (fun w' => w'.cell? ⟨g, 5, none⟩ = some vC ∧ w'.cell? ⟨g, 2, none⟩ = some (.int .i64 P)) 16 (by kernel_rfl) ⟨cell_dr c5, cell_dr c2⟩ (fun hHeld => ?_)
        refine takeP (i := 0) (v := ?_) rfl (by kernel_rfl) (fun _ _ _ h => h) (by rfl) ?_ (by assumption) ?_
        case refine_2 => (intro w'; go_simp; first | done | with_reducible rfl)
        try simp only [Act.put, List.setIfInBounds_toArray, List.set_cons_zero, List.set_cons_succ]
        refine takeP (i := 1) (v := ?_) rfl (by kernel_rfl) (fun _ _ _ h => h) (by rfl) ?_ (by assumption) ?_
        case refine_2 => (intro w'; go_simp; first | done | with_reducible rfl)
        try simp only [Act.put, List.setIfInBounds_toArray, List.set_cons_zero, List.set_cons_succ]
        refine takeP (i := 2) (v := ?_) rfl (by kernel_rfl) (fun _ _ _ h => h) (by rfl) ?_ (by assumption) ?_
        case refine_2 => (intro w'; go_simp; first | done | with_reducible rfl)
        try simp only [Act.put, List.setIfInBounds_toArray, List.set_cons_zero, List.set_cons_succ]
        refine takeP (i := 3) (v := ?_) rfl (by kernel_rfl) (fun _ _ _ h => h) (by rfl) ?_ (by assumption) ?_
        case refine_2 => (intro w'; go_simp; first | done | with_reducible rfl)
        try simp only [Act.put, List.setIfInBounds_toArray, List.set_cons_zero, List.set_cons_succ]
        refine takeP (i := 4) (v := ?_) rfl (by kernel_rfl) (fun _ _ _ h => h) (by rfl) ?_ (by assumption) ?_
        case refine_2 => (intro w'; go_simp; first | done | with_reducible rfl)
        try simp only [Act.put, List.setIfInBounds_toArray, List.set_cons_zero, List.set_cons_succ]
        refine takeH (i := 5) [7] (v := ?_) rfl (by kernel_rfl) (fun _ _ _ h => h) (by rfl) ?_ (by assumption) ?_
        case refine_2 => (intro w' hSw; (try dsimp only at hSw); go_simp; first | done | with_reducible rfl)
        try simp only [Act.put, List.setIfInBounds_toArray, List.set_cons_zero, List.set_cons_succ]
        refine takeP (i := 8) (v := ?_) rfl (by kernel_rfl) (fun _ _ _ h => h) (by rfl) ?_ (by assumption) ?_
        case refine_2 => (intro w'; go_simp; first | done | with_reducible rfl)
        try simp only [Act.put, List.setIfInBounds_toArray, List.set_cons_zero, List.set_cons_succ]
        refine takeP (i := 9) (v := ?_) rfl (by kernel_rfl) (fun _ _ _ h => h) (by rfl) ?_ (by assumption) ?_
        case refine_2 => (intro w'; go_simp; first | done | with_reducible rfl)
        try simp only [Act.put, List.setIfInBounds_toArray, List.set_cons_zero, List.set_cons_succ]
        refine takeP (i := 10) (v := ?_) rfl (by kernel_rfl) (fun _ _ _ h => h) (by rfl) ?_ (by assumption) ?_
        case refine_2 => (intro w'; go_simp; first | done | with_reducible rfl)
        try simp only [Act.put, List.setIfInBounds_toArray, List.set_cons_zero, List.set_cons_succ]
        refine takeP (i := 11) (v := ?_) rfl (by kernel_rfl) (fun _ _ _ h => h) (by rfl) ?_ (by assumption) ?_
        case refine_2 => (intro w'; go_simp; first | done | with_reducible rfl)
        try simp only [Act.put, List.setIfInBounds_toArray, List.set_cons_zero, List.set_cons_succ]
        refine takeH (i := 12) [] (v := ?_) rfl (by kernel_rfl) (fun _ _ _ h => h) (by rfl) ?_ (by assumption) ?_
        case refine_2 => (intro w' hSw; (try dsimp only at hSw); go_simp; first | done | with_reducible rfl)
        try simp only [Act.put, List.setIfInBounds_toArray, List.set_cons_zero, List.set_cons_succ]
        refine readyG (rs := [6, 13]) (by kernel_rfl) (by simp) ?_
        refine AllG.cons rfl (fun Q9 hK => ?_) (AllG.cons rfl (fun Q9 hK => ?_) AllG.nil)
        · go_simp
          have h6 := hS.new 46 #[.slice none 0 0] (by simp [maxLen])
          have r6 := (h6.sub (L' := [row 46 (.slice (some ⟨_, 0, none⟩) 1 1) [.slice none 0 0]]) (List.sublist_append_right _ _)).rd 0 rfl
          refine hK.out _ _ ⟨cell_al hHeld.1, cell_al hHeld.2⟩ (fun hHeld2 => ?_)
          clear hK Q9
          try simp only [Act.put, List.setIfInBounds_toArray, List.set_cons_zero, List.set_cons_succ]
          refine readyG (rs := [7, 13]) (by kernel_rfl) (by simp) ?_
          refine AllG.cons rfl (fun Q9 hK => ?_) (AllG.cons rfl (fun Q9 hK => ?_) AllG.nil)
          · refine stepsII h6 3 rfl _ _ r6 (fun u hu => by rw [List.mem_singleton.1 hu]; rfl) hN.out rfl (.tmp 33) (.tmp 34) rfl (by first | rfl | simp [Act.eval, Act.put]) (by first | rfl | simp [Act.eval, Act.put]) ?_
            intro v7 w7 h7
            obtain ⟨ca, cc, hsh⟩ := (h7.rd 3 (e := 46) (v := v7) (us := uc ++ [.slice none 0 0]) rfl).sl.sh
            rw [List.length_append, List.length_singleton] at hsh
            subst hsh
            have h8 : St w0.heap.size w0 w7 (rvT g l2 false P (.slice a A.length c) vU vC (.slice ka K.length kc) (.slice ka K.length kc) (.slice ca (uc.length + 1) cc) U K uc C L ++ [row 46 _ _]) := h7
            have h8 := h8.sub (List.sublist_append_left _ _)
            have e5 := h8.bcell 0 rfl 5 rfl
            have e2 := h8.bcell 0 rfl 2 rfl
            have e6 := h8.bcell 0 rfl 6 rfl
            have f0 := h8.bfree 0 rfl
            refine hK.out _ _ ⟨e5, e2⟩ (fun hHeld2 => ?_)
            clear hK Q9
            try simp only [Act.put, List.setIfInBounds_toArray, List.set_cons_zero, List.set_cons_succ]
            refine takeP (i := 14) (v := ?_) rfl (by kernel_rfl) (fun _ _ _ h => h) (by rfl) ?_ (by assumption) ?_
            case refine_2 => (intro w'; go_simp; first | done | with_reducible rfl)
            try simp only [Act.put, List.setIfInBounds_toArray, List.set_cons_zero, List.set_cons_succ]
            refine takeP (i := 15) (v := ?_) rfl (by kernel_rfl) (fun _ _ _ h => h) (by rfl) ?_ (by assumption) ?_
            case refine_2 => (intro w'; go_simp; first | done | with_reducible rfl)
            try simp only [Act.put, List.setIfInBounds_toArray, List.set_cons_zero, List.set_cons_succ]
            refine readyG (rs := [13, 16]) (by kernel_rfl) (by simp) ?_
            refine AllG.cons rfl (fun Q9 hK => ?_) (AllG.last rfl (by kernel_rfl) (fun Q9 hK => ?_) AllG.nil)
            · go_simp
              have h13 := h8.madeO P (by omega)
              refine hK.out _ _ ⟨cell_al e5, cell_al e2⟩ (fun hHeld2 => ?_)
              clear hK Q9
              try simp only [Act.put, List.setIfInBounds_toArray, List.set_cons_zero, List.set_cons_succ]
              have e5 := h13.bcell 0 rfl 5 rfl
              have f0 := h13.bfree 0 rfl
              refine readyG (rs := [16]) (by kernel_rfl) (by simp) ?_
              refine AllG.last rfl (by kernel_rfl) (fun Q9 hK => ?_) AllG.nil
              go_simp
              refine hK.out _ _ ?_
              clear hK Q9
              try simp only [Act.put, List.setIfInBounds_toArray, List.set_cons_zero, List.set_cons_succ]
              have h16 : St w0.heap.size w0 _ (rvT g l2 false P (.slice a A.length c) vU (.slice ca (uc.length + 1) cc) (.slice ka K.length kc) (.slice ka K.length kc) (.slice ca (uc.length + 1) cc) U K uc C L ++ [row 4 (.slice (some ⟨_, 0, none⟩) P P) (bo (List.replicate P false))]) := h13.bstore 0 rfl 5 (.slice ca (uc.length + 1) cc)
              refine anyG_lastP (i := 17) (v := ?_) rfl (by kernel_rfl) (fun _ _ _ h => h) (by rfl) ?_ ?_
              case refine_2 => (intro w'; go_simp; first | done | with_reducible rfl)
              try simp only [Act.put, List.setIfInBounds_toArray, List.set_cons_zero, List.set_cons_succ]
              refine anyG_lastP (i := 18) (v := ?_) rfl (by kernel_rfl) (fun _ _ _ h => h) (by rfl) ?_ ?_
              case refine_2 => (intro w'; go_simp; first | done | with_reducible rfl)
              try simp only [Act.put, List.setIfInBounds_toArray, List.set_cons_zero, List.set_cons_succ]
              have g6 := h16.bcell 0 rfl 6 rfl
              have f9 := h16.bfree 0 rfl
              refine readyG (rs := [19]) (by kernel_rfl) (by simp) ?_
              refine AllG.last rfl (by kernel_rfl) (fun Q9 hK => ?_) AllG.nil
              go_simp
              refine hK.out _ _ ?_
              clear hK Q9
              try simp only [Act.put, List.setIfInBounds_toArray, List.set_cons_zero, List.set_cons_succ]
              have h19 := rvT_st6 h16
              refine doneG (by kernel_rfl) ?_ _
              refine NoPanic.normal ?_
              have h20 := CutB.of hlu h19
              clear h19
              go_wp2_with fail
              go_meet
              case rel => first | exact h20 | simpa using h20
            · go_simp
              refine hK.out _ _ ?_
              clear hK Q9
              try simp only [Act.put, List.setIfInBounds_toArray, List.set_cons_zero, List.set_cons_succ]
              have h16 : St w0.heap.size w0 _ (rvT g l2 false P (.slice a A.length c) vU (.slice ca (uc.length + 1) cc) (.slice ka K.length kc) (.slice ka K.length kc) (.slice ca (uc.length + 1) cc) U K uc C L) := h8.bstore 0 rfl 5 (.slice ca (uc.length + 1) cc)
              refine readyG (rs := [13]) (by kernel_rfl) (by simp) ?_
              refine AllG.last rfl (by kernel_rfl) (fun Q9 hK => ?_) AllG.nil
              go_simp
              have h13 := h16.madeO P (by omega)
              refine hK.out _ _ ?_
              clear hK Q9
              try simp only [Act.put, List.setIfInBounds_toArray, List.set_cons_zero, List.set_cons_succ]
              refine anyG_lastP (i := 17) (v := ?_) rfl (by kernel_rfl) (fun _ _ _ h => h) (by rfl) ?_ ?_
              case refine_2 => (intro w'; go_simp; first | done | with_reducible rfl)
              try simp only [Act.put, List.setIfInBounds_toArray, List.set_cons_zero, List.set_cons_succ]
              refine anyG_lastP (i := 18) (v := ?_) rfl (by kernel_rfl) (fun _ _ _ h => h) (by rfl) ?_ ?_
              case refine_2 => (intro w'; go_simp; first | done | with_reducible rfl)
              try simp only [Act.put, List.setIfInBounds_toArray, List.set_cons_zero, List.set_cons_succ]
              have g6 := h13.bcell 0 rfl 6 rfl
              have f9 := h13.bfree 0 rfl
              refine readyG (rs := [19]) (by kernel_rfl) (by simp) ?_
              refine AllG.last rfl (by kernel_rfl) (fun Q9 hK => ?_) AllG.nil
              go_simp
              refine hK.out _ _ ?_
              clear hK Q9
              try simp only [Act.put, List.setIfInBounds_toArray, List.set_cons_zero, List.set_cons_succ]
              have h19 := rvT_st6 h13
              refine doneG (by kernel_rfl) ?_ _
              refine NoPanic.normal ?_
              have h20 := CutB.of hlu h19
              clear h19
              go_wp2_with fail
              go_meet
              case rel => first | exact h20 | simpa using h20
          · go_simp
            have h13 := h6.madeO P (by omega)
            refine hK.out _ _ ⟨cell_al hHeld2.1, cell_al hHeld2.2⟩ (fun hHeld2 => ?_)
            clear hK Q9
            try simp only [Act.put, List.setIfInBounds_toArray, List.set_cons_zero, List.set_cons_succ]
            have r6b := r6.keep ((St.refl _).madeO P (by omega)).below
            refine readyG (rs := [7]) (by kernel_rfl) (by simp) ?_
            refine AllG.cons rfl (fun Q9 hK => ?_) AllG.nil
            refine stepsII h13 3 rfl _ _ r6b (fun u hu => by rw [List.mem_singleton.1 hu]; rfl) hN.out rfl (.tmp 33) (.tmp 34) rfl (by first | rfl | simp [Act.eval, Act.put]) (by first | rfl | simp [Act.eval, Act.put]) ?_
            intro v7 w7 h7
            obtain ⟨ca, cc, hsh⟩ := (h7.rd 3 (e := 46) (v := v7) (us := uc ++ [.slice none 0 0]) rfl).sl.sh
            rw [List.length_append, List.length_singleton] at hsh
            subst hsh
            have h8 : St w0.heap.size w0 w7 (rvT g l2 false P (.slice a A.length c) vU vC (.slice ka K.length kc) (.slice ka K.length kc) (.slice ca (uc.length + 1) cc) U K uc C L ++ [row 46 _ _] ++ [row 4 (.slice (some ⟨_, 0, none⟩) P P) (bo (List.replicate P false))]) := h7
            have h8 := h8.sub ((List.sublist_append_left _ _).append (List.Sublist.refl _))
            have e5 := h8.bcell 0 rfl 5 rfl
            have e2 := h8.bcell 0 rfl 2 rfl
            have e6 := h8.bcell 0 rfl 6 rfl
            have f0 := h8.bfree 0 rfl
            refine hK.out _ _ ⟨e5, e2⟩ (fun hHeld2 => ?_)
            clear hK Q9
            try simp only [Act.put, List.setIfInBounds_toArray, List.set_cons_zero, List.set_cons_succ]
            refine takeP (i := 14) (v := ?_) rfl (by kernel_rfl) (fun _ _ _ h => h) (by rfl) ?_ (by assumption) ?_
            case refine_2 => (intro w'; go_simp; first | done | with_reducible rfl)
            try simp only [Act.put, List.setIfInBounds_toArray, List.set_cons_zero, List.set_cons_succ]
            refine takeP (i := 15) (v := ?_) rfl (by kernel_rfl) (fun _ _ _ h => h) (by rfl) ?_ (by assumption) ?_
            case refine_2 => (intro w'; go_simp; first | done | with_reducible rfl)
            try simp only [Act.put, List.setIfInBounds_toArray, List.set_cons_zero, List.set_cons_succ]
            refine readyG (rs := [16]) (by kernel_rfl) (by simp) ?_
            refine AllG.last rfl (by kernel_rfl) (fun Q9 hK => ?_) AllG.nil
            go_simp
            refine hK.out _ _ ?_
            clear hK Q9
            try simp only [Act.put, List.setIfInBounds_toArray, List.set_cons_zero, List.set_cons_succ]
            have h16 : St w0.heap.size w0 _ (rvT g l2 false P (.slice a A.length c) vU (.slice ca (uc.length + 1) cc) (.slice ka K.length kc) (.slice ka K.length kc) (.slice ca (uc.length + 1) cc) U K uc C L ++ [row 4 (.slice (some ⟨_, 0, none⟩) P P) (bo (List.replicate P false))]) := h8.bstore 0 rfl 5 (.slice ca (uc.length + 1) cc)
            refine anyG_lastP (i := 17) (v := ?_) rfl (by kernel_rfl) (fun _ _ _ h => h) (by rfl) ?_ ?_
            case refine_2 => (intro w'; go_simp; first | done | with_reducible rfl)
            try simp only [Act.put, List.setIfInBounds_toArray, List.set_cons_zero, List.set_cons_succ]
            refine anyG_lastP (i := 18) (v := ?_) rfl (by kernel_rfl) (fun _ _ _ h => h) (by rfl) ?_ ?_
            case refine_2 => (intro w'; go_simp; first | done | with_reducible rfl)
            try simp only [Act.put, List.setIfInBounds_toArray, List.set_cons_zero, List.set_cons_succ]
            have g6 := h16.bcell 0 rfl 6 rfl
            have f9 := h16.bfree 0 rfl
            refine readyG (rs := [19]) (by kernel_rfl) (by simp) ?_
            refine AllG.last rfl (by kernel_rfl) (fun Q9 hK => ?_) AllG.nil
            go_simp
            refine hK.out _ _ ?_
            clear hK Q9
            try simp only [Act.put, List.setIfInBounds_toArray, List.set_cons_zero, List.set_cons_succ]
            have h19 := rvT_st6 h16
            refine doneG (by kernel_rfl) ?_ _
            refine NoPanic.normal ?_
            have h20 := CutB.of hlu h19
            clear h19
            go_wp2_with fail
            go_meet
            case rel => first | exact h20 | simpa using h20
        · go_simp
          have h13 := hS.madeO P (by omega)
          refine hK.out _ _ ⟨cell_al hHeld.1, cell_al hHeld.2⟩ (fun hHeld2 => ?_)
          clear hK Q9
          try simp only [Act.put, List.setIfInBounds_toArray, List.set_cons_zero, List.set_cons_succ]
          refine readyG (rs := [6]) (by kernel_rfl) (by simp) ?_
          refine AllG.cons rfl (fun Q9 hK => ?_) AllG.nil
          go_simp
          have h6 := h13.new 46 #[.slice none 0 0] (by simp [maxLen])
          have r6 := (h6.sub (L' := [row 46 (.slice (some ⟨_, 0, none⟩) 1 1) [.slice none 0 0]]) (List.sublist_append_right _ _)).rd 0 rfl
          refine hK.out _ _ ⟨cell_al hHeld2.1, cell_al hHeld2.2⟩ (fun hHeld2 => ?_)
          clear hK Q9
          try simp only [Act.put, List.setIfInBounds_toArray, List.set_cons_zero, List.set_cons_succ]
          refine readyG (rs := [7]) (by kernel_rfl) (by simp) ?_
          refine AllG.cons rfl (fun Q9 hK => ?_) AllG.nil
          refine stepsII h6 3 rfl _ _ r6 (fun u hu => by rw [List.mem_singleton.1 hu]; rfl) hN.out rfl (.tmp 33) (.tmp 34) rfl (by first | rfl | simp [Act.eval, Act.put]) (by first | rfl | simp [Act.eval, Act.put]) ?_
          intro v7 w7 h7
          obtain ⟨ca, cc, hsh⟩ := (h7.rd 3 (e := 46) (v := v7) (us := uc ++ [.slice none 0 0]) rfl).sl.sh
          rw [List.length_append, List.length_singleton] at hsh
          subst hsh
          have h8 : St w0.heap.size w0 w7 (rvT g l2 false P (.slice a A.length c) vU vC (.slice ka K.length kc) (.slice ka K.length kc) (.slice ca (uc.length + 1) cc) U K uc C L ++ [row 4 (.slice (some ⟨_, 0, none⟩) P P) (bo (List.replicate P false))] ++ [row 46 _ _]) := h7
          have h8 := h8.sub (List.sublist_append_left _ _)
          have e5 := h8.bcell 0 rfl 5 rfl
          have e2 := h8.bcell 0 rfl 2 rfl
          have e6 := h8.bcell 0 rfl 6 rfl
          have f0 := h8.bfree 0 rfl
          refine hK.out _ _ ⟨e5, e2⟩ (fun hHeld2 => ?_)
          clear hK Q9
          try simp only [Act.put, List.setIfInBounds_toArray, List.set_cons_zero, List.set_cons_succ]
          refine takeP (i := 14) (v := ?_) rfl (by kernel_rfl) (fun _ _ _ h => h) (by rfl) ?_ (by assumption) ?_
          case refine_2 => (intro w'; go_simp; first | done | with_reducible rfl)
          try simp only [Act.put, List.setIfInBounds_toArray, List.set_cons_zero, List.set_cons_succ]
          refine takeP (i := 15) (v := ?_) rfl (by kernel_rfl) (fun _ _ _ h => h) (by rfl) ?_ (by assumption) ?_
          case refine_2 => (intro w'; go_simp; first | done | with_reducible rfl)
          try simp only [Act.put, List.setIfInBounds_toArray, List.set_cons_zero, List.set_cons_succ]
          refine readyG (rs := [16]) (by kernel_rfl) (by simp) ?_
          refine AllG.last rfl (by kernel_rfl) (fun Q9 hK => ?_) AllG.nil
          go_simp
          refine hK.out _ _ ?_
          clear hK Q9
          try simp only [Act.put, List.setIfInBounds_toArray, List.set_cons_zero, List.set_cons_succ]
          have h16 : St w0.heap.size w0 _ (rvT g l2 false P (.slice a A.length c) vU (.slice ca (uc.length + 1) cc) (.slice ka K.length kc) (.slice ka K.length kc) (.slice ca (uc.length + 1) cc) U K uc C L ++ [row 4 (.slice (some ⟨_, 0, none⟩) P P) (bo (List.replicate P false))]) := h8.bstore 0 rfl 5 (.slice ca (uc.length + 1) cc)
          refine anyG_lastP (i := 17) (v := ?_) rfl (by kernel_rfl) (fun _ _ _ h => h) (by rfl) ?_ ?_
          case refine_2 => (intro w'; go_simp; first | done | with_reducible rfl)
          try simp only [Act.put, List.setIfInBounds_toArray, List.set_cons_zero, List.set_cons_succ]
          refine anyG_lastP (i := 18) (v := ?_) rfl (by kernel_rfl) (fun _ _ _ h => h) (by rfl) ?_ ?_
          case refine_2 => (intro w'; go_simp; first | done | with_reducible rfl)
          try simp only [Act.put, List.setIfInBounds_toArray, List.set_cons_zero, List.set_cons_succ]
          have g6 := h16.bcell 0 rfl 6 rfl
          have f9 := h16.bfree 0 rfl
          refine readyG (rs := [19]) (by kernel_rfl) (by simp) ?_
          refine AllG.last rfl (by kernel_rfl) (fun Q9 hK => ?_) AllG.nil
          go_simp
          refine hK.out _ _ ?_
          clear hK Q9
          try simp only [Act.put, List.setIfInBounds_toArray, List.set_cons_zero, List.set_cons_succ]
          have h19 := rvT_st6 h16
          refine doneG (by kernel_rfl) ?_ _
          refine NoPanic.normal ?_
          have h20 := CutB.of hlu h19
          clear h19
          go_wp2_with fail
          go_meet
          case rel => first | exact h20 | simpa using h20
      case rest =>
        obtain ⟨rfl, ca, cc, na, nc, hS⟩ := hcut
        clear h c6 c5 c2 hmO hN
        have hUl := HR.out.ulen
        have KT := Lib.hid (take_t k g l2 false P a c vU (.slice ca (uc.length + 1) cc) (.slice na P nc) U (List.replicate P false) us (uc ++ [.slice none 0 0]) A C [] (row 4 (.slice ka K.length kc) (bo K) :: L) w0 _ Hv.out hS (by rw [List.length_append, List.length_append, hlu.out]; rfl) HD.out.blk hk hUl List.length_replicate (by omega) (by simp) HD.out.bl)
        have HRI := Lib.hid (HR.out.first HD.out.blk hk Hu.out)
        have hun := unU_set (U := U) (k := k) (by rw [hUl]; exact hk) Hu.out
        clear hS
        go_wp2_with fail
        refine KT.out.mono ?_
        clear KT
        rintro e w5 ⟨uc5, rfl, hl5, h5⟩
        have KE := Lib.hid (HE.out (U.set k true) (mkK (List.replicate P false) (xat A k) true) C [(k : Int)] l2 false vU (.slice ca (uc.length + 1) cc) (.slice na P nc) uc5 (row 4 (.slice ka K.length kc) (bo K) :: L) w5 (by omega) HRI.out hl5 h5)
        clear h5 hl5
        go_wp2_with fail
        refine KE.out.mono ?_
        clear KE
        rintro e w6 ⟨b6, l6, s6, rfl, _, ⟨rfl, hwon⟩ | ⟨rfl, hlost, vC6, uc6, hl6, h6⟩⟩
        · have HW := Lib.hid hwon
          clear hwon
          go_wp2_with fail
          go_ret
          exact ⟨true, l6, s6, rfl, (fun q => by cases q), .inl ⟨rfl, HW.out⟩⟩
        · have Hlost := Lib.hid hlost
          have KT := Lib.hid (take_f k g l6 s6 P a c vU vC6 (.slice na P nc) (U.set k true) (mkK (List.replicate P false) (xat A k) true) us uc6 A C [] (k : Int) (row 4 (.slice ka K.length kc) (bo K) :: L) w0 w6 Hv.out h6 hl6 HD.out.blk hk (by rw [List.length_set]; exact hUl) (by rw [mkK_len, List.length_replicate]) (by omega) (by simp) HD.out.bl)
          rw [set_back Hu.out] at KT
          generalize mkK (mkK (List.replicate P false) (xat A k) true) (xat A k) false = K7 at *
          clear h6 hl6 hlost
          go_wp2_with fail
          refine KT.out.mono ?_
          clear KT
          rintro e w7 ⟨uc7, rfl, hl7, h7⟩
          have hl7' : uc7.length = C.length + 1 := by rw [hl7]; simp
          have Hl7 := Lib.hid hl7'
          have c5 := h7.bcell 0 rfl 5 rfl
          have c6 := h7.bcell 0 rfl 6 rfl
          have f7 := h7.bfree 0 rfl
          have hrC := h7.rd 3 (e := 46) (v := vC6) (us := uc7) rfl
          have hlnC := run_len_sl (P := Tryz.prog) hrC.sl 24 3 Tryz.und_iss
          rw [hl7'] at hlnC
          have w1 : IntKind.i64.wrap (((C.length + 1 : Nat) : Int) - 1) = (C.length : Int) := by rw [IntWalk.i64_in _ (by omega)]; omega
          have w2 : IntKind.i64.wrap (C.length : Int) = (C.length : Int) := IntWalk.i64_in _ (by omega)
          have i1 := rslII_hi hrC C.length (by omega)
          obtain ⟨sa, sc, hs⟩ := (rsl_Rd hrC (lo := 0) (hi := C.length) (by omega) (by omega)).sl.sh
          rw [show ((uc7.take C.length).drop 0).length = C.length by simp [hl7']] at hs
          rw [hs] at i1
          have h8 := h7.drew.shrink 3 (e := 46) (v := vC6) (us := uc7) rfl C.length (by omega)
          rw [hs] at h8
          have f0 := h8.bfree 0 rfl
          have g6 := h8.bcell 0 rfl 6 rfl
          have g5 := h8.bcell 0 rfl 5 rfl
          have H9 := Lib.hid ((h8.bstore 0 rfl 5 (.slice sa C.length sc)).bstore 0 rfl 6 (.slice ka K.length kc))
          clear h7 h8 hrC hs hl7 hl7'
          go_wp2_with fail
          refine regionG (fun w' => w'.cell? ⟨g, 5, none⟩ = some vC6) 16 (by kernel_rfl) (cell_dr c5) (fun hHeld => ?_)
          refine takeP (i := 0) (v := ?_) rfl (by kernel_rfl) (fun _ _ _ h => h) (by rfl) ?_ (by assumption) ?_
          case refine_2 => (intro w'; go_simp; first | done | with_reducible rfl)
          try simp only [Act.put, List.setIfInBounds_toArray, List.set_cons_zero, List.set_cons_succ]
          refine takeP (i := 1) (v := ?_) rfl (by kernel_rfl) (fun _ _ _ h => h) (by rfl) ?_ (by assumption) ?_
          case refine_2 => (intro w'; go_simp; first | done | with_reducible rfl)
          try simp only [Act.put, List.setIfInBounds_toArray, List.set_cons_zero, List.set_cons_succ]
          refine takeP (i := 2) (v := ?_) rfl (by kernel_rfl) (fun _ _ _ h => h) (by rfl) ?_ (by assumption) ?_
          case refine_2 => (intro w'; go_simp; first | done | with_reducible rfl)
          try simp only [Act.put, List.setIfInBounds_toArray, List.set_cons_zero, List.set_cons_succ]
          refine takeP (i := 3) (v := ?_) rfl (by kernel_rfl) (fun _ _ _ h => h) (by rfl) ?_ (by assumption) ?_
          case refine_2 => (intro w'; go_simp; first | done | with_reducible rfl)
          try simp only [Act.put, List.setIfInBounds_toArray, List.set_cons_zero, List.set_cons_succ]
          refine takeP (i := 4) (v := ?_) rfl (by kernel_rfl) (fun _ _ _ h => h) (by rfl) ?_ (by assumption) ?_
          case refine_2 => (intro w'; go_simp; first | done | with_reducible rfl)
          try simp only [Act.put, List.setIfInBounds_toArray, List.set_cons_zero, List.set_cons_succ]
          refine takeH (i := 5) [12] (v := ?_) rfl (by kernel_rfl) (fun _ _ _ h => h) (by rfl) ?_ (by assumption) ?_
          case refine_2 => (intro w' hSw; (try dsimp only at hSw); go_simp; first | done | with_reducible rfl)
          try simp only [Act.put, List.setIfInBounds_toArray, List.set_cons_zero, List.set_cons_succ]
          refine takeP (i := 6) (v := ?_) rfl (by kernel_rfl) (fun _ _ _ h => h) (by rfl) ?_ (by assumption) ?_
          case refine_2 => (intro w'; go_simp; first | done | with_reducible rfl)
          try simp only [Act.put, List.setIfInBounds_toArray, List.set_cons_zero, List.set_cons_succ]
          refine takeP (i := 7) (v := ?_) rfl (by kernel_rfl) (fun _ _ _ h => h) (by rfl) ?_ (by assumption) ?_
          case refine_2 => (intro w'; go_simp; first | done | with_reducible rfl)
          try simp only [Act.put, List.setIfInBounds_toArray, List.set_cons_zero, List.set_cons_succ]
          refine takeP (i := 8) (v := ?_) rfl (by kernel_rfl) (fun _ _ _ h => h) (by rfl) ?_ (by assumption) ?_
          case refine_2 => (intro w'; go_simp; first | done | with_reducible rfl)
          try simp only [Act.put, List.setIfInBounds_toArray, List.set_cons_zero, List.set_cons_succ]
          refine takeH (i := 9) [10, 11, 12] (v := ?_) rfl (by kernel_rfl) (fun _ _ _ h => h) (by rfl) ?_ (by assumption) ?_
          case refine_2 => (intro w' hSw; (try dsimp only at hSw); go_simp; first | done | with_reducible rfl)
          try simp only [Act.put, List.setIfInBounds_toArray, List.set_cons_zero, List.set_cons_succ]
          refine takeP (i := 10) (v := ?_) rfl (by kernel_rfl) (fun _ _ _ h => h) (by rfl) ?_ (by assumption) ?_
          case refine_2 => (intro w'; go_simp; first | done | with_reducible rfl)
          try simp only [Act.put, List.setIfInBounds_toArray, List.set_cons_zero, List.set_cons_succ]
          refine takeP (i := 11) (v := ?_) rfl (by kernel_rfl) (fun _ _ _ h => h) (by rfl) ?_ (by assumption) ?_
          case refine_2 => (intro w'; go_simp; first | done | with_reducible rfl)
          try simp only [Act.put, List.setIfInBounds_toArray, List.set_cons_zero, List.set_cons_succ]
          refine takeP (i := 12) (v := ?_) rfl (by kernel_rfl) (fun _ _ _ h => h) (by rfl) ?_ (by assumption) ?_
          case refine_2 => (intro w'; go_simp; first | done | with_reducible rfl)
          try simp only [Act.put, List.setIfInBounds_toArray, List.set_cons_zero, List.set_cons_succ]
          refine takeP (i := 13) (v := ?_) rfl (by kernel_rfl) (fun _ _ _ h => h) (by rfl) ?_ (by assumption) ?_
          case refine_2 => (intro w'; go_simp; first | done | with_reducible rfl)
          try simp only [Act.put, List.setIfInBounds_toArray, List.set_cons_zero, List.set_cons_succ]
          refine takeP (i := 14) (v := ?_) rfl (by kernel_rfl) (fun _ _ _ h => h) (by rfl) ?_ (by assumption) ?_
          case refine_2 => (intro w'; go_simp; first | done | with_reducible rfl)
          try simp only [Act.put, List.setIfInBounds_toArray, List.set_cons_zero, List.set_cons_succ]
          refine takeP (i := 15) (v := ?_) rfl (by kernel_rfl) (fun _ _ _ h => h) (by rfl) ?_ (by assumption) ?_
          case refine_2 => (intro w'; go_simp; first | done | with_reducible rfl)
          try simp only [Act.put, List.setIfInBounds_toArray, List.set_cons_zero, List.set_cons_succ]
          refine readyG (rs := [16]) (by kernel_rfl) (by simp) ?_
          refine AllG.last rfl (by kernel_rfl) (fun Q9 hK => ?_) AllG.nil
          go_simp
          refine hK.out _ _ ?_
          clear hK Q9
          try simp only [Act.put, List.setIfInBounds_toArray, List.set_cons_zero, List.set_cons_succ]
          refine anyG_lastP (i := 17) (v := ?_) rfl (by kernel_rfl) (fun _ _ _ h => h) (by rfl) ?_ ?_
          case refine_2 => (intro w'; go_simp; first | done | with_reducible rfl)
          try simp only [Act.put, List.setIfInBounds_toArray, List.set_cons_zero, List.set_cons_succ]
          refine anyG_lastP (i := 18) (v := ?_) rfl (by kernel_rfl) (fun _ _ _ h => h) (by rfl) ?_ ?_
          case refine_2 => (intro w'; go_simp; first | done | with_reducible rfl)
          try simp only [Act.put, List.setIfInBounds_toArray, List.set_cons_zero, List.set_cons_succ]
          refine readyG (rs := [19]) (by kernel_rfl) (by simp) ?_
          refine AllG.last rfl (by kernel_rfl) (fun Q9 hK => ?_) AllG.nil
          go_simp
          refine hK.out _ _ ?_
          clear hK Q9
          try simp only [Act.put, List.setIfInBounds_toArray, List.set_cons_zero, List.set_cons_succ]
          refine doneG (by kernel_rfl) ?_ _
          refine NoPanic.normal ?_
          have H10 := Lib.hid (begin_end Hl7.out H9.out)
          have Htl := Lib.hid (show (uc7.take C.length).length = C.length by rw [List.length_take, Hl7.out]; omega)
          clear H9 f0 g6 g5
          go_wp2_with fail
          go_ret
          exact ⟨false, l6, s6, rfl, (fun q => by cases q), .inr ⟨rfl, fun q hc => Hlost.out q (hc.first k), _, _, Htl.out, H10.out⟩⟩
    · have H1 := Lib.hid h
      clear h c4
      go_wp2_with fail
      go_ret
      exact ⟨false, l, true, rfl, fun _ => rfl, .inr ⟨rfl, (fun q => by cases q), vC, uc, hlu.out, H1.out⟩⟩
end Go.Proofs.YtljemlfocajhnaaGreat
end

section
/- Walks: the search for a resolution: a class is gone on with; the search as a whole. -/
namespace Go.Proofs.YtljemlfocajhnaaGreat
set_option linter.unusedSimpArgs false
set_option linter.unusedVariables false
open Go.RowKit
attribute [local go_sem ↓] Go.wp_at_zero Go.wp_at_succ

/-- what the round of 'extend' keeps -/
structure ExI (P : Nat) (A : List (List Int)) (U K : List Bool) (Cf : List (List Int)) (d : List Int) (p k : Nat) (s s' : Bool) (uc : List Value) : Prop where
  len : uc.length = (Cf ++ [d]).length
  sp : s = true → s' = true
  no : s' = false → ∀ j, j < k → Fts A U K p j → ¬ Cmp P A (Cf ++ [d ++ [(j : Int)]])
set_option maxHeartbeats 32000000 in
set_option maxRecDepth 100000 in
theorem extend_step (g P : Nat) (a : Option Addr) (c : Nat) (us : List Value) (A : List (List Int)) (w0 : World) (hv : RII w0 (.slice a A.length c) us A) (hD : Dsg P A) (U : List Bool)
    (hB : ∀ (l : Int) (s : Bool) (vU vC vK : Value) (K : List Bool) (uc : List Value) (C : List (List Int)) (L : List Ent) (w : World), RsB P A U C → uc.length = C.length → St w0.heap.size w0 w (rvL g l s P (.slice a A.length c) vU vC vK U K uc C L) →
      Calls Tryz.prog 14 #[.pointer (some ⟨g, 0, none⟩)] w (SrE w0 P A g s (.slice a A.length c) vU vK U K C L))
    (hE : ∀ (U' K' : List Bool) (Cf : List (List Int)) (d : List Int) (l : Int) (s : Bool) (vU vC vK : Value) (uc : List Value) (L : List Ent) (w : World), unU U' < unU U → RsI P A U' K' Cf d → uc.length = (Cf ++ [d]).length → St w0.heap.size w0 w (rvL g l s P (.slice a A.length c) vU vC vK U' K' uc (Cf ++ [d]) L) →
      Calls Tryz.prog 41 #[.pointer (some ⟨g, 0, none⟩)] w (SrE w0 P A g s (.slice a A.length c) vU vK U' K' (Cf ++ [d]) L))
    (l : Int) (s : Bool) (vU vC vK : Value) (K : List Bool) (uc : List Value) (Cf : List (List Int)) (d : List Int) (L : List Ent) (w : World) (hR : RsI P A U K Cf d) (hl : uc.length = (Cf ++ [d]).length) (h : St w0.heap.size w0 w (rvL g l s P (.slice a A.length c) vU vC vK U K uc (Cf ++ [d]) L)) :
    Calls Tryz.prog 41 #[.pointer (some ⟨g, 0, none⟩)] w (SrE w0 P A g s (.slice a A.length c) vU vK U K (Cf ++ [d]) L) := by
  have c6 := h.bcell 0 rfl 6 rfl
  have c3 := h.bcell 0 rfl 3 rfl
  have KI := Lib.hid (IndexV_c vK K w (h.rdO 2 rfl))
  have HR := Lib.hid hR
  have HD := Lib.hid hD
  have HE := Lib.hid hE
  have HB := Lib.hid hB
  have Hv := Lib.hid hv
  have hlnA := hv.len
  have Hlu := Lib.hid hl
  have hA128 := hD.len
  have hbd := hR.bd hD.p1
  clear hR hD hE hv hl hB
  go_enter Tryz.func41, Tryz.ntmps41
  go_wp2_with fail
  refine KI.out.mono ?_
  clear KI
  rintro e w1 ⟨r, rfl, hw, hr⟩
  subst hw
  rcases hr with ⟨rfl, hall⟩ | ⟨p, hp, rfl, hu⟩
  · have KB := Lib.hid (HB.out l s vU vC vK K uc (Cf ++ [d]) L w (HR.out.whole fun x hx => hall x (by rw [HR.out.klen]; exact hx)) Hlu.out h)
    clear h c6 c3 hall
    go_wp2_with fail
    refine KB.out.mono ?_
    clear KB
    rintro e w2 ⟨b2, l2, s2, rfl, hs, hpost⟩
    have HP := Lib.hid (And.intro hs hpost)
    clear hs hpost
    go_wp2_with fail
    go_ret
    exact ⟨b2, l2, s2, rfl, HP.out.1, HP.out.2⟩
  · have hp0 : ¬ (p : Int) < 0 := by omega
    rw [HR.out.klen] at hp
    have Hu := Lib.hid hu
    have HI0 : Hid (ExI P A U K Cf d p 0 s s uc) := Lib.hid ⟨Hlu.out, fun q => q, fun _ j hj => by omega⟩
    clear hu c6
    go_wp2_with fail
    clear c3
    go_loopw [20, 4] (fun ki _ wr => ∃ (k : Nat) (l' : Int) (s' : Bool) (vC : Value) (uc : List Value), ki = .int .i64 k ∧ k ≤ A.length ∧ Hid (ExI P A U K Cf d p k s s' uc) ∧ St w0.heap.size w0 wr (rvL g l' s' P (.slice a A.length c) vU vC vK U K uc (Cf ++ [d]) L)) (fun ki _ _ => A.length - (intOf ki).toNat)
    case atStart => exact ⟨0, l, s, vC, uc, rfl, by omega, HI0, h⟩
    case round =>
      clear h HI0 Hlu
      obtain ⟨k, l', s', vC, uc, rfl, hk, hI, h⟩ := hrel
      by_cases hkA : k < A.length
      · have hki : (k : Int) < (A.length : Int) := by omega
        have KF := Lib.hid (fits_c k p g l' s' P a c vU vC vK U K us uc A (Cf ++ [d]) L w0 wr Hv.out h HD.out.blk hkA HR.out.ulen HR.out.klen)
        go_wp2_with fail
        refine KF.out.mono ?_
        clear KF
        rintro e w3 ⟨rfl, h3⟩
        have hS := h.call h3
        rw [List.append_nil] at hS
        clear h h3
        cases hfit : fitB A U K p k
        · have HI2 : Hid (ExI P A U K Cf d p (k + 1) s s' uc) := Lib.hid ⟨hI.out.len, hI.out.sp, fun q j hj hf => by
            by_cases e : j = k
            · subst e
              rw [(fitB_iff HD.out.blk hkA).2 hf] at hfit; cases hfit
            · exact hI.out.no q j (by omega) hf⟩
          clear hfit
          go_wp2_with fail
          go_roundw
          case rel => exact ⟨k + 1, l', s', vC, uc, by go_num, by omega, HI2, hS⟩
          case measure => simp [intOf]; omega
        · have HF := Lib.hid ((fitB_iff HD.out.blk hkA).1 hfit)
          clear hfit
          have c1 := hS.bcell 0 rfl 1 rfl
          cases s'
          · have KN := Lib.hid (node_c g l' false (P : Int) (.slice a A.length c) vU vC vK U K uc (Cf ++ [d]) L w0 w3 hS)
            go_wp2_with fail
            refine KN.out.mono ?_
            clear KN c1 hS
            rintro e w4 ⟨b2, l2, s2, rfl, hf, ht, hS⟩
            cases b2
            · obtain rfl := hf rfl
              have H2 := Lib.hid hS
              clear hf ht hS
              go_wp2_with fail
              go_ret
              exact ⟨false, l2, true, rfl, fun _ => rfl, .inr ⟨rfl, (fun q => by cases q), vC, uc, hI.out.len, H2.out⟩⟩
            obtain rfl := ht rfl
            clear hf ht
            have hUl := HR.out.ulen
            have KT := Lib.hid (take_t k g l2 false P a c vU vC vK U K us uc A Cf d L w0 w4 Hv.out hS hI.out.len HD.out.blk hkA hUl HR.out.klen (by omega) (by omega) HD.out.bl)
            have HRI := Lib.hid (HR.out.take HD.out.blk hkA HF.out)
            have hun := unU_set (U := U) (k := k) (by rw [hUl]; exact hkA) HF.out.1
            clear hS
            go_wp2_with fail
            refine KT.out.mono ?_
            clear KT
            rintro e w5 ⟨uc5, rfl, hl5, h5⟩
            have KE := Lib.hid (HE.out (U.set k true) (mkK K (xat A k) true) Cf (d ++ [(k : Int)]) l2 false vU vC vK uc5 L w5 (by omega) HRI.out hl5 h5)
            clear h5 hl5
            go_wp2_with fail
            refine KE.out.mono ?_
            clear KE
            rintro e w6 ⟨b6, l6, s6, rfl, _, ⟨rfl, hwon⟩ | ⟨rfl, hlost, vC6, uc6, hl6, h6⟩⟩
            · have HW := Lib.hid hwon
              have Hsp := Lib.hid hI.out.sp
              clear hwon
              go_wp2_with fail
              go_ret
              exact ⟨true, l6, s6, rfl, (fun q => by have := Hsp.out q; cases this), .inl ⟨rfl, HW.out⟩⟩
            · have Hlost := Lib.hid hlost
              have KT := Lib.hid (take_f k g l6 s6 P a c vU vC6 vK (U.set k true) (mkK K (xat A k) true) us uc6 A Cf d (k : Int) L w0 w6 Hv.out h6 hl6 HD.out.blk hkA (by rw [List.length_set]; exact hUl) (by rw [mkK_len]; exact HR.out.klen) (by omega) (by omega) HD.out.bl)
              rw [set_back HF.out.1, mkK_back HR.out.klen (HD.out.blk.pt k hkA) HF.out.2.2] at KT
              clear h6 hl6 hlost
              go_wp2_with fail
              refine KT.out.mono ?_
              clear KT
              rintro e w7 ⟨uc7, rfl, hl7, h7⟩
              have HI2 : Hid (ExI P A U K Cf d p (k + 1) s s6 uc7) := Lib.hid ⟨hl7, (fun q => by have := hI.out.sp q; cases this), fun q j hj hf => by
                by_cases e : j = k
                · subst e; exact Hlost.out q
                · exact hI.out.no rfl j (by omega) hf⟩
              clear hl7
              go_wp2_with fail
              go_roundw
              case rel => exact ⟨k + 1, l6, s6, vC6, uc7, by go_num, by omega, HI2, h7⟩
              case measure => simp [intOf]; omega
          · have H1 := Lib.hid hS
            clear hS
            go_wp2_with fail
            go_ret
            exact ⟨false, l', true, rfl, fun _ => rfl, .inr ⟨rfl, (fun q => by cases q), vC, uc, hI.out.len, H1.out⟩⟩
      · obtain rfl : k = A.length := by omega
        have HN := Lib.hid (fun (q : s' = false) (hc : Cmp P A (Cf ++ [d])) => (show False from by
          obtain ⟨j, hj, hf, hcj⟩ := HR.out.next HD.out.blk hp Hu.out hc
          exact hI.out.no q j hj hf hcj))
        have H1 := Lib.hid h
        have HI := Lib.hid (And.intro hI.out.sp hI.out.len)
        clear h hI
        go_wp2_with fail
        go_ret
        exact ⟨false, l', s', rfl, HI.out.1, .inr ⟨rfl, HN.out, vC, uc, HI.out.2, H1.out⟩⟩
/-- the search, begun or gone on with -/
theorem srch (g P : Nat) (a : Option Addr) (c : Nat) (us : List Value) (A : List (List Int)) (w0 : World) (hv : RII w0 (.slice a A.length c) us A) (hD : Dsg P A) : ∀ (N : Nat),
    (∀ (U : List Bool), unU U ≤ N → ∀ (l : Int) (s : Bool) (vU vC vK : Value) (K : List Bool) (uc : List Value) (C : List (List Int)) (L : List Ent) (w : World), RsB P A U C → uc.length = C.length → St w0.heap.size w0 w (rvL g l s P (.slice a A.length c) vU vC vK U K uc C L) →
      Calls Tryz.prog 14 #[.pointer (some ⟨g, 0, none⟩)] w (SrE w0 P A g s (.slice a A.length c) vU vK U K C L)) ∧
    (∀ (U K : List Bool) (Cf : List (List Int)) (d : List Int) (l : Int) (s : Bool) (vU vC vK : Value) (uc : List Value) (L : List Ent) (w : World), unU U ≤ N → RsI P A U K Cf d → uc.length = (Cf ++ [d]).length → St w0.heap.size w0 w (rvL g l s P (.slice a A.length c) vU vC vK U K uc (Cf ++ [d]) L) →
      Calls Tryz.prog 41 #[.pointer (some ⟨g, 0, none⟩)] w (SrE w0 P A g s (.slice a A.length c) vU vK U K (Cf ++ [d]) L))
  | 0 => by
    have hb : ∀ (U : List Bool), unU U ≤ 0 → ∀ (l : Int) (s : Bool) (vU vC vK : Value) (K : List Bool) (uc : List Value) (C : List (List Int)) (L : List Ent) (w : World), RsB P A U C → uc.length = C.length → St w0.heap.size w0 w (rvL g l s P (.slice a A.length c) vU vC vK U K uc C L) →
      Calls Tryz.prog 14 #[.pointer (some ⟨g, 0, none⟩)] w (SrE w0 P A g s (.slice a A.length c) vU vK U K C L) := fun U hU => begin_step g P a c us A w0 hv hD U (fun U' K' Cf d l s vU vC vK uc L w hlt => by omega)
    exact ⟨hb, fun U K Cf d l s vU vC vK uc L w hU hR hl h => extend_step g P a c us A w0 hv hD U (hb U hU) (fun U' K' Cf d l s vU vC vK uc L w hlt => by omega) l s vU vC vK K uc Cf d L w hR hl h⟩
  | N + 1 => by
    obtain ⟨_, ihE⟩ := srch g P a c us A w0 hv hD N
    have hb : ∀ (U : List Bool), unU U ≤ N + 1 → ∀ (l : Int) (s : Bool) (vU vC vK : Value) (K : List Bool) (uc : List Value) (C : List (List Int)) (L : List Ent) (w : World), RsB P A U C → uc.length = C.length → St w0.heap.size w0 w (rvL g l s P (.slice a A.length c) vU vC vK U K uc C L) →
      Calls Tryz.prog 14 #[.pointer (some ⟨g, 0, none⟩)] w (SrE w0 P A g s (.slice a A.length c) vU vK U K C L) := fun U hU => begin_step g P a c us A w0 hv hD U (fun U' K' Cf d l s vU vC vK uc L w hlt => ihE U' K' Cf d l s vU vC vK uc L w (by omega))
    exact ⟨hb, fun U K Cf d l s vU vC vK uc L w hU hR hl h => extend_step g P a c us A w0 hv hD U (hb U hU) (fun U' K' Cf d l s vU vC vK uc L w hlt => ihE U' K' Cf d l s vU vC vK uc L w (by omega)) l s vU vC vK K uc Cf d L w hR hl h⟩
end Go.Proofs.YtljemlfocajhnaaGreat
end

section
/- Plain: what the search has found is a resolution. -/
namespace Go.Proofs.YtljemlfocajhnaaGreat
set_option linter.unusedSimpArgs false
set_option linter.unusedVariables false
open Go

def srtX (C : List (List Int)) : List (List Int) := C.map srt
theorem srtX_len (C : List (List Int)) : (srtX C).length = C.length := by simp [srtX]
theorem srtX_at {C : List (List Int)} {r : Nat} (h : r < C.length) : xat (srtX C) r = srt (xat C r) := by
  rw [xat_eq (by rw [srtX_len]; exact h), xat_eq h]; simp [srtX]
theorem nodup_incW {m : Int} : ∀ {xs : List Int} {last : Int}, incB last m xs = true → xs.Nodup
  | [], _, _ => List.nodup_nil
  | x :: xs, last, h => by
    unfold incB at h
    split at h
    · cases h
    · refine List.nodup_cons.2 ⟨fun hx => ?_, nodup_incW h⟩
      have := incB_gt h x hx; omega
theorem Dsg.of {P : Nat} {A : List (List Int)} (h : dOk (P : Int) A = true) : Dsg P A := by
  have hd := dOk_t h
  have h1 := hd.pos
  have h2 := hd.le
  have hpt : ∀ i, i < A.length → ∀ z ∈ xat A i, ∃ x : Nat, z = x ∧ x < P := fun i hi z hz => by
    have := incB_gt (hd.inc _ (xat_mem hi)) z hz
    exact ⟨z.toNat, by omega, by omega⟩
  refine ⟨⟨hpt, fun i hi => hd.ne _ (xat_mem hi)⟩, by omega, by omega, hd.len, fun i hi => ?_⟩
  have := flat_le (A := List.replicate P []) (nodup_incW (hd.inc _ (xat_mem hi))) (fun z hz => by rw [List.length_replicate]; exact hpt i hi z hz)
  rw [List.length_replicate] at this
  omega
theorem flat_perm {α : Type} : ∀ {X Y : List (List α)}, X.length = Y.length → (∀ (j : Nat) (h1 : j < X.length) (h2 : j < Y.length), (X[j]).Perm (Y[j])) → X.flatten.Perm Y.flatten
  | [], [], _, _ => List.Perm.refl _
  | x :: X, y :: Y, hl, h => by
    rw [List.flatten_cons, List.flatten_cons]
    exact (h 0 (by simp) (by simp)).append (flat_perm (by simpa using hl) fun j h1 h2 => h (j + 1) (by simpa using h1) (by simpa using h2))
  | [], _ :: _, hl, _ => by simp at hl
  | _ :: _, [], hl, _ => by simp at hl
theorem RsB.res {P : Nat} {A C : List (List Int)} {U : List Bool} (h : RsB P A U C) (hall : ∀ i, i < A.length → bat U i = true) (hok : dOk (P : Int) A = true) : ResH P A (clsT A (srtX C)) (srtX C) := by
  have hd := dOk_t hok
  have hD := Dsg.of hok
  have hx : ∀ r, r < C.length → x3at (clsT A (srtX C)) r = (srt (xat C r)).map fun k => xat A k.toNat := fun r hr => by
    rw [x3at_eq (by simpa [clsT, srtX] using hr)]
    simp only [clsT, List.getElem_map]
    rw [← xat_eq (by rw [srtX_len]; exact hr), srtX_at hr]
  have hlen : (clsT A (srtX C)).length = C.length := by simp [clsT, srtX]
  have hmem : ∀ r, r < C.length → ∀ z ∈ srt (xat C r), ∃ i : Nat, z = i ∧ i < A.length ∧ (i : Int) ∈ xat C r := fun r hr z hz => by
    have hz2 := (srt_perm _).mem_iff.1 hz
    obtain ⟨i, rfl, hi⟩ := h.idx _ (xat_mem hr) z hz2
    exact ⟨i, rfl, hi, hz2⟩
  have hcnd : ∀ r, r < C.length → (srt (xat C r)).Nodup := fun r hr => by
    rw [(srt_perm _).nodup_iff]
    have := h.nd
    rw [List.nodup_iff_pairwise_ne, List.pairwise_flatten] at this
    rw [List.nodup_iff_pairwise_ne]
    exact this.1 _ (xat_mem hr)
  refine ⟨by have := hD.p32; exact this, hok, by rw [srtX_len, hlen], fun r hr => ?_, fun r hr j hj => ?_, fun r hr j hj => ?_, fun r hr => ?_, fun r hr x hxm => ?_, fun r hr x hxn => ?_, ?_⟩
  · rw [hlen] at hr; rw [hx r hr, srtX_at hr, List.length_map]
  · rw [hlen] at hr
    rw [hx r hr, List.length_map] at hj
    rw [srtX_at hr]
    obtain ⟨i, hi, hiA, _⟩ := hmem r hr _ (nth_mem hj)
    refine ⟨i, hi, hiA, ?_⟩
    rw [hx r hr, xat_eq (xss := (srt (xat C r)).map fun k => xat A k.toNat) (by rw [List.length_map]; exact hj), List.getElem_map, ← nth_eq hj, hi, Int.toNat_natCast]
  · rw [hlen] at hr
    rw [hx r hr, List.length_map] at hj
    rw [srtX_at hr]
    have hp := List.pairwise_iff_getElem.1 (srt_up (xat C r)) j (j + 1) (by omega) hj (by omega)
    have hn := hcnd r hr
    rw [List.nodup_iff_pairwise_ne] at hn
    have hne := List.pairwise_iff_getElem.1 hn j (j + 1) (by omega) hj (by omega)
    rw [nth_eq (by omega), nth_eq hj]
    omega
  · rw [hlen] at hr
    rw [hx r hr, List.nodup_iff_pairwise_ne, List.pairwise_flatten]
    refine ⟨fun b hb => ?_, ?_⟩
    · obtain ⟨z, hz, rfl⟩ := List.mem_map.1 hb
      obtain ⟨i, rfl, hi, _⟩ := hmem r hr z hz
      rw [Int.toNat_natCast, ← List.nodup_iff_pairwise_ne]
      exact nodup_incW (hd.inc _ (xat_mem hi))
    · rw [List.pairwise_map]
      have hn := hcnd r hr
      rw [List.nodup_iff_pairwise_ne] at hn
      refine (List.Pairwise.and_mem.1 hn).imp ?_
      rintro u v ⟨hu, hv, hne⟩ x hxu y hyv e
      obtain ⟨i, rfl, hi, hic⟩ := hmem r hr u hu
      obtain ⟨j, rfl, hj, hjc⟩ := hmem r hr v hv
      rw [Int.toNat_natCast] at hxu hyv
      obtain ⟨p, rfl, hp⟩ := hD.blk.pt i hi x hxu
      obtain ⟨k, _, _, hku⟩ := h.full _ (xat_mem hr) p hp
      have e1 := hku i hic hxu
      have e2 := hku j hjc (by rw [e]; exact hyv)
      exact hne (by rw [e1, e2])
  · rw [hlen] at hr
    rw [hx r hr] at hxm
    obtain ⟨b, hb, hxb⟩ := List.mem_flatten.1 hxm
    obtain ⟨z, hz, rfl⟩ := List.mem_map.1 hb
    obtain ⟨i, rfl, hi, _⟩ := hmem r hr z hz
    rw [Int.toNat_natCast] at hxb
    obtain ⟨p, rfl, hp⟩ := hD.blk.pt i hi x hxb
    omega
  · rw [hlen] at hr
    rw [hx r hr]
    obtain ⟨i, hi, hxi, _⟩ := h.full _ (xat_mem hr) x hxn
    refine List.mem_flatten.2 ⟨xat A i, List.mem_map.2 ⟨(i : Int), (srt_perm _).mem_iff.2 hi, by rw [Int.toNat_natCast]⟩, hxi⟩
  · have hP : (srtX C).flatten.Perm (idn A.length) := by
      refine (flat_perm (Y := C) (srtX_len C) fun j h1 h2 => ?_).trans ?_
      · simp only [srtX, List.getElem_map]; exact srt_perm _
      · have hidn : (idn A.length).Nodup := by
          unfold idn
          rw [List.nodup_iff_pairwise_ne, List.pairwise_map]
          exact (List.pairwise_lt_range (n := _)).imp fun h => by omega
        refine (List.perm_ext_iff_of_nodup h.nd hidn).2 fun z => ?_
        unfold idn
        rw [List.mem_map]
        constructor
        · intro hz
          obtain ⟨d, hdm, hzd⟩ := List.mem_flatten.1 hz
          obtain ⟨i, rfl, hi⟩ := h.idx d hdm z hzd
          exact ⟨i, List.mem_range.2 hi, rfl⟩
        · rintro ⟨i, hi, rfl⟩
          rw [List.mem_range] at hi
          exact (h.used i hi).1 (hall i hi)
    refine sorted_eq ((srt_perm _).trans hP) (srt_up _) ?_
    rw [idn, List.pairwise_map]
    exact (List.pairwise_lt_range (n := _)).imp fun h => by omega
end Go.Proofs.YtljemlfocajhnaaGreat
end
