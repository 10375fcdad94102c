/- The texts of this claim, run 9: Br6. -/
import Derived.Test.YtgflhgkcmfjkgaaK5
import Derived.Test.YtgflhgkcmfjkgaaK7
import Derived.Test.YtgflhgkcmfjkgaaK8

section
/- Walk: rounds that are drawn. -/
namespace Go.Proofs.Ytgflhgkcmfjkgaa
set_option linter.unusedSimpArgs false
set_option linter.unusedVariables false
open Go.RowKit
attribute [local go_sem ↓] Go.wp_at_zero Go.wp_at_succ

theorem cell_kpB {w w' : World} (hb : Below w.heap.size w w') {p : Addr} {u : Value} (h : w.cell? p = some u) : w'.cell? p = some u := by
  rw [hb.cell (World.block_lt_of_cell? _ _ h)]; exact h
theorem perm_mid (A B C : List Ent) : (A ++ B ++ C).Perm (A ++ C ++ B) := by
  rw [List.append_assoc, List.append_assoc]; exact List.Perm.append_left _ List.perm_append_comm
theorem perm_src (A : List Ent) (b : Ent) (C : List Ent) : (A ++ (b :: C)).Perm (b :: (A ++ C)) := List.perm_middle
/-- behind the append of a list of rows of its own, with more behind -/
theorem own3_snocL {B : Nat} {w0 w : World} {v v' : Value} {vs : List Value} {uss : List (List Value)} {X : List (List (List Int))} {u : Value} {us : List Value} {x : List (List Int)} {L2 : List Ent} (h1 : vs.length = X.length) (h2 : uss.length = X.length)
    (h : St B w0 w ((own3 v vs uss X ++ own2 u us x ++ L2).set 0 (row 33 v' (vs ++ [u])))) : St B w0 w (own3 v' (vs ++ [u]) (uss ++ [us]) (X ++ [x]) ++ L2) := by
  rw [own3, rows3_app u us x h1 h2]
  exact h
/-- rounds of any kind, of bounded sizes -/
def RdsB (X : List (List (List Int))) : Prop := X.length ≤ 40 ∧ ∀ q ∈ X, q.length ≤ 41
def MakesDR (w0 : World) (cv : Value) (g K : Nat) (e : Ending) (w' : World) : Prop := ∃ (n : Int) (v : Value) (vs : List Value) (uss : List (List Value)) (X : List (List (List Int))), e = .returned (.tuple #[.int .i64 n, v]) ∧ Fit3 vs uss X ∧ RdsB X ∧ -100 ≤ n ∧ n ≤ 100 ∧ Src w0 w' cv g K (own3 v vs uss X)
theorem rows3_take : ∀ (vs : List Value) (uss : List (List Value)) (X : List (List (List Int))) (k : Nat), (rows3 (vs.take k) (uss.take k) (X.take k)).Sublist (rows3 vs uss X)
  | [], _, _, k => by simp [rows3]
  | _ :: _, [], _, k => by simp [rows3]
  | _ :: _, _ :: _, [], k => by simp [rows3]
  | v :: vs, u :: uss, x :: X, 0 => by simp [rows3]
  | v :: vs, u :: uss, x :: X, k + 1 => by
    simp only [List.take_succ_cons, rows3]
    exact (rows3_take vs uss X k).append_left _
theorem Fit3.take {vs : List Value} {uss : List (List Value)} {X : List (List (List Int))} (h : Fit3 vs uss X) (k : Nat) : Fit3 (vs.take k) (uss.take k) (X.take k) := by
  refine ⟨by rw [List.length_take, List.length_take, h.1], by rw [List.length_take, List.length_take, h.2.1], fun j hj => ?_⟩
  rw [List.length_take] at hj
  have e1 : vsat (uss.take k) j = vsat uss j := by rw [vsat_eq (by rw [List.length_take, h.2.1]; omega), vsat_eq (by rw [h.2.1]; omega), List.getElem_take]
  have e2 : x3at (X.take k) j = x3at X j := by rw [x3at_eq (by rw [List.length_take]; omega), x3at_eq (by omega), List.getElem_take]
  rw [e1, e2]; exact h.2.2 j (by omega)
theorem fit3_0 {a a' : Value} {vs ub ub' : List Value} {uss : List (List Value)} {x x' : List (List Int)} {X : List (List (List Int))} (h : Fit3 (a :: vs) (ub :: uss) (x :: X)) (hl : ub'.length = x'.length) : Fit3 (a' :: vs) (ub' :: uss) (x' :: X) := by
  refine ⟨by simpa using h.1, by simpa using h.2.1, fun k hk => ?_⟩
  cases k with
  | zero => exact hl
  | succ k => exact h.2.2 (k + 1) (by simpa using hk)
theorem rdsB_0 {x x' : List (List Int)} {X : List (List (List Int))} (h : RdsB (x :: X)) (hl : x'.length ≤ 41) : RdsB (x' :: X) :=
  ⟨by simpa using h.1, fun q hq => (List.mem_cons.1 hq).elim (fun e => e ▸ hl) fun hq => h.2 q (List.mem_cons_of_mem _ hq)⟩
set_option maxHeartbeats 16000000 in
set_option maxRecDepth 100000 in
theorem l14DrawRounds_c (w0 w : World) (cv : Value) (bs : List UInt8) (g K : Nat) (hb : RdB w0 cv bs) (h : Src w0 w cv g K []) (hK : K < 1000000) :
    Calls Try.prog 51 #[.pointer (some ⟨g, 0, none⟩)] w (MakesDR w0 cv g (K + 400)) := by
  have HN : ∀ (n : Nat) (W : World), (2 ≤ n ∧ n ≤ 32) → Src w0 W cv g (K + 10) [] → True := fun _ _ _ _ => trivial
  go_enter Try.func51, Try.ntmps51
  go_wp2_with fail
  refine (pick_c w0 _ cv bs g _ _ 9 hb h (by omega)).mono ?_
  rintro e w1 ⟨x, x0, x1, rfl, h1⟩
  obtain ⟨n, hn⟩ : ∃ n : Nat, x + 2 = n := ⟨(x + 2).toNat, by omega⟩
  have hn2 : 2 ≤ n ∧ n ≤ 32 := by omega
  clear h x0 x1 HN
  go_wp2_with fail
  try rw [hn]
  clear hn
  refine (one_c w0 _ cv bs g _ _ 9 hb h1 (by omega)).mono ?_
  rintro e w2 ⟨b, rfl, h2⟩
  clear h1
  cases b
  case false =>
    have hA := h2
    clear h2
    go_wp2_with fail
    refine (l14Rounds_c n _ hn2.1 hn2.2).mono ?_
    rintro e w4 ⟨vr, vsr, ussr, Xr, rfl, hfr, hXr, hXl, h4⟩
    have hB := hA.call h4
    have rv0 := St.riii (L2 := []) (by rw [List.append_nil]; exact h4) hfr
    have hlnR := rv0.len
    have hixR := rv0.ixe
    obtain ⟨m, hm⟩ : ∃ m, Xr.length = m := ⟨_, rfl⟩
    have hm32 : 1 ≤ m ∧ m ≤ 32 := by omega
    rw [hm] at hlnR hixR
    have Hm := Lib.hid hm
    have HfX := Lib.hid (And.intro hfr hXr)
    clear hA h4 rv0 hfr hXr hXl hm
    go_wp2_with fail
    refine (l04DrawPerm_c w0 _ cv bs g _ _ n hb hB (by omega) (by omega)).mono ?_
    rintro e w5 ⟨vp, xp, rfl, hpl, hpI, h5⟩
    have hmin : min (m : Int) 32 = (m : Int) := by omega
    have KMn := fun W => Lib.hid (l00Min_c (m : Int) 32 W)
    rw [hmin] at KMn
    have HP := Lib.hid (And.intro hpl hpI)
    clear hB hmin hpl hpI
    go_wp2_with (go_at_call 84; refine (KMn _).out.mono ?_; rintro e2 w9 ⟨rfl, hw9⟩; subst hw9)
    refine (l04DrawPerm_c w0 _ cv bs g _ _ m hb h5 (by omega) (by omega)).mono ?_
    rintro e w7 ⟨vo, xo, rfl, hol, hoI, h7⟩
    obtain ⟨L1, hL1⟩ : ∃ L1 : List Ent, L1 = row 2 vo (iv xo) :: row 2 vp (iv xp) :: ([] ++ own3 vr vsr ussr Xr) := ⟨_, rfl⟩
    rw [← hL1] at h7
    have g0 : Hid (L1[0]? = some (row 2 vo (iv xo))) := Lib.hid (by rw [hL1]; rfl)
    have g1 : Hid (L1[1]? = some (row 2 vp (iv xp))) := Lib.hid (by rw [hL1]; rfl)
    have gs : Hid ((own3 vr vsr ussr Xr).Sublist L1) := Lib.hid (by rw [hL1]; exact .cons _ (.cons _ (.refl _)))
    have hlo := (h7.rdI 0 g0.out).len
    have hxo := (h7.rdI 0 g0.out).ixe
    have hxp := (h7.rdI 1 g1.out).ixe
    rw [hol] at hlo hxo
    rw [HP.out.1] at hxp
    have HO := Lib.hid (And.intro hol hoI)
    have h8 := (h7.call ((St.refl w7).new 33 #[] (by simp))).perm (L' := own3 (.slice (some ⟨w7.heap.size, 0, none⟩) 0 0) [] [] [] ++ L1) List.perm_append_comm
    have RR := fun W M q (hW : Src w0 W cv g q (M ++ L1)) => Lib.hid (St.riii (L2 := []) (by rw [List.append_nil]; exact hW.st.sub (gs.out.trans (List.sublist_append_right M L1))) HfX.out.1)
    clear h5 h7 hL1 KMn hol hoI
    go_wp2_with fail
    go_loopw [9, 8, 10, 11, 12] (fun r o _ _ _ wr => ∃ (k : Nat) (vs : List Value) (uss : List (List Value)) (X : List (List (List Int))), k ≤ m ∧ r = .int .i64 k ∧ Hid (Fit3 vs uss X ∧ RdsOk n X ∧ X.length = k) ∧ Src w0 wr cv g (K + 200) (own3 o vs uss X ++ L1)) (fun r _ _ _ _ _ => m - (intOf r).toNat)
    case atStart => exact ⟨0, [], [], [], by omega, rfl, ⟨⟨rfl, rfl, fun k h => by simp at h⟩, fun q hq => (by cases hq), rfl⟩, h8.mono (by omega)⟩
    case round =>
      clear h8
      obtain ⟨k, vs, uss, X, hk, rfl, hI, hS⟩ := hrel
      by_cases hlt : k < m
      · have hbo := HO.out.2.lt k (by rw [HO.out.1]; exact hlt)
        rw [HO.out.1] at hbo
        obtain ⟨y, hy⟩ := Int.eq_ofNat_of_zero_le hbo.1
        have hym : y < m := by omega
        have xk := hxo (k : Int) k rfl hlt
        have xy := hixR (y : Int) y rfl hym
        have Hy := Lib.hid hy
        have hq := HfX.out.2 _ (x3at_mem (show y < Xr.length by rw [Hm.out]; exact hym))
        have h9 := (hS.call ((St.refl wr).new 30 #[] (by simp))).perm (L' := own2 (.slice (some ⟨wr.heap.size, 0, none⟩) 0 0) [] [] ++ (own3 u8 vs uss X ++ L1)) List.perm_append_comm
        clear hS hbo hy
        go_wp2_with fail
        go_loopw [11, 10, 12] (fun ii q _ wx => ∃ (i : Nat) (us : List Value) (A : List (List Int)), i ≤ (x3at Xr y).length ∧ ii = .int .i64 i ∧ Hid (us.length = A.length ∧ PrsOk n A ∧ A.length = i) ∧ Src w0 wx cv g (K + 200) (own2 q us A ++ (own3 u8 vs uss X ++ L1))) (fun ii _ _ _ => (x3at Xr y).length - (intOf ii).toNat)
        case atStart => exact ⟨0, [], [], by omega, rfl, ⟨rfl, fun p hp => (by cases hp), rfl⟩, h9⟩
        case round =>
          clear h9
          obtain ⟨i, us, A, hi, rfl, hJ, hS⟩ := hrel
          have hS' : Src w0 wr cv g (K + 200) ((own2 u10 us A ++ own3 u8 vs uss X) ++ L1) := by rw [List.append_assoc]; exact hS
          have RV := (RR wr _ _ hS').out
          have co := (hS'.rdI _ (at_app g0.out)).cell k (by rw [HO.out.1]; exact hlt)
          rw [Hy.out] at co
          have cr := RV.cell y (by rw [Hm.out]; exact hym)
          have rr := RV.row y (by rw [Hm.out]; exact hym)
          have hlr := rr.len
          have hler := rr.le
          by_cases hit : i < (x3at Xr y).length
          · have ci := rr.cell i hit
            have xi := rr.ixe (i : Int) i rfl hit
            have rp := rr.row i hit
            have hpp := hq.1 _ (xat_mem hit)
            have b0 := hpp.2 _ (nth_mem (show 0 < (xat (x3at Xr y) i).length by rw [hpp.1]; omega))
            have b1 := hpp.2 _ (nth_mem (show 1 < (xat (x3at Xr y) i).length by rw [hpp.1]; omega))
            have d0 := rp.cell 0 (by rw [hpp.1]; omega)
            have d1 := rp.cell 1 (by rw [hpp.1]; omega)
            have x0 := rp.ixe (0 : Int) 0 rfl (by rw [hpp.1]; omega)
            have x1 := rp.ixe (1 : Int) 1 rfl (by rw [hpp.1]; omega)
            obtain ⟨y0, hy0⟩ := Int.eq_ofNat_of_zero_le b0.1
            obtain ⟨y1, hy1⟩ := Int.eq_ofNat_of_zero_le b1.1
            have rP := hS'.rdI _ (at_app g1.out)
            have e0 := rP.cell y0 (by rw [HP.out.1]; omega)
            have e1 := rP.cell y1 (by rw [HP.out.1]; omega)
            have z0 := hxp (y0 : Int) y0 rfl (by omega)
            have z1 := hxp (y1 : Int) y1 rfl (by omega)
            have v0 := HP.out.2.lt y0 (by rw [HP.out.1]; omega)
            have v1 := HP.out.2.lt y1 (by rw [HP.out.1]; omega)
            rw [HP.out.1] at v0 v1
            rw [hy0] at d0
            rw [hy1] at d1
            have HPr := Lib.hid (hJ.out.2.1.snoc v0 v1)
            have hlN := Lib.hid (show us.length < 4294967296 by rw [hJ.out.1, hJ.out.2.2]; have := hq.2; omega)
            generalize nth xp y0 = p0 at *
            generalize nth xp y1 = p1 at *
            clear hpp b0 b1 hy0 hy1 rP v0 v1
            go_wp2_with fail
            obtain ⟨pp, ss, s0, s1, hT⟩ := hS
            have HPS := Lib.hid (And.intro s0 s1)
            have hT := hT.drew
            clear s0 s1
            refine regionG (fun w' => w'.cell? (el (vat (vsat ussr y) i) 0) = some (.int .i64 y0) ∧ w'.cell? (el (vat (vsat ussr y) i) 1) = some (.int .i64 y1) ∧ w'.cell? (el vp y0) = some (.int .i64 p0) ∧ w'.cell? (el vp y1) = some (.int .i64 p1)) 15 (by kernel_rfl) ⟨cell_dr d0, cell_dr d1, cell_dr e0, cell_dr e1⟩ (fun hHeld => ?_)
            refine takeP (i := 0) (v := ?_) rfl (by kernel_rfl) (fun _ _ _ h => h) (by rfl) ?_ (by assumption) ?_
            case refine_2 => (intro w'; go_simp; first | done | with_reducible rfl)
            try simp only [Act.put, List.setIfInBounds_toArray, List.set_cons_zero, List.set_cons_succ]
            refine takeP (i := 1) (v := ?_) rfl (by kernel_rfl) (fun _ _ _ h => h) (by rfl) ?_ (by assumption) ?_
            case refine_2 => (intro w'; go_simp; first | done | with_reducible rfl)
            try simp only [Act.put, List.setIfInBounds_toArray, List.set_cons_zero, List.set_cons_succ]
            refine takeP (i := 2) (v := ?_) rfl (by kernel_rfl) (fun _ _ _ h => h) (by rfl) ?_ (by assumption) ?_
            case refine_2 => (intro w'; go_simp; first | done | with_reducible rfl)
            try simp only [Act.put, List.setIfInBounds_toArray, List.set_cons_zero, List.set_cons_succ]
            refine takeP (i := 3) (v := ?_) rfl (by kernel_rfl) (fun _ _ _ h => h) (by rfl) ?_ (by assumption) ?_
            case refine_2 => (intro w'; go_simp; first | done | with_reducible rfl)
            try simp only [Act.put, List.setIfInBounds_toArray, List.set_cons_zero, List.set_cons_succ]
            refine takeH (i := 4) [5, 6, 13, 14] (v := ?_) rfl (by kernel_rfl) (fun _ _ _ h => h) (by rfl) ?_ (by assumption) ?_
            case refine_2 => (intro w' hSw; (try dsimp only at hSw); go_simp; first | done | with_reducible rfl)
            try simp only [Act.put, List.setIfInBounds_toArray, List.set_cons_zero, List.set_cons_succ]
            refine takeP (i := 5) (v := ?_) rfl (by kernel_rfl) (fun _ _ _ h => h) (by rfl) ?_ (by assumption) ?_
            case refine_2 => (intro w'; go_simp; first | done | with_reducible rfl)
            try simp only [Act.put, List.setIfInBounds_toArray, List.set_cons_zero, List.set_cons_succ]
            refine takeH (i := 6) [13, 14] (v := ?_) rfl (by kernel_rfl) (fun _ _ _ h => h) (by rfl) ?_ (by assumption) ?_
            case refine_2 => (intro w' hSw; (try dsimp only at hSw); go_simp; first | done | with_reducible rfl)
            try simp only [Act.put, List.setIfInBounds_toArray, List.set_cons_zero, List.set_cons_succ]
            refine takeP (i := 7) (v := ?_) rfl (by kernel_rfl) (fun _ _ _ h => h) (by rfl) ?_ (by assumption) ?_
            case refine_2 => (intro w'; go_simp; first | done | with_reducible rfl)
            try simp only [Act.put, List.setIfInBounds_toArray, List.set_cons_zero, List.set_cons_succ]
            refine takeP (i := 8) (v := ?_) rfl (by kernel_rfl) (fun _ _ _ h => h) (by rfl) ?_ (by assumption) ?_
            case refine_2 => (intro w'; go_simp; first | done | with_reducible rfl)
            try simp only [Act.put, List.setIfInBounds_toArray, List.set_cons_zero, List.set_cons_succ]
            refine takeP (i := 9) (v := ?_) rfl (by kernel_rfl) (fun _ _ _ h => h) (by rfl) ?_ (by assumption) ?_
            case refine_2 => (intro w'; go_simp; first | done | with_reducible rfl)
            try simp only [Act.put, List.setIfInBounds_toArray, List.set_cons_zero, List.set_cons_succ]
            refine takeH (i := 10) [11, 12, 13, 14] (v := ?_) rfl (by kernel_rfl) (fun _ _ _ h => h) (by rfl) ?_ (by assumption) ?_
            case refine_2 => (intro w' hSw; (try dsimp only at hSw); go_simp; first | done | with_reducible rfl)
            try simp only [Act.put, List.setIfInBounds_toArray, List.set_cons_zero, List.set_cons_succ]
            refine takeP (i := 11) (v := ?_) rfl (by kernel_rfl) (fun _ _ _ h => h) (by rfl) ?_ (by assumption) ?_
            case refine_2 => (intro w'; go_simp; first | done | with_reducible rfl)
            try simp only [Act.put, List.setIfInBounds_toArray, List.set_cons_zero, List.set_cons_succ]
            refine takeH (i := 12) [13, 14] (v := ?_) rfl (by kernel_rfl) (fun _ _ _ h => h) (by rfl) ?_ (by assumption) ?_
            case refine_2 => (intro w' hSw; (try dsimp only at hSw); go_simp; first | done | with_reducible rfl)
            try simp only [Act.put, List.setIfInBounds_toArray, List.set_cons_zero, List.set_cons_succ]
            refine readyG (rs := [13]) (by kernel_rfl) (by simp) ?_
            refine AllG.cons rfl (fun K hK => ?_) AllG.nil
            go_simp
            refine (l14Pair_c p0 p1 _).mono ?_
            rintro e w8 ⟨u, rfl, h8⟩
            obtain ⟨ua, uc, hu⟩ := (h8.rdI 0 rfl).sl.sh
            rw [iv_len, prL_len] at hu
            subst hu
            have hS2 := hT.call h8
            have q0 := cell_kpB h8.below (cell_dr d0)
            have q1 := cell_kpB h8.below (cell_dr d1)
            have q2 := cell_kpB h8.below (cell_dr e0)
            have q3 := cell_kpB h8.below (cell_dr e1)
            refine hK.out _ _ ⟨q0, q1, q2, q3⟩ (fun hHeld => ?_)
            clear hK K
            try simp only [Act.put, List.setIfInBounds_toArray, List.set_cons_zero, List.set_cons_succ]
            refine readyG (rs := [14]) (by kernel_rfl) (by simp) ?_
            refine AllG.cons rfl (fun K hK => ?_) AllG.nil
            go_simp
            refine hK.out _ _ ⟨cell_al q0, cell_al q1, cell_al q2, cell_al q3⟩ (fun hHeld => ?_)
            clear hK K q0 q1 q2 q3
            try simp only [Act.put, List.setIfInBounds_toArray, List.set_cons_zero, List.set_cons_succ]
            refine readyG (rs := [15]) (by kernel_rfl) (by simp) ?_
            refine AllG.last rfl (by kernel_rfl) (fun K hK => ?_) AllG.nil
            refine stepII hS2 1 rfl hlN.out rfl (.tmp 63) (.tmp 77) rfl (by first | rfl | simp [Act.eval, Act.put]) _ rfl (by first | rfl | simp [Act.eval, Act.put]) ?_
            intro v5 w9 hS5
            refine hK.out _ _ ?_
            clear hK K
            try simp only [Act.put, List.setIfInBounds_toArray, List.set_cons_zero, List.set_cons_succ]
            refine readyG (rs := [16]) (by kernel_rfl) (by simp) ?_
            refine AllG.last rfl (by kernel_rfl) (fun K hK => ?_) AllG.nil
            go_simp
            refine hK.out _ _ ?_
            clear hK K
            try simp only [Act.put, List.setIfInBounds_toArray, List.set_cons_zero, List.set_cons_succ]
            refine doneG (by kernel_rfl) ?_ _
            refine NoPanic.normal ?_
            go_wp2_with fail
            go_roundw
            case rel =>
              refine ⟨i + 1, us ++ [.slice ua 2 uc], A ++ [prL p0 p1], by omega, by go_num, ⟨by simp [hJ.out.1], HPr.out, by rw [List.length_append, hJ.out.2.2]; rfl⟩, pp, ss, HPS.out.1, HPS.out.2, ?_⟩
              rw [own2, rowsI_app hJ.out.1]
              have h11 : St w0.heap.size w0 w9 (box 101 g [cv, .int .i64 pp, .int .u64 ss] :: row 30 v5 (us ++ [.slice ua 2 uc]) :: (rowsI us A ++ (own3 u8 vs uss X ++ L1) ++ [row 2 (.slice ua 2 uc) (iv (prL p0 p1))])) := hS5
              exact h11.perm (by (try simp only [own2, List.cons_append, List.nil_append, List.append_nil]); classical exact List.perm_iff_count.2 (fun a => by simp only [List.cons_append, List.nil_append, List.append_nil, List.count_append, List.count_cons, List.count_nil] <;> omega))
            case measure => simp [intOf]; omega
          · obtain rfl : i = (x3at Xr y).length := by omega
            have hAl := hJ.out.2.2
            have hAq := hq.2
            have rA := (hS'.st.sub ((List.sublist_append_left _ _).trans (List.sublist_append_left _ _))).rii hJ.out.1
            have KS := Lib.hid (l10Sort_c u10 us A _ rA (by omega) (fun xs hx => by rw [(hJ.out.2.1 xs hx).1]; omega))
            have hvl := Lib.hid (show vs.length < 4294967296 by rw [hI.out.1.1, hI.out.2.2]; omega)
            have Hsl := Lib.hid (show (srtL A).length ≤ 40 by rw [srtL_len]; omega)
            obtain ⟨pp, ss, s0, s1, hT⟩ := hS'
            have HPS := Lib.hid (And.intro s0 s1)
            have hT2 := hT.perm (L' := own3 u8 vs uss X ++ (box 101 g [cv, .int .i64 pp, .int .u64 ss] :: L1) ++ own2 u10 us A) (by (try simp only [own2, List.cons_append, List.nil_append, List.append_nil]); classical exact List.perm_iff_count.2 (fun a => by simp only [List.cons_append, List.nil_append, List.append_nil, List.count_append, List.count_cons, List.count_nil] <;> omega))
            have hT3 := hT2.sub (List.sublist_append_left _ _)
            clear rA hAl hAq RV hT hT2 s0 s1
            go_wp2_with (first
              | (at_builtin; refine appIII hS6 0 rfl hvl.out rfl _ _ rfl rfl _ rfl rfl ?_; intro v7 w7 hS7)
              | (go_at_call 86; refine KS.out.mono ?_; rintro e3 w5 ⟨v5, us5, rfl, hl5, h5⟩; obtain ⟨la, lc, hv5⟩ := (h5.rd 0 (e := 30) (v := v5) (us := us5) rfl).sl.sh; subst hv5; have Hl5 := Lib.hid hl5; clear hl5; have hS6 := (hT3.call h5).perm (L' := own3 u8 vs uss X ++ own2 (.slice la us5.length lc) us5 (srtL A) ++ (box 101 g [cv, .int .i64 pp, .int .u64 ss] :: L1)) (perm_mid _ _ _)))
            have hf8 := hI.out.1.snoc (.slice la us5.length lc) Hl5.out
            have hS8 := own3_snocL hI.out.1.1 hI.out.1.2.1 hS7
            go_roundw
            case rel => exact ⟨k + 1, _, _, _, by omega, by go_num, ⟨hf8, hI.out.2.1.snoc hJ.out.2.1.srt Hsl.out, by rw [List.length_append, hI.out.2.2]; rfl⟩, pp, ss, HPS.out.1, HPS.out.2, hS8.perm (perm_src _ _ _)⟩
            case measure => simp [intOf]; omega
      · obtain rfl : k = m := by omega
        obtain ⟨pp, ss, s0, s1, hT⟩ := hS
        have hS : Src w0 wr cv g (K + 200) (own3 u8 vs uss X) := ⟨pp, ss, s0, s1, hT.sub ((List.sublist_append_left _ _).cons_cons _)⟩
        have hf := hI.out.1
        have hXl := hI.out.2.2
        have hXo := hI.out.2.1
        have hXB : RdsB X := ⟨by omega, fun q hq => by have := (hXo q hq).2; omega⟩
        cases X with
        | nil => simp at hXl; omega
        | cons x X =>
          cases vs with
          | nil => have := hf.1; simp at this
          | cons a vs =>
            cases uss with
            | nil => have := hf.2.1; simp at this
            | cons ub uss =>
              have Hf := Lib.hid hf
              have HXB := Lib.hid hXB
              have hbx : Hid (ub.length = x.length) := Lib.hid (hf.2.2 0 (by simp))
              have HX0 := Lib.hid (hXo x (by simp))
              clear hT s0 s1 hI hf hXl hXo hXB RR
              go_wp2_with fail
              refine (pick_c w0 _ cv bs g _ _ 10 hb hS (by omega)).mono ?_
              rintro e w9 ⟨z, z0, z1, rfl, h9⟩
              clear hS
              have hr9 := St.riii (L2 := []) (by rw [List.append_nil]; exact h9.st) Hf.out
              have hln9 := hr9.len
              have x09 := hr9.ixe (0 : Int) 0 rfl (by simp)
              obtain ⟨Ln, hLn⟩ : ∃ Ln, (x :: X).length = Ln := ⟨_, rfl⟩
              rw [hLn] at hln9
              have HLn := Lib.hid hLn
              have hLb : 1 ≤ Ln ∧ Ln ≤ 40 := by have := HXB.out.1; simp at hLn this; omega
              clear hLn
              by_cases e0 : z = 0
              · subst e0
                have hsl : ∀ W, (Instr.slice 25 u8 none (some (.int .i64 ((Ln : Int) - 1))) none).run Try.prog W = .ok (rsl u8 0 (Ln - 1)) W := fun W => by
                  have := rslIII_hi hr9.1 (Ln - 1) (by rw [hr9.2.1, HLn.out]; omega) W
                  rwa [show ((Ln - 1 : Nat) : Int) = (Ln : Int) - 1 by omega] at this
                have wl : IntKind.i64.wrap ((Ln : Int) - 1) = (Ln : Int) - 1 := IntWalk.i64_in _ (by omega)
                obtain ⟨pp, ss, s0, s1, hT⟩ := h9
                have hT2 := hT.shrink 1 (e := 33) (v := u8) (us := a :: vs) rfl (Ln - 1) (by have h1 := hr9.2.1; rw [HLn.out] at h1; omega)
                have hT3 : St w0.heap.size w0 w9 (box 101 g [cv, .int .i64 pp, .int .u64 ss] :: row 33 (rsl u8 0 (Ln - 1)) ((a :: vs).take (Ln - 1)) :: rows3 (a :: vs) (ub :: uss) (x :: X)) := hT2
                have hT4 := hT3.sub (((rows3_take (a :: vs) (ub :: uss) (x :: X) (Ln - 1)).cons_cons _).cons_cons _)
                have HPS := Lib.hid (And.intro s0 s1)
                clear hT hT2 hT3 hr9 s0 s1
                go_wp2_with fail
                go_ret2
                exact ⟨n, _, _, _, _, rfl, Hf.out.take (Ln - 1), ⟨by rw [List.length_take]; have := HXB.out.1; omega, fun q hq => HXB.out.2 q (List.mem_of_mem_take hq)⟩, by omega, by omega, pp, ss, HPS.out.1, by have := HPS.out.2; omega, hT4⟩
              · have f0 := eq_f e0
                by_cases e1 : z = 1
                · subst e1
                  clear e0 hln9
                  go_wp2_with fail
                  refine (pick_c w0 _ cv bs g _ _ n hb h9 (by omega)).mono ?_
                  rintro e w10 ⟨za, za0, za1, rfl, h10⟩
                  go_wp2_with fail
                  refine (pick_c w0 _ cv bs g _ _ n hb h10 (by omega)).mono ?_
                  rintro e w11 ⟨zb, zb0, zb1, rfl, h11⟩
                  obtain ⟨pp, ss, s0, s1, hT⟩ := h11
                  have hT : St w0.heap.size w0 w11 (box 101 g [cv, .int .i64 pp, .int .u64 ss] :: row 33 u8 (a :: vs) :: row 30 a ub :: (rowsI ub x ++ rows3 vs uss X)) := hT
                  have c0 : w11.cell? (el u8 0) = some a := (hT.rd 1 (e := 33) rfl).cell (i := 0) (by simp)
                  have HPS := Lib.hid (And.intro s0 s1)
                  have hT := hT.drew
                  have hlN := Lib.hid (show ub.length < 4294967296 by rw [hbx.out]; have := HX0.out.2; omega)
                  clear s0 s1 h9 h10 hr9
                  go_wp2_with fail
                  refine regionG (fun w' => w'.cell? (el u8 0) = some a) 8 (by kernel_rfl) (cell_dr c0) (fun hHeld => ?_)
                  refine takeP (i := 0) (v := ?_) rfl (by kernel_rfl) (fun _ _ _ h => h) (by rfl) ?_ (by assumption) ?_
                  case refine_2 => (intro w'; go_simp; first | done | with_reducible rfl)
                  try simp only [Act.put, List.setIfInBounds_toArray, List.set_cons_zero, List.set_cons_succ]
                  refine takeP (i := 1) (v := ?_) rfl (by kernel_rfl) (fun _ _ _ h => h) (by rfl) ?_ (by assumption) ?_
                  case refine_2 => (intro w'; go_simp; first | done | with_reducible rfl)
                  try simp only [Act.put, List.setIfInBounds_toArray, List.set_cons_zero, List.set_cons_succ]
                  refine takeP (i := 2) (v := ?_) rfl (by kernel_rfl) (fun _ _ _ h => h) (by rfl) ?_ (by assumption) ?_
                  case refine_2 => (intro w'; go_simp; first | done | with_reducible rfl)
                  try simp only [Act.put, List.setIfInBounds_toArray, List.set_cons_zero, List.set_cons_succ]
                  refine takeH (i := 3) [] (v := ?_) rfl (by kernel_rfl) (fun _ _ _ h => h) (by rfl) ?_ (by assumption) ?_
                  case refine_2 => (intro w' hSw; (try dsimp only at hSw); go_simp; first | done | with_reducible rfl)
                  try simp only [Act.put, List.setIfInBounds_toArray, List.set_cons_zero, List.set_cons_succ]
                  refine takeP (i := 4) (v := ?_) rfl (by kernel_rfl) (fun _ _ _ h => h) (by rfl) ?_ (by assumption) ?_
                  case refine_2 => (intro w'; go_simp; first | done | with_reducible rfl)
                  try simp only [Act.put, List.setIfInBounds_toArray, List.set_cons_zero, List.set_cons_succ]
                  refine takeP (i := 5) (v := ?_) rfl (by kernel_rfl) (fun _ _ _ h => h) (by rfl) ?_ (by assumption) ?_
                  case refine_2 => (intro w'; go_simp; first | done | with_reducible rfl)
                  try simp only [Act.put, List.setIfInBounds_toArray, List.set_cons_zero, List.set_cons_succ]
                  refine readyG (rs := [6]) (by kernel_rfl) (by simp) ?_
                  refine AllG.cons rfl (fun K hK => ?_) AllG.nil
                  go_simp
                  refine (l14Pair_c za zb _).mono ?_
                  rintro e w12 ⟨u, rfl, h12⟩
                  obtain ⟨ua, uc, hu⟩ := (h12.rdI 0 rfl).sl.sh
                  rw [iv_len, prL_len] at hu
                  subst hu
                  have hS2 := hT.call h12
                  have q0 := cell_kpB h12.below (cell_dr c0)
                  refine hK.out _ _ q0 (fun hHeld => ?_)
                  clear hK K
                  try simp only [Act.put, List.setIfInBounds_toArray, List.set_cons_zero, List.set_cons_succ]
                  refine readyG (rs := [7]) (by kernel_rfl) (by simp) ?_
                  refine AllG.cons rfl (fun K hK => ?_) AllG.nil
                  go_simp
                  refine hK.out _ _ (cell_al q0) (fun hHeld => ?_)
                  clear hK K q0
                  try simp only [Act.put, List.setIfInBounds_toArray, List.set_cons_zero, List.set_cons_succ]
                  refine readyG (rs := [8]) (by kernel_rfl) (by simp) ?_
                  refine AllG.last rfl (by kernel_rfl) (fun K hK => ?_) AllG.nil
                  refine stepII hS2 2 rfl hlN.out rfl (.tmp 104) (.tmp 108) rfl (by first | rfl | simp [Act.eval, Act.put]) _ rfl (by first | rfl | simp [Act.eval, Act.put]) ?_
                  intro v5 w13 hS5
                  have hS5 : St w0.heap.size w0 w13 (box 101 g [cv, .int .i64 pp, .int .u64 ss] :: row 33 u8 (a :: vs) :: row 30 v5 (ub ++ [.slice ua 2 uc]) :: (rowsI ub x ++ rows3 vs uss X ++ [row 2 (.slice ua 2 uc) (iv (prL za zb))])) := hS5
                  obtain ⟨fa, fc, hv5⟩ := (hS5.rd 2 (e := 30) rfl).sl.sh
                  rw [List.length_append, List.length_singleton] at hv5
                  subst hv5
                  refine hK.out _ _ ?_
                  clear hK K
                  try simp only [Act.put, List.setIfInBounds_toArray, List.set_cons_zero, List.set_cons_succ]
                  have u1 := hS5.unfrozen 1 (e := 33) rfl (j := 0) (by simp)
                  have co1 : w13.cell? (el u8 0) = some a := (hS5.rd 1 (e := 33) rfl).cell (i := 0) (by simp)
                  refine readyG (rs := [9]) (by kernel_rfl) (by simp) ?_
                  refine AllG.last rfl (by kernel_rfl) (fun K hK => ?_) AllG.nil
                  go_simp
                  refine hK.out _ _ ?_
                  clear hK K
                  try simp only [Act.put, List.setIfInBounds_toArray, List.set_cons_zero, List.set_cons_succ]
                  refine readyG (rs := [10]) (by kernel_rfl) (by simp) ?_
                  refine AllG.last rfl (by kernel_rfl) (fun K hK => ?_) AllG.nil
                  go_simp
                  refine hK.out _ _ ?_
                  clear hK K
                  try simp only [Act.put, List.setIfInBounds_toArray, List.set_cons_zero, List.set_cons_succ]
                  refine doneG (by kernel_rfl) ?_ _
                  refine NoPanic.normal ?_
                  have hS9 := hS5.store 1 (e := 33) rfl (j := 0) (by simp) (.slice fa (ub.length + 1) fc)
                  have hS10 : St w0.heap.size w0 _ (box 101 g [cv, .int .i64 pp, .int .u64 ss] :: row 33 u8 (.slice fa (ub.length + 1) fc :: vs) :: row 30 (.slice fa (ub.length + 1) fc) (ub ++ [.slice ua 2 uc]) :: (rowsI ub x ++ rows3 vs uss X ++ [row 2 (.slice ua 2 uc) (iv (prL za zb))])) := hS9
                  have hS11 := hS10.perm (L' := box 101 g [cv, .int .i64 pp, .int .u64 ss] :: own3 u8 (.slice fa (ub.length + 1) fc :: vs) ((ub ++ [.slice ua 2 uc]) :: uss) ((x ++ [prL za zb]) :: X)) (by
                    rw [own3, rows3, own2, rowsI_app hbx.out]
                    exact ((perm_mid (rowsI ub x) (rows3 vs uss X) [row 2 (.slice ua 2 uc) (iv (prL za zb))]).cons _ |>.cons _ |>.cons _))
                  have Hf2 := Lib.hid (fit3_0 (a' := .slice fa (ub.length + 1) fc) (ub' := ub ++ [Value.slice ua 2 uc]) (x' := x ++ [prL za zb]) Hf.out (by simp [hbx.out]))
                  have HB2 := Lib.hid (rdsB_0 (x' := x ++ [prL za zb]) HXB.out (by have := HX0.out.2; simp; omega))
                  clear hS5 hS9 hS10 u1 co1
                  go_wp2_with fail
                  go_ret2
                  exact ⟨n, _, _, _, _, rfl, Hf2.out, HB2.out, by omega, by omega, pp, ss, HPS.out.1, by have := HPS.out.2; omega, hS11⟩
                · have f1 := eq_f e1
                  by_cases e2 : z = 2
                  · subst e2
                    clear e0 e1 hln9
                    have wn : IntKind.i64.wrap ((n : Int) + 1) = (n : Int) + 1 := IntWalk.i64_in _ (by omega)
                    go_wp2_with fail
                    refine (among_lit [(n : Int) + 1, 1, 33] w0 _ cv bs g _ _ hb h9 (by simp) (by omega)).mono ?_
                    rintro e w10 ⟨y, hy, rfl, h10⟩
                    have hyb : -100 ≤ y ∧ y ≤ 100 := by
                      simp only [List.mem_cons, List.not_mem_nil, or_false] at hy
                      omega
                    have Hy := Lib.hid hyb
                    clear hy hyb h9
                    go_wp2_with fail
                    go_ret2
                    exact ⟨y, _, _, _, _, rfl, Hf.out, HXB.out, Hy.out.1, Hy.out.2, h10.mono (by omega)⟩
                  · have f2 := eq_f e2
                    by_cases e3 : z = 3
                    · subst e3
                      clear e0 e1 e2 hln9
                      have c0 : w9.cell? (el u8 0) = some a := hr9.cell 0 (by simp)
                      have hla := (hr9.row 0 (by simp)).len
                      have hla : ∀ (ty : TypeId) (W : World), (Builtin.len_ #[33] ty #[a]).run Try.prog W = .ok (.int .i64 x.length) W := hla
                      cases x with
                      | nil =>
                        go_wp2_with fail
                        go_ret2
                        exact ⟨n, _, _, _, _, rfl, Hf.out, HXB.out, by omega, by omega, h9.mono (by omega)⟩
                      | cons x0 x =>
                        cases ub with
                        | nil => have := hbx.out; simp at this
                        | cons b0 ub =>
                          have xa0 : ∀ W, _ := (hr9.row 0 (by simp)).ixe (0 : Int) 0 rfl (by simp [x3at])
                          have xa0 : ∀ (W : World), (Instr.indexAt 33 a (.int .i64 0)).run Try.prog W = .ok (.pointer (some (el a 0))) W := xa0
                          have hlp : (0 : Int) < ((x0 :: x).length : Int) := by simp only [List.length_cons]; omega
                          obtain ⟨Lx, hLx⟩ : ∃ Lx, (x0 :: x).length = Lx := ⟨_, rfl⟩
                          rw [hLx] at hla hlp
                          have HLx := Lib.hid hLx
                          clear hLx
                          go_wp2_with fail
                          have h9d := h9.drew
                          refine regionG (fun w' => w'.cell? (el u8 0) = some a) 8 (by kernel_rfl) (cell_dr c0) (fun hHeld => ?_)
                          refine takeP (i := 0) (v := ?_) rfl (by kernel_rfl) (fun _ _ _ h => h) (by rfl) ?_ (by assumption) ?_
                          case refine_2 => (intro w'; go_simp; first | done | with_reducible rfl)
                          try simp only [Act.put, List.setIfInBounds_toArray, List.set_cons_zero, List.set_cons_succ]
                          refine takeP (i := 1) (v := ?_) rfl (by kernel_rfl) (fun _ _ _ h => h) (by rfl) ?_ (by assumption) ?_
                          case refine_2 => (intro w'; go_simp; first | done | with_reducible rfl)
                          try simp only [Act.put, List.setIfInBounds_toArray, List.set_cons_zero, List.set_cons_succ]
                          refine takeH (i := 2) [7] (v := ?_) rfl (by kernel_rfl) (fun _ _ _ h => h) (by rfl) ?_ (by assumption) ?_
                          case refine_2 => (intro w' hSw; (try dsimp only at hSw); go_simp; first | done | with_reducible rfl)
                          try simp only [Act.put, List.setIfInBounds_toArray, List.set_cons_zero, List.set_cons_succ]
                          refine takeP (i := 3) (v := ?_) rfl (by kernel_rfl) (fun _ _ _ h => h) (by rfl) ?_ (by assumption) ?_
                          case refine_2 => (intro w'; go_simp; first | done | with_reducible rfl)
                          try simp only [Act.put, List.setIfInBounds_toArray, List.set_cons_zero, List.set_cons_succ]
                          refine takeP (i := 4) (v := ?_) rfl (by kernel_rfl) (fun _ _ _ h => h) (by rfl) ?_ (by assumption) ?_
                          case refine_2 => (intro w'; go_simp; first | done | with_reducible rfl)
                          try simp only [Act.put, List.setIfInBounds_toArray, List.set_cons_zero, List.set_cons_succ]
                          refine readyG (rs := [5]) (by kernel_rfl) (by simp) ?_
                          refine AllG.cons rfl (fun K hK => ?_) AllG.nil
                          go_simp
                          refine (pick_c w0 _ cv bs g _ _ n hb h9d (by omega)).mono ?_
                          rintro e w10 ⟨zb, zb0, zb1, rfl, h10⟩
                          obtain ⟨pp, ss, s0, s1, hT⟩ := h10
                          have HPS := Lib.hid (And.intro s0 s1)
                          have hT : St w0.heap.size w0 w10 (box 101 g [cv, .int .i64 pp, .int .u64 ss] :: row 33 u8 (a :: vs) :: row 30 a (b0 :: ub) :: row 2 b0 (iv x0) :: (rowsI ub x ++ rows3 vs uss X)) := hT
                          have q0 : w10.cell? (el u8 0) = some a := (hT.rd 1 (e := 33) rfl).cell (i := 0) (by simp)
                          clear s0 s1
                          refine hK.out _ _ q0 (fun hHeld => ?_)
                          clear hK K
                          try simp only [Act.put, List.setIfInBounds_toArray, List.set_cons_zero, List.set_cons_succ]
                          have hN := hT.new 2 #[.int .i64 zb] (by simp [maxLen])
                          have u1 := hN.unfrozen 2 (e := 30) rfl (j := 0) (by simp)
                          have co1 : _ = some b0 := (hN.rd 2 (e := 30) rfl).cell (i := 0) (by simp)
                          refine readyG (rs := [6]) (by kernel_rfl) (by simp) ?_
                          refine AllG.cons rfl (fun K hK => ?_) AllG.nil
                          go_simp
                          refine hK.out _ _ (cell_al q0) (fun hHeld => ?_)
                          clear hK K q0
                          try simp only [Act.put, List.setIfInBounds_toArray, List.set_cons_zero, List.set_cons_succ]
                          refine takeP (i := 7) (v := ?_) rfl (by kernel_rfl) (fun _ _ _ h => h) (by rfl) ?_ (by assumption) ?_
                          case refine_2 => (intro w'; go_simp; first | done | with_reducible rfl)
                          try simp only [Act.put, List.setIfInBounds_toArray, List.set_cons_zero, List.set_cons_succ]
                          refine readyG (rs := [8]) (by kernel_rfl) (by simp) ?_
                          refine AllG.last rfl (by kernel_rfl) (fun K hK => ?_) AllG.nil
                          go_simp
                          refine hK.out _ _ ?_
                          clear hK K
                          try simp only [Act.put, List.setIfInBounds_toArray, List.set_cons_zero, List.set_cons_succ]
                          refine doneG (by kernel_rfl) ?_ _
                          refine NoPanic.normal ?_
                          have hS9 := hN.store 2 (e := 30) rfl (j := 0) (by simp) (.slice (some ⟨w10.heap.size, 0, none⟩) 1 1)
                          have hS10 : St w0.heap.size w0 _ (box 101 g [cv, .int .i64 pp, .int .u64 ss] :: row 33 u8 (a :: vs) :: row 30 a (.slice (some ⟨w10.heap.size, 0, none⟩) 1 1 :: ub) :: row 2 b0 (iv x0) :: (rowsI ub x ++ rows3 vs uss X ++ [row 2 (.slice (some ⟨w10.heap.size, 0, none⟩) 1 1) (iv [zb])])) := hS9
                          have hS10 := hS10.sub (L' := box 101 g [cv, .int .i64 pp, .int .u64 ss] :: row 33 u8 (a :: vs) :: row 30 a (.slice (some ⟨w10.heap.size, 0, none⟩) 1 1 :: ub) :: (rowsI ub x ++ rows3 vs uss X ++ [row 2 (.slice (some ⟨w10.heap.size, 0, none⟩) 1 1) (iv [zb])])) (((List.sublist_cons_self _ _).cons_cons _).cons_cons _ |>.cons_cons _)
                          have hS11 := hS10.perm (L' := box 101 g [cv, .int .i64 pp, .int .u64 ss] :: own3 u8 (a :: vs) ((.slice (some ⟨w10.heap.size, 0, none⟩) 1 1 :: ub) :: uss) (([zb] :: x) :: X)) ((List.perm_append_singleton _ _).cons _ |>.cons _ |>.cons _)
                          have Hf2 := Lib.hid (fit3_0 (a' := a) (ub' := .slice (some ⟨w10.heap.size, 0, none⟩) 1 1 :: ub) (x' := [zb] :: x) Hf.out (by have := hbx.out; simpa using this))
                          have HB2 := Lib.hid (rdsB_0 (x' := [zb] :: x) HXB.out (by have := HX0.out.2; simpa using Nat.le_succ_of_le this))
                          clear hN hS9 hS10 u1 co1 hT
                          go_wp2_with fail
                          go_ret2
                          exact ⟨n, _, _, _, _, rfl, Hf2.out, HB2.out, by omega, by omega, pp, ss, HPS.out.1, by have := HPS.out.2; omega, hS11⟩
                    · have f3 := eq_f e3
                      clear e0 e1 e2 e3 hln9 hr9 x09
                      go_wp2_with fail
                      go_ret2
                      exact ⟨n, _, _, _, _, rfl, Hf.out, HXB.out, by omega, by omega, h9.mono (by omega)⟩
  case true =>
    go_wp2_with fail
    refine (among_lit [17, 31, 32] w0 _ cv bs g _ _ hb h2 (by simp) (by omega)).mono ?_
    rintro e w3 ⟨y, hy, rfl, h3⟩
    have hyb : 2 ≤ y ∧ y ≤ 32 := by
      simp only [List.mem_cons, List.not_mem_nil, or_false] at hy
      omega
    clear hn2 h2 hy
    obtain ⟨n, rfl⟩ := Int.eq_ofNat_of_zero_le (show 0 ≤ y by omega)
    have hn2 : 2 ≤ n ∧ n ≤ 32 := by omega
    have hA := h3
    clear hyb h3
    go_wp2_with fail
    refine (l14Rounds_c n _ hn2.1 hn2.2).mono ?_
    rintro e w4 ⟨vr, vsr, ussr, Xr, rfl, hfr, hXr, hXl, h4⟩
    have hB := hA.call h4
    have rv0 := St.riii (L2 := []) (by rw [List.append_nil]; exact h4) hfr
    have hlnR := rv0.len
    have hixR := rv0.ixe
    obtain ⟨m, hm⟩ : ∃ m, Xr.length = m := ⟨_, rfl⟩
    have hm32 : 1 ≤ m ∧ m ≤ 32 := by omega
    rw [hm] at hlnR hixR
    have Hm := Lib.hid hm
    have HfX := Lib.hid (And.intro hfr hXr)
    clear hA h4 rv0 hfr hXr hXl hm
    go_wp2_with fail
    refine (l04DrawPerm_c w0 _ cv bs g _ _ n hb hB (by omega) (by omega)).mono ?_
    rintro e w5 ⟨vp, xp, rfl, hpl, hpI, h5⟩
    have hmin : min (m : Int) 32 = (m : Int) := by omega
    have KMn := fun W => Lib.hid (l00Min_c (m : Int) 32 W)
    rw [hmin] at KMn
    have HP := Lib.hid (And.intro hpl hpI)
    clear hB hmin hpl hpI
    go_wp2_with (go_at_call 84; refine (KMn _).out.mono ?_; rintro e2 w9 ⟨rfl, hw9⟩; subst hw9)
    refine (l04DrawPerm_c w0 _ cv bs g _ _ m hb h5 (by omega) (by omega)).mono ?_
    rintro e w7 ⟨vo, xo, rfl, hol, hoI, h7⟩
    obtain ⟨L1, hL1⟩ : ∃ L1 : List Ent, L1 = row 2 vo (iv xo) :: row 2 vp (iv xp) :: ([] ++ own3 vr vsr ussr Xr) := ⟨_, rfl⟩
    rw [← hL1] at h7
    have g0 : Hid (L1[0]? = some (row 2 vo (iv xo))) := Lib.hid (by rw [hL1]; rfl)
    have g1 : Hid (L1[1]? = some (row 2 vp (iv xp))) := Lib.hid (by rw [hL1]; rfl)
    have gs : Hid ((own3 vr vsr ussr Xr).Sublist L1) := Lib.hid (by rw [hL1]; exact .cons _ (.cons _ (.refl _)))
    have hlo := (h7.rdI 0 g0.out).len
    have hxo := (h7.rdI 0 g0.out).ixe
    have hxp := (h7.rdI 1 g1.out).ixe
    rw [hol] at hlo hxo
    rw [HP.out.1] at hxp
    have HO := Lib.hid (And.intro hol hoI)
    have h8 := (h7.call ((St.refl w7).new 33 #[] (by simp))).perm (L' := own3 (.slice (some ⟨w7.heap.size, 0, none⟩) 0 0) [] [] [] ++ L1) List.perm_append_comm
    have RR := fun W M q (hW : Src w0 W cv g q (M ++ L1)) => Lib.hid (St.riii (L2 := []) (by rw [List.append_nil]; exact hW.st.sub (gs.out.trans (List.sublist_append_right M L1))) HfX.out.1)
    clear h5 h7 hL1 KMn hol hoI
    go_wp2_with fail
    go_loopw [9, 8, 10, 11, 12] (fun r o _ _ _ wr => ∃ (k : Nat) (vs : List Value) (uss : List (List Value)) (X : List (List (List Int))), k ≤ m ∧ r = .int .i64 k ∧ Hid (Fit3 vs uss X ∧ RdsOk n X ∧ X.length = k) ∧ Src w0 wr cv g (K + 200) (own3 o vs uss X ++ L1)) (fun r _ _ _ _ _ => m - (intOf r).toNat)
    case atStart => exact ⟨0, [], [], [], by omega, rfl, ⟨⟨rfl, rfl, fun k h => by simp at h⟩, fun q hq => (by cases hq), rfl⟩, h8.mono (by omega)⟩
    case round =>
      clear h8
      obtain ⟨k, vs, uss, X, hk, rfl, hI, hS⟩ := hrel
      by_cases hlt : k < m
      · have hbo := HO.out.2.lt k (by rw [HO.out.1]; exact hlt)
        rw [HO.out.1] at hbo
        obtain ⟨y, hy⟩ := Int.eq_ofNat_of_zero_le hbo.1
        have hym : y < m := by omega
        have xk := hxo (k : Int) k rfl hlt
        have xy := hixR (y : Int) y rfl hym
        have Hy := Lib.hid hy
        have hq := HfX.out.2 _ (x3at_mem (show y < Xr.length by rw [Hm.out]; exact hym))
        have h9 := (hS.call ((St.refl wr).new 30 #[] (by simp))).perm (L' := own2 (.slice (some ⟨wr.heap.size, 0, none⟩) 0 0) [] [] ++ (own3 u8 vs uss X ++ L1)) List.perm_append_comm
        clear hS hbo hy
        go_wp2_with fail
        go_loopw [11, 10, 12] (fun ii q _ wx => ∃ (i : Nat) (us : List Value) (A : List (List Int)), i ≤ (x3at Xr y).length ∧ ii = .int .i64 i ∧ Hid (us.length = A.length ∧ PrsOk n A ∧ A.length = i) ∧ Src w0 wx cv g (K + 200) (own2 q us A ++ (own3 u8 vs uss X ++ L1))) (fun ii _ _ _ => (x3at Xr y).length - (intOf ii).toNat)
        case atStart => exact ⟨0, [], [], by omega, rfl, ⟨rfl, fun p hp => (by cases hp), rfl⟩, h9⟩
        case round =>
          clear h9
          obtain ⟨i, us, A, hi, rfl, hJ, hS⟩ := hrel
          have hS' : Src w0 wr cv g (K + 200) ((own2 u10 us A ++ own3 u8 vs uss X) ++ L1) := by rw [List.append_assoc]; exact hS
          have RV := (RR wr _ _ hS').out
          have co := (hS'.rdI _ (at_app g0.out)).cell k (by rw [HO.out.1]; exact hlt)
          rw [Hy.out] at co
          have cr := RV.cell y (by rw [Hm.out]; exact hym)
          have rr := RV.row y (by rw [Hm.out]; exact hym)
          have hlr := rr.len
          have hler := rr.le
          by_cases hit : i < (x3at Xr y).length
          · have ci := rr.cell i hit
            have xi := rr.ixe (i : Int) i rfl hit
            have rp := rr.row i hit
            have hpp := hq.1 _ (xat_mem hit)
            have b0 := hpp.2 _ (nth_mem (show 0 < (xat (x3at Xr y) i).length by rw [hpp.1]; omega))
            have b1 := hpp.2 _ (nth_mem (show 1 < (xat (x3at Xr y) i).length by rw [hpp.1]; omega))
            have d0 := rp.cell 0 (by rw [hpp.1]; omega)
            have d1 := rp.cell 1 (by rw [hpp.1]; omega)
            have x0 := rp.ixe (0 : Int) 0 rfl (by rw [hpp.1]; omega)
            have x1 := rp.ixe (1 : Int) 1 rfl (by rw [hpp.1]; omega)
            obtain ⟨y0, hy0⟩ := Int.eq_ofNat_of_zero_le b0.1
            obtain ⟨y1, hy1⟩ := Int.eq_ofNat_of_zero_le b1.1
            have rP := hS'.rdI _ (at_app g1.out)
            have e0 := rP.cell y0 (by rw [HP.out.1]; omega)
            have e1 := rP.cell y1 (by rw [HP.out.1]; omega)
            have z0 := hxp (y0 : Int) y0 rfl (by omega)
            have z1 := hxp (y1 : Int) y1 rfl (by omega)
            have v0 := HP.out.2.lt y0 (by rw [HP.out.1]; omega)
            have v1 := HP.out.2.lt y1 (by rw [HP.out.1]; omega)
            rw [HP.out.1] at v0 v1
            rw [hy0] at d0
            rw [hy1] at d1
            have HPr := Lib.hid (hJ.out.2.1.snoc v0 v1)
            have hlN := Lib.hid (show us.length < 4294967296 by rw [hJ.out.1, hJ.out.2.2]; have := hq.2; omega)
            generalize nth xp y0 = p0 at *
            generalize nth xp y1 = p1 at *
            clear hpp b0 b1 hy0 hy1 rP v0 v1
            go_wp2_with fail
            obtain ⟨pp, ss, s0, s1, hT⟩ := hS
            have HPS := Lib.hid (And.intro s0 s1)
            have hT := hT.drew
            clear s0 s1
            refine regionG (fun w' => w'.cell? (el (vat (vsat ussr y) i) 0) = some (.int .i64 y0) ∧ w'.cell? (el (vat (vsat ussr y) i) 1) = some (.int .i64 y1) ∧ w'.cell? (el vp y0) = some (.int .i64 p0) ∧ w'.cell? (el vp y1) = some (.int .i64 p1)) 15 (by kernel_rfl) ⟨cell_dr d0, cell_dr d1, cell_dr e0, cell_dr e1⟩ (fun hHeld => ?_)
            refine takeP (i := 0) (v := ?_) rfl (by kernel_rfl) (fun _ _ _ h => h) (by rfl) ?_ (by assumption) ?_
            case refine_2 => (intro w'; go_simp; first | done | with_reducible rfl)
            try simp only [Act.put, List.setIfInBounds_toArray, List.set_cons_zero, List.set_cons_succ]
            refine takeP (i := 1) (v := ?_) rfl (by kernel_rfl) (fun _ _ _ h => h) (by rfl) ?_ (by assumption) ?_
            case refine_2 => (intro w'; go_simp; first | done | with_reducible rfl)
            try simp only [Act.put, List.setIfInBounds_toArray, List.set_cons_zero, List.set_cons_succ]
            refine takeP (i := 2) (v := ?_) rfl (by kernel_rfl) (fun _ _ _ h => h) (by rfl) ?_ (by assumption) ?_
            case refine_2 => (intro w'; go_simp; first | done | with_reducible rfl)
            try simp only [Act.put, List.setIfInBounds_toArray, List.set_cons_zero, List.set_cons_succ]
            refine takeP (i := 3) (v := ?_) rfl (by kernel_rfl) (fun _ _ _ h => h) (by rfl) ?_ (by assumption) ?_
            case refine_2 => (intro w'; go_simp; first | done | with_reducible rfl)
            try simp only [Act.put, List.setIfInBounds_toArray, List.set_cons_zero, List.set_cons_succ]
            refine takeH (i := 4) [5, 6, 13, 14] (v := ?_) rfl (by kernel_rfl) (fun _ _ _ h => h) (by rfl) ?_ (by assumption) ?_
            case refine_2 => (intro w' hSw; (try dsimp only at hSw); go_simp; first | done | with_reducible rfl)
            try simp only [Act.put, List.setIfInBounds_toArray, List.set_cons_zero, List.set_cons_succ]
            refine takeP (i := 5) (v := ?_) rfl (by kernel_rfl) (fun _ _ _ h => h) (by rfl) ?_ (by assumption) ?_
            case refine_2 => (intro w'; go_simp; first | done | with_reducible rfl)
            try simp only [Act.put, List.setIfInBounds_toArray, List.set_cons_zero, List.set_cons_succ]
            refine takeH (i := 6) [13, 14] (v := ?_) rfl (by kernel_rfl) (fun _ _ _ h => h) (by rfl) ?_ (by assumption) ?_
            case refine_2 => (intro w' hSw; (try dsimp only at hSw); go_simp; first | done | with_reducible rfl)
            try simp only [Act.put, List.setIfInBounds_toArray, List.set_cons_zero, List.set_cons_succ]
            refine takeP (i := 7) (v := ?_) rfl (by kernel_rfl) (fun _ _ _ h => h) (by rfl) ?_ (by assumption) ?_
            case refine_2 => (intro w'; go_simp; first | done | with_reducible rfl)
            try simp only [Act.put, List.setIfInBounds_toArray, List.set_cons_zero, List.set_cons_succ]
            refine takeP (i := 8) (v := ?_) rfl (by kernel_rfl) (fun _ _ _ h => h) (by rfl) ?_ (by assumption) ?_
            case refine_2 => (intro w'; go_simp; first | done | with_reducible rfl)
            try simp only [Act.put, List.setIfInBounds_toArray, List.set_cons_zero, List.set_cons_succ]
            refine takeP (i := 9) (v := ?_) rfl (by kernel_rfl) (fun _ _ _ h => h) (by rfl) ?_ (by assumption) ?_
            case refine_2 => (intro w'; go_simp; first | done | with_reducible rfl)
            try simp only [Act.put, List.setIfInBounds_toArray, List.set_cons_zero, List.set_cons_succ]
            refine takeH (i := 10) [11, 12, 13, 14] (v := ?_) rfl (by kernel_rfl) (fun _ _ _ h => h) (by rfl) ?_ (by assumption) ?_
            case refine_2 => (intro w' hSw; (try dsimp only at hSw); go_simp; first | done | with_reducible rfl)
            try simp only [Act.put, List.setIfInBounds_toArray, List.set_cons_zero, List.set_cons_succ]
            refine takeP (i := 11) (v := ?_) rfl (by kernel_rfl) (fun _ _ _ h => h) (by rfl) ?_ (by assumption) ?_
            case refine_2 => (intro w'; go_simp; first | done | with_reducible rfl)
            try simp only [Act.put, List.setIfInBounds_toArray, List.set_cons_zero, List.set_cons_succ]
            refine takeH (i := 12) [13, 14] (v := ?_) rfl (by kernel_rfl) (fun _ _ _ h => h) (by rfl) ?_ (by assumption) ?_
            case refine_2 => (intro w' hSw; (try dsimp only at hSw); go_simp; first | done | with_reducible rfl)
            try simp only [Act.put, List.setIfInBounds_toArray, List.set_cons_zero, List.set_cons_succ]
            refine readyG (rs := [13]) (by kernel_rfl) (by simp) ?_
            refine AllG.cons rfl (fun K hK => ?_) AllG.nil
            go_simp
            refine (l14Pair_c p0 p1 _).mono ?_
            rintro e w8 ⟨u, rfl, h8⟩
            obtain ⟨ua, uc, hu⟩ := (h8.rdI 0 rfl).sl.sh
            rw [iv_len, prL_len] at hu
            subst hu
            have hS2 := hT.call h8
            have q0 := cell_kpB h8.below (cell_dr d0)
            have q1 := cell_kpB h8.below (cell_dr d1)
            have q2 := cell_kpB h8.below (cell_dr e0)
            have q3 := cell_kpB h8.below (cell_dr e1)
            refine hK.out _ _ ⟨q0, q1, q2, q3⟩ (fun hHeld => ?_)
            clear hK K
            try simp only [Act.put, List.setIfInBounds_toArray, List.set_cons_zero, List.set_cons_succ]
            refine readyG (rs := [14]) (by kernel_rfl) (by simp) ?_
            refine AllG.cons rfl (fun K hK => ?_) AllG.nil
            go_simp
            refine hK.out _ _ ⟨cell_al q0, cell_al q1, cell_al q2, cell_al q3⟩ (fun hHeld => ?_)
            clear hK K q0 q1 q2 q3
            try simp only [Act.put, List.setIfInBounds_toArray, List.set_cons_zero, List.set_cons_succ]
            refine readyG (rs := [15]) (by kernel_rfl) (by simp) ?_
            refine AllG.last rfl (by kernel_rfl) (fun K hK => ?_) AllG.nil
            refine stepII hS2 1 rfl hlN.out rfl (.tmp 63) (.tmp 77) rfl (by first | rfl | simp [Act.eval, Act.put]) _ rfl (by first | rfl | simp [Act.eval, Act.put]) ?_
            intro v5 w9 hS5
            refine hK.out _ _ ?_
            clear hK K
            try simp only [Act.put, List.setIfInBounds_toArray, List.set_cons_zero, List.set_cons_succ]
            refine readyG (rs := [16]) (by kernel_rfl) (by simp) ?_
            refine AllG.last rfl (by kernel_rfl) (fun K hK => ?_) AllG.nil
            go_simp
            refine hK.out _ _ ?_
            clear hK K
            try simp only [Act.put, List.setIfInBounds_toArray, List.set_cons_zero, List.set_cons_succ]
            refine doneG (by kernel_rfl) ?_ _
            refine NoPanic.normal ?_
            go_wp2_with fail
            go_roundw
            case rel =>
              refine ⟨i + 1, us ++ [.slice ua 2 uc], A ++ [prL p0 p1], by omega, by go_num, ⟨by simp [hJ.out.1], HPr.out, by rw [List.length_append, hJ.out.2.2]; rfl⟩, pp, ss, HPS.out.1, HPS.out.2, ?_⟩
              rw [own2, rowsI_app hJ.out.1]
              have h11 : St w0.heap.size w0 w9 (box 101 g [cv, .int .i64 pp, .int .u64 ss] :: row 30 v5 (us ++ [.slice ua 2 uc]) :: (rowsI us A ++ (own3 u8 vs uss X ++ L1) ++ [row 2 (.slice ua 2 uc) (iv (prL p0 p1))])) := hS5
              exact h11.perm (by (try simp only [own2, List.cons_append, List.nil_append, List.append_nil]); classical exact List.perm_iff_count.2 (fun a => by simp only [List.cons_append, List.nil_append, List.append_nil, List.count_append, List.count_cons, List.count_nil] <;> omega))
            case measure => simp [intOf]; omega
          · obtain rfl : i = (x3at Xr y).length := by omega
            have hAl := hJ.out.2.2
            have hAq := hq.2
            have rA := (hS'.st.sub ((List.sublist_append_left _ _).trans (List.sublist_append_left _ _))).rii hJ.out.1
            have KS := Lib.hid (l10Sort_c u10 us A _ rA (by omega) (fun xs hx => by rw [(hJ.out.2.1 xs hx).1]; omega))
            have hvl := Lib.hid (show vs.length < 4294967296 by rw [hI.out.1.1, hI.out.2.2]; omega)
            have Hsl := Lib.hid (show (srtL A).length ≤ 40 by rw [srtL_len]; omega)
            obtain ⟨pp, ss, s0, s1, hT⟩ := hS'
            have HPS := Lib.hid (And.intro s0 s1)
            have hT2 := hT.perm (L' := own3 u8 vs uss X ++ (box 101 g [cv, .int .i64 pp, .int .u64 ss] :: L1) ++ own2 u10 us A) (by (try simp only [own2, List.cons_append, List.nil_append, List.append_nil]); classical exact List.perm_iff_count.2 (fun a => by simp only [List.cons_append, List.nil_append, List.append_nil, List.count_append, List.count_cons, List.count_nil] <;> omega))
            have hT3 := hT2.sub (List.sublist_append_left _ _)
            clear rA hAl hAq RV hT hT2 s0 s1
            go_wp2_with (first
              | (at_builtin; refine appIII hS6 0 rfl hvl.out rfl _ _ rfl rfl _ rfl rfl ?_; intro v7 w7 hS7)
              | (go_at_call 86; refine KS.out.mono ?_; rintro e3 w5 ⟨v5, us5, rfl, hl5, h5⟩; obtain ⟨la, lc, hv5⟩ := (h5.rd 0 (e := 30) (v := v5) (us := us5) rfl).sl.sh; subst hv5; have Hl5 := Lib.hid hl5; clear hl5; have hS6 := (hT3.call h5).perm (L' := own3 u8 vs uss X ++ own2 (.slice la us5.length lc) us5 (srtL A) ++ (box 101 g [cv, .int .i64 pp, .int .u64 ss] :: L1)) (perm_mid _ _ _)))
            have hf8 := hI.out.1.snoc (.slice la us5.length lc) Hl5.out
            have hS8 := own3_snocL hI.out.1.1 hI.out.1.2.1 hS7
            go_roundw
            case rel => exact ⟨k + 1, _, _, _, by omega, by go_num, ⟨hf8, hI.out.2.1.snoc hJ.out.2.1.srt Hsl.out, by rw [List.length_append, hI.out.2.2]; rfl⟩, pp, ss, HPS.out.1, HPS.out.2, hS8.perm (perm_src _ _ _)⟩
            case measure => simp [intOf]; omega
      · obtain rfl : k = m := by omega
        obtain ⟨pp, ss, s0, s1, hT⟩ := hS
        have hS : Src w0 wr cv g (K + 200) (own3 u8 vs uss X) := ⟨pp, ss, s0, s1, hT.sub ((List.sublist_append_left _ _).cons_cons _)⟩
        have hf := hI.out.1
        have hXl := hI.out.2.2
        have hXo := hI.out.2.1
        have hXB : RdsB X := ⟨by omega, fun q hq => by have := (hXo q hq).2; omega⟩
        cases X with
        | nil => simp at hXl; omega
        | cons x X =>
          cases vs with
          | nil => have := hf.1; simp at this
          | cons a vs =>
            cases uss with
            | nil => have := hf.2.1; simp at this
            | cons ub uss =>
              have Hf := Lib.hid hf
              have HXB := Lib.hid hXB
              have hbx : Hid (ub.length = x.length) := Lib.hid (hf.2.2 0 (by simp))
              have HX0 := Lib.hid (hXo x (by simp))
              clear hT s0 s1 hI hf hXl hXo hXB RR
              go_wp2_with fail
              refine (pick_c w0 _ cv bs g _ _ 10 hb hS (by omega)).mono ?_
              rintro e w9 ⟨z, z0, z1, rfl, h9⟩
              clear hS
              have hr9 := St.riii (L2 := []) (by rw [List.append_nil]; exact h9.st) Hf.out
              have hln9 := hr9.len
              have x09 := hr9.ixe (0 : Int) 0 rfl (by simp)
              obtain ⟨Ln, hLn⟩ : ∃ Ln, (x :: X).length = Ln := ⟨_, rfl⟩
              rw [hLn] at hln9
              have HLn := Lib.hid hLn
              have hLb : 1 ≤ Ln ∧ Ln ≤ 40 := by have := HXB.out.1; simp at hLn this; omega
              clear hLn
              by_cases e0 : z = 0
              · subst e0
                have hsl : ∀ W, (Instr.slice 25 u8 none (some (.int .i64 ((Ln : Int) - 1))) none).run Try.prog W = .ok (rsl u8 0 (Ln - 1)) W := fun W => by
                  have := rslIII_hi hr9.1 (Ln - 1) (by rw [hr9.2.1, HLn.out]; omega) W
                  rwa [show ((Ln - 1 : Nat) : Int) = (Ln : Int) - 1 by omega] at this
                have wl : IntKind.i64.wrap ((Ln : Int) - 1) = (Ln : Int) - 1 := IntWalk.i64_in _ (by omega)
                obtain ⟨pp, ss, s0, s1, hT⟩ := h9
                have hT2 := hT.shrink 1 (e := 33) (v := u8) (us := a :: vs) rfl (Ln - 1) (by have h1 := hr9.2.1; rw [HLn.out] at h1; omega)
                have hT3 : St w0.heap.size w0 w9 (box 101 g [cv, .int .i64 pp, .int .u64 ss] :: row 33 (rsl u8 0 (Ln - 1)) ((a :: vs).take (Ln - 1)) :: rows3 (a :: vs) (ub :: uss) (x :: X)) := hT2
                have hT4 := hT3.sub (((rows3_take (a :: vs) (ub :: uss) (x :: X) (Ln - 1)).cons_cons _).cons_cons _)
                have HPS := Lib.hid (And.intro s0 s1)
                clear hT hT2 hT3 hr9 s0 s1
                go_wp2_with fail
                go_ret2
                exact ⟨n, _, _, _, _, rfl, Hf.out.take (Ln - 1), ⟨by rw [List.length_take]; have := HXB.out.1; omega, fun q hq => HXB.out.2 q (List.mem_of_mem_take hq)⟩, by omega, by omega, pp, ss, HPS.out.1, by have := HPS.out.2; omega, hT4⟩
              · have f0 := eq_f e0
                by_cases e1 : z = 1
                · subst e1
                  clear e0 hln9
                  go_wp2_with fail
                  refine (pick_c w0 _ cv bs g _ _ n hb h9 (by omega)).mono ?_
                  rintro e w10 ⟨za, za0, za1, rfl, h10⟩
                  go_wp2_with fail
                  refine (pick_c w0 _ cv bs g _ _ n hb h10 (by omega)).mono ?_
                  rintro e w11 ⟨zb, zb0, zb1, rfl, h11⟩
                  obtain ⟨pp, ss, s0, s1, hT⟩ := h11
                  have hT : St w0.heap.size w0 w11 (box 101 g [cv, .int .i64 pp, .int .u64 ss] :: row 33 u8 (a :: vs) :: row 30 a ub :: (rowsI ub x ++ rows3 vs uss X)) := hT
                  have c0 : w11.cell? (el u8 0) = some a := (hT.rd 1 (e := 33) rfl).cell (i := 0) (by simp)
                  have HPS := Lib.hid (And.intro s0 s1)
                  have hT := hT.drew
                  have hlN := Lib.hid (show ub.length < 4294967296 by rw [hbx.out]; have := HX0.out.2; omega)
                  clear s0 s1 h9 h10 hr9
                  go_wp2_with fail
                  refine regionG (fun w' => w'.cell? (el u8 0) = some a) 8 (by kernel_rfl) (cell_dr c0) (fun hHeld => ?_)
                  refine takeP (i := 0) (v := ?_) rfl (by kernel_rfl) (fun _ _ _ h => h) (by rfl) ?_ (by assumption) ?_
                  case refine_2 => (intro w'; go_simp; first | done | with_reducible rfl)
                  try simp only [Act.put, List.setIfInBounds_toArray, List.set_cons_zero, List.set_cons_succ]
                  refine takeP (i := 1) (v := ?_) rfl (by kernel_rfl) (fun _ _ _ h => h) (by rfl) ?_ (by assumption) ?_
                  case refine_2 => (intro w'; go_simp; first | done | with_reducible rfl)
                  try simp only [Act.put, List.setIfInBounds_toArray, List.set_cons_zero, List.set_cons_succ]
                  refine takeP (i := 2) (v := ?_) rfl (by kernel_rfl) (fun _ _ _ h => h) (by rfl) ?_ (by assumption) ?_
                  case refine_2 => (intro w'; go_simp; first | done | with_reducible rfl)
                  try simp only [Act.put, List.setIfInBounds_toArray, List.set_cons_zero, List.set_cons_succ]
                  refine takeH (i := 3) [] (v := ?_) rfl (by kernel_rfl) (fun _ _ _ h => h) (by rfl) ?_ (by assumption) ?_
                  case refine_2 => (intro w' hSw; (try dsimp only at hSw); go_simp; first | done | with_reducible rfl)
                  try simp only [Act.put, List.setIfInBounds_toArray, List.set_cons_zero, List.set_cons_succ]
                  refine takeP (i := 4) (v := ?_) rfl (by kernel_rfl) (fun _ _ _ h => h) (by rfl) ?_ (by assumption) ?_
                  case refine_2 => (intro w'; go_simp; first | done | with_reducible rfl)
                  try simp only [Act.put, List.setIfInBounds_toArray, List.set_cons_zero, List.set_cons_succ]
                  refine takeP (i := 5) (v := ?_) rfl (by kernel_rfl) (fun _ _ _ h => h) (by rfl) ?_ (by assumption) ?_
                  case refine_2 => (intro w'; go_simp; first | done | with_reducible rfl)
                  try simp only [Act.put, List.setIfInBounds_toArray, List.set_cons_zero, List.set_cons_succ]
                  refine readyG (rs := [6]) (by kernel_rfl) (by simp) ?_
                  refine AllG.cons rfl (fun K hK => ?_) AllG.nil
                  go_simp
                  refine (l14Pair_c za zb _).mono ?_
                  rintro e w12 ⟨u, rfl, h12⟩
                  obtain ⟨ua, uc, hu⟩ := (h12.rdI 0 rfl).sl.sh
                  rw [iv_len, prL_len] at hu
                  subst hu
                  have hS2 := hT.call h12
                  have q0 := cell_kpB h12.below (cell_dr c0)
                  refine hK.out _ _ q0 (fun hHeld => ?_)
                  clear hK K
                  try simp only [Act.put, List.setIfInBounds_toArray, List.set_cons_zero, List.set_cons_succ]
                  refine readyG (rs := [7]) (by kernel_rfl) (by simp) ?_
                  refine AllG.cons rfl (fun K hK => ?_) AllG.nil
                  go_simp
                  refine hK.out _ _ (cell_al q0) (fun hHeld => ?_)
                  clear hK K q0
                  try simp only [Act.put, List.setIfInBounds_toArray, List.set_cons_zero, List.set_cons_succ]
                  refine readyG (rs := [8]) (by kernel_rfl) (by simp) ?_
                  refine AllG.last rfl (by kernel_rfl) (fun K hK => ?_) AllG.nil
                  refine stepII hS2 2 rfl hlN.out rfl (.tmp 104) (.tmp 108) rfl (by first | rfl | simp [Act.eval, Act.put]) _ rfl (by first | rfl | simp [Act.eval, Act.put]) ?_
                  intro v5 w13 hS5
                  have hS5 : St w0.heap.size w0 w13 (box 101 g [cv, .int .i64 pp, .int .u64 ss] :: row 33 u8 (a :: vs) :: row 30 v5 (ub ++ [.slice ua 2 uc]) :: (rowsI ub x ++ rows3 vs uss X ++ [row 2 (.slice ua 2 uc) (iv (prL za zb))])) := hS5
                  obtain ⟨fa, fc, hv5⟩ := (hS5.rd 2 (e := 30) rfl).sl.sh
                  rw [List.length_append, List.length_singleton] at hv5
                  subst hv5
                  refine hK.out _ _ ?_
                  clear hK K
                  try simp only [Act.put, List.setIfInBounds_toArray, List.set_cons_zero, List.set_cons_succ]
                  have u1 := hS5.unfrozen 1 (e := 33) rfl (j := 0) (by simp)
                  have co1 : w13.cell? (el u8 0) = some a := (hS5.rd 1 (e := 33) rfl).cell (i := 0) (by simp)
                  refine readyG (rs := [9]) (by kernel_rfl) (by simp) ?_
                  refine AllG.last rfl (by kernel_rfl) (fun K hK => ?_) AllG.nil
                  go_simp
                  refine hK.out _ _ ?_
                  clear hK K
                  try simp only [Act.put, List.setIfInBounds_toArray, List.set_cons_zero, List.set_cons_succ]
                  refine readyG (rs := [10]) (by kernel_rfl) (by simp) ?_
                  refine AllG.last rfl (by kernel_rfl) (fun K hK => ?_) AllG.nil
                  go_simp
                  refine hK.out _ _ ?_
                  clear hK K
                  try simp only [Act.put, List.setIfInBounds_toArray, List.set_cons_zero, List.set_cons_succ]
                  refine doneG (by kernel_rfl) ?_ _
                  refine NoPanic.normal ?_
                  have hS9 := hS5.store 1 (e := 33) rfl (j := 0) (by simp) (.slice fa (ub.length + 1) fc)
                  have hS10 : St w0.heap.size w0 _ (box 101 g [cv, .int .i64 pp, .int .u64 ss] :: row 33 u8 (.slice fa (ub.length + 1) fc :: vs) :: row 30 (.slice fa (ub.length + 1) fc) (ub ++ [.slice ua 2 uc]) :: (rowsI ub x ++ rows3 vs uss X ++ [row 2 (.slice ua 2 uc) (iv (prL za zb))])) := hS9
                  have hS11 := hS10.perm (L' := box 101 g [cv, .int .i64 pp, .int .u64 ss] :: own3 u8 (.slice fa (ub.length + 1) fc :: vs) ((ub ++ [.slice ua 2 uc]) :: uss) ((x ++ [prL za zb]) :: X)) (by
                    rw [own3, rows3, own2, rowsI_app hbx.out]
                    exact ((perm_mid (rowsI ub x) (rows3 vs uss X) [row 2 (.slice ua 2 uc) (iv (prL za zb))]).cons _ |>.cons _ |>.cons _))
                  have Hf2 := Lib.hid (fit3_0 (a' := .slice fa (ub.length + 1) fc) (ub' := ub ++ [Value.slice ua 2 uc]) (x' := x ++ [prL za zb]) Hf.out (by simp [hbx.out]))
                  have HB2 := Lib.hid (rdsB_0 (x' := x ++ [prL za zb]) HXB.out (by have := HX0.out.2; simp; omega))
                  clear hS5 hS9 hS10 u1 co1
                  go_wp2_with fail
                  go_ret2
                  exact ⟨n, _, _, _, _, rfl, Hf2.out, HB2.out, by omega, by omega, pp, ss, HPS.out.1, by have := HPS.out.2; omega, hS11⟩
                · have f1 := eq_f e1
                  by_cases e2 : z = 2
                  · subst e2
                    clear e0 e1 hln9
                    have wn : IntKind.i64.wrap ((n : Int) + 1) = (n : Int) + 1 := IntWalk.i64_in _ (by omega)
                    go_wp2_with fail
                    refine (among_lit [(n : Int) + 1, 1, 33] w0 _ cv bs g _ _ hb h9 (by simp) (by omega)).mono ?_
                    rintro e w10 ⟨y, hy, rfl, h10⟩
                    have hyb : -100 ≤ y ∧ y ≤ 100 := by
                      simp only [List.mem_cons, List.not_mem_nil, or_false] at hy
                      omega
                    have Hy := Lib.hid hyb
                    clear hy hyb h9
                    go_wp2_with fail
                    go_ret2
                    exact ⟨y, _, _, _, _, rfl, Hf.out, HXB.out, Hy.out.1, Hy.out.2, h10.mono (by omega)⟩
                  · have f2 := eq_f e2
                    by_cases e3 : z = 3
                    · subst e3
                      clear e0 e1 e2 hln9
                      have c0 : w9.cell? (el u8 0) = some a := hr9.cell 0 (by simp)
                      have hla := (hr9.row 0 (by simp)).len
                      have hla : ∀ (ty : TypeId) (W : World), (Builtin.len_ #[33] ty #[a]).run Try.prog W = .ok (.int .i64 x.length) W := hla
                      cases x with
                      | nil =>
                        go_wp2_with fail
                        go_ret2
                        exact ⟨n, _, _, _, _, rfl, Hf.out, HXB.out, by omega, by omega, h9.mono (by omega)⟩
                      | cons x0 x =>
                        cases ub with
                        | nil => have := hbx.out; simp at this
                        | cons b0 ub =>
                          have xa0 : ∀ W, _ := (hr9.row 0 (by simp)).ixe (0 : Int) 0 rfl (by simp [x3at])
                          have xa0 : ∀ (W : World), (Instr.indexAt 33 a (.int .i64 0)).run Try.prog W = .ok (.pointer (some (el a 0))) W := xa0
                          have hlp : (0 : Int) < ((x0 :: x).length : Int) := by simp only [List.length_cons]; omega
                          obtain ⟨Lx, hLx⟩ : ∃ Lx, (x0 :: x).length = Lx := ⟨_, rfl⟩
                          rw [hLx] at hla hlp
                          have HLx := Lib.hid hLx
                          clear hLx
                          go_wp2_with fail
                          have h9d := h9.drew
                          refine regionG (fun w' => w'.cell? (el u8 0) = some a) 8 (by kernel_rfl) (cell_dr c0) (fun hHeld => ?_)
                          refine takeP (i := 0) (v := ?_) rfl (by kernel_rfl) (fun _ _ _ h => h) (by rfl) ?_ (by assumption) ?_
                          case refine_2 => (intro w'; go_simp; first | done | with_reducible rfl)
                          try simp only [Act.put, List.setIfInBounds_toArray, List.set_cons_zero, List.set_cons_succ]
                          refine takeP (i := 1) (v := ?_) rfl (by kernel_rfl) (fun _ _ _ h => h) (by rfl) ?_ (by assumption) ?_
                          case refine_2 => (intro w'; go_simp; first | done | with_reducible rfl)
                          try simp only [Act.put, List.setIfInBounds_toArray, List.set_cons_zero, List.set_cons_succ]
                          refine takeH (i := 2) [7] (v := ?_) rfl (by kernel_rfl) (fun _ _ _ h => h) (by rfl) ?_ (by assumption) ?_
                          case refine_2 => (intro w' hSw; (try dsimp only at hSw); go_simp; first | done | with_reducible rfl)
                          try simp only [Act.put, List.setIfInBounds_toArray, List.set_cons_zero, List.set_cons_succ]
                          refine takeP (i := 3) (v := ?_) rfl (by kernel_rfl) (fun _ _ _ h => h) (by rfl) ?_ (by assumption) ?_
                          case refine_2 => (intro w'; go_simp; first | done | with_reducible rfl)
                          try simp only [Act.put, List.setIfInBounds_toArray, List.set_cons_zero, List.set_cons_succ]
                          refine takeP (i := 4) (v := ?_) rfl (by kernel_rfl) (fun _ _ _ h => h) (by rfl) ?_ (by assumption) ?_
                          case refine_2 => (intro w'; go_simp; first | done | with_reducible rfl)
                          try simp only [Act.put, List.setIfInBounds_toArray, List.set_cons_zero, List.set_cons_succ]
                          refine readyG (rs := [5]) (by kernel_rfl) (by simp) ?_
                          refine AllG.cons rfl (fun K hK => ?_) AllG.nil
                          go_simp
                          refine (pick_c w0 _ cv bs g _ _ n hb h9d (by omega)).mono ?_
                          rintro e w10 ⟨zb, zb0, zb1, rfl, h10⟩
                          obtain ⟨pp, ss, s0, s1, hT⟩ := h10
                          have HPS := Lib.hid (And.intro s0 s1)
                          have hT : St w0.heap.size w0 w10 (box 101 g [cv, .int .i64 pp, .int .u64 ss] :: row 33 u8 (a :: vs) :: row 30 a (b0 :: ub) :: row 2 b0 (iv x0) :: (rowsI ub x ++ rows3 vs uss X)) := hT
                          have q0 : w10.cell? (el u8 0) = some a := (hT.rd 1 (e := 33) rfl).cell (i := 0) (by simp)
                          clear s0 s1
                          refine hK.out _ _ q0 (fun hHeld => ?_)
                          clear hK K
                          try simp only [Act.put, List.setIfInBounds_toArray, List.set_cons_zero, List.set_cons_succ]
                          have hN := hT.new 2 #[.int .i64 zb] (by simp [maxLen])
                          have u1 := hN.unfrozen 2 (e := 30) rfl (j := 0) (by simp)
                          have co1 : _ = some b0 := (hN.rd 2 (e := 30) rfl).cell (i := 0) (by simp)
                          refine readyG (rs := [6]) (by kernel_rfl) (by simp) ?_
                          refine AllG.cons rfl (fun K hK => ?_) AllG.nil
                          go_simp
                          refine hK.out _ _ (cell_al q0) (fun hHeld => ?_)
                          clear hK K q0
                          try simp only [Act.put, List.setIfInBounds_toArray, List.set_cons_zero, List.set_cons_succ]
                          refine takeP (i := 7) (v := ?_) rfl (by kernel_rfl) (fun _ _ _ h => h) (by rfl) ?_ (by assumption) ?_
                          case refine_2 => (intro w'; go_simp; first | done | with_reducible rfl)
                          try simp only [Act.put, List.setIfInBounds_toArray, List.set_cons_zero, List.set_cons_succ]
                          refine readyG (rs := [8]) (by kernel_rfl) (by simp) ?_
                          refine AllG.last rfl (by kernel_rfl) (fun K hK => ?_) AllG.nil
                          go_simp
                          refine hK.out _ _ ?_
                          clear hK K
                          try simp only [Act.put, List.setIfInBounds_toArray, List.set_cons_zero, List.set_cons_succ]
                          refine doneG (by kernel_rfl) ?_ _
                          refine NoPanic.normal ?_
                          have hS9 := hN.store 2 (e := 30) rfl (j := 0) (by simp) (.slice (some ⟨w10.heap.size, 0, none⟩) 1 1)
                          have hS10 : St w0.heap.size w0 _ (box 101 g [cv, .int .i64 pp, .int .u64 ss] :: row 33 u8 (a :: vs) :: row 30 a (.slice (some ⟨w10.heap.size, 0, none⟩) 1 1 :: ub) :: row 2 b0 (iv x0) :: (rowsI ub x ++ rows3 vs uss X ++ [row 2 (.slice (some ⟨w10.heap.size, 0, none⟩) 1 1) (iv [zb])])) := hS9
                          have hS10 := hS10.sub (L' := box 101 g [cv, .int .i64 pp, .int .u64 ss] :: row 33 u8 (a :: vs) :: row 30 a (.slice (some ⟨w10.heap.size, 0, none⟩) 1 1 :: ub) :: (rowsI ub x ++ rows3 vs uss X ++ [row 2 (.slice (some ⟨w10.heap.size, 0, none⟩) 1 1) (iv [zb])])) (((List.sublist_cons_self _ _).cons_cons _).cons_cons _ |>.cons_cons _)
                          have hS11 := hS10.perm (L' := box 101 g [cv, .int .i64 pp, .int .u64 ss] :: own3 u8 (a :: vs) ((.slice (some ⟨w10.heap.size, 0, none⟩) 1 1 :: ub) :: uss) (([zb] :: x) :: X)) ((List.perm_append_singleton _ _).cons _ |>.cons _ |>.cons _)
                          have Hf2 := Lib.hid (fit3_0 (a' := a) (ub' := .slice (some ⟨w10.heap.size, 0, none⟩) 1 1 :: ub) (x' := [zb] :: x) Hf.out (by have := hbx.out; simpa using this))
                          have HB2 := Lib.hid (rdsB_0 (x' := [zb] :: x) HXB.out (by have := HX0.out.2; simpa using Nat.le_succ_of_le this))
                          clear hN hS9 hS10 u1 co1 hT
                          go_wp2_with fail
                          go_ret2
                          exact ⟨n, _, _, _, _, rfl, Hf2.out, HB2.out, by omega, by omega, pp, ss, HPS.out.1, by have := HPS.out.2; omega, hS11⟩
                    · have f3 := eq_f e3
                      clear e0 e1 e2 e3 hln9 hr9 x09
                      go_wp2_with fail
                      go_ret2
                      exact ⟨n, _, _, _, _, rfl, Hf.out, HXB.out, by omega, by omega, h9.mono (by omega)⟩
end Go.Proofs.Ytgflhgkcmfjkgaa
end
