/- The texts of this claim, run 13: Rv6 DsF DsH PDg PDi DsK PSy PAf Pn4 LRes Prf PFnResolutions. -/
import Derived.Test.YtljemlfocajhnaaGreatK1
import Derived.Test.YtljemlfocajhnaaGreatK4
import Derived.Test.YtljemlfocajhnaaGreatK5
import Derived.Test.YtljemlfocajhnaaGreatK6
import Derived.Test.YtljemlfocajhnaaGreatK7
import Derived.Test.YtljemlfocajhnaaGreatK8
import Derived.Test.YtljemlfocajhnaaGreatK10
import Derived.Test.YtljemlfocajhnaaGreatK11
import Derived.Test.YtljemlfocajhnaaGreatK12
import Derived.Deep.CutRange
import Derived.Deep.RegionHeld3
import Derived.Deep.DrawnRows
import Derived.Shelf.SlicesG.CompactI
import Derived.Sort.OwnSortedInts
import Derived.ProofKit
import Derived.OpenShut
import Derived.ShutString
import Derived.ChangeOld
import Derived.Below
section
/- Walks: ResolveDesign of the program. -/
namespace Go.Proofs.YtljemlfocajhnaaGreat
set_option linter.unusedSimpArgs false
set_option linter.unusedVariables false
open Go.RowKit
attribute [local go_sem ↓] Go.wp_at_zero Go.wp_at_succ

/-- a resolution; or none, if there is none; or no answer -/
def RvP (P : Int) (A : List (List Int)) (w : World) (e : Ending) (w' : World) : Prop :=
  ∃ (v : Value) (us : List Value) (X : List (List Int)) (k : Int), e = .returned (.tuple #[v, .int .i64 k]) ∧ RII w' v us X ∧ St w.heap.size w w' [] ∧
    ((k = 0 ∧ ∃ n : Nat, P = n ∧ ResH n A (clsT A X) X) ∨ (k = 3 ∧ X = [] ∧ dOk P A = true ∧ ∃ n : Nat, P = n ∧ ¬ Cmp n A []) ∨ (k ≠ 0 ∧ k ≠ 3 ∧ X = []))
theorem RvP.no {P : Int} {A : List (List Int)} {w w' : World} {L : List Ent} {k : Int} (h0 : k ≠ 0) (h3 : k ≠ 3) (h : St w.heap.size w w' L) : RvP P A w (.returned (.tuple #[.slice none 0 0, .int .i64 k])) w' :=
  ⟨_, [], [], k, rfl, ⟨Rd.nil _, rfl, fun j hj => by simp at hj⟩, h.out, .inr (.inr ⟨h0, h3, rfl⟩)⟩
theorem isBudget_c (n : Int) (w : World) : Calls Tryz.prog 13 #[.int .i64 n] w fun e w' => e = .returned (.bool (inB n 1 20000)) ∧ w = w' := by
  have K := Lib.hid (within_c n 1 20000 w)
  go_enter Tryz.func13, Tryz.ntmps13
  go_wp2_with fail
  refine K.out.mono ?_
  rintro e w1 ⟨rfl, hw⟩
  subst hw
  go_wp2_with fail
  go_ret
  exact ⟨rfl, rfl⟩
/-- the first j classes sorted -/
def srtK (C : List (List Int)) (j : Nat) : List (List Int) := srtX (C.take j) ++ C.drop j
theorem srtK_len (C : List (List Int)) (j : Nat) : (srtK C j).length = C.length := by
  unfold srtK; rw [List.length_append, srtX_len, ← List.length_append, List.take_append_drop]
theorem srtK_at {C : List (List Int)} {j : Nat} (h : j < C.length) : xat (srtK C j) j = xat C j := by
  unfold srtK xat
  rw [List.getD_eq_getElem?_getD, List.getElem?_append_right (by rw [srtX_len, List.length_take]; omega), srtX_len, List.length_take, List.getElem?_drop]
  rw [show j + (j - min j C.length) = j by omega, List.getD_eq_getElem?_getD]
theorem srtK_set {C : List (List Int)} {j : Nat} (h : j < C.length) : (srtK C j).set j (srt (xat C j)) = srtK C (j + 1) := by
  unfold srtK
  have hl : (srtX (C.take j)).length = j := by rw [srtX_len, List.length_take]; omega
  rw [List.set_append_right _ _ (by omega), hl, Nat.sub_self, drop_xat h, List.set_cons_zero, take_xat h, srtX, srtX, List.map_append, List.append_assoc]
  rfl
theorem srtK_all (C : List (List Int)) : srtK C C.length = srtX C := by unfold srtK; simp
theorem rowsI_rowV {us : List Value} {R : List (List Int)} (hl : us.length = R.length) {j : Nat} (hj : j < R.length) (r : List Int) : (rowsI us R).set j (row 2 (vat us j) (iv r)) = rowsI us (R.set j r) := by
  rw [rowsI_putP hl hj]
  congr 1
  refine List.ext_getElem (by simp) fun i h1 h2 => ?_
  rw [List.getElem_set]
  split
  · rename_i e; subst e; exact vat_eq h2
  · rfl
theorem rvL_row {g : Nat} {left : Int} {sp : Bool} {P : Int} {vB vU vC vK : Value} {U K : List Bool} {uc : List Value} {C : List (List Int)} {L : List Ent} (hl : uc.length = C.length) {j : Nat} (hj : j < C.length) (r : List Int) :
    (rvL g left sp P vB vU vC vK U K uc C L).set (j + 4) (row 2 (vat uc j) (iv r)) = rvL g left sp P vB vU vC vK U K uc (C.set j r) L := by
  unfold rvL
  rw [List.set_cons_succ, List.set_cons_succ, List.set_cons_succ, own2, own2, List.cons_append, List.set_cons_succ, List.set_append_left _ _ (by rw [rowsI_len hl]; exact hj), rowsI_rowV hl hj]
  rfl
theorem rv_box {w0 w' : World} {b : Ent} {vU : Value} {U : List Bool} (bud n : Int) (vB : Value) (h : St w0.heap.size w0 w' ([b] ++ [row 4 vU (bo U)])) :
    St w0.heap.size w0 (w'.alloc (.cells #[.int .i64 bud, .bool false, .int .i64 n, vB, vU, .slice none 0 0, .slice none 0 0] 44)) (rvL w'.heap.size bud false n vB vU (.slice none 0 0) (.slice none 0 0) U [] [] [] [b]) := by
  have h2 := ((h.newboxF 44 #[.int .i64 bud, .bool false, .int .i64 n, vB, vU, .slice none 0 0, .slice none 0 0]).newnil 4).newnil 46
  refine h2.perm ?_
  show List.Perm _ [_, _, _, _, b]
  simp only [List.cons_append, List.nil_append]
  refine List.Perm.cons _ ?_
  exact (List.perm_append_comm (l₁ := [b]) (l₂ := [_, _, _]))
def CutR (w : World) (bud n : Int) (vB : Value) (U : List Bool) (s6 : Value) (w' : World) : Prop := ∃ (g : Nat) (va : Option Addr) (vc : Nat) (L : List Ent), s6 = .pointer (some ⟨g, 0, none⟩) ∧ St w.heap.size w w' (rvL g bud false n vB (.slice va U.length vc) (.slice none 0 0) (.slice none 0 0) U [] [] [] L)
set_option maxHeartbeats 32000000 in
set_option maxRecDepth 100000 in
theorem ResolveDesign_c (P bud : Int) (v : Value) (us : List Value) (A : List (List Int)) (w : World) (hv : RII w v us A) :
    Calls Tryz.prog 6 #[dv P v, .int .i64 bud] w (RvP P A w) := by
  obtain ⟨a, c, hsh⟩ := hv.1.sl.sh
  rw [hv.2.1] at hsh
  subst hsh
  have hS0 := (St.refl w).newboxF 26 #[.int .i64 P, .slice a A.length c]
  have b0 := hS0.bcell 0 rfl 0 rfl
  have b1 := hS0.bcell 0 rfl 1 rfl
  have KV := Lib.hid (ValidDesign_c P (.slice a A.length c) us A _ (hS0.oldII hv))
  have KB := Lib.hid (fun W => isBudget_c bud W)
  have Hv := Lib.hid hv
  have hlnA := hv.len
  unfold dv at KV ⊢
  clear hv
  cases hok : dOk P A
  · rw [hok] at KV
    clear hok
    go_enter Tryz.func6, Tryz.ntmps6
    go_wp2_with fail
    refine KV.out.mono ?_
    rintro e w1 ⟨rfl, h1⟩
    have hS1 := hS0.call0 h1
    clear hS0 h1 b0 b1
    go_wp2_with fail
    go_ret2
    exact RvP.no (by decide) (by decide) hS1
  rw [hok] at KV
  obtain ⟨n, rfl⟩ := Int.eq_ofNat_of_zero_le (show 0 ≤ P by have := (dOk_t hok).pos; omega)
  have HD := Lib.hid (Dsg.of hok)
  have Hok := Lib.hid hok
  clear hok
  cases hbd : inB bud 1 20000
  · rw [hbd] at KB
    clear hbd
    go_enter Tryz.func6, Tryz.ntmps6
    go_wp2_with fail
    refine KV.out.mono ?_
    rintro e w1 ⟨rfl, h1⟩
    have hS1 := hS0.call0 h1
    clear hS0 h1 b0 b1
    go_wp2_with fail
    refine (KB.out _).mono ?_
    rintro e w2 ⟨rfl, hw⟩
    subst hw
    go_wp2_with fail
    go_ret2
    exact RvP.no (by decide) (by decide) hS1
  · rw [hbd] at KB
    clear hbd
    have hA128 := HD.out.len
    have hmO := fun W => run_mkO A.length (by omega) W
    go_enter Tryz.func6, Tryz.ntmps6
    go_wp2_with fail
    refine KV.out.mono ?_
    rintro e w1 ⟨rfl, h1⟩
    have hS1 := hS0.call0 h1
    clear hS0 h1 b0 b1
    go_wp2_with fail
    refine (KB.out _).mono ?_
    rintro e w2 ⟨rfl, hw⟩
    subst hw
    have b0 := hS1.bcell 0 rfl 0 rfl
    have b1 := hS1.bcell 0 rfl 1 rfl
    have hS := hS1.drew
    go_wp2_with fail
    go_cut [6] from 16 to 24 (fun s6 w' => CutR w bud n (.slice a A.length c) (List.replicate A.length false) s6 w')
    case first =>
      refine regionG (fun w' => w'.cell? ⟨w.heap.size, 0, none⟩ = some (.int .i64 n) ∧ w'.cell? ⟨w.heap.size, 1, none⟩ = some (.slice a A.length c)) 8 (by kernel_rfl) ⟨cell_dr b0, cell_dr b1⟩ (fun hHeld => ?_)
      refine takeP (i := 0) (v := ?_) rfl (by kernel_rfl) (fun _ _ _ h => h) (by rfl) ?_ (by assumption) ?_
      case refine_2 => (intro w'; go_simp; first | done | with_reducible rfl)
      try simp only [Act.put, List.setIfInBounds_toArray, List.set_cons_zero, List.set_cons_succ]
      refine takeP (i := 1) (v := ?_) rfl (by kernel_rfl) (fun _ _ _ h => h) (by rfl) ?_ (by assumption) ?_
      case refine_2 => (intro w'; go_simp; first | done | with_reducible rfl)
      try simp only [Act.put, List.setIfInBounds_toArray, List.set_cons_zero, List.set_cons_succ]
      refine takeH (i := 2) [7] (v := ?_) rfl (by kernel_rfl) (fun _ _ _ h => h) (by rfl) ?_ (by assumption) ?_
      case refine_2 => (intro w' hSw; (try dsimp only at hSw); go_simp; first | done | with_reducible rfl)
      try simp only [Act.put, List.setIfInBounds_toArray, List.set_cons_zero, List.set_cons_succ]
      refine takeP (i := 3) (v := ?_) rfl (by kernel_rfl) (fun _ _ _ h => h) (by rfl) ?_ (by assumption) ?_
      case refine_2 => (intro w'; go_simp; first | done | with_reducible rfl)
      try simp only [Act.put, List.setIfInBounds_toArray, List.set_cons_zero, List.set_cons_succ]
      refine takeH (i := 4) [5, 6, 7] (v := ?_) rfl (by kernel_rfl) (fun _ _ _ h => h) (by rfl) ?_ (by assumption) ?_
      case refine_2 => (intro w' hSw; (try dsimp only at hSw); go_simp; first | done | with_reducible rfl)
      try simp only [Act.put, List.setIfInBounds_toArray, List.set_cons_zero, List.set_cons_succ]
      refine takeP (i := 5) (v := ?_) rfl (by kernel_rfl) (fun _ _ _ h => h) (by rfl) ?_ (by assumption) ?_
      case refine_2 => (intro w'; go_simp; first | done | with_reducible rfl)
      try simp only [Act.put, List.setIfInBounds_toArray, List.set_cons_zero, List.set_cons_succ]
      refine readyG (rs := [6]) (by kernel_rfl) (by simp) ?_
      refine AllG.cons rfl (fun Q9 hK => ?_) AllG.nil
      go_simp
      refine hK.out _ _ ⟨cell_al hHeld.1, cell_al hHeld.2⟩ (fun hHeld2 => ?_)
      clear hK Q9
      try simp only [Act.put, List.setIfInBounds_toArray, List.set_cons_zero, List.set_cons_succ]
      have hS6 := hS.madeO A.length (by omega)
      refine takeP (i := 7) (v := ?_) rfl (by kernel_rfl) (fun _ _ _ h => h) (by rfl) ?_ (by assumption) ?_
      case refine_2 => (intro w'; go_simp; first | done | with_reducible rfl)
      try simp only [Act.put, List.setIfInBounds_toArray, List.set_cons_zero, List.set_cons_succ]
      refine readyG (rs := [8]) (by kernel_rfl) (by simp) ?_
      refine AllG.last rfl (by kernel_rfl) (fun Q9 hK => ?_) AllG.nil
      go_simp
      refine hK.out _ _ ?_
      clear hK Q9
      try simp only [Act.put, List.setIfInBounds_toArray, List.set_cons_zero, List.set_cons_succ]
      have hS8 := rv_box bud n (.slice a A.length c) hS6
      refine readyG (rs := [9]) (by kernel_rfl) (by simp) ?_
      refine AllG.last rfl (by kernel_rfl) (fun Q9 hK => ?_) AllG.nil
      go_simp
      refine hK.out _ _ ?_
      clear hK Q9
      try simp only [Act.put, List.setIfInBounds_toArray, List.set_cons_zero, List.set_cons_succ]
      refine doneG (by kernel_rfl) ?_ _
      refine NoPanic.normal ?_
      have hS9 : CutR w bud n (.slice a A.length c) (List.replicate A.length false) (.pointer (some ⟨w1.heap.size + 1, 0, none⟩)) _ := ⟨_, _, _, _, rfl, by
        have := hS8
        simp only [World.size_alloc] at this
        rw [List.length_replicate]
        exact this⟩
      clear hS8 hS6
      go_wp2_with fail
      go_meet
      case rel => exact hS9
    case rest =>
      clear hS hS1 b0 b1 hmO
      obtain ⟨g, va, vc, L, rfl, hS⟩ := hcut
      have hR0 : RsB n A (List.replicate A.length false) [] := ⟨List.length_replicate, fun d hd => by simp at hd, by simp, fun i hi => by rw [bat_rep]; simp, fun d hd => by simp at hd⟩
      have KG := Lib.hid ((srch g n a c us A w Hv.out HD.out _).1 (List.replicate A.length false) (Nat.le_refl _) bud false (.slice va (List.replicate A.length false).length vc) (.slice none 0 0) (.slice none 0 0) [] [] [] L wc hR0 rfl hS)
      clear hR0 hS
      go_wp2_with fail
      refine KG.out.mono ?_
      clear KG
      rintro e w5 ⟨b5, l5, s5, rfl, _, ⟨rfl, hwon⟩ | ⟨rfl, hlost, vC5, uc5, hl5, h5⟩⟩
      · obtain ⟨l6, s6, vU, vC, vK, U, K, uc, C, hR, hall, hlu, hS⟩ := hwon
        have Hlu := Lib.hid hlu
        have HRes := Lib.hid (hR.res hall Hok.out)
        have hCl := hR.bd HD.out.p1
        have hcb := Lib.hid (fun r (hr : r < C.length) => (show (xat C r).length < 4611686018427387904 from by
          have hnd : (xat C r).Nodup := by
            have := hR.nd
            rw [List.nodup_iff_pairwise_ne, List.pairwise_flatten] at this
            rw [List.nodup_iff_pairwise_ne]
            exact this.1 _ (xat_mem hr)
          have := flat_le (A := A) hnd (fun z hz => hR.idx _ (xat_mem hr) z hz)
          omega))
        have q1 := hS.bcell 0 rfl 1 rfl
        have q5 := hS.bcell 0 rfl 5 rfl
        clear hR hall hlu
        cases s6
        · have hlnC := run_len_sl (P := Tryz.prog) (hS.rd 3 (e := 46) (v := vC) (us := uc) rfl).sl 24 3 Tryz.und_iss
          have xC := run_ix_sl (P := Tryz.prog) (hS.rd 3 (e := 46) (v := vC) (us := uc) rfl).sl 24 Tryz.und_iss Tryz.size_is
          rw [Hlu.out] at hlnC xC
          have hS0 : St w.heap.size w w5 (rvL g l6 false n (.slice a A.length c) vU vC vK U K uc (srtK C 0) []) := hS
          clear hS
          go_wp2_with fail
          clear q1 q5
          go_loopw [41, 9] (fun ji _ wr => ∃ j : Nat, ji = .int .i64 j ∧ j ≤ C.length ∧ St w.heap.size w wr (rvL g l6 false n (.slice a A.length c) vU vC vK U K uc (srtK C j) [])) (fun ji _ _ => C.length - (intOf ji).toNat)
          case atStart => exact ⟨0, rfl, by omega, hS0⟩
          case round =>
            clear hS0
            obtain ⟨j, rfl, hj, hS⟩ := hrel
            by_cases hjC : j < C.length
            · have hji : (j : Int) < (C.length : Int) := by omega
              have xj : ∀ W, (Instr.indexAt 24 vC (.int .i64 (j : Int))).run Tryz.prog W = .ok (.pointer (some (el vC j))) W := fun W => by
                have := xC .i64 (j : Int) (by omega) (by omega) W
                rwa [Int.toNat_natCast] at this
              have cj : wr.cell? (el vC j) = some (vat uc j) := (hS.rd 3 (e := 46) (v := vC) (us := uc) rfl).cell (by rw [Hlu.out]; exact hjC)
              have hat := rvL_at (g := g) (left := l6) (sp := false) (P := (n : Int)) (vB := .slice a A.length c) (vU := vU) (vC := vC) (vK := vK) (U := U) (K := K) (uc := uc) (C := srtK C j) (L := []) (by rw [srtK_len]; exact Hlu.out) (j := j) (by rw [srtK_len]; exact hjC)
              have Hrow := Lib.hid (fun r => rvL_row (g := g) (left := l6) (sp := false) (P := (n : Int)) (vB := .slice a A.length c) (vU := vU) (vC := vC) (vK := vK) (U := U) (K := K) (uc := uc) (C := srtK C j) (L := []) (by rw [srtK_len]; exact Hlu.out) (j := j) (by rw [srtK_len]; exact hjC) r)
              rw [srtK_at hjC] at hat
              have KS := Lib.hid (Sort_c hS (j + 4) hat (hcb.out j hjC))
              have Hst := Lib.hid (srtK_set hjC)
              clear hat hS
              go_wp2_with fail
              refine KS.out.mono ?_
              clear KS cj
              rintro e w6 ⟨rfl, h6⟩
              rw [Hrow.out, Hst.out] at h6
              go_wp2_with fail
              go_roundw
              case rel => exact ⟨j + 1, by go_num, by omega, h6⟩
              case measure => simp [intOf]; omega
            · obtain rfl : j = C.length := by omega
              rw [srtK_all] at hS
              have q5 := hS.bcell 0 rfl 5 rfl
              have rX := Lib.hid ((hS.sub (L' := own2 vC uc (srtX C)) (by unfold rvL; rw [List.append_nil]; exact ((List.sublist_cons_self _ _).trans (List.sublist_cons_self _ _)).trans (List.sublist_cons_self _ _))).rii (by rw [srtX_len]; exact Hlu.out))
              have HO := Lib.hid hS.out
              clear hS
              go_wp2_with fail
              go_ret2
              exact ⟨vC, uc, srtX C, 0, rfl, rX.out, HO.out, .inl ⟨rfl, n, rfl, HRes.out⟩⟩
        · have HO := Lib.hid hS.out
          clear hS
          go_wp2_with fail
          go_ret2
          exact RvP.no (by decide) (by decide) HO.out
      · have q1 := h5.bcell 0 rfl 1 rfl
        have HO := Lib.hid h5.out
        have Hlost := Lib.hid hlost
        clear h5 hlost
        cases s5
        · go_wp2_with fail
          go_ret2
          exact ⟨_, [], [], 3, rfl, ⟨Rd.nil _, rfl, fun j hj => by simp at hj⟩, HO.out, .inr (.inl ⟨rfl, rfl, Hok.out, n, rfl, Hlost.out (by first | rfl | trivial)⟩)⟩
        · go_wp2_with fail
          go_ret2
          exact RvP.no (by decide) (by decide) HO.out
end Go.Proofs.YtljemlfocajhnaaGreat
end

section
/- Walks: incidence matrices; sorted designs; numbers of pairs and replications, with codes. -/
namespace Go.Proofs.YtljemlfocajhnaaGreat
set_option linter.unusedSimpArgs false
set_option linter.unusedVariables false
open Go.RowKit
attribute [local go_sem ↓] Go.wp_at_zero Go.wp_at_succ

theorem xat_setA {M : List (List Int)} {j t : Nat} {r : List Int} (h : j < M.length) : xat (M.set j r) t = if j = t then r else xat M t := by
  unfold xat
  rw [List.getD_eq_getElem?_getD, List.getElem?_set]
  split
  · rename_i e; subst e; simp [h]
  · simp
theorem nth_setA {r : List Int} {j t : Nat} {x : Int} (h : j < r.length) : nth (r.set j x) t = if j = t then x else nth r t := by
  unfold nth
  rw [List.getD_eq_getElem?_getD, List.getElem?_set]
  split
  · rename_i e; subst e; simp [h]
  · simp
def incC (A : List (List Int)) (k j x c : Nat) : Prop := (c < k ∧ (x : Int) ∈ xat A c) ∨ (c = k ∧ (x : Int) ∈ (xat A k).take j)
open Classical in
structure IncS (P : Nat) (A : List (List Int)) (k j : Nat) (M : List (List Int)) : Prop where
  len : M.length = P
  row : ∀ x, x < P → (xat M x).length = A.length
  at' : ∀ x c, x < P → c < A.length → nth (xat M x) c = if incC A k j x c then 1 else 0
theorem IncS.start (P : Nat) (A : List (List Int)) : IncS P A 0 0 (List.replicate P (List.replicate A.length 0)) := by
  have hx : ∀ x, x < P → xat (List.replicate P (List.replicate A.length (0 : Int))) x = List.replicate A.length 0 := fun x hx => by rw [xat_eq (by simpa using hx)]; simp
  refine ⟨by simp, fun x h => by rw [hx x h]; simp, fun x c h hc => ?_⟩
  rw [hx x h, if_neg, nth_eq (by simpa using hc)]
  · simp
  · rintro (⟨h1, _⟩ | ⟨_, h1⟩)
    · omega
    · simp at h1
theorem IncS.step {P : Nat} {A : List (List Int)} {k j x : Nat} {M : List (List Int)} (h : IncS P A k j M) (hk : k < A.length) (hj : j < (xat A k).length) (hx : nth (xat A k) j = x) (hxP : x < P) : IncS P A k (j + 1) (M.set x ((xat M x).set k 1)) := by
  have hm := fun y : Nat => mem_take1 hj (y : Int)
  refine ⟨by rw [List.length_set]; exact h.len, fun y hy => ?_, fun y c hy hc => ?_⟩
  · rw [xat_setA (by rw [h.len]; exact hxP)]
    split
    · rw [List.length_set]; exact h.row x hxP
    · exact h.row y hy
  · have hiff : incC A k (j + 1) y c ↔ incC A k j y c ∨ (c = k ∧ y = x) := by
      unfold incC
      rw [hm y, hx]
      constructor
      · rintro (h1 | ⟨h1, h2 | h2⟩)
        · exact .inl (.inl h1)
        · exact .inl (.inr ⟨h1, h2⟩)
        · exact .inr ⟨h1, by omega⟩
      · rintro ((h1 | ⟨h1, h2⟩) | ⟨h1, h2⟩)
        · exact .inl h1
        · exact .inr ⟨h1, .inl h2⟩
        · exact .inr ⟨h1, .inr (by rw [h2])⟩
    rw [xat_setA (by rw [h.len]; exact hxP)]
    by_cases e : x = y
    · subst e
      rw [if_pos rfl, nth_setA (by rw [h.row x hxP]; exact hk)]
      by_cases e2 : k = c
      · subst e2; rw [if_pos rfl, if_pos (hiff.2 (.inr ⟨rfl, rfl⟩))]
      · rw [if_neg e2, h.at' x c hxP hc]
        by_cases hcc : incC A k j x c
        · rw [if_pos hcc, if_pos (hiff.2 (.inl hcc))]
        · rw [if_neg hcc, if_neg (fun h' => (hiff.1 h').elim hcc (fun h2 => e2 h2.1.symm))]
    · rw [if_neg e, h.at' y c hy hc]
      by_cases hcc : incC A k j y c
      · rw [if_pos hcc, if_pos (hiff.2 (.inl hcc))]
      · rw [if_neg hcc, if_neg (fun h' => (hiff.1 h').elim hcc (fun h2 => e h2.2.symm))]
theorem IncS.next {P : Nat} {A : List (List Int)} {k : Nat} {M : List (List Int)} (h : IncS P A k (xat A k).length M) : IncS P A (k + 1) 0 M := by
  refine ⟨h.len, h.row, fun x c hx hc => ?_⟩
  have hiff : incC A k (xat A k).length x c ↔ incC A (k + 1) 0 x c := by
    unfold incC
    rw [List.take_length]
    constructor
    · rintro (⟨h1, h2⟩ | ⟨h1, h2⟩)
      · exact .inl ⟨by omega, h2⟩
      · exact .inl ⟨by omega, by rw [h1]; exact h2⟩
    · rintro (⟨h1, h2⟩ | ⟨_, h2⟩)
      · by_cases e : c = k
        · exact .inr ⟨e, by rw [← e]; exact h2⟩
        · exact .inl ⟨by omega, h2⟩
      · simp at h2
  rw [h.at' x c hx hc]
  by_cases hcc : incC A k (xat A k).length x c
  · rw [if_pos hcc, if_pos (hiff.1 hcc)]
  · rw [if_neg hcc, if_neg (fun h' => hcc (hiff.2 h'))]
end Go.Proofs.YtljemlfocajhnaaGreat
end

section
/- Walks: the design of an incidence matrix. -/
namespace Go.Proofs.YtljemlfocajhnaaGreat
set_option linter.unusedSimpArgs false
set_option linter.unusedVariables false
open Go.RowKit
attribute [local go_sem ↓] Go.wp_at_zero Go.wp_at_succ

/-- the points below y -/
def blw (b : List Int) (y : Nat) : List Int := b.filter fun z => decide (z < (y : Int))
theorem blw_step {b : List Int} (hp : b.Pairwise (· < ·)) (x : Nat) : blw b (x + 1) = blw b x ++ if (x : Int) ∈ b then [(x : Int)] else [] := by
  induction b with
  | nil => rfl
  | cons a r ih =>
    obtain ⟨h1, h2⟩ := List.pairwise_cons.1 hp
    have ih := ih h2
    unfold blw at ih ⊢
    rcases Int.lt_trichotomy a (x : Int) with h | h | h
    · rw [List.filter_cons_of_pos (by simp; omega), List.filter_cons_of_pos (by simp; omega), ih]
      have : ((x : Int) ∈ a :: r) ↔ (x : Int) ∈ r := by
        rw [List.mem_cons]; constructor
        · rintro (e | e)
          · omega
          · exact e
        · exact .inr
      simp only [this, List.cons_append]
    · have hnr : (x : Int) ∉ r := fun hm => by have := h1 _ hm; omega
      have e0 : r.filter (fun z => decide (z < (x : Int))) = [] := by
        rw [List.filter_eq_nil_iff]; intro z hz; have := h1 z hz; simp; omega
      rw [if_neg hnr, e0] at ih
      rw [List.filter_cons_of_pos (by simp; omega), List.filter_cons_of_neg (by simp; omega), e0, ih, if_pos (by rw [h]; exact List.mem_cons_self), h]; rfl
    · have hnr : (x : Int) ∉ a :: r := fun hm => by
        rcases List.mem_cons.1 hm with e | hm
        · omega
        · have := h1 _ hm; omega
      have e0 : ∀ y : Int, y ≤ a → r.filter (fun z => decide (z < y)) = [] := fun y hy => by
        rw [List.filter_eq_nil_iff]; intro z hz; have := h1 z hz; simp; omega
      rw [List.filter_cons_of_neg (by simp; omega), List.filter_cons_of_neg (by simp; omega), e0 _ (by omega), e0 _ (by omega), if_neg hnr]; rfl
theorem blw_all {P : Nat} {b : List Int} (h : Inc P b) : blw b P = b := by
  unfold blw
  rw [List.filter_eq_self]
  intro z hz
  obtain ⟨j, hj, rfl⟩ := List.getElem_of_mem hz
  have := (h.bd j hj).2
  rw [nth_eq hj] at this
  simpa using this
theorem blw_0 {P : Nat} {b : List Int} (h : Inc P b) : blw b 0 = [] := by
  unfold blw
  rw [List.filter_eq_nil_iff]
  intro z hz
  obtain ⟨j, hj, rfl⟩ := List.getElem_of_mem hz
  have := (h.bd j hj).1
  rw [nth_eq hj] at this
  simp; omega
/-- the blocks behind x rows and k places -/
structure BlS (A : List (List Int)) (x k : Nat) (M : List (List Int)) : Prop where
  len : M.length = A.length
  at' : ∀ c, c < A.length → xat M c = blw (xat A c) (x + if c < k then 1 else 0)
theorem incB_pw2 {P : Nat} {b : List Int} (h : Inc P b) : b.Pairwise (· < ·) := by
  rw [List.pairwise_iff_getElem]
  intro i j hi hj hij
  have := h.lt i j hij hj
  rwa [nth_eq hi, nth_eq hj] at this
theorem BlS.start {P : Nat} {A : List (List Int)} (hD : DOk P A) : BlS A 0 0 (List.replicate A.length []) :=
  ⟨by simp, fun c hc => by rw [xat_eq (by simpa using hc)]; simp [blw_0 (hD.inc' hc)]⟩
theorem BlS.no {P : Nat} {A : List (List Int)} {x k : Nat} {M : List (List Int)} (h : BlS A x k M) (hD : DOk P A) (hk : k < A.length) (hx : (x : Int) ∉ xat A k) : BlS A x (k + 1) M :=
  ⟨h.len, fun c hc => by
    rw [h.at' c hc]
    by_cases e : k = c
    · subst e
      rw [if_neg (by omega), if_pos (by omega), Nat.add_zero, blw_step (incB_pw2 (hD.inc' hk)), if_neg hx, List.append_nil]
    · congr 1
      by_cases h2 : c < k
      · rw [if_pos h2, if_pos (by omega)]
      · rw [if_neg h2, if_neg (by omega)]⟩
theorem BlS.next {A : List (List Int)} {x : Nat} {M : List (List Int)} (h : BlS A x A.length M) : BlS A (x + 1) 0 M :=
  ⟨h.len, fun c hc => by rw [h.at' c hc, if_pos hc, if_neg (by omega)]⟩
end Go.Proofs.YtljemlfocajhnaaGreat
end

section
/- Plain: sums of the numbers of points and pairs; images of designs. -/
namespace Go.Proofs.YtljemlfocajhnaaGreat
set_option linter.unusedSimpArgs false
set_option linter.unusedVariables false

theorem sumL_cat : ∀ a b : List Int, sumL (a ++ b) = sumL a + sumL b
  | [], b => by simp [sumL]
  | x :: r, b => by rw [List.cons_append, sumL, sumL, sumL_cat r b]; omega
theorem sumL_add {α : Type} (f g : α → Int) : ∀ l : List α, sumL (l.map fun x => f x + g x) = sumL (l.map f) + sumL (l.map g)
  | [] => rfl
  | x :: r => by simp only [List.map_cons, sumL]; rw [sumL_add f g r]; omega
def indP (b : List Int) (x : Nat) : Int := if (x : Int) ∈ b then 1 else 0
theorem blw_ind {b : List Int} (hp : b.Pairwise (· < ·)) (x : Nat) : ((blw b (x + 1)).length : Int) = (blw b x).length + indP b x := by
  rw [blw_step hp, List.length_append]
  unfold indP
  split <;> simp
theorem ind_sum {P : Nat} {b : List Int} (h : Inc P b) : ∀ y, sumL ((List.range y).map (indP b)) = (blw b y).length
  | 0 => by rw [blw_0 h]; rfl
  | y + 1 => by rw [List.range_succ, List.map_append, sumL_cat, ind_sum h y, blw_ind (incB_pw2 h)]; simp [sumL]
end Go.Proofs.YtljemlfocajhnaaGreat
end

section
/- Plain: images of balanced designs have the same parameters. -/
namespace Go.Proofs.YtljemlfocajhnaaGreat
set_option linter.unusedSimpArgs false
set_option linter.unusedVariables false
section
variable {p : List Int} {P : Nat} {b : List Int}
end
section
variable {p : List Int} {P : Nat} {A : List (List Int)}
theorem parF_symm (A : List (List Int)) (x y : Nat) : parF A x y = parF A y x := by
  unfold parF; congr 1; funext b; rw [Bool.and_comm]
theorem parL_mem {P : Nat} {A : List (List Int)} {c : Int} : c ∈ parL P A ↔ ∃ x y, x < y ∧ y < P ∧ c = parF A x y := by
  unfold parL
  simp only [List.mem_flatten, List.mem_map, List.mem_range]
  constructor
  · rintro ⟨l, ⟨x, hx, rfl⟩, hc⟩
    unfold parR at hc
    simp only [List.mem_map, List.mem_range] at hc
    obtain ⟨t, ht, rfl⟩ := hc
    exact ⟨x, x + 1 + t, by omega, by omega, rfl⟩
  · rintro ⟨x, y, hxy, hy, rfl⟩
    refine ⟨parR P A x, ⟨x, by omega, rfl⟩, ?_⟩
    unfold parR
    simp only [List.mem_map, List.mem_range]
    exact ⟨y - (x + 1), by omega, by rw [show x + 1 + (y - (x + 1)) = y by omega]⟩
end
end Go.Proofs.YtljemlfocajhnaaGreat
end

section
/- Walks: dual designs of the program. -/
namespace Go.Proofs.YtljemlfocajhnaaGreat
set_option linter.unusedSimpArgs false
set_option linter.unusedVariables false
open Go.RowKit
attribute [local go_sem ↓] Go.wp_at_zero Go.wp_at_succ

/-- the numbers of the first k blocks that hold the point x -/
def dua (A : List (List Int)) (x : Nat) : Nat → List Int
  | 0 => []
  | k + 1 => dua A x k ++ if (x : Int) ∈ xat A k then [(k : Int)] else []
def duP (A : List (List Int)) (k j x : Nat) : List Int := dua A x k ++ if (x : Int) ∈ (xat A k).take j then [(k : Int)] else []
structure DuS (P : Nat) (A : List (List Int)) (k j : Nat) (M : List (List Int)) : Prop where
  len : M.length = P
  at' : ∀ x, x < P → xat M x = duP A k j x
theorem DuS.start (P : Nat) (A : List (List Int)) : DuS P A 0 0 (List.replicate P []) :=
  ⟨by simp, fun x hx => by rw [xat_eq (by simpa using hx)]; simp [duP, dua]⟩
theorem DuS.step {P : Nat} {A : List (List Int)} {k j x : Nat} {M : List (List Int)} (h : DuS P A k j M) (hi : Inc P (xat A k)) (hj : j < (xat A k).length) (hx : nth (xat A k) j = x) (hxP : x < P) : DuS P A k (j + 1) (M.set x (xat M x ++ [(k : Int)])) := by
  refine ⟨by rw [List.length_set]; exact h.len, fun y hy => ?_⟩
  have hm := mem_take1 hj (y : Int)
  rw [hx] at hm
  rw [xat_setA (by rw [h.len]; exact hxP)]
  by_cases e : x = y
  · subst e
    have hf := hi.fresh hj
    rw [hx] at hf
    rw [if_pos rfl, h.at' x hxP]
    unfold duP
    rw [if_neg hf, if_pos (hm.2 (.inr rfl)), List.append_nil]
  · rw [if_neg e, h.at' y hy]
    unfold duP
    by_cases h1 : (y : Int) ∈ (xat A k).take j
    · rw [if_pos h1, if_pos (hm.2 (.inl h1))]
    · rw [if_neg h1, if_neg (fun h2 => (hm.1 h2).elim h1 (fun h3 => e (by omega)))]
theorem DuS.next {P : Nat} {A : List (List Int)} {k : Nat} {M : List (List Int)} (h : DuS P A k (xat A k).length M) : DuS P A (k + 1) 0 M :=
  ⟨h.len, fun x hx => by rw [h.at' x hx]; unfold duP; rw [List.take_length, dua]; simp⟩
end Go.Proofs.YtljemlfocajhnaaGreat
end

section
/- Plain: in a symmetric design any two blocks share as many points; its dual design. -/
namespace Go.Proofs.YtljemlfocajhnaaGreat
set_option linter.unusedSimpArgs false
set_option linter.unusedVariables false

theorem sq_ge0 (x : Int) : 0 ≤ x * x := by
  rcases Int.le_total 0 x with h0 | h0
  · exact Int.mul_nonneg h0 h0
  · exact Int.mul_nonneg_of_nonpos_of_nonpos h0 h0
/-- a sum over numbers below n -/
def sR (n : Nat) (f : Nat → Int) : Int := sumL ((List.range n).map f)
theorem sR_succ (n : Nat) (f : Nat → Int) : sR (n + 1) f = sR n f + f n := by
  unfold sR; rw [List.range_succ, List.map_append, sumL_cat]; simp [sumL]
theorem sR_congr {n : Nat} {f g : Nat → Int} (h : ∀ x, x < n → f x = g x) : sR n f = sR n g := by
  unfold sR; rw [List.map_congr_left fun x hx => h x (List.mem_range.1 hx)]
theorem sR_add (n : Nat) (f g : Nat → Int) : sR n (fun x => f x + g x) = sR n f + sR n g := sumL_add f g _
theorem sR_mul (n : Nat) (c : Int) (f : Nat → Int) : sR n (fun x => c * f x) = c * sR n f := by
  induction n with
  | zero => simp [sR, sumL]
  | succ n ih => rw [sR_succ, sR_succ, ih, Int.mul_add]
theorem sR_const (n : Nat) (c : Int) : sR n (fun _ => c) = n * c := by
  induction n with
  | zero => simp [sR, sumL]
  | succ n ih => rw [sR_succ, ih]; push_cast; rw [Int.add_mul]; omega
theorem sR_swap (n m : Nat) (f : Nat → Nat → Int) : sR n (fun x => sR m (f x)) = sR m (fun y => sR n fun x => f x y) := by
  induction n with
  | zero => rw [show (fun y => sR 0 fun x => f x y) = fun _ => (0 : Int) from rfl, sR_const]; simp [sR, sumL]
  | succ n ih =>
    rw [sR_succ, ih, ← sR_add]
    exact sR_congr fun y _ => (sR_succ n fun x => f x y).symm
theorem sR_nonneg {n : Nat} {f : Nat → Int} (h : ∀ x, x < n → 0 ≤ f x) : 0 ≤ sR n f := by
  induction n with
  | zero => simp [sR, sumL]
  | succ n ih => rw [sR_succ]; have := ih fun x hx => h x (by omega); have := h n (by omega); omega
theorem sR_zero {n : Nat} {f : Nat → Int} (h : ∀ x, x < n → 0 ≤ f x) (hs : sR n f = 0) : ∀ x, x < n → f x = 0 := by
  induction n with
  | zero => intro x hx; omega
  | succ n ih =>
    rw [sR_succ] at hs
    have h1 := sR_nonneg (n := n) (f := f) fun x hx => h x (by omega)
    have h2 := h n (by omega)
    intro x hx
    by_cases e : x = n
    · subst e; omega
    · exact ih (fun x hx => h x (by omega)) (by omega) x (by omega)
/-- a sum of a sum with one term given -/
theorem sR_one {n : Nat} (f : Nat → Int) {i : Nat} (hi : i < n) : sR n (fun x => if x = i then f x else 0) = f i := by
  induction n with
  | zero => omega
  | succ n ih =>
    rw [sR_succ]
    by_cases e : i = n
    · subst e
      rw [if_pos rfl, sR_congr (g := fun _ => 0) fun x hx => if_neg (by omega), sR_const]; simp
    · rw [if_neg (by omega), ih (by omega)]; simp
/-- the number of blocks with a property, as a sum -/
theorem cntD_sR (p : List Int → Bool) (A : List (List Int)) : cntD p A = sR A.length fun i => if p (xat A i) = true then 1 else 0 := by
  have : ∀ k, k ≤ A.length → cntD p (A.take k) = sR k fun i => if p (xat A i) = true then 1 else 0 := by
    intro k
    induction k with
    | zero => intro _; simp [cntD, sR, sumL]
    | succ k ih => intro hk; rw [take_xat (by omega), cntD_snoc, ih (by omega), sR_succ]
  have h := this A.length (Nat.le_refl _)
  rwa [List.take_length] at h
theorem len_sR {P : Nat} {b : List Int} (h : Inc P b) : (b.length : Int) = sR P (indP b) := by
  unfold sR; rw [ind_sum h, blw_all h]
theorem rep_sR (A : List (List Int)) (x : Nat) : repF A x = sR A.length fun i => indP (xat A i) x := by
  unfold repF
  rw [cntD_sR]
  exact sR_congr fun i _ => by unfold indP; simp
theorem par_sR (A : List (List Int)) (x y : Nat) : parF A x y = sR A.length fun i => indP (xat A i) x * indP (xat A i) y := by
  unfold parF
  rw [cntD_sR]
  refine sR_congr fun i _ => ?_
  unfold indP
  by_cases h1 : (x : Int) ∈ xat A i
  · by_cases h2 : (y : Int) ∈ xat A i
    · simp [h1, h2]
    · simp [h1, h2]
  · simp [h1]
theorem indP_sq (b : List Int) (x : Nat) : indP b x * indP b x = indP b x := by unfold indP; split <;> rfl
theorem indP_01 (b : List Int) (x : Nat) : indP b x = 0 ∨ indP b x = 1 := by unfold indP; split <;> simp
/-- the number of points that two blocks share -/
def mI (P : Nat) (A : List (List Int)) (i j : Nat) : Int := sR P fun x => indP (xat A i) x * indP (xat A j) x
/-- what is used of a balanced design -/
structure Bal (P : Nat) (A : List (List Int)) (k lam : Int) : Prop where
  inc : ∀ i, i < A.length → Inc P (xat A i)
  len : ∀ i, i < A.length → ((xat A i).length : Int) = k
  par : ∀ x y, x < P → y < P → x ≠ y → parF A x y = lam
theorem Bal.rep {P : Nat} {A : List (List Int)} {k lam : Int} (h : Bal P A k lam) {x : Nat} (hx : x < P) : repF A x * (k - 1) = lam * (P - 1) := by
  -- sum over y of the numbers of blocks on x and y, in two ways
  have e1 : sR P (fun y => parF A x y) = lam * (P - 1) + repF A x := by
    have : sR P (fun y => parF A x y) = sR P fun y => lam + (if y = x then repF A y - lam else 0) := sR_congr fun y hy => by
      by_cases e : y = x
      · subst e
        rw [if_pos rfl, par_sR, rep_sR, sR_congr fun i _ => indP_sq (xat A i) y]; omega
      · rw [if_neg e, h.par x y hx hy (fun e' => e e'.symm)]; omega
    rw [this, sR_add, sR_const, sR_one (fun y => repF A y - lam) hx]
    grind
  have e2 : sR P (fun y => parF A x y) = repF A x * k := by
    rw [sR_congr fun y _ => par_sR A x y, sR_swap]
    rw [sR_congr (g := fun i => k * indP (xat A i) x) fun i hi => by
      rw [sR_mul P (indP (xat A i) x) (indP (xat A i)), ← len_sR (h.inc i hi), h.len i hi, Int.mul_comm], sR_mul, ← rep_sR, Int.mul_comm]
  rw [e2] at e1
  grind
/-- in a symmetric balanced design every point lies in k blocks -/
theorem Bal.repk {P : Nat} {A : List (List Int)} {k lam : Int} (h : Bal P A k lam) (hk : 2 ≤ k) (hs : A.length = P) (hP : 2 ≤ P) : ∀ x, x < P → repF A x = k := by
  -- all points lie in as many blocks, and b k = v r
  have hall : ∀ x, x < P → repF A x = repF A 0 := fun x hx => by
    have h1 := h.rep hx
    have h2 := h.rep (x := 0) (by omega)
    have : (repF A x - repF A 0) * (k - 1) = 0 := by grind
    rcases Int.mul_eq_zero.1 this with h3 | h3
    · omega
    · omega
  have hsum : sR P (fun x => repF A x) = P * k := by
    rw [sR_congr fun x _ => rep_sR A x, sR_swap, sR_congr (g := fun _ => k) fun i hi => by rw [← len_sR (h.inc i hi), h.len i hi], sR_const, hs]
  rw [sR_congr hall, sR_const] at hsum
  have : repF A 0 = k := by
    have hz : (P : Int) * (repF A 0 - k) = 0 := by grind
    rcases Int.mul_eq_zero.1 hz with h3 | h3
    · omega
    · omega
  intro x hx
  rw [hall x hx, this]
/-- a symmetric balanced design: two blocks share lam points -/
theorem Bal.meet {P : Nat} {A : List (List Int)} {k lam : Int} (h : Bal P A k lam) (hk : 2 ≤ k) (hs : A.length = P) (hP : 2 ≤ P) {i : Nat} (hi : i < A.length) : ∀ j, j < A.length → j ≠ i → mI P A i j = lam := by
  have hr := h.repk hk hs hP
  have hbal := h.rep (x := 0) (by omega)
  rw [hr 0 (by omega)] at hbal
  -- the sums of the numbers of shared points and of their squares
  have s1 : sR A.length (fun j => mI P A i j) = k * k := by
    unfold mI
    rw [sR_swap]
    rw [sR_congr (g := fun x => k * indP (xat A i) x) fun x hx => by
      rw [sR_mul A.length (indP (xat A i) x) fun j => indP (xat A j) x, ← rep_sR, hr x hx, Int.mul_comm], sR_mul, ← len_sR (h.inc i hi), h.len i hi]
  have s2 : sR A.length (fun j => mI P A i j * mI P A i j) = k * k + (k * k - k) * lam := by
    have e : ∀ j, mI P A i j * mI P A i j = sR P fun x => sR P fun y => (indP (xat A i) x * indP (xat A i) y) * (indP (xat A j) x * indP (xat A j) y) := fun j => by
      unfold mI
      rw [← sR_mul]
      refine sR_congr fun x _ => ?_
      rw [Int.mul_comm, ← sR_mul]
      exact sR_congr fun y _ => by grind
    rw [sR_congr fun j _ => e j, sR_swap]
    have inner : ∀ x, x < P → (sR A.length fun j => sR P fun y => (indP (xat A i) x * indP (xat A i) y) * (indP (xat A j) x * indP (xat A j) y)) = indP (xat A i) x * (k * lam + (k - lam)) := fun x hx => by
      rw [sR_swap]
      have e3 : ∀ y, y < P → (sR A.length fun j => (indP (xat A i) x * indP (xat A i) y) * (indP (xat A j) x * indP (xat A j) y)) = indP (xat A i) x * (lam * indP (xat A i) y + if y = x then (k - lam) * indP (xat A i) y else 0) := fun y hy => by
        rw [sR_mul A.length (indP (xat A i) x * indP (xat A i) y) fun j => indP (xat A j) x * indP (xat A j) y, ← par_sR]
        by_cases e4 : y = x
        · subst e4
          rw [if_pos rfl]
          have : parF A y y = k := by rw [par_sR, sR_congr fun j _ => indP_sq (xat A j) y, ← rep_sR, hr y hy]
          rw [this]; grind
        · rw [if_neg e4, h.par x y hx hy (fun e' => e4 e'.symm)]; grind
      rw [sR_congr e3, sR_mul, sR_add, sR_mul, sR_one (fun y => (k - lam) * indP (xat A i) y) hx, ← len_sR (h.inc i hi), h.len i hi]
      rcases indP_01 (xat A i) x with e5 | e5 <;> rw [e5] <;> grind
    rw [sR_congr inner, sR_congr (g := fun x => (k * lam + (k - lam)) * indP (xat A i) x) fun x _ => Int.mul_comm _ _, sR_mul, ← len_sR (h.inc i hi), h.len i hi]
    grind
  have hii : mI P A i i = k := by unfold mI; rw [sR_congr fun x _ => indP_sq (xat A i) x, ← len_sR (h.inc i hi), h.len i hi]
  -- the sum of the squares of the differences is 0
  have hz : sR A.length (fun j => (if j = i then 0 else (mI P A i j - lam) * (mI P A i j - lam))) = 0 := by
    have e6 : ∀ j, j < A.length → (if j = i then (0 : Int) else (mI P A i j - lam) * (mI P A i j - lam)) = (mI P A i j * mI P A i j + (-2 * lam) * mI P A i j) + (lam * lam + if j = i then -((k - lam) * (k - lam)) else 0) := fun j _ => by
      by_cases e : j = i
      · subst e; rw [if_pos rfl, if_pos rfl, hii]; grind
      · rw [if_neg e, if_neg e]; grind
    rw [sR_congr e6, sR_add, sR_add, sR_add, sR_mul, s1, s2, sR_const, sR_one (fun _ => -((k - lam) * (k - lam))) hi, hs]
    grind
  intro j hj hne
  have := sR_zero (fun x _ => by split <;> (try exact Int.le_refl _); exact sq_ge0 _) hz j hj
  rw [if_neg hne] at this
  rcases Int.mul_eq_zero.1 this with h3 | h3 <;> omega
end Go.Proofs.YtljemlfocajhnaaGreat
end

section
/- Plain: an affine plane has a resolution (the classes of parallel lines). -/
namespace Go.Proofs.YtljemlfocajhnaaGreat
set_option linter.unusedSimpArgs false
set_option linter.unusedVariables false

theorem sR_ge {n : Nat} {f : Nat → Int} (h : ∀ x, x < n → 0 ≤ f x) {i : Nat} (hi : i < n) : f i ≤ sR n f := by
  induction n with
  | zero => omega
  | succ n ih =>
    rw [sR_succ]
    by_cases e : i = n
    · subst e
      have := sR_nonneg (n := i) (f := f) fun x hx => h x (by omega)
      omega
    · have := ih (fun x hx => h x (by omega)) (by omega)
      have := h n (by omega)
      omega
theorem sR_ge2 {n : Nat} {f : Nat → Int} (h : ∀ x, x < n → 0 ≤ f x) {i j : Nat} (hi : i < n) (hj : j < n) (hij : i ≠ j) : f i + f j ≤ sR n f := by
  induction n with
  | zero => omega
  | succ n ih =>
    rw [sR_succ]
    have hn := h n (by omega)
    by_cases e : i = n
    · subst e
      have := sR_ge (n := i) (f := f) (fun x hx => h x (by omega)) (i := j) (by omega)
      omega
    · by_cases e2 : j = n
      · subst e2
        have := sR_ge (n := j) (f := f) (fun x hx => h x (by omega)) (i := i) (by omega)
        omega
      · have := ih (fun x hx => h x (by omega)) (by omega) (by omega)
        omega
/-- a sum of zeros and ones that is at least two -/
theorem sR_two {n : Nat} {f : Nat → Int} (h : ∀ x, x < n → f x = 0 ∨ f x = 1) (hs : 2 ≤ sR n f) : ∃ x y, x < n ∧ y < n ∧ x ≠ y ∧ f x = 1 ∧ f y = 1 := by
  induction n with
  | zero => simp [sR, sumL] at hs
  | succ n ih =>
    rw [sR_succ] at hs
    rcases h n (by omega) with e | e
    · obtain ⟨x, y, hx, hy, hne, e1, e2⟩ := ih (fun x hx => h x (by omega)) (by omega)
      exact ⟨x, y, by omega, by omega, hne, e1, e2⟩
    · have hone : ∃ x, x < n ∧ f x = 1 := by
        by_cases q : ∃ x, x < n ∧ f x = 1
        · exact q
        · exfalso
          have : sR n f = sR n fun _ => 0 := sR_congr fun x hx => by
            rcases h x (by omega) with e0 | e0
            · exact e0
            · exact absurd ⟨x, hx, e0⟩ q
          rw [sR_const] at this
          omega
      obtain ⟨x, hx, e1⟩ := hone
      exact ⟨x, n, by omega, by omega, by omega, e1, e⟩
theorem sR_uniq {n : Nat} {f : Nat → Int} (h : ∀ x, x < n → f x = 0 ∨ f x = 1) (hs : sR n f = 1) : ∃ j, j < n ∧ f j = 1 ∧ ∀ j', j' < n → f j' = 1 → j' = j := by
  have hex : ∃ j, j < n ∧ f j = 1 := by
    by_cases q : ∃ x, x < n ∧ f x = 1
    · exact q
    · exfalso
      have : sR n f = sR n fun _ => 0 := sR_congr fun x hx => by
        rcases h x hx with e0 | e0
        · exact e0
        · exact absurd ⟨x, hx, e0⟩ q
      rw [sR_const] at this
      omega
  obtain ⟨j, hj, e⟩ := hex
  refine ⟨j, hj, e, fun j' hj' e' => ?_⟩
  by_cases q : j' = j
  · exact q
  · exfalso
    have := sR_ge2 (n := n) (f := f) (fun x hx => by rcases h x hx with e | e <;> omega) hj' hj q
    omega
theorem indP_one {b : List Int} {x : Nat} : indP b x = 1 ↔ (x : Int) ∈ b := by
  unfold indP
  by_cases h : (x : Int) ∈ b <;> simp [h]
theorem indP_zero {b : List Int} {x : Nat} : indP b x = 0 ↔ (x : Int) ∉ b := by
  unfold indP
  by_cases h : (x : Int) ∈ b <;> simp [h]
/-- an affine plane of order n -/
structure Aff (n P : Nat) (A : List (List Int)) : Prop where
  two : 2 ≤ n
  pts : P = n * n
  bal : Bal P A n 1
  pt : ∀ i, i < A.length → ∀ z ∈ xat A i, ∃ x : Nat, z = x ∧ x < P
section
variable {n P : Nat} {A : List (List Int)}
theorem Aff.rep (h : Aff n P A) {x : Nat} (hx : x < P) : repF A x = n + 1 := by
  have h1 := h.bal.rep hx
  have ht := h.two
  have hp : (P : Int) = (n : Int) * n := by rw [h.pts]; rfl
  rw [hp] at h1
  have h2 : (repF A x - (n + 1)) * ((n : Int) - 1) = 0 := by grind
  rcases Int.mul_eq_zero.1 h2 with e | e <;> omega
theorem pr01 (u v : Int) (hu : u = 0 ∨ u = 1) (hv : v = 0 ∨ v = 1) : u * v = 0 ∨ u * v = 1 := by
  rcases hu with rfl | rfl <;> rcases hv with rfl | rfl <;> simp
theorem mI_01 (A : List (List Int)) (i j x : Nat) : indP (xat A i) x * indP (xat A j) x = 0 ∨ indP (xat A i) x * indP (xat A j) x = 1 := pr01 _ _ (indP_01 _ _) (indP_01 _ _)
theorem mI_nn (P : Nat) (A : List (List Int)) (i j : Nat) : 0 ≤ mI P A i j := sR_nonneg fun x _ => by rcases mI_01 A i j x with e | e <;> omega
/-- two lines share at most one point -/
theorem Aff.meet (h : Aff n P A) {i j : Nat} (hi : i < A.length) (hj : j < A.length) (hij : i ≠ j) : mI P A i j ≤ 1 := by
  by_cases q : mI P A i j ≤ 1
  · exact q
  · exfalso
    obtain ⟨x, y, hx, hy, hne, e1, e2⟩ := sR_two (n := P) (f := fun x => indP (xat A i) x * indP (xat A j) x) (fun x _ => mI_01 A i j x) (by unfold mI at q; omega)
    have hp := h.bal.par x y hx hy hne
    rw [par_sR] at hp
    have h2 := sR_ge2 (n := A.length) (f := fun t => indP (xat A t) x * indP (xat A t) y) (fun t _ => by rcases pr01 _ _ (indP_01 (xat A t) x) (indP_01 (xat A t) y) with e | e <;> omega) hi hj hij
    have f : ∀ u v : Int, (u = 0 ∨ u = 1) → (v = 0 ∨ v = 1) → u * v = 1 → u = 1 ∧ v = 1 := fun u v hu hv e => by
      rcases hu with rfl | rfl <;> rcases hv with rfl | rfl <;> simp at e ⊢
    obtain ⟨a1, a2⟩ := f _ _ (indP_01 _ _) (indP_01 _ _) e1
    obtain ⟨b1, b2⟩ := f _ _ (indP_01 _ _) (indP_01 _ _) e2
    simp only [a1, a2, b1, b2] at h2
    omega
theorem mI_pos {i j x : Nat} (hx : x < P) (hi : (x : Int) ∈ xat A i) (hj : (x : Int) ∈ xat A j) : 1 ≤ mI P A i j := by
  have := sR_ge (n := P) (f := fun x => indP (xat A i) x * indP (xat A j) x) (fun x _ => by rcases mI_01 A i j x with e | e <;> omega) hx
  simp only [indP_one.2 hi, indP_one.2 hj] at this
  unfold mI; omega
theorem mI_comm (i j : Nat) : mI P A i j = mI P A j i := by unfold mI; exact sR_congr fun x _ => Int.mul_comm _ _
/-- through a point beside a line there is one line that does not meet it -/
theorem Aff.only (h : Aff n P A) {i x : Nat} (hi : i < A.length) (hx : x < P) (hxi : (x : Int) ∉ xat A i) : ∃ j, j < A.length ∧ ((x : Int) ∈ xat A j ∧ mI P A i j = 0) ∧ ∀ j', j' < A.length → ((x : Int) ∈ xat A j' ∧ mI P A i j' = 0) → j' = j := by
  have hr := h.rep hx
  rw [rep_sR] at hr
  have hne : ∀ j, j < A.length → (x : Int) ∈ xat A j → i ≠ j := fun j _ hj e => hxi (by rw [e]; exact hj)
  -- lines on x that meet line i
  have hm : sR A.length (fun j => indP (xat A j) x * mI P A i j) = n := by
    have e1 : sR A.length (fun j => indP (xat A j) x * mI P A i j) = sR A.length fun j => sR P fun y => indP (xat A i) y * (indP (xat A j) x * indP (xat A j) y) := sR_congr fun j _ => by
      unfold mI
      rw [← sR_mul]
      exact sR_congr fun y _ => by grind
    rw [e1, sR_swap, sR_congr (g := fun y => indP (xat A i) y) fun y hy => by
      rw [sR_mul, ← par_sR]
      rcases indP_01 (xat A i) y with e | e
      · rw [e, Int.zero_mul]
      · rw [e, h.bal.par x y hx hy (fun q => hxi (by rw [q]; exact indP_one.1 e))]; rfl]
    rw [← len_sR (h.bal.inc i hi), h.bal.len i hi]
  have hd : sR A.length (fun j => indP (xat A j) x * (1 - mI P A i j)) = 1 := by
    have e1 : sR A.length (fun j => indP (xat A j) x * (1 - mI P A i j)) = sR A.length fun j => indP (xat A j) x + (-1) * (indP (xat A j) x * mI P A i j) := sR_congr fun j _ => by grind
    rw [e1, sR_add, sR_mul, hm, hr]; omega
  have h01 : ∀ j, j < A.length → indP (xat A j) x * (1 - mI P A i j) = 0 ∨ indP (xat A j) x * (1 - mI P A i j) = 1 := fun j hj => by
    rcases indP_01 (xat A j) x with e | e
    · rw [e, Int.zero_mul]; exact .inl rfl
    · rw [e, Int.one_mul]
      have h1 := h.meet hi hj (hne j hj (indP_one.1 e))
      have h0 := mI_nn P A i j
      omega
  have key : ∀ j, j < A.length → (indP (xat A j) x * (1 - mI P A i j) = 1 ↔ ((x : Int) ∈ xat A j ∧ mI P A i j = 0)) := fun j hj => by
    rcases indP_01 (xat A j) x with e | e
    · rw [e, Int.zero_mul]
      constructor
      · intro q; omega
      · rintro ⟨q, _⟩; exact absurd q (indP_zero.1 e)
    · rw [e, Int.one_mul]
      constructor
      · intro q; exact ⟨indP_one.1 e, by omega⟩
      · rintro ⟨_, q⟩; omega
  obtain ⟨j, hj, e, hu⟩ := sR_uniq h01 hd
  exact ⟨j, hj, (key j hj).1 e, fun j' hj' q => hu j' hj' ((key j' hj').2 q)⟩
/-- parallel lines -/
def Par (P : Nat) (A : List (List Int)) (i j : Nat) : Prop := i = j ∨ mI P A i j = 0
theorem Par.symm {i j : Nat} (h : Par P A i j) : Par P A j i := by
  rcases h with h | h
  · exact .inl h.symm
  · right; rw [mI_comm]; exact h
theorem Aff.ptrans (h : Aff n P A) {i j k : Nat} (hi : i < A.length) (hj : j < A.length) (hk : k < A.length) (h1 : Par P A i j) (h2 : Par P A j k) : Par P A i k := by
  rcases h1 with rfl | h1
  · exact h2
  rcases h2 with rfl | h2
  · exact .inr h1
  by_cases e : i = k
  · exact .inl e
  · right
    have h0 := mI_nn P A i k
    have h1' := h.meet hi hk e
    by_cases q : mI P A i k = 0
    · exact q
    · exfalso
      -- a common point
      have hx : ∃ x, x < P ∧ (x : Int) ∈ xat A i ∧ (x : Int) ∈ xat A k := by
        by_cases q2 : ∃ x, x < P ∧ (x : Int) ∈ xat A i ∧ (x : Int) ∈ xat A k
        · exact q2
        · exfalso
          apply q
          unfold mI
          rw [sR_congr (g := fun _ => 0) fun x hx => by
            by_cases a : (x : Int) ∈ xat A i
            · rw [indP_zero.2 (fun b => q2 ⟨x, hx, a, b⟩), Int.mul_zero]
            · rw [indP_zero.2 a, Int.zero_mul], sR_const]
          omega
      obtain ⟨x, hx, xi, xk⟩ := hx
      have hxj : (x : Int) ∉ xat A j := fun xj => by
        have := mI_pos (A := A) hx xi xj; omega
      obtain ⟨t, _, _, hu⟩ := h.only hj hx hxj
      have e1 := hu i hi ⟨xi, by rw [mI_comm]; exact h1⟩
      have e2 := hu k hk ⟨xk, h2⟩
      exact e (by rw [e1, e2])
open Classical in
/-- the first line that is parallel -/
noncomputable def prF (P : Nat) (A : List (List Int)) (i : Nat) : Nat := ((List.range A.length).filter fun j => decide (Par P A i j)).headD 0
theorem Aff.prF_par (h : Aff n P A) {i : Nat} (hi : i < A.length) : prF P A i < A.length ∧ Par P A i (prF P A i) := by
  classical
  have hm : i ∈ (List.range A.length).filter fun j => decide (Par P A i j) := List.mem_filter.2 ⟨List.mem_range.2 hi, decide_eq_true (.inl rfl)⟩
  have hh : prF P A i ∈ (List.range A.length).filter fun j => decide (Par P A i j) := by
    unfold prF
    cases hc : (List.range A.length).filter fun j => decide (Par P A i j) with
    | nil => rw [hc] at hm; cases hm
    | cons y ys => simp
  rw [List.mem_filter, List.mem_range, decide_eq_true_eq] at hh
  exact hh
theorem Aff.prF_eq (h : Aff n P A) {i j : Nat} (hi : i < A.length) (hj : j < A.length) : prF P A i = prF P A j ↔ Par P A i j := by
  classical
  constructor
  · intro e
    have h1 := h.prF_par hi
    have h2 := h.prF_par hj
    rw [e] at h1
    exact h.ptrans hi h2.1 hj h1.2 h2.2.symm
  · intro hp
    unfold prF
    congr 1
    apply List.filter_congr
    intro k hk
    rw [List.mem_range] at hk
    rw [Bool.eq_iff_iff, decide_eq_true_eq, decide_eq_true_eq]
    exact ⟨fun q => h.ptrans hj hi hk hp.symm q, fun q => h.ptrans hi hj hk hp q⟩
theorem Aff.rsl (h : Aff n P A) : Rsl P A (prF P A) := fun i hi x hx => by
  by_cases hxi : (x : Int) ∈ xat A i
  · refine ⟨i, hi, rfl, hxi, fun j' hj' e hx' => ?_⟩
    rcases (h.prF_eq hj' hi).1 e with q | q
    · exact q
    · have := mI_pos (A := A) hx hx' hxi; omega
  · obtain ⟨j, hj, ⟨hxj, hm⟩, hu⟩ := h.only hi hx hxi
    refine ⟨j, hj, (h.prF_eq hj hi).2 (Par.symm (.inr hm)), hxj, fun j' hj' e hx' => ?_⟩
    rcases (h.prF_eq hj' hi).1 e with q | q
    · exact absurd (by rw [← q]; exact hx') hxi
    · exact hu j' hj' ⟨hx', by rw [mI_comm]; exact q⟩
end
theorem plO_some {v k : Int → Int} {V K : Int} : ∀ {f : Nat} {m : Int}, 2 ≤ m → plO v k V K f m ≠ 0 → ∃ n, 2 ≤ n ∧ v n = V ∧ k n = K
  | 0, _, _, h => by rw [plO] at h; exact absurd rfl h
  | f + 1, m, hm, h => by
    rw [plO] at h
    by_cases h1 : v m ≤ V
    · rw [if_pos h1] at h
      by_cases h2 : v m = V ∧ k m = K
      · exact ⟨m, hm, h2⟩
      · rw [if_neg h2] at h
        exact plO_some (f := f) (m := m + 1) (by omega) h
    · rw [if_neg h1] at h; exact absurd rfl h
/-- a design that is found to be an affine plane is one -/
theorem aff_of {P : Nat} {A : List (List Int)} (h : ordP afV afK P A ≠ 0) : ∃ n, Aff n P A := by
  unfold ordP at h
  by_cases hc : (dOk (P : Int) A && prmB P A && decide (nth (prmV P A) 4 = 1)) = true
  · rw [if_pos hc] at h
    simp only [Bool.and_eq_true, decide_eq_true_eq] at hc
    obtain ⟨⟨hok, hb⟩, hl⟩ := hc
    have hD := dOk_t hok
    have hv := prm_val hb
    rw [hv] at h hl
    have e0 : ∀ a b c d e : Int, nth [a, b, c, d, e] 0 = a ∧ nth [a, b, c, d, e] 3 = d ∧ nth [a, b, c, d, e] 4 = e := fun _ _ _ _ _ => ⟨rfl, rfl, rfl⟩
    rw [(e0 _ _ _ _ _).1, (e0 _ _ _ _ _).2.1] at h
    rw [(e0 _ _ _ _ _).2.2] at hl
    obtain ⟨m, hm2, hm, hk⟩ := plO_some (by omega) h
    obtain ⟨n, rfl⟩ := Int.eq_ofNat_of_zero_le (show 0 ≤ m by omega)
    unfold afV at hm
    unfold afK at hk
    have hb2 := hb
    unfold prmB at hb2
    simp only [Bool.and_eq_true, decide_eq_true_eq, List.all_eq_true] at hb2
    obtain ⟨⟨⟨⟨h1, h2⟩, h3⟩, h4⟩, h5⟩ := hb2
    refine ⟨n, by omega, by exact_mod_cast hm.symm, ⟨fun i hi => hD.inc' hi, fun i hi => ?_, fun x y hx hy hne => ?_⟩, fun i hi z hz => ?_⟩
    · have := beq_iff_eq.1 (h4 _ (xat_mem hi)); omega
    · rcases Nat.lt_or_gt_of_ne hne with q | q
      · have := beq_iff_eq.1 (h5 (parF A x y) (parL_mem.2 ⟨x, y, q, hy, rfl⟩)); rw [this, hl]
      · rw [parF_symm]
        have := beq_iff_eq.1 (h5 (parF A y x) (parL_mem.2 ⟨y, x, q, hx, rfl⟩)); rw [this, hl]
    · have := incB_gt (hD.inc _ (xat_mem hi)) z hz
      exact ⟨z.toNat, by omega, by omega⟩
  · rw [if_neg hc] at h; exact absurd rfl h
theorem aff_cmp {P : Nat} {A : List (List Int)} (h : ordP afV afK P A ≠ 0) : Cmp P A [] := by
  obtain ⟨n, hA⟩ := aff_of h
  exact ⟨prF P A, hA.rsl, fun c hc => by simp at hc⟩
end Go.Proofs.YtljemlfocajhnaaGreat
end

section
/- Walks: orders of affine and of projective planes, parallel classes, completed planes, planes without a line, of the program. -/
namespace Go.Proofs.YtljemlfocajhnaaGreat
set_option linter.unusedSimpArgs false
set_option linter.unusedVariables false
open Go.RowKit
attribute [local go_sem ↓] Go.wp_at_zero Go.wp_at_succ

theorem AffineOrder_c (P : Nat) (v : Value) (us : List Value) (A : List (List Int)) (w : World) (hv : RII w v us A) (hok : dOk P A = true) :
    Calls Tryz.prog 8 #[dv P v] w (GivesI w (ordP afV afK P A)) := by
  obtain ⟨a, c, hsh⟩ := hv.1.sl.sh
  rw [hv.2.1] at hsh
  subst hsh
  have hS0 := (St.refl w).newboxF 26 #[.int .i64 P, .slice a A.length c]
  have b0 := hS0.bcell 0 rfl 0 rfl
  have b1 := hS0.bcell 0 rfl 1 rfl
  have hcf1 : ∀ (args : Array Value) (W : World), (callFunc 21 args).run Tryz.prog W = .ok (.enter 21 args) W :=
    fun args W => callFunc_go (P := Tryz.prog) Tryz.func21 (by kernel_rfl) (by kernel_rfl) args W
  have hcf2 : ∀ (args : Array Value) (W : World), (callFunc 22 args).run Tryz.prog W = .ok (.enter 22 args) W :=
    fun args W => callFunc_go (P := Tryz.prog) Tryz.func22 (by kernel_rfl) (by kernel_rfl) args W
  have K := Lib.hid (planeOrder_c 21 22 afV afK P (.slice a A.length c) us A _ (hS0.oldII hv) hok (by decide) hcf1 hcf2 (fun n W n2 n6 => by
      have hb : n * n ≤ 36 ∧ 0 ≤ n * n := by
        obtain ⟨m, rfl⟩ := Int.eq_ofNat_of_zero_le (show 0 ≤ n by omega)
        have : m * m ≤ 6 * 6 := Nat.mul_le_mul (by omega) (by omega)
        omega
      have w1 : IntKind.i64.wrap (n * n) = n * n := IntWalk.i64_in _ (by omega)
      unfold afV
      go_enter Tryz.func21, Tryz.ntmps21
      go_wp2_with fail
      go_ret
      exact ⟨rfl, rfl⟩) (fun n W n2 n6 => by
      unfold afK
      go_enter Tryz.func22, Tryz.ntmps22
      go_wp2_with fail
      go_ret
      exact ⟨rfl, rfl⟩))
  generalize ordP afV afK P A = z at *
  unfold dv at K ⊢
  go_enter Tryz.func8, Tryz.ntmps8
  go_wp2_with fail
  refine K.out.mono ?_
  rintro e w2 ⟨rfl, h2⟩
  have hS2 := hS0.call0 h2
  go_wp2_with fail
  go_ret
  exact ⟨rfl, hS2.out⟩
end Go.Proofs.YtljemlfocajhnaaGreat
end

section
/- The law FnResolutions, walked. -/
namespace Go.Proofs.YtljemlfocajhnaaGreat
set_option linter.unusedSimpArgs false
set_option linter.unusedVariables false
open Go.RowKit
attribute [local go_sem ↓] Go.wp_at_zero Go.wp_at_succ

set_option maxHeartbeats 16000000 in
set_option maxRecDepth 100000 in
theorem FnResolutions_law (w : World) (cv : Value) (bs : List UInt8) (hb : RdB w cv bs) :
    Calls Tryz.prog 3 #[cv] w (GivesB w true) := by
  by_cases h1 : 1048576 < bs.length
  · have hl' : decide (1048576 < bs.length) = true := by simpa using h1
    go_enter Tryz.func3, Tryz.ntmps3
    go_wp2_with fail
    refine (b10Long_c w cv bs hb).mono ?_
    rw [hl']
    rintro e w1 ⟨rfl, rfl⟩
    go_wp2_with fail
    go_ret
    exact ⟨rfl, St.refl _⟩
  have hl' : decide (1048576 < bs.length) = false := by simp; omega
  go_enter Tryz.func3, Tryz.ntmps3
  go_wp2_with fail
  refine (b10Long_c w cv bs hb).mono ?_
  rw [hl']
  rintro e w1 ⟨rfl, rfl⟩
  clear h1 hl'
  go_wp2_with fail
  refine (DrawResolveDesign_c w cv bs hb).mono ?_
  rintro e w2 ⟨P, bud, A, v, us, rfl, hR, h2⟩
  obtain ⟨a, c, hsh⟩ := hR.1.sl.sh
  rw [hR.2.1] at hsh
  subst hsh
  have hX2 := (St.refl w2).newboxF 26 #[.int .i64 P, .slice a A.length c]
  have b0 := hX2.bcell 0 rfl 0 rfl
  have b1 := hX2.bcell 0 rfl 1 rfl
  have rA := hX2.oldII hR
  have hW2 := h2.call0 hX2.out
  have KR := Lib.hid (ResolveDesign_c P bud (.slice a A.length c) us A _ rA)
  have hZ := St.refl (w2.alloc (.cells #[.int .i64 P, .slice a A.length c] 26))
  have B0 := Lib.hid b0
  have B1 := Lib.hid b1
  clear h2 hX2 hR
  unfold dv at KR ⊢
  go_wp2_with fail
  generalize w2.alloc (.cells #[.int .i64 P, .slice a A.length c] 26) = wB at *
  generalize w2.heap.size = gB at *
  refine KR.out.mono ?_
  clear KR
  rintro e w3 ⟨vX, ux, X, k, rfl, rX, h3, hcase⟩
  have hW3 := hW2.call0 h3
  have rA3 := h3.oldII rA
  have c0 := cell_kp6 h3.below B0.out
  have c1 := cell_kp6 h3.below B1.out
  have hlX := rX.len
  clear hW2 hZ b0 b1 B0 B1 rA
  rcases hcase with ⟨rfl, n, rfl, hres⟩ | ⟨rfl, rfl, hok, n, rfl, hno⟩ | ⟨h0, hn3, rfl⟩
  · have KV := Lib.hid (ValidResolution_c n _ vX us ux A X (clsT A X) w3 hres rA3 rX)
    unfold dv at KV
    clear hres rA3 rX h3 hlX
    go_wp2_with fail
    refine KV.out.mono ?_
    clear KV
    rintro e w4 ⟨rfl, h4⟩
    go_wp2_with fail
    go_ret
    exact ⟨rfl, hW3.call0 h4⟩
  · have hord : ordP afV afK n A = 0 := by
      by_cases h : ordP afV afK n A = 0
      · exact h
      · exact (hno (aff_cmp h)).elim
    have KA := Lib.hid (AffineOrder_c n _ us A w3 rA3 hok)
    rw [hord] at KA
    have KV := Lib.hid (fun W h => ValidDesign_c n (.slice a A.length c) us A W h)
    rw [hok] at KV
    unfold dv at KA KV
    have C0 := Lib.hid c0
    have C1 := Lib.hid c1
    have RA := Lib.hid rA3
    clear hno hok hord rA3 rX h3
    simp only [List.length_nil] at hlX
    go_wp2_with fail
    refine KA.out.mono ?_
    clear KA
    rintro e w4 ⟨rfl, h4⟩
    have hW4 := hW3.call0 h4
    have d0 := cell_kp6 h4.below C0.out
    have d1 := cell_kp6 h4.below C1.out
    have KV2 := Lib.hid (KV.out _ (h4.oldII RA.out))
    clear h4 hW3 c0 c1 KV
    go_wp2_with fail
    refine KV2.out.mono ?_
    clear KV2
    rintro e w5 ⟨rfl, h5⟩
    go_wp2_with fail
    go_ret
    exact ⟨rfl, hW4.call0 h5⟩
  · simp only [List.length_nil] at hlX
    have f0 := eq_f h0
    have f1 := ne_t hn3
    clear rA3 rX h3
    go_wp2_with fail
    go_ret
    exact ⟨rfl, hW3⟩
end Go.Proofs.YtljemlfocajhnaaGreat
end

section
/- How arguments that come in read. How bytes that come in read. -/
namespace Go.Proofs.YtljemlfocajhnaaGreat
set_option linter.unusedSimpArgs false
set_option linter.unusedVariables false
open Go.RowKit


/-- what came in as a slice of integers: nothing, or a row of numbers that fit -/
def IsRow (k : IntKind) (w : World) (a : Option Addr) (len cap : Nat) (zs : List Int) : Prop :=
  (a = none ∧ len = 0 ∧ cap = 0 ∧ zs = []) ∨
  ∃ x, a = some x ∧ len ≤ cap ∧ cap ≤ maxLen ∧ zs.length = cap ∧ (∀ i, i < zs.length → w.cell? (x.add i) = some (.int k (zs.getD i 0))) ∧ ∀ n ∈ zs, (Lit.int k n).wf = true

theorem IsRow.rd {k : IntKind} {w : World} {a : Option Addr} {len cap : Nat} {zs : List Int} (h : IsRow k w a len cap zs) : Rd w (.slice a len cap) ((zs.take len).map (Value.int k)) := by
  rcases h with ⟨rfl, rfl, rfl, rfl⟩ | ⟨x, rfl, h1, h2, h3, h4, h5⟩
  · exact Rd.nil w
  · have hl : ((zs.take len).map (Value.int k)).length = len := by simp; omega
    refine ⟨⟨some x, cap, by rw [hl], by omega, h2, .inr (by simp)⟩, ?_⟩
    intro i u hu
    have hi : i < len := by have := (List.getElem?_eq_some_iff.1 hu).1; omega
    have := h4 i (by omega)
    simp only [List.getElem?_map, List.getElem?_take, hi, if_true] at hu
    rw [List.getElem?_eq_getElem (by omega)] at hu
    simp at hu
    simp only [el]
    rw [this, ← hu]
    simp [List.getD, List.getElem?_eq_getElem (show i < zs.length by omega)]


theorem IsRow.rdB {w : World} {a : Option Addr} {len cap : Nat} {zs : List Int} (h : IsRow .u8 w a len cap zs) : ∃ bs, RdB w (.slice a len cap) bs := by
  refine ⟨(zs.take len).map fun n => UInt8.ofNat n.toNat, ?_⟩
  have h1 := h.rd
  have hw : ∀ n ∈ zs, 0 ≤ n ∧ n ≤ 255 := by
    rcases h with ⟨_, _, _, rfl⟩ | ⟨_, _, _, _, _, _, h5⟩
    · simp
    · intro n hn; have := h5 n hn; simpa [Lit.wf, IntKind.min, IntKind.max, IntKind.signed, IntKind.bits] using this
  unfold RdB bv
  rw [List.map_map]
  rw [List.map_congr_left (g := Value.int .u8)]
  · exact h1
  · intro n hn
    have := hw n (List.mem_of_mem_take hn)
    simp only [Function.comp]
    congr 1
    rw [UInt8.toNat_ofNat']
    omega

end Go.Proofs.YtljemlfocajhnaaGreat
end

section
/- FnResolutions holds: for every input the call returns true and leaves its arguments as they are. No condition. -/
namespace Go.Proofs.YtljemlfocajhnaaGreat.fnResolutions
set_option linter.unusedSimpArgs false
set_option linter.unusedVariables false
open Go.ChangeShapes Go.WideShapes Go.ChangeAt Go.RowKit
set_option linter.unusedVariables false

theorem own : ownKnob Tryz.prog.godebug = none := by kernel_rfl
theorem laidOut : laidOutB Tryz.prog = true := by kernel_rfl

set_option maxRecDepth 100000 in
theorem lifted (os : Os) (started : os.Started) (H : Type) (enc : TypeId × Value → H) :
    ReturnsInHanded {} Tryz.checked os 3 .any (Rows.fnResolutionsSpec.pre6 enc Tryz.prog Tryz.f3 Rows.fnResolutionsRow.domain false) (Rows.fnResolutionsSpec.post enc Tryz.prog Tryz.f3 false true false false) := by
  refine returnsInHanded_of_change (C := Tryz.checked) own started (by kernel_rfl) Tryz.func3
    (ChangeSpec.witness6 (enc := enc) (C := Tryz.checked) false ⟨#[], #[.slice none 0 0], []⟩ 8 (by kernel_rfl) (by kernel_rfl) (by kernel_rfl) (by kernel_rfl)) ?_
  intro W base args ds gs before hval0 hW hcnd _
  have hval : ∀ (j : Nat) t v, Tryz.f3.params[j]? = some t → args[j]? = some v → Value.okWide Tryz.prog W .any base t v := hval0
  have hW' := hW
  obtain ⟨p, q, hA0, hV, rfl, hfz, hnd⟩ := hW
  have hA : DataW.TrodAll enc Tryz.prog W 0 (fun _ => true) true Tryz.f3.params.toList args.toList ds p := hA0
  rw [Tryz.params3] at hA hval
  obtain ⟨v0, vs0, d0, ds0, p0, q0, hargs, rfl, rfl, h0, r0⟩ := trodAll_cons hA
  obtain ⟨rfl, rfl, rfl⟩ := trodAll_nil r0
  obtain rfl : args = #[v0] := by cases args; simp_all
  obtain ⟨rfl, rfl⟩ := trodVars_none hV
  obtain ⟨a0, len0, cap0, rfl⟩ := okWide_slice Tryz.underlying22 (hval 0 22 v0 rfl rfl)
  have k0 := h0
  have lt0 : ∀ x ∈ p0, x.block < W.heap.size := by obtain ⟨m, hm⟩ := k0; exact DataW.trod_lt m _ _ _ hm
  obtain ⟨bs0, rd0⟩ : ∃ bs, RdB W (.slice a0 len0 cap0) bs := by
    obtain ⟨fuel, hf⟩ := h0
    rcases open_ints Tryz.underlying22 Tryz.underlying5 (by kernel_rfl) hf with ⟨hcs, _⟩ | ⟨x, l, c, zs, hcs, _, hl, hm, hz, _, hcell, hwz⟩
    · simp [Value.cells] at hcs
      obtain ⟨rfl, rfl, rfl⟩ := hcs
      exact IsRow.rdB (zs := []) (.inl ⟨rfl, rfl, rfl, rfl⟩)
    · simp [Value.cells] at hcs
      obtain ⟨rfl, rfl, rfl⟩ := hcs
      exact IsRow.rdB (zs := zs) (.inr ⟨_, rfl, hl, hm, by simpa using hz, hcell, hwz⟩)
  clear hA0 hval0
  refine (FnResolutions_law W _ bs0 rd0).mono fun e W' ⟨he, hst⟩ => ?_
  have bel := hst.below
  subst he
  exact ⟨_, rfl, _, _, _, [], _, [], hW', trodAll_mk1 (shut_bool Tryz.underlying4 _), (trodAll_cons_mk (Below.trod laidOut (by kernel_rfl) (of_decide_eq_true (by kernel_rfl)) k0 bel lt0) trodAll_mk0), rfl, bel.frame _, fun h => by cases h⟩

theorem over : Rows.fnResolutionsRow.holds Tryz.pinned (OpenSpec.ofChange Rows.fnResolutionsSpec) :=
  OpenClaim.holds_of_wide 3 Tryz.f3 rfl rfl rfl rfl rfl rfl rfl ⟨rfl, rfl, rfl, rfl, rfl⟩ rfl rfl rfl rfl rfl (by kernel_rfl) Tryz.func3 (by kernel_rfl)
    (of_decide_eq_true (by kernel_rfl)) (by unfold Func.isWrapper; first | (rw [if_pos (by decide +kernel)]; kernel_rfl) | (rw [if_neg (by decide +kernel)]; exact ⟨rfl, rfl⟩))
    (fun os started H enc _ => lifted os started H enc)

theorem proved : Rows.FnResolutionsSaid := over
#print axioms proved
end Go.Proofs.YtljemlfocajhnaaGreat.fnResolutions
end
