/- The texts of this claim, run 5: Ds1 RrA Bo Has Arr2 Same AnyR Src Src2 Drw Ds2 RrC PLat. -/
import Derived.Test.YtgflhgkcmfjkgaaK1
import Derived.Test.YtgflhgkcmfjkgaaK3
import Derived.Test.YtgflhgkcmfjkgaaK4

section
/- slices.SortFunc at [][]int64 with slices.Compare: the rows of an owned list of rows are put in order. -/
namespace Go.Proofs.Ytgflhgkcmfjkgaa
set_option linter.unusedSimpArgs false
set_option linter.unusedVariables false
open Go.RowKit

theorem callR_cmp : ∀ (args : Array Value) (W : World), (callFunc 35 args).run Try.prog W = .ok (.enter 35 args) W :=
  fun args W => callFunc_go (P := Try.prog) Try.func35 (by kernel_rfl) (by kernel_rfl) args W
def cfR (A : List (List Int)) (x y : Fin A.length) : Int := cmpI (xat A x) (xat A y)
theorem swoR (A : List (List Int)) : Go.Sort.SWO (Go.Proofs.ltOf (cfR A)) where
  irrefl x := by simp [Go.Proofs.ltOf, cfR, cmpI_self]
  trans x y z h1 h2 := by
    have a1 := of_decide_eq_true h1
    have a2 := of_decide_eq_true h2
    refine decide_eq_true ?_
    unfold cfR at *
    have h3 := cmpI_trans (a := xat A x) (b := xat A y) (c := xat A z) (by omega) (by omega)
    rcases Int.lt_or_le (cmpI (xat A x) (xat A z)) 0 with h | h
    · exact h
    · have h4 := cmpI_eq (a := xat A x) (b := xat A z) (by omega)
      rw [h4] at a1
      have := cmpI_neg (xat A y) (xat A z)
      omega
  ntrans x y z h1 h2 := by
    have a1 := of_decide_eq_false h1
    have a2 := of_decide_eq_false h2
    refine decide_eq_false ?_
    unfold cfR at *
    have n1 := cmpI_neg (xat A x) (xat A y)
    have n2 := cmpI_neg (xat A y) (xat A z)
    have n3 := cmpI_neg (xat A x) (xat A z)
    have h3 := cmpI_trans (a := xat A z) (b := xat A y) (c := xat A x) (by omega) (by omega)
    omega
theorem fin_map {α : Type} (us : List α) (d : α) {n : Nat} (h : us.length = n) : (List.finRange n).map (fun k : Fin n => us.getD k d) = us := by
  subst h
  apply List.ext_getElem
  · simp
  · intro i h1 h2
    simp at h1 ⊢
theorem rows_fin {us : List Value} {A : List (List Int)} (h : us.length = A.length) : rowsI us A = (List.finRange A.length).map fun k : Fin A.length => row 2 (vat us k) (iv (xat A k)) := by
  apply List.ext_getElem
  · simp [rowsI, h]
  · intro i h1 h2
    simp [rowsI, h] at h1
    simp [rowsI, vat, xat, h, h1]
set_option maxHeartbeats 1000000 in
theorem SortRows_c {B : Nat} {w0 w : World} {L : List Ent} {v : Value} {us : List Value} {A : List (List Int)} (hS : St B w0 w (own2 v us A ++ L)) (hl : us.length = A.length) (hlen : A.length < 100000) :
    Calls Try.prog 34 #[v, .func (.func 35) #[] #[]] w fun e w' => ∃ us' : List Value, e = .returned (.tuple #[]) ∧ us'.length = A.length ∧ St B w0 w' (own2 v us' (srtL A) ++ L) := by
  have hi : (own2 v us A ++ L)[0]? = some (row 30 v us) := rfl
  by_cases h0 : A = []
  · subst h0
    have hu : us = [] := by simpa using hl
    subst hu
    obtain ⟨a, c, hv⟩ := (hS.rd 0 hi).sl.sh
    subst hv
    refine Calls.mono (Go.Proofs.AnyF.slices_SortFunc_none (P := Try.prog) (ρ := Try.mSortR_ren) { Try.mSortR with } a c (.func (.func 35) #[] #[]) w) ?_
    rintro e w' ⟨rfl, rfl⟩
    exact ⟨[], rfl, rfl, hS⟩
  · have hpos : 0 < A.length := by cases A with
      | nil => exact absurd rfl h0
      | cons _ _ => simp
    haveI : Inhabited (Fin A.length) := ⟨⟨0, hpos⟩⟩
    have hrow : ∀ {W : World} {u : List Value}, St B w0 W (row 30 v u :: (rowsI us A ++ L)) → ∀ k : Fin A.length, RdI W (vat us k) (xat A k) := by
      intro W u h k
      refine h.rdI (k + 1) (e := 2) ?_
      rw [List.getElem?_cons_succ, List.getElem?_append_left (by rw [rowsI_len hl]; exact k.isLt)]
      exact rowsI_get hl k.isLt
    have hok := hS.ok _ (List.mem_of_getElem? hi)
    rcases hok with ⟨hp, _⟩ | ⟨_, hv, hu⟩ | ⟨_, g, cap, cur, hv, hB, hh, h1, h2, h3, h4⟩
    · simp [row] at hp
    · simp only [row] at hu
      rw [hu] at hl; simp at hl; omega
    · simp only [row] at hv h1 h4 hh
      subst hv
      have hblk : g < w.heap.size := (Array.getElem?_eq_some_iff.1 hh).1
      have hOne : Go.Proofs.OneCell (fun k : Fin A.length => vat us k) := fun k => (hrow hS k).sl.one
      have hd : (List.finRange A.length).toArray.size = us.length := by simp [hl]
      have hH : Go.Sort.Holds (fun k : Fin A.length => vat us k) w g 0 (List.finRange A.length).toArray := holds_of_blockE _ hh (by
        rw [List.length_finRange]
        exact (by rw [← hl]; exact h4 : cur.toList.take A.length = us).trans (fin_map us undef hl).symm)
      have putAll : ∀ (m : Nat) (os : Array Obj) (dk : Array (Fin A.length)), dk.size = us.length → St B w0 (Go.Proofs.sortWorld (fun k : Fin A.length => vat us k) w g 0 m dk os) (row 30 (.slice (some ⟨g, 0, none⟩) us.length cap) (dk.toList.map fun k : Fin A.length => vat us k) :: (rowsI us A ++ L)) := by
        intro m os dk hs
        have := hS.put 0 hi (w' := Go.Proofs.sortWorld (fun k : Fin A.length => vat us k) w g 0 m dk os) ?_ (row 30 (.slice (some ⟨g, 0, none⟩) us.length cap) (dk.toList.map fun k : Fin A.length => vat us k)) (.inr (.inr ⟨rfl, g, cap, _, ?_, hB, heap_sortedE (fun k : Fin A.length => vat us k) _ hh, ?_, h2, ?_, ?_⟩)) (.inl rfl)
        · exact this
        · exact grownBy_sortedE (fun k : Fin A.length => vat us k) dk
        · simp [row, hs]
        · simp [row, hs]; exact h1
        · simp [Go.Sort.putCells, h3]
        · have := take_putCellsE (fun k : Fin A.length => vat us k) cur dk (by omega)
          rw [hs] at this
          simpa [row, hs] using this
      have hcmp : Go.Proofs.CmpLays1 Try.prog 35 #[] (fun k : Fin A.length => vat us k) (cfR A) g 0 (List.finRange A.length).toArray.size w := by
        refine Go.Proofs.CmpReads.lays fun m os dk hs x y => ?_
        have hp := putAll m os dk (by rw [hs, hd])
        refine (Compare_c _ _ _ _ _ (hrow hp x) (hrow hp y)).mono ?_
        rintro e w' ⟨rfl, rfl⟩
        exact ⟨rfl, 0, rfl⟩
      have hc := Go.Proofs.Any.slices_SortFunc (P := Try.prog) (ρ := Try.mSortR_ren) Try.mSortR (fun k : Fin A.length => vat us k) hOne (cfR A) (swoR A) 35 #[] g 0 cap (List.finRange A.length).toArray w callR_cmp hcmp hH hblk (by rw [hd]; omega)
      rw [hd] at hc
      refine Calls.mono hc ?_
      rintro e w' ⟨rfl, d', n, os, hperm, hso, rfl⟩
      have hds : d'.size = us.length := by have := hperm.1; omega
      have hpm : d'.toList.Perm (List.finRange A.length) := by
        have := hperm.2.2
        rw [show d'.extract 0 us.length = d' by rw [← hds]; simp, show (List.finRange A.length).toArray.extract 0 us.length = (List.finRange A.length).toArray by rw [← hd]; simp only [Array.extract_size]] at this
        simpa using this
      have hA : (d'.toList.map fun k : Fin A.length => xat A k) = srtL A := by
        refine srtL_eq ?_ ?_
        · have := hpm.map fun k : Fin A.length => xat A k
          rwa [show (List.finRange A.length).map (fun k : Fin A.length => xat A k) = A from fin_map A [] rfl] at this
        · rw [List.pairwise_map, List.pairwise_iff_getElem]
          intro i j hi' hj' hij
          have := hso i j (by omega) hij (by rw [← hds]; simpa using hj')
          have := of_decide_eq_false this
          unfold cfR at this
          have e1 : d'[i]! = d'.toList[i] := by simp at hi'; simp [hi']
          have e2 : d'[j]! = d'.toList[j] := by simp at hj'; simp [hj']
          rw [e1, e2] at this
          have := cmpI_neg (xat A d'.toList[j]) (xat A d'.toList[i])
          exact decide_eq_true (by omega)
      have hp := putAll n os d' hds
      refine ⟨d'.toList.map fun k : Fin A.length => vat us k, rfl, by simp [hds, hl], ?_⟩
      rw [← hA]
      refine hp.perm ?_
      unfold own2
      refine List.Perm.cons _ (List.Perm.append_right _ ?_)
      rw [rows_fin hl]
      refine (hpm.map _).symm.trans (.of_eq ?_)
      unfold rowsI
      rw [List.zipWith_map, List.zipWith_self]
end Go.Proofs.Ytgflhgkcmfjkgaa
end

section
/- Walks: pairs, and the schedule of the circle method, of the program. -/
namespace Go.Proofs.Ytgflhgkcmfjkgaa
set_option linter.unusedSimpArgs false
set_option linter.unusedVariables false
open Go.RowKit
attribute [local go_sem ↓] Go.wp_at_zero Go.wp_at_succ

theorem paired_c (a b : Int) (w : World) : Calls Try.prog 33 #[.int .i64 a, .int .i64 b] w (MakesI w (prL a b)) := by
  have hx : ∀ x y : Int, St w.heap.size w (w.alloc (.cells #[.int .i64 x, .int .i64 y] 2)) [row 2 (.slice (some ⟨w.heap.size, 0, none⟩) 2 2) (iv [x, y])] := fun x y => (St.refl w).new 2 (iv [x, y]).toArray (by simp [iv, maxLen])
  have hp : prL a b = [min a b, max a b] := by
    rw [prL]
    split
    · rw [show min a b = b by omega, show max a b = a by omega]
    · rw [show min a b = a by omega, show max a b = b by omega]
  rw [hp]
  generalize hm : min a b = m
  generalize hM : max a b = M
  go_enter Try.func33, Try.ntmps33
  go_wp2_with fail
  go_ret
  exact ⟨_, rfl, by subst hm; subst hM; exact hx _ _⟩
theorem prL_len (a b : Int) : (prL a b).length = 2 := by unfold prL; split <;> rfl
theorem isTeams_c (n : Int) (w : World) : Calls Try.prog 32 #[.int .i64 n] w fun e w' => e = .returned (.bool (inB n 2 32)) ∧ w = w' := by
  have K := within_c n 2 32 w
  generalize inB n 2 32 = b at *
  go_enter Try.func32, Try.ntmps32
  go_wp2_with fail
  refine K.mono ?_
  rintro e w1 ⟨rfl, rfl⟩
  go_wp2_with fail
  go_ret
  exact ⟨rfl, rfl⟩

/-- behind the append of a row of its own, with more behind -/
theorem own2_snocL {B : Nat} {w0 w : World} {v v' : Value} {us : List Value} {xss : List (List Int)} {u : Value} {xs : List Int} {L2 : List Ent} (hl : us.length = xss.length)
    (h : St B w0 w ((own2 v us xss ++ L2 ++ [row 2 u (iv xs)]).set 0 (row 30 v' (us ++ [u])))) : St B w0 w (own2 v' (us ++ [u]) (xss ++ [xs]) ++ L2) := by
  rw [own2, rowsI_app hl]
  refine h.perm ?_
  show (row 30 v' (us ++ [u]) :: (rowsI us xss ++ L2 ++ [row 2 u (iv xs)])).Perm (row 30 v' (us ++ [u]) :: (rowsI us xss ++ [row 2 u (iv xs)] ++ L2))
  refine List.Perm.cons _ ?_
  rw [List.append_assoc, List.append_assoc]
  exact List.Perm.append_left _ List.perm_append_comm
/-- lists of lists of rows, and a code -/
def MkIII (w : World) (X : List (List (List Int))) (c : Int) (e : Ending) (w' : World) : Prop := ∃ v vs uss, e = .returned (.tuple #[v, .int .i64 c]) ∧ Fit3 vs uss X ∧ St w.heap.size w w' (own3 v vs uss X)
theorem MkIII.riii {w w' : World} {v : Value} {vs : List Value} {uss : List (List Value)} {X : List (List (List Int))} (hf : Fit3 vs uss X) (h : St w.heap.size w w' (own3 v vs uss X)) : RIII w' v vs uss X := St.riii (L2 := []) (by rw [List.append_nil]; exact h) hf
def rrP (n r i : Nat) : List (List Int) :=
  (if n % 2 = 0 then [prL ((n - 1 : Nat) : Int) (r : Int)] else []) ++
  (List.range (i - 1)).map fun j => prL (((r + (j + 1)) % (evn n - 1) : Nat) : Int) (((r + (evn n - 1) - (j + 1)) % (evn n - 1) : Nat) : Int)
theorem rrP_one (n r : Nat) : rrP n r 1 = if n % 2 = 0 then [prL ((n - 1 : Nat) : Int) (r : Int)] else [] := by simp [rrP]
theorem rrP_succ {n r i : Nat} (h : 1 ≤ i) : rrP n r (i + 1) = rrP n r i ++ [prL (((r + i) % (evn n - 1) : Nat) : Int) (((r + (evn n - 1) - i) % (evn n - 1) : Nat) : Int)] := by
  rw [rrP, rrP, show i + 1 - 1 = (i - 1) + 1 by omega, List.range_succ, List.map_append, List.append_assoc, List.map_singleton, show i - 1 + 1 = i by omega]
theorem rrP_end (n r : Nat) : srtL (rrP n r (evn n / 2)) = rrR n r := rfl
theorem rrP_len (n r i : Nat) : (rrP n r i).length ≤ i + 1 := by unfold rrP; split <;> simp <;> omega
theorem rrL_take {n r : Nat} (h : r < evn n - 1) : (rrL n).take (r + 1) = (rrL n).take r ++ [rrR n r] := by rw [take_x3at (by rw [rrL_len]; exact h), x3_rrL h]
set_option maxHeartbeats 4000000 in
set_option maxRecDepth 100000 in
theorem RoundRobin_c (n : Nat) (w : World) (h2 : 2 ≤ n) (h32 : n ≤ 32) : Calls Try.prog 8 #[.int .i64 n] w (MkIII w (rrL n) 0) := by
  have KT := isTeams_c n w
  rw [inB_true (by omega)] at KT
  obtain ⟨e, he⟩ : ∃ e, evn n = e := ⟨_, rfl⟩
  obtain ⟨h, hh⟩ : ∃ h, e / 2 = h := ⟨_, rfl⟩
  obtain ⟨m, hm⟩ : ∃ m, e - 1 = m := ⟨_, rfl⟩
  have he' : e = n + n % 2 := he.symm
  have q1 : (n : Int) + ((n % 2 : Nat) : Int) = (e : Int) := by omega
  have q0 : (n : Int).tmod 2 = ((n % 2 : Nat) : Int) := by rw [Int.tmod_eq_emod_of_nonneg (by omega)]; rfl
  have q2 : (e : Int) - 1 = (m : Int) := by omega
  have q3 : (e : Int).tdiv 2 = (h : Int) := by rw [Int.tdiv_eq_ediv_of_nonneg (by omega)]; omega
  have q5 : (n : Int) + (n : Int) % 2 = (e : Int) := by omega
  have q6 : (e : Int) / 2 = (h : Int) := by omega
  have q4 : (n : Int) - 1 = ((n - 1 : Nat) : Int) := by omega
  have hb : 1 ≤ h ∧ h ≤ 16 ∧ 1 ≤ m ∧ m ≤ 31 ∧ e ≤ 32 ∧ h ≤ m := by omega
  have H1 := fun r => Lib.hid (rrP_one n r)
  have H2 := fun r i (h : 1 ≤ i) => Lib.hid (rrP_succ (n := n) (r := r) h)
  have H3 := fun r => Lib.hid (rrP_end n r)
  have H4 := fun r (hr : r < m) => Lib.hid (rrL_take (n := n) (r := r) (by rw [he, hm]; exact hr))
  have H5 : Hid ((rrL n).length = m) := Lib.hid (by rw [rrL_len, he, hm])
  simp only [he, hh, hm] at H2 H3
  have he := Lib.hid he'
  have hh := Lib.hid hh
  have hm := Lib.hid hm
  clear he'
  have hS0 := (St.refl w).newnil 33
  simp only [List.nil_append] at hS0
  go_enter Try.func8, Try.ntmps8
  go_wp2_with fail
  refine KT.mono ?_
  clear KT
  rintro e' w1 ⟨rfl, rfl⟩
  go_wp2_with fail
  go_loopw [5, 18, 6, 7, 8] (fun oo r _ _ _ wr => ∃ (k : Nat) (o : Value) (vs : List Value) (uss : List (List Value)), o = oo ∧ k ≤ m ∧ r = .int .i64 k ∧ Hid (Fit3 vs uss ((rrL n).take k)) ∧ St w.heap.size w wr (own3 o vs uss ((rrL n).take k))) (fun _ r _ _ _ _ => m - (intOf r).toNat)
  case atStart => exact ⟨0, _, [], [], rfl, by omega, rfl, ⟨rfl, rfl, fun k h => by simp at h⟩, hS0⟩
  case round =>
    clear hS0
    obtain ⟨r, o, vs, uss, rfl, hk, rfl, hf, hS⟩ := hrel
    by_cases hlt : r < m
    · have hB := (hS.newnil 30).perm (L' := own2 (.slice none 0 0) [] [] ++ own3 _ vs uss ((rrL n).take r)) (by rw [own2_nil']; exact List.perm_append_comm)
      have HR := H1 r
      have HS := H2 r
      have HE := H3 r
      have HT := H4 r hlt
      by_cases h0 : n % 2 = 0
      · have f1 : ((e : Int) == (n : Int)) = true := eq_t (by omega)
        rw [if_pos h0] at HR
        go_wp2_with (first
          | (at_builtin; refine appII hS2 0 rfl (by simp) rfl _ _ rfl rfl _ rfl rfl ?_; intro v3 w3 hS3)
          | (go_at_call 33; refine (paired_c ((n - 1 : Nat) : Int) (r : Int) _).mono ?_; rintro e2 w2 ⟨u, rfl, h2⟩; obtain ⟨ua, uc, hu⟩ := (h2.rdI 0 rfl).sl.sh; rw [iv_len, prL_len] at hu; subst hu; have hS2 := hB.call h2))
        have hS1 := own2_snocL rfl hS3
        simp only [List.nil_append] at hS1
        have hl1 : Hid (([Value.slice ua 2 uc] : List Value).length = (rrP n r 1).length) := Lib.hid (by rw [HR.out]; rfl)
        rw [← HR.out] at hS1
        clear hS2 h2 hS3
        clear hB HR
        go_wp2_with fail
        go_loopw [7, 8] (fun qq ii wr => ∃ (i : Nat) (q : Value) (us : List Value), q = qq ∧ 1 ≤ i ∧ i ≤ h ∧ ii = .int .i64 i ∧ Hid (us.length = (rrP n r i).length) ∧ St w.heap.size w wr (own2 q us (rrP n r i) ++ own3 o vs uss ((rrL n).take r))) (fun _ ii _ => h - (intOf ii).toNat)
        case atStart => exact ⟨1, _, _, rfl, by omega, by omega, rfl, hl1, hS1⟩
        case round =>
          clear hS1 hl1
          obtain ⟨i, q, us, rfl, hi1, hi2, rfl, hl, hS⟩ := hrel
          by_cases hit : i < h
          · have qa : ((r : Int) + (i : Int)).tmod (m : Int) = (((r + i) % m : Nat) : Int) := by rw [Int.tmod_eq_emod_of_nonneg (by omega)]; rfl
            have qb : ((r : Int) - (i : Int) + (e : Int) - 1).tmod (m : Int) = (((r + m - i) % m : Nat) : Int) := by
              rw [show (r : Int) - (i : Int) + (e : Int) - 1 = ((r + m - i : Nat) : Int) by omega, Int.tmod_eq_emod_of_nonneg (by omega)]; rfl
            have qm : ((m : Int) == 0) = false := eq_f (by omega)
            have qn : ¬ (m : Int) = 0 := by omega
            have qo : ¬ m = 0 := by omega
            have xa := Nat.mod_lt (r + i) (show 0 < m by omega)
            have xb := Nat.mod_lt (r + m - i) (show 0 < m by omega)
            have HSi := HS i hi1
            have hlN := Lib.hid (show us.length < 4294967296 by have := rrP_len n r i; rw [hl.out]; omega)
            have w1 : IntKind.i64.wrap ((r : Int) + (i : Int)) = (r : Int) + (i : Int) := IntWalk.i64_in _ (by omega)
            have w2 : IntKind.i64.wrap (m : Int) = (m : Int) := IntWalk.i64_in _ (by omega)
            have w3 : IntKind.i64.wrap ((r : Int) - (i : Int)) = (r : Int) - (i : Int) := IntWalk.i64_in _ (by omega)
            have w4 : IntKind.i64.wrap ((r : Int) - (i : Int) + (e : Int)) = (r : Int) - (i : Int) + (e : Int) := IntWalk.i64_in _ (by omega)
            have w5 : IntKind.i64.wrap ((r : Int) - (i : Int) + (e : Int) - 1) = (r : Int) - (i : Int) + (e : Int) - 1 := IntWalk.i64_in _ (by omega)
            generalize (r + i) % m = ra at *
            generalize (r + m - i) % m = rb at *
            have wa : IntKind.i64.wrap (ra : Int) = (ra : Int) := IntWalk.i64_in _ (by omega)
            have wb : IntKind.i64.wrap (rb : Int) = (rb : Int) := IntWalk.i64_in _ (by omega)
            go_wp2_with fail
            go_region_law (first
              | (refine stepII hS2 0 rfl hlN.out rfl (.tmp 37) (.tmp 54) rfl (by simp [Act.eval, Act.put]) _ rfl (by simp [Act.eval, Act.put]) ?_; intro v3 w3 hS3)
              | (go_simp; go_at_call 33; refine (paired_c ra rb _).mono ?_; rintro e2 w2 ⟨u, rfl, h2⟩; obtain ⟨ua, uc, hu⟩ := (h2.rdI 0 rfl).sl.sh; rw [iv_len, prL_len] at hu; subst hu; have hS2 := hS.drew.call h2))
            all_goals
              go_wp2_with fail
              go_roundw
              case rel =>
                refine ⟨i + 1, v3, us ++ [.slice ua 2 uc], rfl, by omega, by omega, by go_num, ?_, ?_⟩
                · rw [HSi.out]; simp [Hid, hl.out]
                · rw [HSi.out]; exact own2_snocL hl.out hS3
              case measure => simp [intOf]; omega
          · obtain rfl : i = h := by omega
            obtain ⟨qa, qc, hq⟩ := (hS.rd 0 (e := 30) (v := q) (us := us) rfl).sl.sh
            subst hq
            have hlN := Lib.hid (show (rrP n r i).length < 100000 by have := rrP_len n r i; omega)
            have hvl := Lib.hid (show vs.length < 4294967296 by have h1 := hf.out.1; rw [List.length_take] at h1; omega)
            go_wp2_with (first
              | (at_builtin; refine appIII hS3 0 rfl hvl.out rfl _ _ rfl rfl _ rfl rfl ?_; intro v5 w5 hS5)
              | (go_at_call 34; refine (SortRows_c hS hl.out hlN.out).mono ?_; rintro e3 w3 ⟨us3, rfl, hl3, hS3⟩; have hl3 := hl3.trans (srtL_len _).symm; rw [HE.out] at hl3 hS3; have hS3 := hS3.perm List.perm_append_comm; have Hl3 := Lib.hid hl3; clear hl3))
            have hf5 := Lib.hid (hf.out.snoc (.slice qa us.length qc) Hl3.out)
            have hS6 := own3_snoc hf.out.1 hf.out.2.1 hS5
            rw [← HT.out] at hf5 hS6
            go_roundw
            case rel => exact ⟨r + 1, _, _, _, rfl, by omega, by go_num, hf5, hS6⟩
            case measure => simp [intOf]; omega
      · have f1 : ((e : Int) == (n : Int)) = false := eq_f (by omega)
        rw [if_neg h0] at HR
        have hS1 := hB
        have hl1 : Hid (([] : List Value).length = (rrP n r 1).length) := Lib.hid (by rw [HR.out]; rfl)
        rw [← HR.out] at hS1
        clear hB HR
        go_wp2_with fail
        go_loopw [7, 8] (fun qq ii wr => ∃ (i : Nat) (q : Value) (us : List Value), q = qq ∧ 1 ≤ i ∧ i ≤ h ∧ ii = .int .i64 i ∧ Hid (us.length = (rrP n r i).length) ∧ St w.heap.size w wr (own2 q us (rrP n r i) ++ own3 o vs uss ((rrL n).take r))) (fun _ ii _ => h - (intOf ii).toNat)
        case atStart => exact ⟨1, _, _, rfl, by omega, by omega, rfl, hl1, hS1⟩
        case round =>
          clear hS1 hl1
          obtain ⟨i, q, us, rfl, hi1, hi2, rfl, hl, hS⟩ := hrel
          by_cases hit : i < h
          · have qa : ((r : Int) + (i : Int)).tmod (m : Int) = (((r + i) % m : Nat) : Int) := by rw [Int.tmod_eq_emod_of_nonneg (by omega)]; rfl
            have qb : ((r : Int) - (i : Int) + (e : Int) - 1).tmod (m : Int) = (((r + m - i) % m : Nat) : Int) := by
              rw [show (r : Int) - (i : Int) + (e : Int) - 1 = ((r + m - i : Nat) : Int) by omega, Int.tmod_eq_emod_of_nonneg (by omega)]; rfl
            have qm : ((m : Int) == 0) = false := eq_f (by omega)
            have qn : ¬ (m : Int) = 0 := by omega
            have qo : ¬ m = 0 := by omega
            have xa := Nat.mod_lt (r + i) (show 0 < m by omega)
            have xb := Nat.mod_lt (r + m - i) (show 0 < m by omega)
            have HSi := HS i hi1
            have hlN := Lib.hid (show us.length < 4294967296 by have := rrP_len n r i; rw [hl.out]; omega)
            have w1 : IntKind.i64.wrap ((r : Int) + (i : Int)) = (r : Int) + (i : Int) := IntWalk.i64_in _ (by omega)
            have w2 : IntKind.i64.wrap (m : Int) = (m : Int) := IntWalk.i64_in _ (by omega)
            have w3 : IntKind.i64.wrap ((r : Int) - (i : Int)) = (r : Int) - (i : Int) := IntWalk.i64_in _ (by omega)
            have w4 : IntKind.i64.wrap ((r : Int) - (i : Int) + (e : Int)) = (r : Int) - (i : Int) + (e : Int) := IntWalk.i64_in _ (by omega)
            have w5 : IntKind.i64.wrap ((r : Int) - (i : Int) + (e : Int) - 1) = (r : Int) - (i : Int) + (e : Int) - 1 := IntWalk.i64_in _ (by omega)
            generalize (r + i) % m = ra at *
            generalize (r + m - i) % m = rb at *
            have wa : IntKind.i64.wrap (ra : Int) = (ra : Int) := IntWalk.i64_in _ (by omega)
            have wb : IntKind.i64.wrap (rb : Int) = (rb : Int) := IntWalk.i64_in _ (by omega)
            go_wp2_with fail
            go_region_law (first
              | (refine stepII hS2 0 rfl hlN.out rfl (.tmp 37) (.tmp 54) rfl (by simp [Act.eval, Act.put]) _ rfl (by simp [Act.eval, Act.put]) ?_; intro v3 w3 hS3)
              | (go_simp; go_at_call 33; refine (paired_c ra rb _).mono ?_; rintro e2 w2 ⟨u, rfl, h2⟩; obtain ⟨ua, uc, hu⟩ := (h2.rdI 0 rfl).sl.sh; rw [iv_len, prL_len] at hu; subst hu; have hS2 := hS.drew.call h2))
            all_goals
              go_wp2_with fail
              go_roundw
              case rel =>
                refine ⟨i + 1, v3, us ++ [.slice ua 2 uc], rfl, by omega, by omega, by go_num, ?_, ?_⟩
                · rw [HSi.out]; simp [Hid, hl.out]
                · rw [HSi.out]; exact own2_snocL hl.out hS3
              case measure => simp [intOf]; omega
          · obtain rfl : i = h := by omega
            obtain ⟨qa, qc, hq⟩ := (hS.rd 0 (e := 30) (v := q) (us := us) rfl).sl.sh
            subst hq
            have hlN := Lib.hid (show (rrP n r i).length < 100000 by have := rrP_len n r i; omega)
            have hvl := Lib.hid (show vs.length < 4294967296 by have h1 := hf.out.1; rw [List.length_take] at h1; omega)
            go_wp2_with (first
              | (at_builtin; refine appIII hS3 0 rfl hvl.out rfl _ _ rfl rfl _ rfl rfl ?_; intro v5 w5 hS5)
              | (go_at_call 34; refine (SortRows_c hS hl.out hlN.out).mono ?_; rintro e3 w3 ⟨us3, rfl, hl3, hS3⟩; have hl3 := hl3.trans (srtL_len _).symm; rw [HE.out] at hl3 hS3; have hS3 := hS3.perm List.perm_append_comm; have Hl3 := Lib.hid hl3; clear hl3))
            have hf5 := Lib.hid (hf.out.snoc (.slice qa us.length qc) Hl3.out)
            have hS6 := own3_snoc hf.out.1 hf.out.2.1 hS5
            rw [← HT.out] at hf5 hS6
            go_roundw
            case rel => exact ⟨r + 1, _, _, _, rfl, by omega, by go_num, hf5, hS6⟩
            case measure => simp [intOf]; omega
    · obtain rfl : r = m := by omega
      rw [show (rrL n).take r = rrL n from by rw [← H5.out, List.take_length]] at hf hS
      go_wp2_with fail
      go_ret2
      exact ⟨_, vs, uss, rfl, hf.out, hS⟩
end Go.Proofs.Ytgflhgkcmfjkgaa
end

section
/- Slices of truth values. -/
namespace Go.Proofs.Ytgflhgkcmfjkgaa
set_option linter.unusedSimpArgs false
set_option linter.unusedVariables false
open Go.RowKit
/-- the cells of a list of truth values -/
def bo (xs : List Bool) : List Value := xs.map Value.bool
/-- element j -/
def bat (xs : List Bool) (j : Nat) : Bool := xs.getD j false
theorem bo_len (xs : List Bool) : (bo xs).length = xs.length := by simp [bo]
theorem bo_get {xs : List Bool} {j : Nat} (h : j < xs.length) : (bo xs).getD j undef = .bool (bat xs j) := by
  simp [bo, bat, List.getD, List.getElem?_eq_getElem h]
theorem bo_set (xs : List Bool) (j : Nat) (x : Bool) : (bo xs).set j (.bool x) = bo (xs.set j x) := by simp [bo, List.map_set]
theorem bo_rep (n : Nat) : List.replicate n (Value.bool false) = bo (List.replicate n false) := by simp [bo]
theorem bat_set {xs : List Bool} {i j : Nat} {x : Bool} (h : i < xs.length) : bat (xs.set i x) j = if i = j then x else bat xs j := by
  unfold bat
  rw [List.getD_eq_getElem?_getD, List.getElem?_set]
  split
  · rename_i e; subst e; simp [h]
  · simp
theorem bat_rep (n j : Nat) : bat (List.replicate n false) j = false := by
  unfold bat
  rw [List.getD_eq_getElem?_getD, List.getElem?_replicate]; split <;> rfl
def RdO (w : World) (v : Value) (xs : List Bool) : Prop := Rd w v (bo xs)
theorem Try.info_o : (Try.prog.info? 4).map (fun i => (i.zero, i.size, i.bytes)) = some (some (.bool false), 1, 1) := by kernel_rfl
theorem Try.size_o : (Try.prog.info? 4).map (·.size) = some 1 := by kernel_rfl
theorem Try.und_os : Try.prog.underlying 69 = some (.slice 4) := by kernel_rfl
section
variable {w w' : World} {v : Value} {xs : List Bool}
theorem RdO.le (h : RdO w v xs) : xs.length ≤ 9223372036854775807 := by have := h.sl.le; rwa [bo_len] at this
theorem RdO.len (h : RdO w v xs) (ty : TypeId) (W : World) : (Builtin.len_ #[69] ty #[v]).run Try.prog W = .ok (.int .i64 xs.length) W := by
  have := run_len_sl (P := Try.prog) h.sl 69 ty Try.und_os W; rwa [bo_len] at this
theorem RdO.ix (h : RdO w v xs) (k : IntKind) (i : Int) (h0 : 0 ≤ i) (hi : i < xs.length) (W : World) :
    (Instr.indexAt 69 v (.int k i)).run Try.prog W = .ok (.pointer (some (el v i.toNat))) W :=
  run_ix_sl (P := Try.prog) h.sl 69 Try.und_os Try.size_o k i h0 (by rw [bo_len]; exact hi) W
theorem RdO.ixe (h : RdO w v xs) (i : Int) (j : Nat) (hij : i = (j : Int)) (hj : j < xs.length) (W : World) :
    (Instr.indexAt 69 v (.int .i64 i)).run Try.prog W = .ok (.pointer (some (el v j))) W := by
  have := h.ix .i64 i (by omega) (by omega) W
  rwa [hij, Int.toNat_natCast, ← hij] at this
theorem RdO.cell (h : RdO w v xs) (j : Nat) (hj : j < xs.length) : w.cell? (el v j) = some (.bool (bat xs j)) := by
  rw [Rd.cell h (by rw [bo_len]; exact hj), bo_get hj]
theorem RdO.keep (h : RdO w v xs) (hb : Below w.heap.size w w') : RdO w' v xs := Rd.keep h hb
end
theorem St.rdO {B : Nat} {w0 w : World} {L : List Ent} (h : St B w0 w L) (i : Nat) {e : TypeId} {v : Value} {xs : List Bool} (hi : L[i]? = some (row e v (bo xs))) : RdO w v xs := h.rd i hi
section
variable {ops : Array Oper} {rest : List Oper} {o : Oper} {a : Act} {Q : Exit → Act → World → Prop} {B : Nat} {w0 w : World} {L : List Ent}
/-- a store into an owned row of truth values -/
theorem stoO (hS : St B w0 w L) (i : Nat) {v : Value} {xs : List Bool} (hi : L[i]? = some (row 4 v (bo xs))) (j : Nat) (hj : j < xs.length) (hg : o.guard = none) (x y : Operand)
    (hop : o.op = .store 4 x y) (hx : a.eval x = .pointer (some (el v j))) (n : Bool) (hy : a.eval y = .bool n)
    (hK : ∀ w', St B w0 w' (L.set i (row 4 v (bo (xs.set j n)))) → wpList Try.prog ops Q rest (a.put o.dst undef) w') :
    wpList Try.prog ops Q (o :: rest) a w :=
  wpList_st_store hg x y 4 hop Try.size_o hS i hi j (by rw [bo_len]; exact hj) (.bool n) hx hy rfl rfl (fun w' h => hK w' (by rw [← bo_set]; exact h))
/-- make([]bool, n) -/
theorem mkO (hS : St B w0 w L) (hg : o.guard = none) (x y : Operand) (hop : o.op = .makeSlice 69 x y) (kl kc : IntKind) (n : Nat) (hx : a.eval x = .int kl n) (hy : a.eval y = .int kc n) (hN : n ≤ 4294967296)
    (hK : ∀ v' w', St B w0 w' (L ++ [row 4 v' (bo (List.replicate n false))]) → wpList Try.prog ops Q rest (a.put o.dst v') w') :
    wpList Try.prog ops Q (o :: rest) a w :=
  wpList_st_make hg x y 69 hop 4 (.bool false) 1 Try.und_os Try.info_o rfl hS kl kc n hx hy (by omega) hN (fun v' w' h => hK v' w' (by rw [← bo_rep]; exact h))
end
end Go.Proofs.Ytgflhgkcmfjkgaa
end

section
/- Walks: whether a list holds a number. -/
namespace Go.Proofs.Ytgflhgkcmfjkgaa
set_option linter.unusedSimpArgs false
set_option linter.unusedVariables false
open Go.RowKit

theorem anyP_eq (n : Int) (xs : List Int) : anyP (fun x => n == x) xs = decide (n ∈ xs) := by
  unfold anyP
  rw [Bool.eq_iff_iff, List.any_eq_true, decide_eq_true_iff]
  constructor
  · rintro ⟨x, hx, e⟩; rw [beq_iff_eq] at e; subst e; exact hx
  · intro h; exact ⟨n, h, by simp⟩

set_option maxHeartbeats 1000000 in
set_option maxRecDepth 100000 in
theorem Index_c (v : Value) (xs : List Int) (n : Int) (w : World) (hv : RdI w v xs) :
    Calls Try.prog 72 #[v, .int .i64 n] w fun e w' => e = .returned (.int .i64 (idxP (fun x => n == x) xs 0)) ∧ w = w' := by
  have hln := hv.len
  have hix := hv.ix
  have hm := hv.le
  go_enter Try.func72, Try.ntmps72
  go_wp2_with fail
  go_loopw [5, 8] (fun _ i wr => ∃ k : Nat, k ≤ xs.length ∧ i = .int .i64 k ∧ Hid (idxP (fun x => n == x) xs 0 = idxP (fun x => n == x) xs k) ∧ wr = w) (fun _ i _ => xs.length - (intOf i).toNat)
  case atStart => exact ⟨0, by omega, rfl, rfl, rfl⟩
  case round =>
    obtain ⟨k, hk, rfl, hI, rfl⟩ := hrel
    by_cases hlt : k < xs.length
    · have hc := hv.cell k hlt
      by_cases hp : n = nth xs k
      · have f1 := eq_t hp
        have Hp := Lib.hid (show (fun x => n == x) (nth xs k) = true by simpa using hp)
        clear hp
        go_wp2_with fail
        go_ret
        exact ⟨ret_i64 (by rw [hI.out, idxP_hit hlt Hp.out]), rfl⟩
      · have f1 := eq_f hp
        have Hp := Lib.hid (show (fun x => n == x) (nth xs k) = false by simpa using hp)
        clear hp
        go_wp2_with fail
        go_roundw
        case rel => exact ⟨k + 1, by omega, by go_num, by rw [Hid, hI.out, idxP_step hlt Hp.out], by first | rfl | trivial⟩
        case measure => simp [intOf]; omega
    · go_wp2_with fail
      go_ret
      exact ⟨ret_i64 (by rw [hI.out, idxP_end (by omega)]), rfl⟩
theorem Contains_c (v : Value) (xs : List Int) (n : Int) (w : World) (hv : RdI w v xs) :
    Calls Try.prog 38 #[v, .int .i64 n] w fun e w' => e = .returned (.bool (decide (n ∈ xs))) ∧ w = w' := by
  have H := Lib.hid (show decide (0 ≤ idxP (fun x => n == x) xs 0) = decide (n ∈ xs) by rw [idxP_any, anyP_eq])
  go_enter Try.func38, Try.ntmps38
  go_wp2_with fail
  refine (Index_c v xs n w hv).mono ?_
  rintro e w1 ⟨rfl, rfl⟩
  go_wp2_with fail
  go_ret
  exact ⟨ret_bool H.out, rfl⟩
end Go.Proofs.Ytgflhgkcmfjkgaa
end

section
/- Walks: arrays by value. Walks: valid arrays, equal arrays. -/
namespace Go.Proofs.Ytgflhgkcmfjkgaa
set_option linter.unusedSimpArgs false
set_option linter.unusedVariables false
open Go.RowKit


/-- an array as a value -/
def av (lv co : Int) (v : Value) : Value := .agg #[.int .i64 lv, .int .i64 co, v]

/-- a block that holds an array -/
def BoxA (w : World) (g : Nat) (lv co : Int) (v : Value) : Prop :=
  w.cell? ⟨g, 0, none⟩ = some (.int .i64 lv) ∧ w.cell? ⟨g, 1, none⟩ = some (.int .i64 co) ∧ w.cell? ⟨g, 2, none⟩ = some v
theorem cell_keep {w w' : World} (hb : Below w.heap.size w w') {p : Addr} {u : Value} (h : w.cell? p = some u) : w'.cell? p = some u := by
  rw [hb.cell (World.block_lt_of_cell? _ _ h)]; exact h
theorem BoxA.keep {w w' : World} {g : Nat} {lv co : Int} {v : Value} (h : BoxA w g lv co v) (hb : Below w.heap.size w w') : BoxA w' g lv co v :=
  ⟨cell_keep hb h.1, cell_keep hb h.2.1, cell_keep hb h.2.2⟩
end Go.Proofs.Ytgflhgkcmfjkgaa
end

section
/- Walks: equal lists, equal lists of lists, equal arrays. -/
namespace Go.Proofs.Ytgflhgkcmfjkgaa
set_option linter.unusedSimpArgs false
set_option linter.unusedVariables false
open Go.RowKit

set_option maxHeartbeats 1000000 in
set_option maxRecDepth 100000 in
theorem Equal_c (va vb : Value) (xs ys : List Int) (w : World) (ha : RdI w va xs) (hb : RdI w vb ys) :
    Calls Try.prog 46 #[va, vb] w (GivesB w (decide (xs = ys))) := by
  have hla := ha.len
  have hlb := hb.len
  have hia := ha.ix
  have hib := hb.ix
  have hma := ha.le
  by_cases hne : xs.length = ys.length
  · have f0 : ((xs.length : Int) != (ys.length : Int)) = false := ne_f (by omega)
    have hle : xs.length ≤ ys.length := by omega
    have Hne := Lib.hid hne; clear hne
    go_enter Try.func46, Try.ntmps46
    go_wp2_with fail
    go_loopw [5, 13] (fun _ i wr => ∃ k : Nat, k ≤ xs.length ∧ i = .int .i64 k ∧ Hid (∀ j, j < k → nth xs j = nth ys j) ∧ St w.heap.size w wr []) (fun _ i _ => xs.length - (intOf i).toNat)
    case atStart => exact ⟨0, by omega, rfl, fun j hj => by omega, St.refl w⟩
    case round =>
      obtain ⟨k, hk, rfl, hI, hS⟩ := hrel
      by_cases hlt : k < xs.length
      · have hqa := fun s : SS w.heap.size w [] => (s.st.oldI ha).cell k hlt
        have hqb := fun s : SS w.heap.size w [] => (s.st.oldI hb).cell k (by omega)
        have hk2 : k < ys.length := by omega
        by_cases h1 : nth xs k = nth ys k
        · have f1 := ne_f h1
          have H1 := Lib.hid h1; clear h1
          go_wp2_with fail
          have hne : Nonempty (SS _ _ _) := ⟨⟨_, hS⟩⟩
          refine wp_region_st (by kernel_rfl) (by kernel_rfl) hS ?_
          repeat (go_big_quiet_step (fail))
          refine wpQuiet_nil ?_
          rintro _ ⟨s2, rfl⟩
          have hS2 := s2.st
          generalize s2.w = w2 at hS2 ⊢
          go_wp2_with fail
          go_roundw
          case rel => exact ⟨k + 1, by omega, by go_num, fun j hj => by
            by_cases e : j = k
            · subst e; exact H1.out
            · exact hI.out j (by omega), hS2⟩
          case measure => simp [intOf]; omega
        · have f1 := ne_t h1
          have H1 := Lib.hid h1; clear h1
          go_wp2_with fail
          have hne : Nonempty (SS _ _ _) := ⟨⟨_, hS⟩⟩
          refine wp_region_st (by kernel_rfl) (by kernel_rfl) hS ?_
          repeat (go_big_quiet_step (fail))
          refine wpQuiet_nil ?_
          rintro _ ⟨s2, rfl⟩
          have hS2 := s2.st
          generalize s2.w = w2 at hS2 ⊢
          go_wp2_with fail
          go_ret
          exact ⟨ret_bool (by symm; rw [decide_eq_false_iff_not]; intro e; subst e; exact H1.out rfl), hS2⟩
      · go_wp2_with fail
        go_ret
        refine ⟨ret_bool ?_, hS⟩
        symm; rw [decide_eq_true_iff]
        apply List.ext_getElem Hne.out
        intro j h1 h2
        have := hI.out j (by omega)
        rwa [nth_eq h1, nth_eq h2] at this
  · have f0 : ((xs.length : Int) != (ys.length : Int)) = true := ne_t (by omega)
    have Hne := Lib.hid hne; clear hne
    go_enter Try.func46, Try.ntmps46
    go_wp2_with fail
    go_ret
    exact ⟨ret_bool (by symm; rw [decide_eq_false_iff_not]; intro e; exact Hne.out (by rw [e])), St.refl w⟩

end Go.Proofs.Ytgflhgkcmfjkgaa
end

section
/- Walks: slices.ContainsFunc on rows of integers. -/
namespace Go.Proofs.Ytgflhgkcmfjkgaa
set_option linter.unusedSimpArgs false
set_option linter.unusedVariables false
open Go.RowKit

/-! slices.ContainsFunc on rows -/
def anyR (p : List Int → Bool) (xss : List (List Int)) : Bool := xss.any p
def idxR (p : List Int → Bool) (xss : List (List Int)) (k : Nat) : Int := match (xss.drop k).findIdx? p with | some j => (k + j : Nat) | none => -1
theorem idxR_step {p : List Int → Bool} {xs : List (List Int)} {k : Nat} (hk : k < xs.length) (h : p (xat xs k) = false) : idxR p xs k = idxR p xs (k + 1) := by
  unfold idxR
  rw [drop_xat hk, List.findIdx?_cons, h]
  cases (xs.drop (k + 1)).findIdx? p with
  | none => rfl
  | some j => simp; omega
theorem idxR_hit {p : List Int → Bool} {xs : List (List Int)} {k : Nat} (hk : k < xs.length) (h : p (xat xs k) = true) : idxR p xs k = k := by
  unfold idxR; rw [drop_xat hk, List.findIdx?_cons, h]; simp
theorem idxR_end {p : List Int → Bool} {xs : List (List Int)} {k : Nat} (hk : xs.length ≤ k) : idxR p xs k = -1 := by
  unfold idxR; rw [List.drop_of_length_le hk]; rfl
theorem idxR_any {p : List Int → Bool} {xs : List (List Int)} : decide (0 ≤ idxR p xs 0) = anyR p xs := by
  unfold idxR anyR
  rw [List.drop_zero]
  cases h : xs.findIdx? p with
  | none =>
    have hy : xs.any p = false := by
      rw [List.any_eq_false]
      intro x hx
      have := List.findIdx?_eq_none_iff.1 h x hx
      simp [this]
    rw [hy]; simp
  | some j =>
    have hy : xs.any p = true := by
      obtain ⟨hj, hp, _⟩ := List.findIdx?_eq_some_iff_getElem.1 h
      exact List.any_eq_true.2 ⟨_, List.getElem_mem hj, hp⟩
    rw [hy]; simp

set_option maxHeartbeats 1000000 in
set_option maxRecDepth 100000 in
theorem IndexFuncR_c (K : FuncId) (caps : Array Value) (p : List Int → Bool) (v : Value) (us : List Value) (xss : List (List Int)) (w : World) (hv : RII w v us xss)
    (hcf : ∀ (args : Array Value) (W : World), (callFunc K args).run Try.prog W = .ok (.enter K args) W)
    (hK : ∀ (j : Nat) (W : World), St w.heap.size w W [] → j < xss.length → Calls Try.prog K (#[vat us j] ++ caps) W (GivesB W (p (xat xss j)))) :
    Calls Try.prog 131 #[v, .func (.func K) #[] caps] w (GivesI w (idxR p xss 0)) := by
  have HK := Lib.hid hK
  clear hK
  have hln := hv.len
  have hix := hv.ix
  have hm := hv.le
  go_enter Try.func131, Try.ntmps131
  go_wp2_with fail
  go_loopw [5, 8] (fun _ i wr => ∃ k : Nat, k ≤ xss.length ∧ i = .int .i64 k ∧ Hid (idxR p xss 0 = idxR p xss k) ∧ St w.heap.size w wr []) (fun _ i _ => xss.length - (intOf i).toNat)
  case atStart => exact ⟨0, by omega, rfl, rfl, St.refl w⟩
  case round =>
    obtain ⟨k, hk, rfl, hI, hS⟩ := hrel
    by_cases hlt : k < xss.length
    · have hc := (hS.oldII hv).cell k hlt
      go_wp2_with fail
      refine (HK.out _ _ hS hlt).mono ?_
      cases hp : p (xat xss k)
      · have Hp := Lib.hid hp; clear hp
        rintro e w2 ⟨rfl, h2⟩
        have hS2 := hS.call0 h2
        go_wp2_with fail
        go_roundw
        case rel => exact ⟨k + 1, by omega, by go_num, by rw [Hid, hI.out, idxR_step hlt Hp.out], hS2⟩
        case measure => simp [intOf]; omega
      · have Hp := Lib.hid hp; clear hp
        rintro e w2 ⟨rfl, h2⟩
        have hS2 := hS.call0 h2
        go_wp2_with fail
        go_ret
        exact ⟨ret_i64 (by rw [hI.out, idxR_hit hlt Hp.out]), hS2⟩
    · go_wp2_with fail
      go_ret
      exact ⟨ret_i64 (by rw [hI.out, idxR_end (by omega)]), hS⟩
theorem ContainsFuncR_c (K : FuncId) (caps : Array Value) (p : List Int → Bool) (v : Value) (us : List Value) (xss : List (List Int)) (w : World) (hv : RII w v us xss)
    (hcf : ∀ (args : Array Value) (W : World), (callFunc K args).run Try.prog W = .ok (.enter K args) W)
    (hK : ∀ (j : Nat) (W : World), St w.heap.size w W [] → j < xss.length → Calls Try.prog K (#[vat us j] ++ caps) W (GivesB W (p (xat xss j)))) :
    Calls Try.prog 109 #[v, .func (.func K) #[] caps] w (GivesB w (anyR p xss)) := by
  have HK := Lib.hid hK
  clear hK
  go_enter Try.func109, Try.ntmps109
  go_wp2_with fail
  refine (IndexFuncR_c K caps p v us xss w hv hcf HK.out).mono ?_
  rintro e w1 ⟨rfl, h1⟩
  go_wp2_with fail
  go_ret
  exact ⟨ret_bool idxR_any, h1⟩

theorem szII_c (v : Value) (us : List Value) (xss : List (List Int)) (w : World) (hv : RII w v us xss) :
    Calls Try.prog 48 #[v] w fun e w' => e = .returned (.int .i64 xss.length) ∧ w = w' := by
  have hln := hv.len
  go_enter Try.func48, Try.ntmps48
  go_wp2_with fail
  go_ret
  exact ⟨rfl, rfl⟩
end Go.Proofs.Ytgflhgkcmfjkgaa
end

section
/- The source of choices that the laws draw from. -/
namespace Go.Proofs.Ytgflhgkcmfjkgaa
set_option linter.unusedSimpArgs false
set_option linter.unusedVariables false
open Go.RowKit

/-- the cells of some bytes -/
def bv (bs : List UInt8) : List Value := bs.map fun b => Value.int .u8 b.toNat
def RdB (w : World) (v : Value) (bs : List UInt8) : Prop := Rd w v (bv bs)
theorem bv_len (bs : List UInt8) : (bv bs).length = bs.length := by simp [bv]
def bnth (bs : List UInt8) (j : Nat) : Int := ((bs.getD j 0).toNat : Int)
theorem bnth_bd (bs : List UInt8) (j : Nat) : 0 ≤ bnth bs j ∧ bnth bs j ≤ 255 := by
  unfold bnth; have := (bs.getD j 0).toNat_lt; omega
theorem bv_get {bs : List UInt8} {j : Nat} (h : j < bs.length) : (bv bs).getD j undef = .int .u8 (bnth bs j) := by
  simp [bv, bnth, List.getD, List.getElem?_eq_getElem h]

theorem Try.und_bs : Try.prog.underlying 22 = some (.slice 5) := by kernel_rfl
theorem Try.size_b : (Try.prog.info? 5).map (·.size) = some 1 := by kernel_rfl

section
variable {w w' : World} {v : Value} {bs : List UInt8}
theorem RdB.le (h : RdB w v bs) : bs.length ≤ 9223372036854775807 := by have := h.sl.le; rwa [bv_len] at this
theorem RdB.len (h : RdB w v bs) (ty : TypeId) (W : World) : (Builtin.len_ #[22] ty #[v]).run Try.prog W = .ok (.int .i64 bs.length) W := by
  have := run_len_sl (P := Try.prog) h.sl 22 ty Try.und_bs W; rwa [bv_len] at this
theorem RdB.ix (h : RdB w v bs) (k : IntKind) (i : Int) (h0 : 0 ≤ i) (hi : i < bs.length) (W : World) :
    (Instr.indexAt 22 v (.int k i)).run Try.prog W = .ok (.pointer (some (el v i.toNat))) W :=
  run_ix_sl (P := Try.prog) h.sl 22 Try.und_bs Try.size_b k i h0 (by rw [bv_len]; exact hi) W
theorem RdB.cell (h : RdB w v bs) (j : Nat) (hj : j < bs.length) : w.cell? (el v j) = some (.int .u8 (bnth bs j)) := by
  rw [Rd.cell h (by rw [bv_len]; exact hj), bv_get hj]
theorem RdB.keep (h : RdB w v bs) (hb : Below w.heap.size w w') : RdB w' v bs := Rd.keep h hb
theorem RdB.sh (h : RdB w v bs) : ∃ a n c, v = .slice a n c := by obtain ⟨a, c, hv, _⟩ := h.sl; exact ⟨a, _, c, hv⟩
end
theorem St.oldB {w0 w : World} {L : List Ent} {v : Value} {bs : List UInt8} (h : St w0.heap.size w0 w L) (hr : RdB w0 v bs) : RdB w v bs := Rd.keep hr h.below

/-- the source lies at the head of what is owned, at most K bytes were drawn -/
def Src (w0 w : World) (cv : Value) (g : Nat) (K : Nat) (L : List Ent) : Prop :=
  ∃ p seed : Int, 0 ≤ p ∧ p ≤ K ∧ St w0.heap.size w0 w (box 101 g [cv, .int .i64 p, .int .u64 seed] :: L)

def AnInt (lo hi : Int) (R : World → Prop) (e : Ending) (w' : World) : Prop := ∃ x : Int, lo ≤ x ∧ x ≤ hi ∧ e = .returned (.int .i64 x) ∧ R w'

theorem Src.mono {w0 w : World} {cv : Value} {g K K' : Nat} {L : List Ent} (h : Src w0 w cv g K L) (hk : K ≤ K') : Src w0 w cv g K' L := by
  obtain ⟨p, s, h0, h1, h2⟩ := h; exact ⟨p, s, h0, by omega, h2⟩
theorem Src.st {w0 w : World} {cv : Value} {g K : Nat} {L : List Ent} (h : Src w0 w cv g K L) : St w0.heap.size w0 w L := by
  obtain ⟨p, s, h0, h1, h2⟩ := h; exact h2.sub (List.sublist_cons_self _ _)

theorem and255 (x : Int) : 0 ≤ wrap64 (bits BinOp.and IntKind.u64 (IntKind.u64.wrap x / 1099511627776) 255) ∧ wrap64 (bits BinOp.and IntKind.u64 (IntKind.u64.wrap x / 1099511627776) 255) ≤ 255 := by
  have h1 : 0 ≤ IntKind.u64.wrap x / 1099511627776 ∧ IntKind.u64.wrap x / 1099511627776 < 18446744073709551616 := by
    simp [IntKind.wrap, IntKind.bits, IntKind.signed]; omega
  rw [u64_and _ _ h1.1 h1.2 (by omega) (by omega)]
  have e255 : (255 : Int).toNat = 255 := rfl
  have h2 := Nat.and_le_right (n := (IntKind.u64.wrap x / 1099511627776).toNat) (m := (255 : Int).toNat)
  rw [e255] at h2 ⊢
  unfold wrap64
  omega

set_option maxHeartbeats 1000000 in
theorem next_c (w0 w : World) (cv : Value) (bs : List UInt8) (g K : Nat) (L : List Ent) (hb : RdB w0 cv bs) (h : Src w0 w cv g K L) (hK : K < 1099511627776) :
    Calls Try.prog 66 #[.pointer (some ⟨g, 0, none⟩)] w (AnInt 0 255 fun w' => Src w0 w' cv g (K + 1) L) := by
  obtain ⟨p, seed, h0, h1, hS⟩ := h
  obtain ⟨q, rfl⟩ := Int.eq_ofNat_of_zero_le h0
  have hc0 := hS.bcell 0 rfl 0 rfl
  have hc1 := hS.bcell 0 rfl 1 rfl
  have hc2 := hS.bcell 0 rfl 2 rfl
  have hf := hS.bfree 0 rfl
  have hbw := hS.oldB hb
  have hln := hb.len
  have hix := hb.ix
  have hcell := hbw.cell
  have hle := hb.le
  have hbd := bnth_bd bs q
  obtain ⟨hb0, hb1⟩ := hbd
  by_cases hlt : q < bs.length
  · have hlt' : q + 1 ≤ bs.length := hlt
    go_enter Try.func66, Try.ntmps66
    go_wp2_with fail
    go_quiet (fail)
    go_wp2_with fail
    go_quiet (fail)
    go_wp2_with fail
    refine abs_wp (((hS.drewN _).bstore 0 rfl 1 _).bstore 0 rfl 2 _) ?_
    intro w2 hS2
    clear hc0 hc1 hc2 hf
    have hc0 := hS2.bcell 0 rfl 0 rfl
    have hc1 := hS2.bcell 0 rfl 1 rfl
    go_quiet (fail)
    go_wp2_with fail
    go_ret
    exact ⟨_, hb0, hb1, rfl, _, _, by omega, by omega, hS2.drewN _⟩
  · have hlt' : ¬ q + 1 ≤ bs.length := by omega
    go_enter Try.func66, Try.ntmps66
    go_wp2_with fail
    go_quiet (fail)
    go_wp2_with fail
    refine abs_wp (((hS.drewN _).bstore 0 rfl 1 _).bstore 0 rfl 2 _) ?_
    intro w2 hS2
    clear hc0 hc1 hc2 hf
    have hc0 := hS2.bcell 0 rfl 0 rfl
    have hc1 := hS2.bcell 0 rfl 1 rfl
    have hc2 := hS2.bcell 0 rfl 2 rfl
    go_quiet (fail)
    go_wp2_with fail
    go_ret
    exact ⟨_, (and255 _).1, (and255 _).2, rfl, _, _, by omega, by omega, hS2.drewN _⟩

set_option maxHeartbeats 1000000 in
theorem pick_c (w0 w : World) (cv : Value) (bs : List UInt8) (g K : Nat) (L : List Ent) (n : Int) (hb : RdB w0 cv bs) (h : Src w0 w cv g K L) (hK : K < 1000000000000) :
    Calls Try.prog 31 #[.pointer (some ⟨g, 0, none⟩), .int .i64 n] w (AnInt 0 (max (n - 1) 0) fun w' => Src w0 w' cv g (K + 2) L) := by
  by_cases h1 : n ≤ 1
  · go_enter Try.func31, Try.ntmps31
    go_wp2_with fail
    go_ret
    exact ⟨0, by omega, by omega, rfl, h.mono (by omega)⟩
  · by_cases h2 : n ≤ 200
    · go_enter Try.func31, Try.ntmps31
      go_wp2_with fail
      refine (next_c w0 w cv bs g K L hb h (by omega)).mono ?_
      rintro e w1 ⟨x, hx0, hx1, rfl, h3⟩
      go_wp2_with fail
      go_ret
      have := Int.emod_nonneg x (show n ≠ 0 by omega)
      have := Int.emod_lt_of_pos x (show 0 < n by omega)
      exact ⟨_, by omega, by omega, rfl, h3.mono (by omega)⟩
    · go_enter Try.func31, Try.ntmps31
      go_wp2_with fail
      refine (next_c w0 w cv bs g K L hb h (by omega)).mono ?_
      rintro e w1 ⟨x, hx0, hx1, rfl, h3⟩
      go_wp2_with fail
      refine (next_c w0 w1 cv bs g (K + 1) L hb h3 (by omega)).mono ?_
      rintro e w2 ⟨y, hy0, hy1, rfl, h4⟩
      go_wp2_with fail
      go_ret
      have := Int.emod_nonneg (x * 256 + y) (show n ≠ 0 by omega)
      have := Int.emod_lt_of_pos (x * 256 + y) (show 0 < n by omega)
      exact ⟨_, by omega, by omega, rfl, h4.mono (by omega)⟩

theorem l00From_c (w : World) (cv : Value) (bs : List UInt8) (hb : RdB w cv bs) :
    Calls Try.prog 30 #[cv] w fun e w' => e = .returned (.pointer (some ⟨w.heap.size, 0, none⟩)) ∧ Src w w' cv w.heap.size 0 [] := by
  obtain ⟨av, n, c, rfl⟩ := hb.sh
  go_enter Try.func30, Try.ntmps30
  go_wp2_with fail
  go_ret
  exact ⟨rfl, 0, 0, by omega, by omega, (St.refl w).newbox _ _⟩
end Go.Proofs.Ytgflhgkcmfjkgaa
end

section
/- The source of choices: what lies beside it. -/
namespace Go.Proofs.Ytgflhgkcmfjkgaa
set_option linter.unusedSimpArgs false
set_option linter.unusedVariables false
open Go.RowKit

theorem Src.call {w0 w w' : World} {cv : Value} {g K : Nat} {L L' : List Ent} (h : Src w0 w cv g K L) (h' : St w.heap.size w w' L') : Src w0 w' cv g K (L ++ L') := by
  obtain ⟨p, s, h0, h1, hS⟩ := h
  exact ⟨p, s, h0, h1, hS.call h'⟩
theorem Src.sub {w0 w : World} {cv : Value} {g K : Nat} {L L' : List Ent} (h : Src w0 w cv g K L) (h' : L'.Sublist L) : Src w0 w cv g K L' := by
  obtain ⟨p, s, h0, h1, hS⟩ := h
  exact ⟨p, s, h0, h1, hS.sub (h'.cons_cons _)⟩
theorem Src.rdI {w0 w : World} {cv : Value} {g K : Nat} {L : List Ent} (h : Src w0 w cv g K L) (i : Nat) {e : TypeId} {v : Value} {xs : List Int} (hi : L[i]? = some (row e v (iv xs))) : RdI w v xs := by
  obtain ⟨p, s, h0, h1, hS⟩ := h
  exact hS.rdI (i + 1) hi

theorem Src.perm {w0 w : World} {cv : Value} {g K : Nat} {L L' : List Ent} (h : Src w0 w cv g K L) (h' : L.Perm L') : Src w0 w cv g K L' := by
  obtain ⟨p, s, h0, h1, hS⟩ := h
  exact ⟨p, s, h0, h1, hS.perm (h'.cons _)⟩
theorem Src.call0 {w0 w w' : World} {cv : Value} {g K : Nat} {L : List Ent} (h : Src w0 w cv g K L) (h' : St w.heap.size w w' []) : Src w0 w' cv g K L := by
  have := h.call h'; rwa [List.append_nil] at this
theorem Src.rd {w0 w : World} {cv : Value} {g K : Nat} {L : List Ent} (h : Src w0 w cv g K L) (i : Nat) {e : TypeId} {v : Value} {us : List Value} (hi : L[i]? = some (row e v us)) : Rd w v us := by
  obtain ⟨p, s, h0, h1, hS⟩ := h
  exact hS.rd (i + 1) hi
theorem Src.box {w0 w : World} {cv : Value} {g K : Nat} {L : List Ent} (h : Src w0 w cv g K L) (i : Nat) {e : TypeId} {gf : Nat} {us : List Value} (hi : L[i]? = some (Go.Proofs.Ytgflhgkcmfjkgaa.box e gf us)) (j : Nat) {u : Value} (hj : us[j]? = some u) : w.cell? ⟨gf, j, none⟩ = some u := by
  obtain ⟨p, s, h0, h1, hS⟩ := h
  exact hS.bcell (i + 1) hi j hj
theorem Src.bfree {w0 w : World} {cv : Value} {g K : Nat} {L : List Ent} (h : Src w0 w cv g K L) (i : Nat) {e : TypeId} {gf : Nat} {us : List Value} (hi : L[i]? = some (Go.Proofs.Ytgflhgkcmfjkgaa.box e gf us)) (j : Nat) : w.frozen? ⟨gf, j, none⟩ = false := by
  obtain ⟨p, s, h0, h1, hS⟩ := h
  exact hS.bfree (i + 1) hi j
theorem Src.bstore {w0 w : World} {cv : Value} {g K : Nat} {L : List Ent} (h : Src w0 w cv g K L) (i : Nat) {e : TypeId} {gf : Nat} {us : List Value} (hi : L[i]? = some (Go.Proofs.Ytgflhgkcmfjkgaa.box e gf us)) (j : Nat) (u : Value) :
    Src w0 (w.setCell ⟨gf, j, none⟩ u) cv g K (L.set i (Go.Proofs.Ytgflhgkcmfjkgaa.box e gf (us.set j u))) := by
  obtain ⟨p, s, h0, h1, hS⟩ := h
  exact ⟨p, s, h0, h1, hS.bstore (i + 1) hi j u⟩
/-- a new block behind a pointer, ahead of the others -/
theorem Src.newboxF {w0 w : World} {cv : Value} {g K : Nat} {L : List Ent} (h : Src w0 w cv g K L) (e : TypeId) (cs : Array Value) : Src w0 (w.alloc (.cells cs e)) cv g K (Go.Proofs.Ytgflhgkcmfjkgaa.box e w.heap.size cs.toList :: L) := by
  obtain ⟨p, s, h0, h1, hS⟩ := h
  exact ⟨p, s, h0, h1, (hS.newboxF e cs).perm (List.Perm.swap _ _ _)⟩
theorem Src.drew {w0 w : World} {cv : Value} {g K : Nat} {L : List Ent} (h : Src w0 w cv g K L) : Src w0 w.drew cv g K L := by
  obtain ⟨p, s, h0, h1, hS⟩ := h
  exact ⟨p, s, h0, h1, hS.drew⟩
theorem at_app {M L : List Ent} {i : Nat} {x : Ent} (h : L[i]? = some x) : (M ++ L)[M.length + i]? = some x := by
  rw [List.getElem?_append_right (by omega), Nat.add_sub_cancel_left]; exact h
theorem at_cons {L : List Ent} {i : Nat} {x y : Ent} (h : L[i]? = some x) : (y :: L)[i + 1]? = some x := by
  rw [List.getElem?_cons_succ]; exact h
end Go.Proofs.Ytgflhgkcmfjkgaa
end

section
/- Walks: what the laws on numbers draw. -/
namespace Go.Proofs.Ytgflhgkcmfjkgaa
set_option linter.unusedSimpArgs false
set_option linter.unusedVariables false
open Go.RowKit
theorem b10Long_c (w : World) (cv : Value) (bs : List UInt8) (hb : RdB w cv bs) :
    Calls Try.prog 6 #[cv] w fun e w' => e = .returned (.bool (decide (1048576 < bs.length))) ∧ w = w' := by
  have hln := hb.len
  go_enter Try.func6, Try.ntmps6
  go_wp2_with fail
  go_ret
  exact ⟨ret_bool (by simp; omega), rfl⟩

end Go.Proofs.Ytgflhgkcmfjkgaa
end

section
/- Walks: valid designs of both sides, equal designs. -/
namespace Go.Proofs.Ytgflhgkcmfjkgaa
set_option linter.unusedSimpArgs false
set_option linter.unusedVariables false
open Go.RowKit

/-- a design as a value -/
def dv (P : Int) (v : Value) : Value := .agg #[.int .i64 P, v]
def BoxD (w : World) (g : Nat) (P : Int) (v : Value) : Prop := w.cell? ⟨g, 0, none⟩ = some (.int .i64 P) ∧ w.cell? ⟨g, 1, none⟩ = some v
theorem BoxD.keep {w0 w : World} {g : Nat} {P : Int} {v : Value} (h : BoxD w0 g P v) (hb : Below w0.heap.size w0 w) : BoxD w g P v := by
  obtain ⟨h1, h2⟩ := h
  have hg : g < w0.heap.size := by
    rcases Nat.lt_or_ge g w0.heap.size with h | h
    · exact h
    · rw [World.cell?, Array.getElem?_eq_none h] at h1; cases h1
  exact ⟨by rw [hb.cell hg]; exact h1, by rw [hb.cell hg]; exact h2⟩
theorem isBlock_c (v : Value) (xs : List Int) (P : Int) (w : World) (hv : RdI w v xs) :
    Calls Try.prog 111 #[v, .int .i64 P] w fun e w' => e = .returned (.bool (blkB P xs)) ∧ w = w' := by
  have hln := hv.len
  by_cases h0 : 0 < xs.length
  · have H : Hid (blkB P xs = validSetB xs P) := by rw [Hid, blkB, decide_eq_true h0]; rfl
    go_enter Try.func111, Try.ntmps111
    go_wp2_with (go_at_call 96; refine (ValidSet_c _ _ _ _ hv).mono ?_; rintro e w1 ⟨rfl, rfl⟩)
    go_ret
    exact ⟨by rw [H.out]; rfl, rfl⟩
  · have H : Hid (blkB P xs = false) := by rw [Hid, blkB, decide_eq_false h0]; rfl
    go_enter Try.func111, Try.ntmps111
    go_wp2_with fail
    go_ret
    exact ⟨by rw [H.out]; rfl, rfl⟩
theorem areBlocks1_c (v : Value) (xs : List Int) (g : Nat) (P : Int) (w : World) (hv : RdI w v xs) (hb : w.cell? ⟨g, 0, none⟩ = some (.int .i64 P)) :
    Calls Try.prog 110 #[v, .pointer (some ⟨g, 0, none⟩)] w (GivesB w (!blkB P xs)) := by
  go_enter Try.func110, Try.ntmps110
  go_wp2_with fail
  refine (isBlock_c _ _ _ _ hv).mono ?_
  rintro e w1 ⟨rfl, rfl⟩
  go_wp2_with fail
  go_ret
  exact ⟨rfl, St.refl w⟩
theorem anyR_not {p : List Int → Bool} {A : List (List Int)} : (!anyR (fun b => !p b) A) = A.all p := by
  unfold anyR
  induction A with
  | nil => rfl
  | cons a r ih => simp only [List.any_cons, List.all_cons, Bool.not_or, ih, Bool.not_not]
set_option maxHeartbeats 1000000 in
theorem areBlocks_c (v : Value) (us : List Value) (A : List (List Int)) (P : Int) (w : World) (hv : RII w v us A) :
    Calls Try.prog 75 #[v, .int .i64 P] w (GivesB w (inB P 1 32 && A.all (blkB P))) := by
  have hS1 := (St.refl w).newbox 2 #[.int .i64 P]
  have hcf := callFunc_go Try.func110 (by kernel_rfl) (by kernel_rfl)
  have hb := hS1.bcell 0 rfl 0 rfl
  cases hp : inB P 1 32
  · go_enter Try.func75, Try.ntmps75
    go_wp2_with (go_at_call 37; refine (within_c _ _ _ _).mono ?_; rw [hp]; rintro e w1 ⟨rfl, rfl⟩)
    go_ret
    exact ⟨rfl, hS1.out⟩
  · have hmf : ∀ (fn : Fn) (first cap : Array Value) (w : World), (Instr.makeFunc fn first cap).run Try.prog w = .ok (.func fn first cap) w := fun _ _ _ _ => rfl
    have hcall := Lib.hid (ContainsFuncR_c 110 #[.pointer (some ⟨w.heap.size, 0, none⟩)] (fun b => !blkB P b) v us A _ (hS1.oldII hv) hcf (fun j W hW hj => areBlocks1_c _ _ w.heap.size P W ((hW.oldII (hS1.oldII hv)).row j hj) (by
      have h2 := hS1.call0 hW
      exact h2.bcell 0 rfl 0 rfl)))
    clear hcf
    go_enter Try.func75, Try.ntmps75
    go_wp2_with (first | (go_at_call 37; refine (within_c _ _ _ _).mono ?_; rw [hp]; rintro e w1 ⟨rfl, rfl⟩) | (go_at_call 109; refine hcall.out.mono ?_; rintro e w2 ⟨rfl, h2⟩; have hS2 := hS1.call0 h2))
    go_ret
    exact ⟨ret_bool (by rw [anyR_not]; rfl), hS2.out⟩
set_option maxHeartbeats 1000000 in
theorem ValidDesign_c (P : Int) (v : Value) (us : List Value) (A : List (List Int)) (w : World) (hv : RII w v us A) :
    Calls Try.prog 42 #[dv P v] w (GivesB w (dOk P A)) := by
  have hS1 := (St.refl w).newbox 35 #[.int .i64 P, v]
  have hb0 := hS1.bcell 0 rfl 0 rfl
  have hb1 := hS1.bcell 0 rfl 1 rfl
  have hln := hv.len
  unfold dv
  have hcall := fun W a => Lib.hid (areBlocks_c v us A P W a)
  have hsrt := fun W a => Lib.hid (IsSortedR_c v us A W a)
  cases hp : inB P 1 32 && A.all (blkB P)
  · rw [hp] at hcall
    have H : Hid (dOk P A = false) := by rw [Hid, dOk, hp]; rfl
    go_enter Try.func42, Try.ntmps42
    go_wp2_with (go_at_call 75; refine (hcall _ (hS1.oldII hv)).out.mono ?_; rintro e w2 ⟨rfl, h2⟩; have hS2 := hS1.call0 h2)
    go_ret
    exact ⟨ret_bool H.out.symm, hS2.out⟩
  · rw [hp] at hcall
    by_cases hl : A.length ≤ 128
    · have H : Hid (dOk P A = srtB A) := by rw [Hid, dOk, hp, decide_eq_true hl]; rfl
      go_enter Try.func42, Try.ntmps42
      go_wp2_with (first | (go_at_call 75; refine (hcall _ (hS1.oldII hv)).out.mono ?_; rintro e w2 ⟨rfl, h2⟩; have hS2 := hS1.call0 h2; have c1 := hS2.bcell 0 rfl 1 rfl) | (go_at_call 76; refine (hsrt _ (hS2.oldII hv)).out.mono ?_; rintro e w3 ⟨rfl, h3⟩; have hS3 := hS2.call0 h3))
      go_ret
      exact ⟨ret_bool H.out.symm, hS3.out⟩
    · have H : Hid (dOk P A = false) := by rw [Hid, dOk, hp, decide_eq_false hl]; rfl
      have hl' : 128 < A.length := by omega
      go_enter Try.func42, Try.ntmps42
      go_wp2_with (go_at_call 75; refine (hcall _ (hS1.oldII hv)).out.mono ?_; rintro e w2 ⟨rfl, h2⟩; have hS2 := hS1.call0 h2; have c1 := hS2.bcell 0 rfl 1 rfl)
      go_ret
      exact ⟨ret_bool H.out.symm, hS2.out⟩

end Go.Proofs.Ytgflhgkcmfjkgaa
end

section
/- Walks: binary search among rows, a class of blocks, a resolution, of the program. -/
namespace Go.Proofs.Ytgflhgkcmfjkgaa
set_option linter.unusedSimpArgs false
set_option linter.unusedVariables false
open Go.RowKit
attribute [local go_sem ↓] Go.wp_at_zero Go.wp_at_succ

set_option maxHeartbeats 4000000 in
set_option maxRecDepth 100000 in
theorem BinSearchR_c (v vx : Value) (us : List Value) (A : List (List Int)) (k : Nat) (w : World) (hv : RII w v us A) (hx : RdI w vx (xat A k)) (hk : k < A.length) (hlen : A.length ≤ 4294967296)
    (hst : ∀ i j, i < j → j < A.length → cmpI (xat A i) (xat A j) < 0) :
    Calls Try.prog 41 #[v, vx, .func (.func 35) #[] #[]] w fun e w' => e = .returned (.tuple #[.int .i64 k, .bool true]) ∧ w = w' := by
  have hln := hv.len
  have hix := hv.ixe
  have hcf := callR_cmp
  have KC := fun j hj => Lib.hid (Compare_c _ _ _ _ w (hv.row j hj) hx)
  have HL := Lib.hid hst
  clear hst
  go_enter Try.func41, Try.ntmps41
  go_wp2_with fail
  go_loopw [9, 10, 11] (fun i j _ wr => ∃ lo hi : Nat, i = .int .i64 lo ∧ j = .int .i64 hi ∧ lo ≤ k ∧ k ≤ hi ∧ hi ≤ A.length ∧ w = wr) (fun i j _ _ => (intOf j - intOf i).toNat)
  case atStart => exact ⟨0, A.length, rfl, rfl, by omega, by omega, by omega, rfl⟩
  case round =>
    obtain ⟨lo, hi, rfl, rfl, h1, h2, h3, rfl⟩ := hrel
    by_cases hlt : lo < hi
    · obtain ⟨m, hm⟩ : ∃ m, (lo + hi) / 2 = m := ⟨_, rfl⟩
      have hml : lo ≤ m ∧ m < hi := by omega
      have hm1 : ((lo : Int) + (hi : Int)) / 2 = (m : Int) := by omega
      have hxm := hix (m : Int) m rfl (by omega)
      have hcm := hv.cell m (by omega)
      have KC := KC m (by omega)
      clear hm
      by_cases hmk : m < k
      · have hc := HL.out m k hmk hk
        generalize cmpI (xat A m) (xat A k) = z at KC hc
        go_wp2_with (go_at_call 35; refine KC.out.mono ?_; rintro e2 w4 ⟨rfl, hw4⟩; subst hw4)
        go_roundw
        case rel => exact ⟨m + 1, hi, by go_num, rfl, by omega, h2, h3, by first | trivial | rfl⟩
        case measure => simp [intOf]; omega
      · have hc : ¬ cmpI (xat A m) (xat A k) < 0 := by
          by_cases e : m = k
          · rw [e, cmpI_self]; omega
          · have := HL.out k m (by omega) (by omega)
            have h4 := cmpI_neg (xat A m) (xat A k)
            omega
        generalize cmpI (xat A m) (xat A k) = z at KC hc
        go_wp2_with (go_at_call 35; refine KC.out.mono ?_; rintro e2 w4 ⟨rfl, hw4⟩; subst hw4)
        go_roundw
        case rel => exact ⟨lo, m, rfl, rfl, h1, by omega, by omega, by first | trivial | rfl⟩
        case measure => simp [intOf]; omega
    · obtain rfl : lo = k := by omega
      have hxm := hix (lo : Int) lo rfl hk
      have hcm := hv.cell lo hk
      have KC := KC lo hk
      rw [cmpI_self] at KC
      go_wp2_with (go_at_call 35; refine KC.out.mono ?_; rintro e2 w4 ⟨rfl, hw4⟩; subst hw4)
      go_ret2
      exact ⟨rfl, rfl⟩
theorem IndexO_c (v : Value) (xs : List Bool) (w : World) (hv : RdO w v xs) (ha : ∀ j, j < xs.length → bat xs j = true) :
    Calls Try.prog 112 #[v, .bool false] w fun e w' => e = .returned (.int .i64 (-1)) ∧ w = w' := by
  have hln := hv.len
  have hix := hv.ixe
  have hle := hv.le
  have HA := Lib.hid ha
  clear ha
  go_enter Try.func112, Try.ntmps112
  go_wp2_with fail
  go_loopw [8, 5] (fun i _ wr => ∃ k : Nat, k ≤ xs.length ∧ i = .int .i64 k ∧ w = wr) (fun i _ _ => xs.length - (intOf i).toNat)
  case atStart => exact ⟨0, by omega, rfl, rfl⟩
  case round =>
    obtain ⟨k, hk, rfl, rfl⟩ := hrel
    by_cases hlt : k < xs.length
    · have hx := hix (k : Int) k rfl hlt
      have hc := hv.cell k hlt
      rw [HA.out k hlt] at hc
      go_wp2_with fail
      go_roundw
      case rel => exact ⟨k + 1, by omega, by go_num, by first | trivial | rfl⟩
      case measure => simp [intOf]; omega
    · obtain rfl : k = xs.length := by omega
      go_wp2_with fail
      go_ret
      exact ⟨rfl, rfl⟩
theorem ContainsO_c (v : Value) (xs : List Bool) (w : World) (hv : RdO w v xs) (ha : ∀ j, j < xs.length → bat xs j = true) :
    Calls Try.prog 80 #[v, .bool false] w fun e w' => e = .returned (.bool false) ∧ w = w' := by
  have K := IndexO_c v xs w hv ha
  go_enter Try.func80, Try.ntmps80
  go_wp2_with fail
  refine K.mono ?_
  rintro e w1 ⟨rfl, hw⟩
  subst hw
  go_wp2_with fail
  go_ret
  exact ⟨rfl, rfl⟩

/-- which points are covered -/
structure CV (n : Nat) (T : List Int) (P : List Bool) : Prop where
  len : P.length = n
  el : ∀ x : Nat, x < n → bat P x = decide ((x : Int) ∈ T)
theorem CV.nil (n : Nat) : CV n [] (List.replicate n false) := ⟨by simp, fun x _ => by rw [bat_rep]; simp⟩
theorem CV.snoc {n : Nat} {T : List Int} {P : List Bool} (h : CV n T P) {a : Nat} (ha : a < n) : CV n (T ++ [(a : Int)]) (P.set a true) := by
  refine ⟨by simp [h.len], fun x hx => ?_⟩
  rw [bat_set (by rw [h.len]; exact ha), h.el x hx]
  by_cases e : a = x
  · subst e; simp
  · rw [if_neg e]
    have : ((x : Int) ∈ T ++ [(a : Int)]) ↔ (x : Int) ∈ T := by
      simp only [List.mem_append, List.mem_singleton]
      constructor
      · rintro (h | h)
        · exact h
        · omega
      · exact .inl
    simp only [this]
/-- the points ahead of place j of block k -/
def cvd (q : List (List Int)) (k j : Nat) : List Int := (q.take k).flatten ++ (xat q k).take j
theorem cvd_snoc {q : List (List Int)} {k j : Nat} (hj : j < (xat q k).length) : cvd q k (j + 1) = cvd q k j ++ [nth (xat q k) j] := by
  rw [cvd, List.take_succ_eq_append_getElem hj, ← List.append_assoc, nth_eq hj]; rfl
theorem cvd_next {q : List (List Int)} {k : Nat} (hk : k < q.length) : cvd q (k + 1) 0 = cvd q k (xat q k).length := by
  rw [cvd, take_xat hk]; simp [cvd]
theorem cvd_end (q : List (List Int)) : cvd q q.length 0 = q.flatten := by simp [cvd]
theorem cvd_pre {q : List (List Int)} {k j : Nat} (hk : k < q.length) (hj : j < (xat q k).length) : ∃ t, q.flatten = cvd q k j ++ [nth (xat q k) j] ++ t := by
  rw [← cvd_snoc hj]
  refine ⟨(xat q k).drop (j + 1) ++ (q.drop (k + 1)).flatten, ?_⟩
  rw [cvd, List.append_assoc, ← List.append_assoc ((xat q k).take (j + 1)), List.take_append_drop, ← List.flatten_cons, ← drop_xat hk, ← List.flatten_append, List.take_append_drop]
set_option maxHeartbeats 8000000 in
set_option maxRecDepth 100000 in
theorem isClass_c (n : Nat) (v vc : Value) (us : List Value) (A q : List (List Int)) (xs : List Int) (w : World) (hn : n ≤ 32) (hv : RII w v us A) (hc : RdI w vc xs) (hA : A.length ≤ 128) (hl : xs.length = q.length)
    (hxs : ∀ j, j < q.length → ∃ i : Nat, nth xs j = i ∧ i < A.length ∧ xat A i = xat q j) (hinc : ∀ j, j + 1 < q.length → nth xs j < nth xs (j + 1))
    (hnd : q.flatten.Nodup) (hin : ∀ x ∈ q.flatten, 0 ≤ x ∧ x < n) (hall : ∀ x : Nat, x < n → (x : Int) ∈ q.flatten) :
    Calls Try.prog 44 #[dv n v, vc] w (GivesB w true) := by
  obtain ⟨a, c, hsh⟩ := hv.1.sl.sh
  rw [hv.2.1] at hsh
  subst hsh
  have hlc := hc.len
  have hic := hc.ixe
  have hlec := hc.le
  rw [hl] at hlc hlec
  have hS1 := (St.refl w).newboxF 35 #[.int .i64 n, .slice a A.length c]
  simp only [List.nil_append] at hS1
  have b0 := hS1.bcell 0 rfl 0 rfl
  have b1 := hS1.bcell 0 rfl 1 rfl
  have HX := Lib.hid hxs
  have HI := Lib.hid hinc
  have HP := fun k j hk hj => Lib.hid (cvd_pre (q := q) (k := k) (j := j) hk hj)
  have HN := Lib.hid hnd
  have HB := Lib.hid hin
  have HA := Lib.hid hall
  have hlA := hv.len
  have hiA := hv.ixe
  have HS := fun W h => Lib.hid (szII_c (.slice a A.length c) us A W h)
  clear hxs hinc hnd hin hall
  unfold dv
  go_enter Try.func44, Try.ntmps44
  go_wp2_with (refine mkO hS1 rfl _ _ rfl .i64 .i64 n rfl rfl (by omega) ?_; intro vp w2 hS2)
  have hS2 := hS2.perm (L' := row 4 vp (bo (List.replicate n false)) :: [box 35 w.heap.size [.int .i64 n, .slice a A.length c]]) List.perm_append_comm
  clear b0 b1 hS1
  go_loopw [16, 6, 8, 10] (fun i l _ _ wr => ∃ (k : Nat) (z : Int) (P : List Bool), k ≤ q.length ∧ i = .int .i64 k ∧ l = .int .i64 z ∧ (-1 ≤ z ∧ z ≤ 128) ∧ Hid ((k = 0 → z = -1) ∧ (0 < k → z = nth xs (k - 1)) ∧ CV n (cvd q k 0) P) ∧ St w.heap.size w wr (row 4 vp (bo P) :: [box 35 w.heap.size [.int .i64 n, .slice a A.length c]])) (fun i _ _ _ _ => q.length - (intOf i).toNat)
  case atStart => exact ⟨0, -1, _, by omega, rfl, rfl, by omega, ⟨fun _ => rfl, fun h => by omega, CV.nil n⟩, hS2⟩
  case round =>
    clear hS2
    obtain ⟨k, z, P, hk, rfl, rfl, hz, hI, hS⟩ := hrel
    by_cases hlt : k < q.length
    · obtain ⟨i, hi1, hi2, hi3⟩ := HX.out k hlt
      have hzi : z < i := by
        by_cases e : k = 0
        · have := hI.out.1 e; omega
        · have h1 := hI.out.2.1 (by omega)
          have h2 := HI.out (k - 1) (by omega)
          rw [show k - 1 + 1 = k by omega, hi1] at h2
          omega
      have hx := hic (k : Int) k rfl (by omega)
      have hcx := (hS.oldI hc).cell k (by omega)
      rw [hi1] at hcx
      have b1 := hS.bcell 1 rfl 1 rfl
      have KS := HS _ (hS.oldII hv)
      have hW := within_c (i : Int) (z + 1) ((A.length : Int) - 1)
      rw [inB_true (by omega)] at hW
      have hxi := hiA (i : Int) i rfl hi2
      have hci := (hS.oldII hv).cell i hi2
      have hri := hv.row i hi2
      have hlr := hri.len
      have hir := hri.ixe
      have hler := hri.le
      rw [hi3] at hlr hir hler
      have Hi3 := Lib.hid hi3
      have Hi1 := Lib.hid hi1
      clear hri hi3 hi1
      go_wp2_with (first
        | (go_at_call 48; refine KS.out.mono ?_; rintro e2 w4 ⟨rfl, hw4⟩; subst hw4)
        | (go_at_call 37; refine (hW _).mono ?_; rintro e2 w4 ⟨rfl, hw4⟩; subst hw4))
      go_loopw [36, 10] (fun i _ wr => ∃ (j : Nat) (P : List Bool), j ≤ (xat q k).length ∧ i = .int .i64 j ∧ Hid (CV n (cvd q k j) P) ∧ St w.heap.size w wr (row 4 vp (bo P) :: [box 35 w.heap.size [.int .i64 n, .slice a A.length c]])) (fun i _ _ => (xat q k).length - (intOf i).toNat)
      case atStart => exact ⟨0, P, by omega, rfl, hI.out.2.2, hS⟩
      case round =>
        clear hS
        obtain ⟨j, P, hj, rfl, hJ, hS⟩ := hrel
        by_cases hjt : j < (xat q k).length
        · obtain ⟨t, ht⟩ := (HP k j hlt hjt).out
          have hy := HB.out (nth (xat q k) j) (by rw [ht]; simp)
          have hny : nth (xat q k) j ∉ cvd q k j := by
            have := HN.out
            rw [ht] at this
            have := (List.nodup_append.1 (List.nodup_append.1 this).1).2.2
            intro hm
            exact this _ hm _ (by simp) rfl
          obtain ⟨y, hyy⟩ := Int.eq_ofNat_of_zero_le hy.1
          have hyn : y < n := by omega
          have hlP := hJ.out.len
          have hr := (hS.oldII hv).row i hi2
          rw [Hi3.out] at hr
          have hcj := hr.cell j hjt
          have hxj := hir (j : Int) j rfl hjt
          rw [hyy] at hcj
          have rP := hS.rdO 0 (e := 4) rfl
          have hcy := rP.cell y (by omega)
          have hxy := rP.ixe (y : Int) y rfl (by omega)
          rw [hJ.out.el y hyn, ← hyy, decide_eq_false hny] at hcy
          have HC := Lib.hid (cvd_snoc hjt)
          rw [hyy] at HC
          have HlP := Lib.hid hlP
          clear ht hny hy hyy hr rP hlP
          go_wp2_with (refine stoO hS 0 rfl y (by rw [HlP.out]; exact hyn) rfl _ _ rfl rfl true rfl ?_; intro w5 hS5; simp only [List.set_cons_zero] at hS5)
          go_roundw
          case rel => exact ⟨j + 1, _, by omega, by go_num, by rw [HC.out]; exact hJ.out.snoc hyn, hS5⟩
          case measure => simp [intOf]; omega
        · obtain rfl : j = (xat q k).length := by omega
          go_wp2_with fail
          go_roundw
          case rel => exact ⟨k + 1, i, P, by omega, by go_num, rfl, by omega, ⟨fun h => by omega, fun _ => by rw [Nat.add_sub_cancel]; exact Hi1.out.symm, by rw [cvd_next hlt]; exact hJ.out⟩, hS⟩
          case measure => simp [intOf]; omega
    · obtain rfl : k = q.length := by omega
      have rP := hS.rdO 0 (e := 4) rfl
      have KC := Lib.hid (ContainsO_c vp P _ rP (fun j hj => by
        have h1 := hI.out.2.2.el j (by rw [← hI.out.2.2.len]; exact hj)
        rw [h1, cvd_end]
        exact decide_eq_true (HA.out j (by rw [← hI.out.2.2.len]; exact hj))))
      go_wp2_with (go_at_call 80; refine KC.out.mono ?_; rintro e2 w4 ⟨rfl, hw4⟩; subst hw4)
      go_ret
      exact ⟨rfl, hS.out⟩
/-- a resolution: the numbers of the blocks of each class -/
structure ResH (n : Nat) (A : List (List Int)) (R : List (List (List Int))) (X : List (List Int)) : Prop where
  n32 : n ≤ 32
  ok : dOk n A = true
  len : X.length = R.length
  rl : ∀ r, r < R.length → (xat X r).length = (x3at R r).length
  ix : ∀ r, r < R.length → ∀ j, j < (x3at R r).length → ∃ i : Nat, nth (xat X r) j = i ∧ i < A.length ∧ xat A i = xat (x3at R r) j
  inc : ∀ r, r < R.length → ∀ j, j + 1 < (x3at R r).length → nth (xat X r) j < nth (xat X r) (j + 1)
  nd : ∀ r, r < R.length → (x3at R r).flatten.Nodup
  rin : ∀ r, r < R.length → ∀ x ∈ (x3at R r).flatten, 0 ≤ x ∧ x < n
  all : ∀ r, r < R.length → ∀ x : Nat, x < n → (x : Int) ∈ (x3at R r).flatten
  srt : srt X.flatten = idn A.length
set_option maxHeartbeats 8000000 in
set_option maxRecDepth 100000 in
theorem ValidResolution_c (n : Nat) (v vc : Value) (us uc : List Value) (A X : List (List Int)) (R : List (List (List Int))) (w : World) (h : ResH n A R X) (hv : RII w v us A) (hc : RII w vc uc X) :
    Calls Try.prog 14 #[dv n v, vc] w (GivesB w true) := by
  obtain ⟨a, c, hsh⟩ := hv.1.sl.sh
  rw [hv.2.1] at hsh
  subst hsh
  have hlc := hc.len
  have hic := hc.ixe
  have hlec := hc.le
  have hA128 := (dOk_t h.ok).len
  have hS1 := ((St.refl w).newboxF 35 #[.int .i64 n, .slice a A.length c]).newnil 2
  have hS1 := hS1.perm (L' := row 2 (.slice none 0 0) (iv []) :: [box 35 w.heap.size [.int .i64 n, .slice a A.length c]]) List.perm_append_comm
  have H := Lib.hid h
  have KV := fun W hW => Lib.hid (ValidDesign_c n (.slice a A.length c) us A W hW)
  have HS := fun W h => Lib.hid (szII_c (.slice a A.length c) us A W h)
  have HI := fun W => Lib.hid (identity_c A.length W (by omega))
  have HC := fun r W (hr : r < R.length) (hW : RII W (.slice a A.length c) us A) (hx : RdI W (vat uc r) (xat X r)) => Lib.hid (isClass_c n (.slice a A.length c) (vat uc r) us A (x3at R r) (xat X r) W h.n32 hW hx hA128 (h.rl r hr) (h.ix r hr) (h.inc r hr) (h.nd r hr) (h.rin r hr) (h.all r hr))
  have hXt : tot X ≤ 128 := by
    have h1 := congrArg List.length h.srt
    rw [srt_len, idn_len] at h1
    have : ∀ X : List (List Int), tot X = X.flatten.length := fun X => by
      induction X with
      | nil => rfl
      | cons x r ih => rw [tot, List.flatten_cons, List.length_append, ih]
    rw [this, h1]; exact hA128
  have hXR := h.len
  rw [h.ok] at KV
  clear h
  have b0 := hS1.bcell 1 rfl 0 rfl
  have b1 := hS1.bcell 1 rfl 1 rfl
  have KV := KV _ (hS1.oldII hv)
  unfold dv at KV HC ⊢
  go_enter Try.func14, Try.ntmps14
  go_wp2_with (go_at_call 42; refine KV.out.mono ?_; rintro e2 w2 ⟨rfl, h2⟩; have hS2 := hS1.call0 h2)
  clear hS1 b0 b1 KV
  go_loopw [13, 5, 7] (fun i all _ wr => ∃ (k : Nat) (v2 : Value), v2 = all ∧ k ≤ X.length ∧ i = .int .i64 k ∧ St w.heap.size w wr (row 2 v2 (iv (X.take k).flatten) :: [box 35 w.heap.size [.int .i64 n, .slice a A.length c]])) (fun i _ _ _ => X.length - (intOf i).toNat)
  case atStart => exact ⟨0, _, rfl, by omega, rfl, hS2⟩
  case round =>
    clear hS2
    obtain ⟨k, v2, rfl, hk, rfl, hS⟩ := hrel
    have b0 := hS.bcell 1 rfl 0 rfl
    have b1 := hS.bcell 1 rfl 1 rfl
    by_cases hlt : k < X.length
    · have hx := hic (k : Int) k rfl hlt
      have hck := (hS.oldII hc).cell k hlt
      have KC := HC k _ (by omega) (hS.oldII hv) ((hS.oldII hc).row k hlt)
      have hN := Lib.hid (show (X.take k).flatten.length + (xat X k).length ≤ 4294967296 by
        have e : (X.take k).flatten.length + (xat X k).length = (X.take (k + 1)).flatten.length := by rw [take_xat hlt]; simp
        have h2 : (X.take (k + 1)).flatten.length ≤ tot X := by
          have h3 : ∀ X : List (List Int), tot X = X.flatten.length := fun X => by
            induction X with
            | nil => rfl
            | cons x r ih => rw [tot, List.flatten_cons, List.length_append, ih]
          rw [h3]
          conv => rhs; rw [← List.take_append_drop (k + 1) X, List.flatten_append, List.length_append]
          omega
        omega)
      have HT := Lib.hid (show (X.take (k + 1)).flatten = (X.take k).flatten ++ xat X k by rw [take_xat hlt]; simp)
      go_wp2_with (first
        | (at_builtin; refine appsI hS4 0 rfl _ _ hr4.out hN.out rfl _ _ rfl rfl rfl ?_; intro v5 w5 hS5; simp only [List.set_cons_zero] at hS5)
        | (go_at_call 44; refine KC.out.mono ?_; rintro e2 w4 ⟨rfl, h4⟩; have hS4 := hS.call0 h4; have hr4 := Lib.hid ((hS4.oldII hc).row k hlt)))
      go_roundw
      case rel => exact ⟨k + 1, v5, rfl, by omega, by go_num, by rw [HT.out]; exact hS5⟩
      case measure => simp [intOf]; omega
    · obtain rfl : k = X.length := by omega
      rw [List.take_length] at hS
      have HT := Lib.hid (show X.flatten.length < 4611686018427387904 by
        have h3 : ∀ X : List (List Int), tot X = X.flatten.length := fun X => by
          induction X with
          | nil => rfl
          | cons x r ih => rw [tot, List.flatten_cons, List.length_append, ih]
        rw [← h3]; omega)
      have Hs := Lib.hid H.out.srt
      go_wp2_with (first
        | (go_at_call 46; refine (Equal_c _ _ _ _ _ (hS6.rdI 0 rfl) (hS6.rdI 2 rfl)).mono ?_; rw [Hs.out, decide_eq_true rfl]; rintro e2 w7 ⟨rfl, h7⟩; have hS7 := hS6.call0 h7)
        | (go_at_call 47; refine (HI _).out.mono ?_; rintro e2 w6 ⟨v6, rfl, h6⟩; have hS6 := hS5.call h6)
        | (go_at_call 48; refine (HS _ (hS5.oldII hv)).out.mono ?_; rintro e2 w4 ⟨rfl, hw4⟩; subst hw4)
        | (go_at_call 45; refine (Sort_c hS 0 rfl HT.out).mono ?_; rintro e2 w5 ⟨rfl, hS5⟩; simp only [List.set_cons_zero] at hS5; have b0 := hS5.bcell 1 rfl 0 rfl; have b1 := hS5.bcell 1 rfl 1 rfl))
      go_ret
      exact ⟨rfl, hS7.out⟩
end Go.Proofs.Ytgflhgkcmfjkgaa
end

section
/- Latin squares as lists of lists, their isotopes. In plain terms. -/
namespace Go.Proofs.Ytgflhgkcmfjkgaa
set_option linter.unusedSimpArgs false
set_option linter.unusedVariables false
/-- the entry of a place -/
def at2 (A : List (List Int)) (x y : Nat) : Int := nth (xat A x) y
/-- a square of n rows and columns -/
structure Sqr (n : Nat) (A : List (List Int)) : Prop where
  len : A.length = n
  row : ∀ x, x < n → (xat A x).length = n
theorem sq_ext {n : Nat} {A B : List (List Int)} (hA : Sqr n A) (hB : Sqr n B) (h : ∀ x y, x < n → y < n → at2 A x y = at2 B x y) : A = B := by
  apply List.ext_getElem (hA.len.trans hB.len.symm)
  intro x h1 h2
  have hx : x < n := by rw [← hA.len]; exact h1
  have e1 : A[x] = xat A x := by simp [xat, h1]
  have e2 : B[x] = xat B x := by simp [xat, h2]
  rw [e1, e2]
  refine nth_ext (by rw [hA.row x hx, hB.row x hx]) fun y hy => h x y hx (by rw [← hA.row x hx]; exact hy)
theorem sq_ext2 {n : Nat} {A B : List (List Int)} {r c : List Int} (hr : IsP r) (hc : IsP c) (hrl : r.length = n) (hcl : c.length = n) (hA : Sqr n A) (hB : Sqr n B)
    (h : ∀ x y, x < n → y < n → at2 A (pf r x) (pf c y) = at2 B (pf r x) (pf c y)) : A = B := by
  refine sq_ext hA hB fun x y hx hy => ?_
  obtain ⟨x', hx', rfl⟩ := hr.bij.onto (y := x) (by omega)
  obtain ⟨y', hy', rfl⟩ := hc.bij.onto (y := y) (by omega)
  exact h x' y' (by omega) (by omega)
theorem at2_sqF {n : Nat} {f : Nat → Nat → Int} {x y : Nat} (hx : x < n) (hy : y < n) : at2 (sqF n f) x y = f x y := by
  unfold at2; rw [xat_sqF hx]; simp [tab, nth, hy]
theorem sqF_sqr (n : Nat) (f : Nat → Nat → Int) : Sqr n (sqF n f) := ⟨sqF_len n f, fun x hx => by rw [xat_sqF hx, tab_len]⟩
/-- one entry anew -/
def putS (S : List (List Int)) (x y : Nat) (v : Int) : List (List Int) := S.set x ((xat S x).set y v)
theorem xat_putS {n : Nat} {S : List (List Int)} (h : Sqr n S) {x : Nat} (hx : x < n) (y : Nat) (v : Int) (t : Nat) : xat (putS S x y v) t = if x = t then (xat S x).set y v else xat S t := by
  unfold putS xat
  rw [List.getD_eq_getElem?_getD, List.getElem?_set]
  split
  · rename_i e; subst e; rw [if_pos (by rw [h.len]; exact hx)]; rfl
  · simp
theorem putS_sqr {n : Nat} {S : List (List Int)} (h : Sqr n S) {x : Nat} (hx : x < n) (y : Nat) (v : Int) : Sqr n (putS S x y v) := by
  refine ⟨by unfold putS; rw [List.length_set]; exact h.len, fun t ht => ?_⟩
  rw [xat_putS h hx]
  split
  · rw [List.length_set]; exact h.row x hx
  · exact h.row t ht
theorem at2_putS {n : Nat} {S : List (List Int)} (h : Sqr n S) {x y : Nat} (hx : x < n) (hy : y < n) (v : Int) (t u : Nat) : at2 (putS S x y v) t u = if x = t ∧ y = u then v else at2 S t u := by
  unfold at2
  rw [xat_putS h hx]
  by_cases e : x = t
  · subst e
    rw [if_pos rfl, nth_set (by rw [h.row x hx]; exact hy)]
    by_cases e2 : y = u
    · rw [if_pos e2, if_pos ⟨rfl, e2⟩]
    · rw [if_neg e2, if_neg fun h => e2 h.2]
  · rw [if_neg e, if_neg fun h => e h.1]
/-! ### isotopes -/
def isoL (A : List (List Int)) (r c s : List Int) : List (List Int) := sqF A.length fun x y => nth s (at2 A (pf (invL r) x) (pf (invL c) y)).toNat
theorem pf_invL {xs : List Int} (h : IsP xs) {j : Nat} (hj : j < xs.length) : pf (invL xs) (pf xs j) = j := by unfold pf; rw [show nth (invL xs) (nth xs j).toNat = j from nth_invL h hj]; rfl
theorem isoL_sqr (A : List (List Int)) (r c s : List Int) : Sqr A.length (isoL A r c s) := sqF_sqr _ _
theorem isoL_at {A : List (List Int)} {r c s : List Int} (hr : IsP r) (hc : IsP c) (hrl : r.length = A.length) (hcl : c.length = A.length) {x y : Nat} (hx : x < A.length) (hy : y < A.length) :
    at2 (isoL A r c s) (pf r x) (pf c y) = nth s (at2 A x y).toNat := by
  have h1 : pf r x < A.length := by rw [← hrl]; exact hr.pf_lt (by omega)
  have h2 : pf c y < A.length := by rw [← hcl]; exact hc.pf_lt (by omega)
  unfold isoL
  rw [at2_sqF h1 h2, pf_invL hr (by omega), pf_invL hc (by omega)]
/-- the isotope, made as far as place y of row x -/
structure IsoP (A : List (List Int)) (r c s : List Int) (x y : Nat) (S : List (List Int)) : Prop where
  sqr : Sqr A.length S
  at' : ∀ x' y', x' < A.length → y' < A.length → (x' < x ∨ x' = x ∧ y' < y) → at2 S (pf r x') (pf c y') = nth s (at2 A x' y').toNat
section
variable {A : List (List Int)} {r c s : List Int}
theorem IsoP.start : IsoP A r c s 0 0 (sqF A.length fun _ _ => 0) := ⟨sqF_sqr _ _, fun _ _ _ _ h => by omega⟩
theorem IsoP.step (hr : IsP r) (hc : IsP c) (hrl : r.length = A.length) (hcl : c.length = A.length) {x y : Nat} {S : List (List Int)} (h : IsoP A r c s x y S) (hx : x < A.length) (hy : y < A.length) :
    IsoP A r c s x (y + 1) (putS S (pf r x) (pf c y) (nth s (at2 A x y).toNat)) := by
  have h1 : pf r x < A.length := by rw [← hrl]; exact hr.pf_lt (by omega)
  have h2 : pf c y < A.length := by rw [← hcl]; exact hc.pf_lt (by omega)
  refine ⟨putS_sqr h.sqr h1 _ _, fun x' y' hx' hy' hl => ?_⟩
  rw [at2_putS h.sqr h1 h2]
  split
  · rename_i e
    rw [hr.bij.inj x x' (by omega) (by omega) e.1, hc.bij.inj y y' (by omega) (by omega) e.2]
  · rename_i e
    refine h.at' x' y' hx' hy' ?_
    rcases hl with hl | ⟨rfl, hl⟩
    · exact .inl hl
    · refine .inr ⟨rfl, ?_⟩
      by_cases e2 : y' = y
      · subst e2; exact absurd ⟨rfl, rfl⟩ e
      · omega
theorem IsoP.next {x : Nat} {S : List (List Int)} (h : IsoP A r c s x A.length S) : IsoP A r c s (x + 1) 0 S :=
  ⟨h.sqr, fun x' y' hx' hy' hl => h.at' x' y' hx' hy' (by omega)⟩
theorem IsoP.done (hr : IsP r) (hc : IsP c) (hrl : r.length = A.length) (hcl : c.length = A.length) {S : List (List Int)} (h : IsoP A r c s A.length 0 S) : S = isoL A r c s :=
  sq_ext2 hr hc hrl hcl h.sqr (isoL_sqr A r c s) fun x y hx hy => by
    rw [h.at' x y hx hy (.inl hx), isoL_at hr hc hrl hcl hx hy]
end
end Go.Proofs.Ytgflhgkcmfjkgaa
end
