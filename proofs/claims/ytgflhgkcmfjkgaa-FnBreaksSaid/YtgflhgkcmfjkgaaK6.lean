/- The texts of this claim, run 6: RrA PPm PLat Bo Has RrB. -/
import Derived.Test.YtgflhgkcmfjkgaaK2
import Derived.Test.YtgflhgkcmfjkgaaK4
import Derived.Test.YtgflhgkcmfjkgaaK5

section
/- Walks: pairs, and the schedule of the circle method, of the program. -/
namespace Go.Proofs.Ytgflhgkcmfjkgaa
set_option linter.unusedSimpArgs false
set_option linter.unusedVariables false
open Go.RowKit
attribute [local go_sem ↓] Go.wp_at_zero Go.wp_at_succ

theorem paired_c (a b : Int) (w : World) : Calls Try.prog 33 #[.int .i64 a, .int .i64 b] w (MakesI w (prL a b)) := by
  have hx : ∀ x y : Int, St w.heap.size w (w.alloc (.cells #[.int .i64 x, .int .i64 y] 2)) [row 2 (.slice (some ⟨w.heap.size, 0, none⟩) 2 2) (iv [x, y])] := fun x y => (St.refl w).new 2 (iv [x, y]).toArray (by simp [iv, maxLen])
  have hp : prL a b = [min a b, max a b] := by
    rw [prL]
    split
    · rw [show min a b = b by omega, show max a b = a by omega]
    · rw [show min a b = a by omega, show max a b = b by omega]
  rw [hp]
  generalize hm : min a b = m
  generalize hM : max a b = M
  go_enter Try.func33, Try.ntmps33
  go_wp2_with fail
  go_ret
  exact ⟨_, rfl, by subst hm; subst hM; exact hx _ _⟩
theorem prL_len (a b : Int) : (prL a b).length = 2 := by unfold prL; split <;> rfl
theorem isTeams_c (n : Int) (w : World) : Calls Try.prog 32 #[.int .i64 n] w fun e w' => e = .returned (.bool (inB n 2 32)) ∧ w = w' := by
  have K := within_c n 2 32 w
  generalize inB n 2 32 = b at *
  go_enter Try.func32, Try.ntmps32
  go_wp2_with fail
  refine K.mono ?_
  rintro e w1 ⟨rfl, rfl⟩
  go_wp2_with fail
  go_ret
  exact ⟨rfl, rfl⟩

/-- behind the append of a row of its own, with more behind -/
theorem own2_snocL {B : Nat} {w0 w : World} {v v' : Value} {us : List Value} {xss : List (List Int)} {u : Value} {xs : List Int} {L2 : List Ent} (hl : us.length = xss.length)
    (h : St B w0 w ((own2 v us xss ++ L2 ++ [row 2 u (iv xs)]).set 0 (row 30 v' (us ++ [u])))) : St B w0 w (own2 v' (us ++ [u]) (xss ++ [xs]) ++ L2) := by
  rw [own2, rowsI_app hl]
  refine h.perm ?_
  show (row 30 v' (us ++ [u]) :: (rowsI us xss ++ L2 ++ [row 2 u (iv xs)])).Perm (row 30 v' (us ++ [u]) :: (rowsI us xss ++ [row 2 u (iv xs)] ++ L2))
  refine List.Perm.cons _ ?_
  rw [List.append_assoc, List.append_assoc]
  exact List.Perm.append_left _ List.perm_append_comm
/-- lists of lists of rows, and a code -/
def MkIII (w : World) (X : List (List (List Int))) (c : Int) (e : Ending) (w' : World) : Prop := ∃ v vs uss, e = .returned (.tuple #[v, .int .i64 c]) ∧ Fit3 vs uss X ∧ St w.heap.size w w' (own3 v vs uss X)
theorem MkIII.riii {w w' : World} {v : Value} {vs : List Value} {uss : List (List Value)} {X : List (List (List Int))} (hf : Fit3 vs uss X) (h : St w.heap.size w w' (own3 v vs uss X)) : RIII w' v vs uss X := St.riii (L2 := []) (by rw [List.append_nil]; exact h) hf
def rrP (n r i : Nat) : List (List Int) :=
  (if n % 2 = 0 then [prL ((n - 1 : Nat) : Int) (r : Int)] else []) ++
  (List.range (i - 1)).map fun j => prL (((r + (j + 1)) % (evn n - 1) : Nat) : Int) (((r + (evn n - 1) - (j + 1)) % (evn n - 1) : Nat) : Int)
theorem rrP_one (n r : Nat) : rrP n r 1 = if n % 2 = 0 then [prL ((n - 1 : Nat) : Int) (r : Int)] else [] := by simp [rrP]
theorem rrP_succ {n r i : Nat} (h : 1 ≤ i) : rrP n r (i + 1) = rrP n r i ++ [prL (((r + i) % (evn n - 1) : Nat) : Int) (((r + (evn n - 1) - i) % (evn n - 1) : Nat) : Int)] := by
  rw [rrP, rrP, show i + 1 - 1 = (i - 1) + 1 by omega, List.range_succ, List.map_append, List.append_assoc, List.map_singleton, show i - 1 + 1 = i by omega]
theorem rrP_end (n r : Nat) : srtL (rrP n r (evn n / 2)) = rrR n r := rfl
theorem rrP_len (n r i : Nat) : (rrP n r i).length ≤ i + 1 := by unfold rrP; split <;> simp <;> omega
theorem rrL_take {n r : Nat} (h : r < evn n - 1) : (rrL n).take (r + 1) = (rrL n).take r ++ [rrR n r] := by rw [take_x3at (by rw [rrL_len]; exact h), x3_rrL h]
set_option maxHeartbeats 4000000 in
set_option maxRecDepth 100000 in
theorem RoundRobin_c (n : Nat) (w : World) (h2 : 2 ≤ n) (h32 : n ≤ 32) : Calls Try.prog 8 #[.int .i64 n] w (MkIII w (rrL n) 0) := by
  have KT := isTeams_c n w
  rw [inB_true (by omega)] at KT
  obtain ⟨e, he⟩ : ∃ e, evn n = e := ⟨_, rfl⟩
  obtain ⟨h, hh⟩ : ∃ h, e / 2 = h := ⟨_, rfl⟩
  obtain ⟨m, hm⟩ : ∃ m, e - 1 = m := ⟨_, rfl⟩
  have he' : e = n + n % 2 := he.symm
  have q1 : (n : Int) + ((n % 2 : Nat) : Int) = (e : Int) := by omega
  have q0 : (n : Int).tmod 2 = ((n % 2 : Nat) : Int) := by rw [Int.tmod_eq_emod_of_nonneg (by omega)]; rfl
  have q2 : (e : Int) - 1 = (m : Int) := by omega
  have q3 : (e : Int).tdiv 2 = (h : Int) := by rw [Int.tdiv_eq_ediv_of_nonneg (by omega)]; omega
  have q5 : (n : Int) + (n : Int) % 2 = (e : Int) := by omega
  have q6 : (e : Int) / 2 = (h : Int) := by omega
  have q4 : (n : Int) - 1 = ((n - 1 : Nat) : Int) := by omega
  have hb : 1 ≤ h ∧ h ≤ 16 ∧ 1 ≤ m ∧ m ≤ 31 ∧ e ≤ 32 ∧ h ≤ m := by omega
  have H1 := fun r => Lib.hid (rrP_one n r)
  have H2 := fun r i (h : 1 ≤ i) => Lib.hid (rrP_succ (n := n) (r := r) h)
  have H3 := fun r => Lib.hid (rrP_end n r)
  have H4 := fun r (hr : r < m) => Lib.hid (rrL_take (n := n) (r := r) (by rw [he, hm]; exact hr))
  have H5 : Hid ((rrL n).length = m) := Lib.hid (by rw [rrL_len, he, hm])
  simp only [he, hh, hm] at H2 H3
  have he := Lib.hid he'
  have hh := Lib.hid hh
  have hm := Lib.hid hm
  clear he'
  have hS0 := (St.refl w).newnil 33
  simp only [List.nil_append] at hS0
  go_enter Try.func8, Try.ntmps8
  go_wp2_with fail
  refine KT.mono ?_
  clear KT
  rintro e' w1 ⟨rfl, rfl⟩
  go_wp2_with fail
  go_loopw [5, 18, 6, 7, 8] (fun oo r _ _ _ wr => ∃ (k : Nat) (o : Value) (vs : List Value) (uss : List (List Value)), o = oo ∧ k ≤ m ∧ r = .int .i64 k ∧ Hid (Fit3 vs uss ((rrL n).take k)) ∧ St w.heap.size w wr (own3 o vs uss ((rrL n).take k))) (fun _ r _ _ _ _ => m - (intOf r).toNat)
  case atStart => exact ⟨0, _, [], [], rfl, by omega, rfl, ⟨rfl, rfl, fun k h => by simp at h⟩, hS0⟩
  case round =>
    clear hS0
    obtain ⟨r, o, vs, uss, rfl, hk, rfl, hf, hS⟩ := hrel
    by_cases hlt : r < m
    · have hB := (hS.newnil 30).perm (L' := own2 (.slice none 0 0) [] [] ++ own3 _ vs uss ((rrL n).take r)) (by rw [own2_nil']; exact List.perm_append_comm)
      have HR := H1 r
      have HS := H2 r
      have HE := H3 r
      have HT := H4 r hlt
      by_cases h0 : n % 2 = 0
      · have f1 : ((e : Int) == (n : Int)) = true := eq_t (by omega)
        rw [if_pos h0] at HR
        go_wp2_with (first
          | (at_builtin; refine appII hS2 0 rfl (by simp) rfl _ _ rfl rfl _ rfl rfl ?_; intro v3 w3 hS3)
          | (go_at_call 33; refine (paired_c ((n - 1 : Nat) : Int) (r : Int) _).mono ?_; rintro e2 w2 ⟨u, rfl, h2⟩; obtain ⟨ua, uc, hu⟩ := (h2.rdI 0 rfl).sl.sh; rw [iv_len, prL_len] at hu; subst hu; have hS2 := hB.call h2))
        have hS1 := own2_snocL rfl hS3
        simp only [List.nil_append] at hS1
        have hl1 : Hid (([Value.slice ua 2 uc] : List Value).length = (rrP n r 1).length) := Lib.hid (by rw [HR.out]; rfl)
        rw [← HR.out] at hS1
        clear hS2 h2 hS3
        clear hB HR
        go_wp2_with fail
        go_loopw [7, 8] (fun qq ii wr => ∃ (i : Nat) (q : Value) (us : List Value), q = qq ∧ 1 ≤ i ∧ i ≤ h ∧ ii = .int .i64 i ∧ Hid (us.length = (rrP n r i).length) ∧ St w.heap.size w wr (own2 q us (rrP n r i) ++ own3 o vs uss ((rrL n).take r))) (fun _ ii _ => h - (intOf ii).toNat)
        case atStart => exact ⟨1, _, _, rfl, by omega, by omega, rfl, hl1, hS1⟩
        case round =>
          clear hS1 hl1
          obtain ⟨i, q, us, rfl, hi1, hi2, rfl, hl, hS⟩ := hrel
          by_cases hit : i < h
          · have qa : ((r : Int) + (i : Int)).tmod (m : Int) = (((r + i) % m : Nat) : Int) := by rw [Int.tmod_eq_emod_of_nonneg (by omega)]; rfl
            have qb : ((r : Int) - (i : Int) + (e : Int) - 1).tmod (m : Int) = (((r + m - i) % m : Nat) : Int) := by
              rw [show (r : Int) - (i : Int) + (e : Int) - 1 = ((r + m - i : Nat) : Int) by omega, Int.tmod_eq_emod_of_nonneg (by omega)]; rfl
            have qm : ((m : Int) == 0) = false := eq_f (by omega)
            have qn : ¬ (m : Int) = 0 := by omega
            have qo : ¬ m = 0 := by omega
            have xa := Nat.mod_lt (r + i) (show 0 < m by omega)
            have xb := Nat.mod_lt (r + m - i) (show 0 < m by omega)
            have HSi := HS i hi1
            have hlN := Lib.hid (show us.length < 4294967296 by have := rrP_len n r i; rw [hl.out]; omega)
            have w1 : IntKind.i64.wrap ((r : Int) + (i : Int)) = (r : Int) + (i : Int) := IntWalk.i64_in _ (by omega)
            have w2 : IntKind.i64.wrap (m : Int) = (m : Int) := IntWalk.i64_in _ (by omega)
            have w3 : IntKind.i64.wrap ((r : Int) - (i : Int)) = (r : Int) - (i : Int) := IntWalk.i64_in _ (by omega)
            have w4 : IntKind.i64.wrap ((r : Int) - (i : Int) + (e : Int)) = (r : Int) - (i : Int) + (e : Int) := IntWalk.i64_in _ (by omega)
            have w5 : IntKind.i64.wrap ((r : Int) - (i : Int) + (e : Int) - 1) = (r : Int) - (i : Int) + (e : Int) - 1 := IntWalk.i64_in _ (by omega)
            generalize (r + i) % m = ra at *
            generalize (r + m - i) % m = rb at *
            have wa : IntKind.i64.wrap (ra : Int) = (ra : Int) := IntWalk.i64_in _ (by omega)
            have wb : IntKind.i64.wrap (rb : Int) = (rb : Int) := IntWalk.i64_in _ (by omega)
            go_wp2_with fail
            go_region_law (first
              | (refine stepII hS2 0 rfl hlN.out rfl (.tmp 37) (.tmp 54) rfl (by simp [Act.eval, Act.put]) _ rfl (by simp [Act.eval, Act.put]) ?_; intro v3 w3 hS3)
              | (go_simp; go_at_call 33; refine (paired_c ra rb _).mono ?_; rintro e2 w2 ⟨u, rfl, h2⟩; obtain ⟨ua, uc, hu⟩ := (h2.rdI 0 rfl).sl.sh; rw [iv_len, prL_len] at hu; subst hu; have hS2 := hS.drew.call h2))
            all_goals
              go_wp2_with fail
              go_roundw
              case rel =>
                refine ⟨i + 1, v3, us ++ [.slice ua 2 uc], rfl, by omega, by omega, by go_num, ?_, ?_⟩
                · rw [HSi.out]; simp [Hid, hl.out]
                · rw [HSi.out]; exact own2_snocL hl.out hS3
              case measure => simp [intOf]; omega
          · obtain rfl : i = h := by omega
            obtain ⟨qa, qc, hq⟩ := (hS.rd 0 (e := 30) (v := q) (us := us) rfl).sl.sh
            subst hq
            have hlN := Lib.hid (show (rrP n r i).length < 100000 by have := rrP_len n r i; omega)
            have hvl := Lib.hid (show vs.length < 4294967296 by have h1 := hf.out.1; rw [List.length_take] at h1; omega)
            go_wp2_with (first
              | (at_builtin; refine appIII hS3 0 rfl hvl.out rfl _ _ rfl rfl _ rfl rfl ?_; intro v5 w5 hS5)
              | (go_at_call 34; refine (SortRows_c hS hl.out hlN.out).mono ?_; rintro e3 w3 ⟨us3, rfl, hl3, hS3⟩; have hl3 := hl3.trans (srtL_len _).symm; rw [HE.out] at hl3 hS3; have hS3 := hS3.perm List.perm_append_comm; have Hl3 := Lib.hid hl3; clear hl3))
            have hf5 := Lib.hid (hf.out.snoc (.slice qa us.length qc) Hl3.out)
            have hS6 := own3_snoc hf.out.1 hf.out.2.1 hS5
            rw [← HT.out] at hf5 hS6
            go_roundw
            case rel => exact ⟨r + 1, _, _, _, rfl, by omega, by go_num, hf5, hS6⟩
            case measure => simp [intOf]; omega
      · have f1 : ((e : Int) == (n : Int)) = false := eq_f (by omega)
        rw [if_neg h0] at HR
        have hS1 := hB
        have hl1 : Hid (([] : List Value).length = (rrP n r 1).length) := Lib.hid (by rw [HR.out]; rfl)
        rw [← HR.out] at hS1
        clear hB HR
        go_wp2_with fail
        go_loopw [7, 8] (fun qq ii wr => ∃ (i : Nat) (q : Value) (us : List Value), q = qq ∧ 1 ≤ i ∧ i ≤ h ∧ ii = .int .i64 i ∧ Hid (us.length = (rrP n r i).length) ∧ St w.heap.size w wr (own2 q us (rrP n r i) ++ own3 o vs uss ((rrL n).take r))) (fun _ ii _ => h - (intOf ii).toNat)
        case atStart => exact ⟨1, _, _, rfl, by omega, by omega, rfl, hl1, hS1⟩
        case round =>
          clear hS1 hl1
          obtain ⟨i, q, us, rfl, hi1, hi2, rfl, hl, hS⟩ := hrel
          by_cases hit : i < h
          · have qa : ((r : Int) + (i : Int)).tmod (m : Int) = (((r + i) % m : Nat) : Int) := by rw [Int.tmod_eq_emod_of_nonneg (by omega)]; rfl
            have qb : ((r : Int) - (i : Int) + (e : Int) - 1).tmod (m : Int) = (((r + m - i) % m : Nat) : Int) := by
              rw [show (r : Int) - (i : Int) + (e : Int) - 1 = ((r + m - i : Nat) : Int) by omega, Int.tmod_eq_emod_of_nonneg (by omega)]; rfl
            have qm : ((m : Int) == 0) = false := eq_f (by omega)
            have qn : ¬ (m : Int) = 0 := by omega
            have qo : ¬ m = 0 := by omega
            have xa := Nat.mod_lt (r + i) (show 0 < m by omega)
            have xb := Nat.mod_lt (r + m - i) (show 0 < m by omega)
            have HSi := HS i hi1
            have hlN := Lib.hid (show us.length < 4294967296 by have := rrP_len n r i; rw [hl.out]; omega)
            have w1 : IntKind.i64.wrap ((r : Int) + (i : Int)) = (r : Int) + (i : Int) := IntWalk.i64_in _ (by omega)
            have w2 : IntKind.i64.wrap (m : Int) = (m : Int) := IntWalk.i64_in _ (by omega)
            have w3 : IntKind.i64.wrap ((r : Int) - (i : Int)) = (r : Int) - (i : Int) := IntWalk.i64_in _ (by omega)
            have w4 : IntKind.i64.wrap ((r : Int) - (i : Int) + (e : Int)) = (r : Int) - (i : Int) + (e : Int) := IntWalk.i64_in _ (by omega)
            have w5 : IntKind.i64.wrap ((r : Int) - (i : Int) + (e : Int) - 1) = (r : Int) - (i : Int) + (e : Int) - 1 := IntWalk.i64_in _ (by omega)
            generalize (r + i) % m = ra at *
            generalize (r + m - i) % m = rb at *
            have wa : IntKind.i64.wrap (ra : Int) = (ra : Int) := IntWalk.i64_in _ (by omega)
            have wb : IntKind.i64.wrap (rb : Int) = (rb : Int) := IntWalk.i64_in _ (by omega)
            go_wp2_with fail
            go_region_law (first
              | (refine stepII hS2 0 rfl hlN.out rfl (.tmp 37) (.tmp 54) rfl (by simp [Act.eval, Act.put]) _ rfl (by simp [Act.eval, Act.put]) ?_; intro v3 w3 hS3)
              | (go_simp; go_at_call 33; refine (paired_c ra rb _).mono ?_; rintro e2 w2 ⟨u, rfl, h2⟩; obtain ⟨ua, uc, hu⟩ := (h2.rdI 0 rfl).sl.sh; rw [iv_len, prL_len] at hu; subst hu; have hS2 := hS.drew.call h2))
            all_goals
              go_wp2_with fail
              go_roundw
              case rel =>
                refine ⟨i + 1, v3, us ++ [.slice ua 2 uc], rfl, by omega, by omega, by go_num, ?_, ?_⟩
                · rw [HSi.out]; simp [Hid, hl.out]
                · rw [HSi.out]; exact own2_snocL hl.out hS3
              case measure => simp [intOf]; omega
          · obtain rfl : i = h := by omega
            obtain ⟨qa, qc, hq⟩ := (hS.rd 0 (e := 30) (v := q) (us := us) rfl).sl.sh
            subst hq
            have hlN := Lib.hid (show (rrP n r i).length < 100000 by have := rrP_len n r i; omega)
            have hvl := Lib.hid (show vs.length < 4294967296 by have h1 := hf.out.1; rw [List.length_take] at h1; omega)
            go_wp2_with (first
              | (at_builtin; refine appIII hS3 0 rfl hvl.out rfl _ _ rfl rfl _ rfl rfl ?_; intro v5 w5 hS5)
              | (go_at_call 34; refine (SortRows_c hS hl.out hlN.out).mono ?_; rintro e3 w3 ⟨us3, rfl, hl3, hS3⟩; have hl3 := hl3.trans (srtL_len _).symm; rw [HE.out] at hl3 hS3; have hS3 := hS3.perm List.perm_append_comm; have Hl3 := Lib.hid hl3; clear hl3))
            have hf5 := Lib.hid (hf.out.snoc (.slice qa us.length qc) Hl3.out)
            have hS6 := own3_snoc hf.out.1 hf.out.2.1 hS5
            rw [← HT.out] at hf5 hS6
            go_roundw
            case rel => exact ⟨r + 1, _, _, _, rfl, by omega, by go_num, hf5, hS6⟩
            case measure => simp [intOf]; omega
    · obtain rfl : r = m := by omega
      rw [show (rrL n).take r = rrL n from by rw [← H5.out, List.take_length]] at hf hS
      go_wp2_with fail
      go_ret2
      exact ⟨_, vs, uss, rfl, hf.out, hS⟩
end Go.Proofs.Ytgflhgkcmfjkgaa
end

section
/- Permutations as lists, in plain terms. -/
namespace Go.Proofs.Ytgflhgkcmfjkgaa
set_option linter.unusedSimpArgs false
set_option linter.unusedVariables false
/-- a list that holds each number below its length once -/
structure IsP (xs : List Int) : Prop where
  lt : ∀ j, j < xs.length → 0 ≤ nth xs j ∧ nth xs j < xs.length
  inj : ∀ i j, i < xs.length → j < xs.length → nth xs i = nth xs j → i = j
/-- a permutation as a function -/
def pf (xs : List Int) (j : Nat) : Nat := (nth xs j).toNat
theorem nth_pf {xs : List Int} (h : IsP xs) {j : Nat} (hj : j < xs.length) : nth xs j = (pf xs j : Int) := by
  have := (h.lt j hj).1; unfold pf; omega
theorem IsP.bij {xs : List Int} (h : IsP xs) : Bij xs.length (pf xs) where
  lt j hj := by have := h.lt j hj; unfold pf; omega
  inj i j hi hj e := h.inj i j hi hj (by rw [nth_pf h hi, nth_pf h hj, e])
theorem IsP.pf_lt {xs : List Int} (h : IsP xs) {j : Nat} (hj : j < xs.length) : pf xs j < xs.length := h.bij.lt j hj
theorem IsP.nodup {xs : List Int} (h : IsP xs) : xs.Nodup := by
  rw [List.nodup_iff_pairwise_ne, List.pairwise_iff_getElem]
  intro a b ha hb hab e
  have := h.inj a b ha hb (by rw [nth_eq ha, nth_eq hb, e])
  omega
theorem nth_ext {xs ys : List Int} (hl : xs.length = ys.length) (h : ∀ j, j < xs.length → nth xs j = nth ys j) : xs = ys := by
  apply List.ext_getElem hl
  intro j h1 h2
  have := h j h1
  rwa [nth_eq h1, nth_eq h2] at this
/-- the identity -/
def iot (n : Nat) : List Int := (List.range n).map fun k : Nat => (k : Int)
theorem iot_len (n : Nat) : (iot n).length = n := by simp [iot]
theorem nth_iot {n j : Nat} (h : j < n) : nth (iot n) j = j := by simp [iot, nth, h]
theorem iot_isP (n : Nat) : IsP (iot n) where
  lt j hj := by rw [iot_len] at hj ⊢; rw [nth_iot hj]; omega
  inj i j hi hj e := by rw [iot_len] at hi hj; rw [nth_iot hi, nth_iot hj] at e; omega
theorem iot_succ (n : Nat) : iot (n + 1) = iot n ++ [(n : Int)] := by simp [iot, List.range_succ]
theorem mem_iot {n : Nat} {x : Int} : x ∈ iot n ↔ 0 ≤ x ∧ x < n := by
  unfold iot; rw [List.mem_map]
  constructor
  · rintro ⟨k, hk, rfl⟩; have := List.mem_range.1 hk; omega
  · intro h; exact ⟨x.toNat, List.mem_range.2 (by omega), by omega⟩
theorem IsP.perm {xs : List Int} (h : IsP xs) : xs.Perm (iot xs.length) := by
  refine (List.perm_ext_iff_of_nodup h.nodup (iot_isP _).nodup).2 fun x => ?_
  rw [mem_iot]
  constructor
  · intro hx
    obtain ⟨j, hj, rfl⟩ := List.getElem_of_mem hx
    have := h.lt j hj; rwa [nth_eq hj] at this
  · intro hx
    obtain ⟨j, hj, e⟩ := h.bij.onto (y := x.toNat) (by omega)
    have := nth_pf h hj
    rw [e] at this
    have hm := nth_mem hj
    rw [this] at hm
    rwa [Int.toNat_of_nonneg hx.1] at hm
/-! ### exchanges -/
theorem nth_set {xs : List Int} {i j : Nat} {x : Int} (h : i < xs.length) : nth (xs.set i x) j = if i = j then x else nth xs j := by
  unfold nth
  rw [List.getD_eq_getElem?_getD, List.getElem?_set]
  split
  · rename_i e; subst e; simp [h]
  · simp
def swp2 (xs : List Int) (i k : Nat) : List Int := (xs.set i (nth xs k)).set k (nth xs i)
theorem swp2_len (xs : List Int) (i k : Nat) : (swp2 xs i k).length = xs.length := by simp [swp2]
/-- the place from which an exchange takes place j -/
def pl2 (i k j : Nat) : Nat := if j = k then i else if j = i then k else j
theorem pl2_lt {n i k j : Nat} (hi : i < n) (hk : k < n) (hj : j < n) : pl2 i k j < n := by
  unfold pl2
  by_cases e : j = k
  · rw [if_pos e]; exact hi
  · rw [if_neg e]
    by_cases e2 : j = i
    · rw [if_pos e2]; exact hk
    · rw [if_neg e2]; exact hj
theorem pl2_pl2 (i k j : Nat) : pl2 i k (pl2 i k j) = j := by
  unfold pl2
  by_cases e : j = k
  · rw [if_pos e]
    by_cases e2 : i = k
    · rw [if_pos e2]; omega
    · rw [if_neg e2, if_pos rfl]; omega
  · rw [if_neg e]
    by_cases e2 : j = i
    · rw [if_pos e2, if_pos rfl]; omega
    · rw [if_neg e2, if_neg e, if_neg e2]
theorem nth_swp2 {xs : List Int} {i k : Nat} (hi : i < xs.length) (hk : k < xs.length) (j : Nat) : nth (swp2 xs i k) j = nth xs (pl2 i k j) := by
  unfold swp2 pl2
  rw [nth_set (by simpa using hk)]
  by_cases e : k = j
  · rw [if_pos e, if_pos e.symm]
  · rw [if_neg e, nth_set hi, if_neg (fun h : j = k => e h.symm)]
    by_cases e2 : i = j
    · rw [if_pos e2, if_pos e2.symm]
    · rw [if_neg e2, if_neg (fun h : j = i => e2 h.symm)]
theorem IsP.swp {xs : List Int} (h : IsP xs) {i k : Nat} (hi : i < xs.length) (hk : k < xs.length) : IsP (swp2 xs i k) where
  lt j hj := by
    rw [swp2_len] at hj ⊢
    rw [nth_swp2 hi hk]
    exact h.lt _ (pl2_lt hi hk hj)
  inj a b ha hb e := by
    rw [swp2_len] at ha hb
    rw [nth_swp2 hi hk, nth_swp2 hi hk] at e
    have := h.inj _ _ (pl2_lt hi hk ha) (pl2_lt hi hk hb) e
    rw [← pl2_pl2 i k a, this, pl2_pl2]
/-! ### composition, inverse -/
/-- first xs, then ys -/
def cmpL (xs ys : List Int) : List Int := (List.range xs.length).map fun j => nth ys (pf xs j)
theorem nth_cmpL {xs ys : List Int} {j : Nat} (hj : j < xs.length) : nth (cmpL xs ys) j = nth ys (pf xs j) := by simp [cmpL, nth, hj]
theorem pf_cmpL {xs ys : List Int} {j : Nat} (hj : j < xs.length) : pf (cmpL xs ys) j = pf ys (pf xs j) := by unfold pf; rw [nth_cmpL hj]; rfl
/-- place j of the first k is written at the number that stands there -/
def invQ (xs : List Int) : Nat → List Int
  | 0 => List.replicate xs.length 0
  | k + 1 => (invQ xs k).set (pf xs k) k
def invL (xs : List Int) : List Int := invQ xs xs.length
theorem invQ_len (xs : List Int) : ∀ k, (invQ xs k).length = xs.length
  | 0 => by simp [invQ]
  | k + 1 => by rw [invQ, List.length_set, invQ_len xs k]
theorem nth_invQ {xs : List Int} (h : IsP xs) : ∀ k, k ≤ xs.length → ∀ j, j < k → nth (invQ xs k) (pf xs j) = j
  | 0, _, j, hj => by omega
  | k + 1, hk, j, hj => by
    rw [invQ, nth_set (by rw [invQ_len]; exact h.pf_lt (by omega))]
    by_cases e : k = j
    · subst e; rw [if_pos rfl]
    · rw [if_neg (fun e2 => e (h.bij.inj k j (by omega) (by omega) e2)), nth_invQ h k (by omega) j (by omega)]
theorem invL_len (xs : List Int) : (invL xs).length = xs.length := invQ_len xs _
theorem nth_invL {xs : List Int} (h : IsP xs) {j : Nat} (hj : j < xs.length) : nth (invL xs) (pf xs j) = j := nth_invQ h _ (Nat.le_refl _) j hj
theorem IsP.inv {xs : List Int} (h : IsP xs) : IsP (invL xs) := by
  have key : ∀ y, y < xs.length → ∃ j, j < xs.length ∧ pf xs j = y := fun y hy => h.bij.onto hy
  refine ⟨fun y hy => ?_, fun a b ha hb e => ?_⟩
  · rw [invL_len] at hy ⊢
    obtain ⟨j, hj, rfl⟩ := key y hy
    rw [nth_invL h hj]; omega
  · rw [invL_len] at ha hb
    obtain ⟨i, hi, rfl⟩ := key a ha
    obtain ⟨j, hj, rfl⟩ := key b hb
    rw [nth_invL h hi, nth_invL h hj] at e
    have : i = j := by omega
    rw [this]
/-! ### signs -/
end Go.Proofs.Ytgflhgkcmfjkgaa
end

section
/- Latin squares as lists of lists, their isotopes. In plain terms. -/
namespace Go.Proofs.Ytgflhgkcmfjkgaa
set_option linter.unusedSimpArgs false
set_option linter.unusedVariables false
/-- the entry of a place -/
def at2 (A : List (List Int)) (x y : Nat) : Int := nth (xat A x) y
/-- a square of n rows and columns -/
structure Sqr (n : Nat) (A : List (List Int)) : Prop where
  len : A.length = n
  row : ∀ x, x < n → (xat A x).length = n
/-- its entries are below n -/
structure Sq0 (n : Nat) (A : List (List Int)) : Prop extends Sqr n A where
  el : ∀ x y, x < n → y < n → 0 ≤ at2 A x y ∧ at2 A x y < n
def colL (A : List (List Int)) (y : Nat) : List Int := A.map fun r => nth r y
theorem colL_len (A : List (List Int)) (y : Nat) : (colL A y).length = A.length := by simp [colL]
theorem nth_colL {A : List (List Int)} {y x : Nat} (h : x < A.length) : nth (colL A y) x = at2 A x y := by simp [colL, nth, at2, xat, h]
/-- a Latin square of at most 10 rows -/
structure Lat (A : List (List Int)) : Prop where
  pos : 1 ≤ A.length
  le : A.length ≤ 10
  len : ∀ x, x < A.length → (xat A x).length = A.length
  row : ∀ x, x < A.length → IsP (xat A x)
  col : ∀ y, y < A.length → IsP (colL A y)
theorem sq_ext {n : Nat} {A B : List (List Int)} (hA : Sqr n A) (hB : Sqr n B) (h : ∀ x y, x < n → y < n → at2 A x y = at2 B x y) : A = B := by
  apply List.ext_getElem (hA.len.trans hB.len.symm)
  intro x h1 h2
  have hx : x < n := by rw [← hA.len]; exact h1
  have e1 : A[x] = xat A x := by simp [xat, h1]
  have e2 : B[x] = xat B x := by simp [xat, h2]
  rw [e1, e2]
  refine nth_ext (by rw [hA.row x hx, hB.row x hx]) fun y hy => h x y hx (by rw [← hA.row x hx]; exact hy)
theorem sq_ext2 {n : Nat} {A B : List (List Int)} {r c : List Int} (hr : IsP r) (hc : IsP c) (hrl : r.length = n) (hcl : c.length = n) (hA : Sqr n A) (hB : Sqr n B)
    (h : ∀ x y, x < n → y < n → at2 A (pf r x) (pf c y) = at2 B (pf r x) (pf c y)) : A = B := by
  refine sq_ext hA hB fun x y hx hy => ?_
  obtain ⟨x', hx', rfl⟩ := hr.bij.onto (y := x) (by omega)
  obtain ⟨y', hy', rfl⟩ := hc.bij.onto (y := y) (by omega)
  exact h x' y' (by omega) (by omega)
theorem at2_sqF {n : Nat} {f : Nat → Nat → Int} {x y : Nat} (hx : x < n) (hy : y < n) : at2 (sqF n f) x y = f x y := by
  unfold at2; rw [xat_sqF hx]; simp [tab, nth, hy]
theorem sqF_sqr (n : Nat) (f : Nat → Nat → Int) : Sqr n (sqF n f) := ⟨sqF_len n f, fun x hx => by rw [xat_sqF hx, tab_len]⟩
/-- one entry anew -/
def putS (S : List (List Int)) (x y : Nat) (v : Int) : List (List Int) := S.set x ((xat S x).set y v)
theorem xat_putS {n : Nat} {S : List (List Int)} (h : Sqr n S) {x : Nat} (hx : x < n) (y : Nat) (v : Int) (t : Nat) : xat (putS S x y v) t = if x = t then (xat S x).set y v else xat S t := by
  unfold putS xat
  rw [List.getD_eq_getElem?_getD, List.getElem?_set]
  split
  · rename_i e; subst e; rw [if_pos (by rw [h.len]; exact hx)]; rfl
  · simp
theorem putS_sqr {n : Nat} {S : List (List Int)} (h : Sqr n S) {x : Nat} (hx : x < n) (y : Nat) (v : Int) : Sqr n (putS S x y v) := by
  refine ⟨by unfold putS; rw [List.length_set]; exact h.len, fun t ht => ?_⟩
  rw [xat_putS h hx]
  split
  · rw [List.length_set]; exact h.row x hx
  · exact h.row t ht
theorem at2_putS {n : Nat} {S : List (List Int)} (h : Sqr n S) {x y : Nat} (hx : x < n) (hy : y < n) (v : Int) (t u : Nat) : at2 (putS S x y v) t u = if x = t ∧ y = u then v else at2 S t u := by
  unfold at2
  rw [xat_putS h hx]
  by_cases e : x = t
  · subst e
    rw [if_pos rfl, nth_set (by rw [h.row x hx]; exact hy)]
    by_cases e2 : y = u
    · rw [if_pos e2, if_pos ⟨rfl, e2⟩]
    · rw [if_neg e2, if_neg fun h => e2 h.2]
  · rw [if_neg e, if_neg fun h => e h.1]
/-! ### isotopes -/
def isoL (A : List (List Int)) (r c s : List Int) : List (List Int) := sqF A.length fun x y => nth s (at2 A (pf (invL r) x) (pf (invL c) y)).toNat
theorem pf_invL {xs : List Int} (h : IsP xs) {j : Nat} (hj : j < xs.length) : pf (invL xs) (pf xs j) = j := by unfold pf; rw [show nth (invL xs) (nth xs j).toNat = j from nth_invL h hj]; rfl
theorem isoL_sqr (A : List (List Int)) (r c s : List Int) : Sqr A.length (isoL A r c s) := sqF_sqr _ _
theorem isoL_at {A : List (List Int)} {r c s : List Int} (hr : IsP r) (hc : IsP c) (hrl : r.length = A.length) (hcl : c.length = A.length) {x y : Nat} (hx : x < A.length) (hy : y < A.length) :
    at2 (isoL A r c s) (pf r x) (pf c y) = nth s (at2 A x y).toNat := by
  have h1 : pf r x < A.length := by rw [← hrl]; exact hr.pf_lt (by omega)
  have h2 : pf c y < A.length := by rw [← hcl]; exact hc.pf_lt (by omega)
  unfold isoL
  rw [at2_sqF h1 h2, pf_invL hr (by omega), pf_invL hc (by omega)]
/-- the isotope, made as far as place y of row x -/
structure IsoP (A : List (List Int)) (r c s : List Int) (x y : Nat) (S : List (List Int)) : Prop where
  sqr : Sqr A.length S
  at' : ∀ x' y', x' < A.length → y' < A.length → (x' < x ∨ x' = x ∧ y' < y) → at2 S (pf r x') (pf c y') = nth s (at2 A x' y').toNat
section
variable {A : List (List Int)} {r c s : List Int}
theorem IsoP.step (hr : IsP r) (hc : IsP c) (hrl : r.length = A.length) (hcl : c.length = A.length) {x y : Nat} {S : List (List Int)} (h : IsoP A r c s x y S) (hx : x < A.length) (hy : y < A.length) :
    IsoP A r c s x (y + 1) (putS S (pf r x) (pf c y) (nth s (at2 A x y).toNat)) := by
  have h1 : pf r x < A.length := by rw [← hrl]; exact hr.pf_lt (by omega)
  have h2 : pf c y < A.length := by rw [← hcl]; exact hc.pf_lt (by omega)
  refine ⟨putS_sqr h.sqr h1 _ _, fun x' y' hx' hy' hl => ?_⟩
  rw [at2_putS h.sqr h1 h2]
  split
  · rename_i e
    rw [hr.bij.inj x x' (by omega) (by omega) e.1, hc.bij.inj y y' (by omega) (by omega) e.2]
  · rename_i e
    refine h.at' x' y' hx' hy' ?_
    rcases hl with hl | ⟨rfl, hl⟩
    · exact .inl hl
    · refine .inr ⟨rfl, ?_⟩
      by_cases e2 : y' = y
      · subst e2; exact absurd ⟨rfl, rfl⟩ e
      · omega
theorem IsoP.next {x : Nat} {S : List (List Int)} (h : IsoP A r c s x A.length S) : IsoP A r c s (x + 1) 0 S :=
  ⟨h.sqr, fun x' y' hx' hy' hl => h.at' x' y' hx' hy' (by omega)⟩
theorem IsoP.done (hr : IsP r) (hc : IsP c) (hrl : r.length = A.length) (hcl : c.length = A.length) {S : List (List Int)} (h : IsoP A r c s A.length 0 S) : S = isoL A r c s :=
  sq_ext2 hr hc hrl hcl h.sqr (isoL_sqr A r c s) fun x y hx hy => by
    rw [h.at' x y hx hy (.inl hx), isoL_at hr hc hrl hcl hx hy]
end
end Go.Proofs.Ytgflhgkcmfjkgaa
end

section
/- Slices of truth values. -/
namespace Go.Proofs.Ytgflhgkcmfjkgaa
set_option linter.unusedSimpArgs false
set_option linter.unusedVariables false
open Go.RowKit
/-- the cells of a list of truth values -/
def bo (xs : List Bool) : List Value := xs.map Value.bool
/-- element j -/
def bat (xs : List Bool) (j : Nat) : Bool := xs.getD j false
theorem bo_len (xs : List Bool) : (bo xs).length = xs.length := by simp [bo]
theorem bo_get {xs : List Bool} {j : Nat} (h : j < xs.length) : (bo xs).getD j undef = .bool (bat xs j) := by
  simp [bo, bat, List.getD, List.getElem?_eq_getElem h]
theorem bo_set (xs : List Bool) (j : Nat) (x : Bool) : (bo xs).set j (.bool x) = bo (xs.set j x) := by simp [bo, List.map_set]
theorem bo_rep (n : Nat) : List.replicate n (Value.bool false) = bo (List.replicate n false) := by simp [bo]
theorem bat_set {xs : List Bool} {i j : Nat} {x : Bool} (h : i < xs.length) : bat (xs.set i x) j = if i = j then x else bat xs j := by
  unfold bat
  rw [List.getD_eq_getElem?_getD, List.getElem?_set]
  split
  · rename_i e; subst e; simp [h]
  · simp
theorem bat_rep (n j : Nat) : bat (List.replicate n false) j = false := by
  unfold bat
  rw [List.getD_eq_getElem?_getD, List.getElem?_replicate]; split <;> rfl
def RdO (w : World) (v : Value) (xs : List Bool) : Prop := Rd w v (bo xs)
theorem Try.info_o : (Try.prog.info? 4).map (fun i => (i.zero, i.size, i.bytes)) = some (some (.bool false), 1, 1) := by kernel_rfl
theorem Try.size_o : (Try.prog.info? 4).map (·.size) = some 1 := by kernel_rfl
theorem Try.und_os : Try.prog.underlying 69 = some (.slice 4) := by kernel_rfl
section
variable {w w' : World} {v : Value} {xs : List Bool}
theorem RdO.le (h : RdO w v xs) : xs.length ≤ 9223372036854775807 := by have := h.sl.le; rwa [bo_len] at this
theorem RdO.len (h : RdO w v xs) (ty : TypeId) (W : World) : (Builtin.len_ #[69] ty #[v]).run Try.prog W = .ok (.int .i64 xs.length) W := by
  have := run_len_sl (P := Try.prog) h.sl 69 ty Try.und_os W; rwa [bo_len] at this
theorem RdO.ix (h : RdO w v xs) (k : IntKind) (i : Int) (h0 : 0 ≤ i) (hi : i < xs.length) (W : World) :
    (Instr.indexAt 69 v (.int k i)).run Try.prog W = .ok (.pointer (some (el v i.toNat))) W :=
  run_ix_sl (P := Try.prog) h.sl 69 Try.und_os Try.size_o k i h0 (by rw [bo_len]; exact hi) W
theorem RdO.ixe (h : RdO w v xs) (i : Int) (j : Nat) (hij : i = (j : Int)) (hj : j < xs.length) (W : World) :
    (Instr.indexAt 69 v (.int .i64 i)).run Try.prog W = .ok (.pointer (some (el v j))) W := by
  have := h.ix .i64 i (by omega) (by omega) W
  rwa [hij, Int.toNat_natCast, ← hij] at this
theorem RdO.cell (h : RdO w v xs) (j : Nat) (hj : j < xs.length) : w.cell? (el v j) = some (.bool (bat xs j)) := by
  rw [Rd.cell h (by rw [bo_len]; exact hj), bo_get hj]
theorem RdO.keep (h : RdO w v xs) (hb : Below w.heap.size w w') : RdO w' v xs := Rd.keep h hb
end
theorem St.rdO {B : Nat} {w0 w : World} {L : List Ent} (h : St B w0 w L) (i : Nat) {e : TypeId} {v : Value} {xs : List Bool} (hi : L[i]? = some (row e v (bo xs))) : RdO w v xs := h.rd i hi
section
variable {ops : Array Oper} {rest : List Oper} {o : Oper} {a : Act} {Q : Exit → Act → World → Prop} {B : Nat} {w0 w : World} {L : List Ent}
/-- a store into an owned row of truth values -/
theorem stoO (hS : St B w0 w L) (i : Nat) {v : Value} {xs : List Bool} (hi : L[i]? = some (row 4 v (bo xs))) (j : Nat) (hj : j < xs.length) (hg : o.guard = none) (x y : Operand)
    (hop : o.op = .store 4 x y) (hx : a.eval x = .pointer (some (el v j))) (n : Bool) (hy : a.eval y = .bool n)
    (hK : ∀ w', St B w0 w' (L.set i (row 4 v (bo (xs.set j n)))) → wpList Try.prog ops Q rest (a.put o.dst undef) w') :
    wpList Try.prog ops Q (o :: rest) a w :=
  wpList_st_store hg x y 4 hop Try.size_o hS i hi j (by rw [bo_len]; exact hj) (.bool n) hx hy rfl rfl (fun w' h => hK w' (by rw [← bo_set]; exact h))
/-- make([]bool, n) -/
theorem mkO (hS : St B w0 w L) (hg : o.guard = none) (x y : Operand) (hop : o.op = .makeSlice 69 x y) (kl kc : IntKind) (n : Nat) (hx : a.eval x = .int kl n) (hy : a.eval y = .int kc n) (hN : n ≤ 4294967296)
    (hK : ∀ v' w', St B w0 w' (L ++ [row 4 v' (bo (List.replicate n false))]) → wpList Try.prog ops Q rest (a.put o.dst v') w') :
    wpList Try.prog ops Q (o :: rest) a w :=
  wpList_st_make hg x y 69 hop 4 (.bool false) 1 Try.und_os Try.info_o rfl hS kl kc n hx hy (by omega) hN (fun v' w' h => hK v' w' (by rw [← bo_rep]; exact h))
end
end Go.Proofs.Ytgflhgkcmfjkgaa
end

section
/- Walks: whether a list holds a number. -/
namespace Go.Proofs.Ytgflhgkcmfjkgaa
set_option linter.unusedSimpArgs false
set_option linter.unusedVariables false
open Go.RowKit

theorem anyP_eq (n : Int) (xs : List Int) : anyP (fun x => n == x) xs = decide (n ∈ xs) := by
  unfold anyP
  rw [Bool.eq_iff_iff, List.any_eq_true, decide_eq_true_iff]
  constructor
  · rintro ⟨x, hx, e⟩; rw [beq_iff_eq] at e; subst e; exact hx
  · intro h; exact ⟨n, h, by simp⟩

set_option maxHeartbeats 1000000 in
set_option maxRecDepth 100000 in
theorem Index_c (v : Value) (xs : List Int) (n : Int) (w : World) (hv : RdI w v xs) :
    Calls Try.prog 72 #[v, .int .i64 n] w fun e w' => e = .returned (.int .i64 (idxP (fun x => n == x) xs 0)) ∧ w = w' := by
  have hln := hv.len
  have hix := hv.ix
  have hm := hv.le
  go_enter Try.func72, Try.ntmps72
  go_wp2_with fail
  go_loopw [5, 8] (fun _ i wr => ∃ k : Nat, k ≤ xs.length ∧ i = .int .i64 k ∧ Hid (idxP (fun x => n == x) xs 0 = idxP (fun x => n == x) xs k) ∧ wr = w) (fun _ i _ => xs.length - (intOf i).toNat)
  case atStart => exact ⟨0, by omega, rfl, rfl, rfl⟩
  case round =>
    obtain ⟨k, hk, rfl, hI, rfl⟩ := hrel
    by_cases hlt : k < xs.length
    · have hc := hv.cell k hlt
      by_cases hp : n = nth xs k
      · have f1 := eq_t hp
        have Hp := Lib.hid (show (fun x => n == x) (nth xs k) = true by simpa using hp)
        clear hp
        go_wp2_with fail
        go_ret
        exact ⟨ret_i64 (by rw [hI.out, idxP_hit hlt Hp.out]), rfl⟩
      · have f1 := eq_f hp
        have Hp := Lib.hid (show (fun x => n == x) (nth xs k) = false by simpa using hp)
        clear hp
        go_wp2_with fail
        go_roundw
        case rel => exact ⟨k + 1, by omega, by go_num, by rw [Hid, hI.out, idxP_step hlt Hp.out], by first | rfl | trivial⟩
        case measure => simp [intOf]; omega
    · go_wp2_with fail
      go_ret
      exact ⟨ret_i64 (by rw [hI.out, idxP_end (by omega)]), rfl⟩
theorem Contains_c (v : Value) (xs : List Int) (n : Int) (w : World) (hv : RdI w v xs) :
    Calls Try.prog 38 #[v, .int .i64 n] w fun e w' => e = .returned (.bool (decide (n ∈ xs))) ∧ w = w' := by
  have H := Lib.hid (show decide (0 ≤ idxP (fun x => n == x) xs 0) = decide (n ∈ xs) by rw [idxP_any, anyP_eq])
  go_enter Try.func38, Try.ntmps38
  go_wp2_with fail
  refine (Index_c v xs n w hv).mono ?_
  rintro e w1 ⟨rfl, rfl⟩
  go_wp2_with fail
  go_ret
  exact ⟨ret_bool H.out, rfl⟩
set_option maxHeartbeats 1000000 in
set_option maxRecDepth 100000 in
theorem l00Has_c (v : Value) (xs : List Int) (n : Int) (w : World) (hv : RdI w v xs) :
    Calls Try.prog 88 #[v, .int .i64 n] w fun e w' => e = .returned (.bool (decide (n ∈ xs))) ∧ w = w' := by
  have hln := hv.len
  have hix := hv.ix
  have hm := hv.le
  go_enter Try.func88, Try.ntmps88
  go_wp2_with fail
  go_loopw [5] (fun i wr => ∃ k : Nat, k ≤ xs.length ∧ i = .int .i64 k ∧ Hid (n ∉ xs.take k) ∧ wr = w) (fun i _ => xs.length - (intOf i).toNat)
  case atStart => exact ⟨0, by omega, rfl, by simp [Hid], rfl⟩
  case round =>
    obtain ⟨k, hk, rfl, hI, rfl⟩ := hrel
    by_cases hlt : k < xs.length
    · have hc := hv.cell k hlt
      by_cases hp : nth xs k = n
      · have f1 := eq_t hp
        have Hp := Lib.hid (show decide (n ∈ xs) = true by rw [decide_eq_true_iff, ← hp]; exact nth_mem hlt)
        clear hp
        go_wp2_with fail
        go_ret
        exact ⟨ret_bool Hp.out.symm, rfl⟩
      · have f1 := eq_f hp
        have Hp := Lib.hid (show n ∉ xs.take (k + 1) by rw [take_nth hlt, List.mem_append, not_or]; exact ⟨hI.out, by simp; exact fun e => hp e.symm⟩)
        clear hp
        go_wp2_with fail
        go_roundw
        case rel => exact ⟨k + 1, by omega, by go_num, Hp, by first | rfl | trivial⟩
        case measure => simp [intOf]; omega
    · have Hn := Lib.hid (show decide (n ∈ xs) = false by rw [decide_eq_false_iff_not]; have := hI.out; rwa [List.take_of_length_le (by omega)] at this)
      go_wp2_with fail
      go_ret
      exact ⟨ret_bool Hn.out.symm, rfl⟩
end Go.Proofs.Ytgflhgkcmfjkgaa
end

section
/- Walk: whether a schedule is valid, of the program. -/
namespace Go.Proofs.Ytgflhgkcmfjkgaa
set_option linter.unusedSimpArgs false
set_option linter.unusedVariables false
open Go.RowKit
attribute [local go_sem ↓] Go.wp_at_zero Go.wp_at_succ

/-- who met whom -/
structure MP (n : Nat) (S : List (List Int)) (M : List (List Int)) : Prop where
  sqr : Sqr n M
  el : ∀ a b : Nat, a < n → b < n → at2 M a b = if [(a : Int), (b : Int)] ∈ S then 1 else 0
/-- who plays -/
structure PP (n : Nat) (q : List (List Int)) (P : List Bool) : Prop where
  len : P.length = n
  el : ∀ x : Nat, x < n → bat P x = plB q x
theorem MP.nil (n : Nat) : MP n [] (sqF n fun _ _ => 0) := ⟨sqF_sqr n _, fun a b ha hb => by rw [at2_sqF ha hb]; simp⟩
theorem MP.snoc {n : Nat} {S M : List (List Int)} (h : MP n S M) {a b : Nat} (ha : a < n) (hb : b < n) : MP n (S ++ [[(a : Int), (b : Int)]]) (putS M a b 1) := by
  refine ⟨putS_sqr h.sqr ha b 1, fun x y hx hy => ?_⟩
  rw [at2_putS h.sqr ha hb, h.el x y hx hy]
  by_cases e : a = x ∧ b = y
  · obtain ⟨rfl, rfl⟩ := e
    simp
  · rw [if_neg e]
    have : ([(x : Int), (y : Int)] ∈ S ++ [[(a : Int), (b : Int)]]) ↔ [(x : Int), (y : Int)] ∈ S := by
      simp only [List.mem_append, List.mem_singleton, List.cons.injEq, and_true]
      constructor
      · rintro (h | h)
        · exact h
        · exact absurd ⟨by omega, by omega⟩ e
      · exact .inl
    simp only [this]
theorem PP.nil (n : Nat) : PP n [] (List.replicate n false) := ⟨by simp, fun x _ => by rw [bat_rep]; rfl⟩
theorem PP.snoc {n : Nat} {q : List (List Int)} {P : List Bool} (h : PP n q P) {a b : Nat} (ha : a < n) (hb : b < n) : PP n (q ++ [[(a : Int), (b : Int)]]) ((P.set a true).set b true) := by
  refine ⟨by simp [h.len], fun x hx => ?_⟩
  rw [bat_set (by simp [h.len]; exact hb), bat_set (by rw [h.len]; exact ha), h.el x hx]
  unfold plB
  rw [List.any_append]
  by_cases e1 : b = x
  · subst e1; simp
  · by_cases e2 : a = x
    · subst e2; rw [if_neg e1]; simp
    · rw [if_neg e1, if_neg e2]
      have : decide ((x : Int) ∈ [(a : Int), (b : Int)]) = false := by
        simp only [decide_eq_false_iff_not, List.mem_cons, List.not_mem_nil, or_false]; omega
      simp [this]
      omega
def rowA (n : Nat) (S : List (List Int)) (a : Nat) : Bool := (List.range n).all fun b => decide (b ≤ a) || decide ([(a : Int), (b : Int)] ∈ S)
theorem dec_row {n : Nat} {S M : List (List Int)} (h : MP n S M) {a : Nat} (ha : a < n) : decide ((0 : Int) ∈ ((xat M a).take n).drop (a + 1)) = !rowA n S a := by
  have hl := h.sqr.row a ha
  rw [List.take_of_length_le (by omega)]
  cases hr : rowA n S a
  · rw [Bool.not_false, decide_eq_true_eq]
    have : ∃ b, b < n ∧ a < b ∧ [(a : Int), (b : Int)] ∉ S := by
      apply Classical.byContradiction
      intro hc
      have : rowA n S a = true := by
        simp only [rowA, List.all_eq_true, List.mem_range, Bool.or_eq_true, decide_eq_true_eq]
        intro b hb
        by_cases e : b ≤ a
        · exact .inl e
        · exact .inr (Classical.byContradiction fun h => hc ⟨b, hb, by omega, h⟩)
      rw [this] at hr; cases hr
    obtain ⟨b, hb, hab, hn⟩ := this
    have e := h.el a b ha hb
    rw [if_neg hn, at2, nth, List.getD_eq_getElem?_getD, List.getElem?_eq_getElem (by omega)] at e
    simp only [Option.getD_some] at e
    rw [List.mem_iff_getElem]
    exact ⟨b - (a + 1), by rw [List.length_drop]; omega, by rw [List.getElem_drop]; rw [← e]; congr 1; omega⟩
  · rw [Bool.not_true, decide_eq_false_iff_not]
    intro hm
    obtain ⟨j, hj, e⟩ := List.getElem_of_mem hm
    rw [List.length_drop] at hj
    rw [List.getElem_drop] at e
    have e2 := h.el a (a + 1 + j) ha (by omega)
    rw [at2, nth, List.getD_eq_getElem?_getD, List.getElem?_eq_getElem (by omega)] at e2
    simp only [Option.getD_some] at e2
    rw [e] at e2
    simp only [rowA, List.all_eq_true, List.mem_range, Bool.or_eq_true, decide_eq_true_eq] at hr
    rcases hr (a + 1 + j) (by omega) with h | h
    · omega
    · rw [if_pos h] at e2; omega
theorem vsB_no {n : Int} {R : List (List (List Int))} {r k : Nat} (hr : r < R.length) (hk : k < (x3at R r).length) (h : okAt n R r k = false) : vsB n R = false := by
  have : ((List.range R.length).all fun r => (List.range (x3at R r).length).all fun k => okAt n R r k) = false := by
    rw [Bool.eq_false_iff]
    intro hc
    simp only [List.all_eq_true, List.mem_range] at hc
    rw [hc r hr k hk] at h; cases h
  rw [vsB, this]; simp
/-- a row of an owned list of rows, written -/
theorem own2_get {v : Value} {us : List Value} {A : List (List Int)} {L2 : List Ent} (hl : us.length = A.length) {j : Nat} (hj : j < A.length) : (own2 v us A ++ L2)[j + 1]? = some (row 2 (vat us j) (iv (xat A j))) := by
  rw [own2, List.cons_append, List.getElem?_cons_succ, List.getElem?_append_left (by rw [rowsI_len hl]; exact hj), rowsI_get hl hj]
theorem met_set {v vp : Value} {us : List Value} {P : List Bool} {M : List (List Int)} (hl : us.length = M.length) {x : Nat} (hx : x < M.length) (y : Nat) (z : Int) :
    (row 4 vp (bo P) :: own2 v us M).set (x + 2) (row 2 (vat us x) (iv ((xat M x).set y z))) = row 4 vp (bo P) :: own2 v us (putS M x y z) := by
  rw [List.set_cons_succ]
  have := own2_set (v := v) (L2 := []) hl hx ((xat M x).set y z)
  rw [List.append_nil, List.append_nil] at this
  rw [this]; rfl
theorem met_get {v vp : Value} {us : List Value} {P : List Bool} {M : List (List Int)} (hl : us.length = M.length) {x : Nat} (hx : x < M.length) :
    (row 4 vp (bo P) :: own2 v us M)[x + 2]? = some (row 2 (vat us x) (iv (xat M x))) := by
  rw [List.getElem?_cons_succ]
  have := own2_get (v := v) (L2 := []) hl hx
  rwa [List.append_nil] at this
theorem len_two {p : List Int} (h : p.length = 2) : ∃ a b : Int, p = [a, b] := by
  match p, h with
  | [a, b], _ => exact ⟨a, b, rfl⟩

set_option maxHeartbeats 16000000 in
set_option maxRecDepth 100000 in
theorem ValidSchedule_c (n : Int) (v : Value) (vs : List Value) (uss : List (List Value)) (R : List (List (List Int))) (w : World) (hv : RIII w v vs uss R) :
    Calls Try.prog 9 #[.int .i64 n, v] w (GivesB w (vsB n R)) := by
  have KT := isTeams_c n w
  by_cases hn : 2 ≤ n ∧ n ≤ 32
  case neg =>
    rw [inB_false hn] at KT
    have HN : Hid (vsB n R = false) := Lib.hid (by rw [vsB, inB_false hn]; rfl)
    go_enter Try.func9, Try.ntmps9
    go_wp2_with fail
    refine KT.mono ?_
    rintro e w1 ⟨rfl, rfl⟩
    go_wp2_with fail
    go_ret
    exact ⟨ret_bool HN.out.symm, St.refl w⟩
  case pos =>
    rw [inB_true hn] at KT
    obtain ⟨m, rfl⟩ := Int.eq_ofNat_of_zero_le (show 0 ≤ n by omega)
    have hln := hv.len
    have hle := hv.le
    have hix := hv.ixe
    have KE := emptySquare_c m w (by omega)
    have hm2 : 2 ≤ m ∧ m ≤ 32 := by omega
    have HF := fun r k hr hk hf => Lib.hid (vsB_no (n := (m : Int)) (R := R) (r := r) (k := k) hr hk hf)
    go_enter Try.func9, Try.ntmps9
    go_wp2_with fail
    refine KT.mono ?_
    clear KT
    rintro e w1 ⟨rfl, rfl⟩
    go_wp2_with fail
    refine KE.mono ?_
    clear KE
    rintro e w1 ⟨vm, um, rfl, hlm, h1⟩
    rw [sqF_len] at hlm
    have hlm := Lib.hid hlm
    have hM0 := Lib.hid (MP.nil m)
    generalize sqF m (fun _ _ => (0 : Int)) = M0 at *
    go_wp2_with fail
    go_loopw [21, 7, 8, 9, 10, 11, 12] (fun i _ _ _ _ _ _ wr => ∃ (r : Nat) (M : List (List Int)), r ≤ R.length ∧ i = .int .i64 r ∧ Hid ((∀ r', r' < r → ∀ k, k < (x3at R r').length → okAt m R r' k = true) ∧ MP m (seen R r 0) M) ∧ St w.heap.size w wr (own2 vm um M)) (fun i _ _ _ _ _ _ _ => R.length - (intOf i).toNat)
    case atStart => exact ⟨0, M0, by omega, rfl, ⟨fun r' h => by omega, by rw [seen_00]; exact hM0.out⟩, h1⟩
    case round =>
      clear h1 hM0
      obtain ⟨r, M, hr, rfl, hI, hS⟩ := hrel
      by_cases hlt : r < R.length
      · have hc := (hS.oldIII hv).cell r hlt
        have hx := hix (r : Int) r rfl hlt
        have RR := Lib.hid fun (W : World) (hW : RIII W v vs uss R) => hW.row r hlt
        have hlr := (hv.row r hlt).len
        have hler := (hv.row r hlt).le
        have hxr := (hv.row r hlt).ixe
        go_wp2_with (refine mkO hS rfl _ _ rfl .i64 .i64 m rfl rfl (by omega) ?_; intro vp w2 hS2)
        have hS2 := hS2.perm (L' := row 4 vp (bo (List.replicate m false)) :: own2 vm um M) List.perm_append_comm
        go_loopw [29, 9, 10, 11, 12] (fun i _ _ _ _ wr => ∃ (k : Nat) (M : List (List Int)) (P : List Bool), k ≤ (x3at R r).length ∧ i = .int .i64 k ∧ Hid ((∀ k', k' < k → okAt m R r k' = true) ∧ MP m (seen R r k) M ∧ PP m ((x3at R r).take k) P) ∧ St w.heap.size w wr (row 4 vp (bo P) :: own2 vm um M)) (fun i _ _ _ _ _ => (x3at R r).length - (intOf i).toNat)
        case atStart => exact ⟨0, M, _, by omega, rfl, ⟨fun k' h => by omega, hI.out.2, by rw [List.take_zero]; exact PP.nil m⟩, hS2⟩
        case round =>
          clear hS2 hS hc
          obtain ⟨k, M, P, hk, rfl, hJ, hS⟩ := hrel
          by_cases hkt : k < (x3at R r).length
          · have hrp := (hv.row r hlt).row k hkt
            have hlp := hrp.len
            have hxp := hrp.ixe
            have hck := ((hS.oldIII hv).row r hlt).cell k hkt
            have hxk := hxr (k : Int) k rfl hkt
            by_cases c1 : (xat (x3at R r) k).length = 2
            case neg =>
              have f1 := ne_t (show ¬ ((xat (x3at R r) k).length : Int) = 2 by omega)
              have HN := HF r k hlt hkt (by rw [okAt, gdP, decide_eq_false c1]; simp)
              clear hrp c1
              go_wp2_with fail
              have hne : Nonempty (SS _ _ _) := ⟨⟨_, hS⟩⟩
              refine wp_region_st (by kernel_rfl) (by kernel_rfl) hS ?_
              repeat (go_big_quiet_step ((go_at_call 37; exact st_quiet0 (within_c _ _ _ _))))
              refine wpQuiet_nil ?_
              rintro _ ⟨s2, rfl⟩
              have hS3 := s2.st
              generalize s2.w = w3 at hS3 ⊢
              go_wp2_with fail
              go_ret
              exact ⟨ret_bool HN.out.symm, hS3.out⟩
            case pos =>
              obtain ⟨a, b, hp⟩ := len_two c1
              have q0 := fun s : SS w.heap.size w (row 4 vp (bo P) :: own2 vm um M) => by
                have := (((s.st.oldIII hv).row r hlt).row k hkt).cell 0 (by omega)
                rw [hp] at this
                exact this
              have q1 := fun s : SS w.heap.size w (row 4 vp (bo P) :: own2 vm um M) => by
                have := (((s.st.oldIII hv).row r hlt).row k hkt).cell 1 (by omega)
                rw [hp] at this
                exact this
              simp only [nth, List.getD_cons_zero, List.getD_cons_succ] at q0 q1
              have x0 := hxp (0 : Int) 0 rfl (by omega)
              have x1 := hxp (1 : Int) 1 rfl (by omega)
              have f1 := ne_f (show ((xat (x3at R r) k).length : Int) = 2 by omega)
              clear hxp
              by_cases c2 : a < b
              case neg =>
                have HN := HF r k hlt hkt (by rw [okAt, gdP, hp]; simp only [nth, List.getD_cons_zero, List.getD_cons_succ]; rw [decide_eq_false c2]; simp)
                clear hrp c1 hp
                go_wp2_with fail
                have hne : Nonempty (SS _ _ _) := ⟨⟨_, hS⟩⟩
                refine wp_region_st (by kernel_rfl) (by kernel_rfl) hS ?_
                repeat (go_big_quiet_step ((go_at_call 37; exact st_quiet0 (within_c _ _ _ _))))
                refine wpQuiet_nil ?_
                rintro _ ⟨s2, rfl⟩
                have hS3 := s2.st
                generalize s2.w = w3 at hS3 ⊢
                go_wp2_with fail
                go_ret
                exact ⟨ret_bool HN.out.symm, hS3.out⟩
              case pos =>
                have dba : decide (b ≤ a) = false := decide_eq_false (by omega)
                cases hA : inB a 0 ((m : Int) - 1)
                case false =>
                  have HN := HF r k hlt hkt (by rw [okAt, gdP, hp]; simp only [nth, List.getD_cons_zero, List.getD_cons_succ]; rw [hA]; simp)
                  clear hrp c1 hp
                  go_wp2_with fail
                  have hne : Nonempty (SS _ _ _) := ⟨⟨_, hS⟩⟩
                  refine wp_region_st (by kernel_rfl) (by kernel_rfl) hS ?_
                  repeat (go_big_quiet_step ((go_at_call 37; exact st_quiet0 (within_c _ _ _ _))))
                  refine wpQuiet_nil ?_
                  rintro _ ⟨s2, rfl⟩
                  have hS3 := s2.st
                  generalize s2.w = w3 at hS3 ⊢
                  go_wp2_with fail
                  go_ret
                  exact ⟨ret_bool HN.out.symm, hS3.out⟩
                case true =>
                  cases hB : inB b 0 ((m : Int) - 1)
                  case false =>
                    have HN := HF r k hlt hkt (by rw [okAt, gdP, hp]; simp only [nth, List.getD_cons_zero, List.getD_cons_succ]; rw [hB]; simp)
                    clear hrp c1 hp
                    go_wp2_with fail
                    have hne : Nonempty (SS _ _ _) := ⟨⟨_, hS⟩⟩
                    refine wp_region_st (by kernel_rfl) (by kernel_rfl) hS ?_
                    repeat (go_big_quiet_step ((go_at_call 37; exact st_quiet0 (within_c _ _ _ _))))
                    refine wpQuiet_nil ?_
                    rintro _ ⟨s2, rfl⟩
                    have hS3 := s2.st
                    generalize s2.w = w3 at hS3 ⊢
                    go_wp2_with fail
                    go_ret
                    exact ⟨ret_bool HN.out.symm, hS3.out⟩
                  case true =>
                    have hab : (0 ≤ a ∧ a ≤ (m : Int) - 1) ∧ (0 ≤ b ∧ b ≤ (m : Int) - 1) := by simpa [inB] using And.intro hA hB
                    obtain ⟨x, rfl⟩ := Int.eq_ofNat_of_zero_le hab.1.1
                    obtain ⟨y, rfl⟩ := Int.eq_ofNat_of_zero_le hab.2.1
                    have hxy : x < y := by omega
                    have dxy : decide (y ≤ x) = false := decide_eq_false (by omega)
                    have hxm : x < m := by omega
                    have hym : y < m := by omega
                    have HZ : [(x : Int), (y : Int)] ∉ seen R r k → Hid (at2 M x y = 0) := fun h => Lib.hid (by rw [hJ.out.2.1.el x y hxm hym, if_neg h])
                    clear hab c1
                    by_cases hk0 : k = 0
                    · have HC : Hid (k = 0 ∨ cmpI (xat (x3at R r) (k - 1)) [(x : Int), (y : Int)] < 0) := Lib.hid (.inl hk0)
                      have hk1 : ¬ 0 < k := by omega
                      clear hk0
                      clear hrp
                      go_wp2_with fail
                      have hne : Nonempty (SS _ _ _) := ⟨⟨_, hS⟩⟩
                      refine wp_region_st (by kernel_rfl) (by kernel_rfl) hS ?_
                      repeat (go_big_quiet_step ((go_at_call 37; exact st_quiet0 (within_c _ _ _ _))))
                      refine wpQuiet_nil ?_
                      rintro _ ⟨s2, rfl⟩
                      have hS3 := s2.st
                      generalize s2.w = w3 at hS3 ⊢
                      go_wp2_with fail
                      have hne : Nonempty (SS _ _ _) := ⟨⟨_, hS3⟩⟩
                      refine wp_region_st (by kernel_rfl) (by kernel_rfl) hS3 ?_
                      repeat (go_big_quiet_step (fail))
                      refine wpQuiet_nil ?_
                      rintro _ ⟨s2, rfl⟩
                      have hS4 := s2.st
                      generalize s2.w = w4 at hS4 ⊢
                      have rP := hS4.rdO 0 (e := 4) rfl
                      have dx := rP.cell x (by rw [hJ.out.2.2.len]; exact hxm)
                      have dy := rP.cell y (by rw [hJ.out.2.2.len]; exact hym)
                      have ix := rP.ixe (x : Int) x rfl (by rw [hJ.out.2.2.len]; exact hxm)
                      have iy := rP.ixe (y : Int) y rfl (by rw [hJ.out.2.2.len]; exact hym)
                      rw [hJ.out.2.2.el x hxm] at dx
                      rw [hJ.out.2.2.el y hym] at dy
                      clear rP
                      by_cases c6 : plB ((x3at R r).take k) (x : Int) = true
                      · have HN := HF r k hlt hkt (by rw [okAt, hp]; simp only [nth, List.getD_cons_zero]; rw [c6]; simp)
                        rw [c6] at dx
                        clear hp
                        go_wp2_with fail
                        go_ret
                        exact ⟨ret_bool HN.out.symm, hS4.out⟩
                      · have c6 : plB ((x3at R r).take k) (x : Int) = false := by simpa using c6
                        rw [c6] at dx
                        by_cases c7 : plB ((x3at R r).take k) (y : Int) = true
                        · have HN := HF r k hlt hkt (by rw [okAt, hp]; simp only [nth, List.getD_cons_zero, List.getD_cons_succ]; rw [c7]; simp)
                          rw [c7] at dy
                          clear hp
                          go_wp2_with fail
                          go_ret
                          exact ⟨ret_bool HN.out.symm, hS4.out⟩
                        · have c7 : plB ((x3at R r).take k) (y : Int) = false := by simpa using c7
                          rw [c7] at dy
                          have hlM : M.length = m := hJ.out.2.1.sqr.len
                          have hlu : um.length = M.length := by rw [hlm.out, hlM]
                          have rM := (hS4.sub (List.sublist_cons_self _ _)).rii hlu
                          have jx := rM.ixe (x : Int) x rfl (by rw [hlM]; exact hxm)
                          have ex := rM.cell x (by rw [hlM]; exact hxm)
                          have rx := rM.row x (by rw [hlM]; exact hxm)
                          have jy := rx.ixe (y : Int) y rfl (by rw [hJ.out.2.1.sqr.row x hxm]; exact hym)
                          have ey := rx.cell y (by rw [hJ.out.2.1.sqr.row x hxm]; exact hym)
                          have hel := hJ.out.2.1.el x y hxm hym
                          rw [show nth (xat M x) y = at2 M x y from rfl, hel] at ey
                          by_cases c8 : [(x : Int), (y : Int)] ∈ seen R r k
                          · have HN := HF r k hlt hkt (by rw [okAt, hp, decide_eq_true c8]; simp)
                            rw [if_pos c8] at ey
                            clear hp hel c8
                            go_wp2_with fail
                            go_ret
                            exact ⟨ret_bool HN.out.symm, hS4.out⟩
                          · rw [if_neg c8] at ey
                            have HK : Hid (okAt m R r k = true) := Lib.hid (by
                              rw [okAt, hp]
                              simp only [nth, List.getD_cons_zero, List.getD_cons_succ, gdP]
                              rw [c6, c7, decide_eq_false c8, decide_eq_true (show (x : Int) < (y : Int) by omega), hA, hB]
                              simp
                              exact HC.out)
                            have Hp := Lib.hid hp
                            have HZ0 := HZ c8
                            have Hel := Lib.hid hlu
                            have HlM := Lib.hid hlM
                            have hPl := Lib.hid hJ.out.2.2.len
                            clear hp hel c8 c6 c7 rM rx hlM hlu
                            go_wp2_with (first
                              | (refine stoI hS6 (x + 2) (met_get Hel.out (by rw [HlM.out]; exact hxm)) y (by rw [hJ.out.2.1.sqr.row x hxm]; exact hym) rfl _ _ rfl rfl _ rfl ?_; intro w7 hS7)
                              | (refine stoO hS5 0 rfl y (by rw [List.length_set, hPl.out]; exact hym) rfl _ _ rfl rfl true rfl ?_; intro w6 hS6; simp only [List.set_cons_zero] at hS6; have rM := (hS6.sub (List.sublist_cons_self _ _)).rii Hel.out; have ex := rM.cell x (by rw [HlM.out]; exact hxm); have ey := (rM.row x (by rw [HlM.out]; exact hxm)).cell y (by rw [hJ.out.2.1.sqr.row x hxm]; exact hym); rw [show nth (xat M x) y = at2 M x y from rfl, HZ0.out] at ey)
                              | (refine stoO hS4 0 rfl x (by rw [hPl.out]; exact hxm) rfl _ _ rfl rfl true rfl ?_; intro w5 hS5; simp only [List.set_cons_zero] at hS5))
                            rw [met_set Hel.out (by rw [HlM.out]; exact hxm)] at hS7
                            go_roundw
                            case rel => exact ⟨k + 1, putS M x y 1, _, by omega, by go_num, ⟨fun k' hk' => by
                              by_cases e : k' = k
                              · subst e; exact HK.out
                              · exact hJ.out.1 k' (by omega), by rw [seen_snoc hkt, Hp.out]; exact hJ.out.2.1.snoc hxm hym, by rw [take_xat hkt, Hp.out]; exact hJ.out.2.2.snoc hxm hym⟩, hS7⟩
                            case measure => simp [intOf]; omega
                    · obtain ⟨j, hjk⟩ : ∃ j, j + 1 = k := ⟨k - 1, by omega⟩
                      have hk1 : 0 < k := by omega
                      have xj := hxr ((k : Int) - 1) j (by omega) (by omega)
                      have wj : IntKind.i64.wrap ((k : Int) - 1) = ((k : Int) - 1) := IntWalk.i64_in _ (by omega)
                      have cj := fun (W : World) (s : St w.heap.size w W (row 4 vp (bo P) :: own2 vm um M)) => ((s.oldIII hv).row r hlt).cell j (by omega)
                      have RJ := fun (W : World) (s : St w.heap.size w W (row 4 vp (bo P) :: own2 vm um M)) => Lib.hid (Compare_c _ _ _ _ W (((s.oldIII hv).row r hlt).row j (by omega)) (((s.oldIII hv).row r hlt).row k hkt))
                      rw [hp] at RJ
                      have Hjk : Hid (k - 1 = j) := Lib.hid (by omega)
                      clear hrp hjk hk0
                      by_cases c5 : cmpI (xat (x3at R r) j) [(x : Int), (y : Int)] < 0
                      · have HC : Hid (k = 0 ∨ cmpI (xat (x3at R r) (k - 1)) [(x : Int), (y : Int)] < 0) := Lib.hid (.inr (by rw [Hjk.out]; exact c5))
                        generalize cmpI (xat (x3at R r) j) [(x : Int), (y : Int)] = z at RJ c5
                        go_wp2_with fail
                        have hne : Nonempty (SS _ _ _) := ⟨⟨_, hS⟩⟩
                        refine wp_region_st (by kernel_rfl) (by kernel_rfl) hS ?_
                        repeat (go_big_quiet_step ((go_at_call 37; exact st_quiet0 (within_c _ _ _ _))))
                        refine wpQuiet_nil ?_
                        rintro _ ⟨s2, rfl⟩
                        have hS3 := s2.st
                        generalize s2.w = w3 at hS3 ⊢
                        have cj := cj _ hS3
                        have RJ := RJ _ hS3
                        go_wp2_with (go_at_call 35; refine RJ.out.mono ?_; rintro e2 w4 ⟨rfl, hw4⟩; subst hw4)
                        clear RJ cj
                        have hne : Nonempty (SS _ _ _) := ⟨⟨_, hS3⟩⟩
                        refine wp_region_st (by kernel_rfl) (by kernel_rfl) hS3 ?_
                        repeat (go_big_quiet_step (fail))
                        refine wpQuiet_nil ?_
                        rintro _ ⟨s2, rfl⟩
                        have hS4 := s2.st
                        generalize s2.w = w4 at hS4 ⊢
                        have rP := hS4.rdO 0 (e := 4) rfl
                        have dx := rP.cell x (by rw [hJ.out.2.2.len]; exact hxm)
                        have dy := rP.cell y (by rw [hJ.out.2.2.len]; exact hym)
                        have ix := rP.ixe (x : Int) x rfl (by rw [hJ.out.2.2.len]; exact hxm)
                        have iy := rP.ixe (y : Int) y rfl (by rw [hJ.out.2.2.len]; exact hym)
                        rw [hJ.out.2.2.el x hxm] at dx
                        rw [hJ.out.2.2.el y hym] at dy
                        clear rP
                        by_cases c6 : plB ((x3at R r).take k) (x : Int) = true
                        · have HN := HF r k hlt hkt (by rw [okAt, hp]; simp only [nth, List.getD_cons_zero]; rw [c6]; simp)
                          rw [c6] at dx
                          clear hp
                          go_wp2_with fail
                          go_ret
                          exact ⟨ret_bool HN.out.symm, hS4.out⟩
                        · have c6 : plB ((x3at R r).take k) (x : Int) = false := by simpa using c6
                          rw [c6] at dx
                          by_cases c7 : plB ((x3at R r).take k) (y : Int) = true
                          · have HN := HF r k hlt hkt (by rw [okAt, hp]; simp only [nth, List.getD_cons_zero, List.getD_cons_succ]; rw [c7]; simp)
                            rw [c7] at dy
                            clear hp
                            go_wp2_with fail
                            go_ret
                            exact ⟨ret_bool HN.out.symm, hS4.out⟩
                          · have c7 : plB ((x3at R r).take k) (y : Int) = false := by simpa using c7
                            rw [c7] at dy
                            have hlM : M.length = m := hJ.out.2.1.sqr.len
                            have hlu : um.length = M.length := by rw [hlm.out, hlM]
                            have rM := (hS4.sub (List.sublist_cons_self _ _)).rii hlu
                            have jx := rM.ixe (x : Int) x rfl (by rw [hlM]; exact hxm)
                            have ex := rM.cell x (by rw [hlM]; exact hxm)
                            have rx := rM.row x (by rw [hlM]; exact hxm)
                            have jy := rx.ixe (y : Int) y rfl (by rw [hJ.out.2.1.sqr.row x hxm]; exact hym)
                            have ey := rx.cell y (by rw [hJ.out.2.1.sqr.row x hxm]; exact hym)
                            have hel := hJ.out.2.1.el x y hxm hym
                            rw [show nth (xat M x) y = at2 M x y from rfl, hel] at ey
                            by_cases c8 : [(x : Int), (y : Int)] ∈ seen R r k
                            · have HN := HF r k hlt hkt (by rw [okAt, hp, decide_eq_true c8]; simp)
                              rw [if_pos c8] at ey
                              clear hp hel c8
                              go_wp2_with fail
                              go_ret
                              exact ⟨ret_bool HN.out.symm, hS4.out⟩
                            · rw [if_neg c8] at ey
                              have HK : Hid (okAt m R r k = true) := Lib.hid (by
                                rw [okAt, hp]
                                simp only [nth, List.getD_cons_zero, List.getD_cons_succ, gdP]
                                rw [c6, c7, decide_eq_false c8, decide_eq_true (show (x : Int) < (y : Int) by omega), hA, hB]
                                simp
                                exact HC.out)
                              have Hp := Lib.hid hp
                              have HZ0 := HZ c8
                              have Hel := Lib.hid hlu
                              have HlM := Lib.hid hlM
                              have hPl := Lib.hid hJ.out.2.2.len
                              clear hp hel c8 c6 c7 rM rx hlM hlu
                              go_wp2_with (first
                                | (refine stoI hS6 (x + 2) (met_get Hel.out (by rw [HlM.out]; exact hxm)) y (by rw [hJ.out.2.1.sqr.row x hxm]; exact hym) rfl _ _ rfl rfl _ rfl ?_; intro w7 hS7)
                                | (refine stoO hS5 0 rfl y (by rw [List.length_set, hPl.out]; exact hym) rfl _ _ rfl rfl true rfl ?_; intro w6 hS6; simp only [List.set_cons_zero] at hS6; have rM := (hS6.sub (List.sublist_cons_self _ _)).rii Hel.out; have ex := rM.cell x (by rw [HlM.out]; exact hxm); have ey := (rM.row x (by rw [HlM.out]; exact hxm)).cell y (by rw [hJ.out.2.1.sqr.row x hxm]; exact hym); rw [show nth (xat M x) y = at2 M x y from rfl, HZ0.out] at ey)
                                | (refine stoO hS4 0 rfl x (by rw [hPl.out]; exact hxm) rfl _ _ rfl rfl true rfl ?_; intro w5 hS5; simp only [List.set_cons_zero] at hS5))
                              rw [met_set Hel.out (by rw [HlM.out]; exact hxm)] at hS7
                              go_roundw
                              case rel => exact ⟨k + 1, putS M x y 1, _, by omega, by go_num, ⟨fun k' hk' => by
                                by_cases e : k' = k
                                · subst e; exact HK.out
                                · exact hJ.out.1 k' (by omega), by rw [seen_snoc hkt, Hp.out]; exact hJ.out.2.1.snoc hxm hym, by rw [take_xat hkt, Hp.out]; exact hJ.out.2.2.snoc hxm hym⟩, hS7⟩
                              case measure => simp [intOf]; omega
                      · have HN := HF r k hlt hkt (by rw [okAt, hp, Hjk.out, decide_eq_false c5, decide_eq_false (show ¬ k = 0 by omega)]; simp)
                        generalize cmpI (xat (x3at R r) j) [(x : Int), (y : Int)] = z at RJ c5
                        clear hp
                        go_wp2_with fail
                        have hne : Nonempty (SS _ _ _) := ⟨⟨_, hS⟩⟩
                        refine wp_region_st (by kernel_rfl) (by kernel_rfl) hS ?_
                        repeat (go_big_quiet_step ((go_at_call 37; exact st_quiet0 (within_c _ _ _ _))))
                        refine wpQuiet_nil ?_
                        rintro _ ⟨s2, rfl⟩
                        have hS3 := s2.st
                        generalize s2.w = w3 at hS3 ⊢
                        have cj := cj _ hS3
                        have RJ := RJ _ hS3
                        go_wp2_with (go_at_call 35; refine RJ.out.mono ?_; rintro e2 w4 ⟨rfl, hw4⟩; subst hw4)
                        go_ret
                        exact ⟨ret_bool HN.out.symm, hS3.out⟩
          · obtain rfl : k = (x3at R r).length := by omega
            go_wp2_with fail
            go_roundw
            case rel => exact ⟨r + 1, M, by omega, by go_num, ⟨fun r' hr' k2 hk2 => by
              by_cases e : r' = r
              · subst e; exact hJ.out.1 k2 hk2
              · exact hI.out.1 r' (by omega) k2 hk2, by rw [seen_next hlt]; exact hJ.out.2.1⟩, hS.sub (List.sublist_cons_self _ _)⟩
            case measure => simp [intOf]; omega
      · obtain rfl : r = R.length := by omega
        have hfl := Lib.hid (show MP m R.flatten M by rw [← seen_end]; exact hI.out.2)
        have Hok := Lib.hid hI.out.1
        have hlM := hfl.out.sqr.len
        have rM := hS.rii (show um.length = M.length by rw [hlm.out, hlM])
        have jM := rM.ixe
        clear hI hix
        go_wp2_with fail
        go_loopw [120, 13] (fun i _ wr' => ∃ a : Nat, a ≤ m ∧ i = .int .i64 a ∧ Hid (∀ a', a' < a → rowA m R.flatten a' = true) ∧ wr = wr') (fun i _ _ => m - (intOf i).toNat)
        case atStart => exact ⟨0, by omega, rfl, fun a' h => by omega, rfl⟩
        case round =>
          obtain ⟨a, ha, rfl, hA, rfl⟩ := hrel
          by_cases hat : a < m
          · have jx := jM (a : Int) a rfl (by rw [hlM]; exact hat)
            have ex := rM.cell a (by rw [hlM]; exact hat)
            have rx := rM.row a (by rw [hlM]; exact hat)
            have hlr := hfl.out.sqr.row a hat
            have hsl : ∀ W, (Instr.slice 30 (vat um a) (some (.int .i64 ((a : Int) + 1))) none none).run Try.prog W = .ok (rsl (vat um a) (a + 1) m) W := fun W => by
              have := rsl_lo rx (a + 1) (by rw [hlr]; exact hat) W
              rwa [hlr, show ((a + 1 : Nat) : Int) = (a : Int) + 1 by omega] at this
            have rs := rsl_rd rx (lo := a + 1) (hi := m) (by omega) (by rw [hlr]; exact Nat.le_refl _)
            have hD := dec_row hfl.out hat
            have KC := Lib.hid (Contains_c (rsl (vat um a) (a + 1) m) _ 0 _ rs)
            rw [hD] at KC
            generalize rsl (vat um a) (a + 1) m = vr at *
            cases hrow : rowA m R.flatten a
            · have HN : Hid (vsB m R = false) := Lib.hid (by
                rw [vsB, Int.toNat_natCast]
                have : ((List.range m).all fun a => (List.range m).all fun b => decide (b ≤ a) || decide ([(a : Int), (b : Int)] ∈ R.flatten)) = false := by
                  rw [Bool.eq_false_iff]
                  intro hc
                  have := List.all_eq_true.1 hc a (List.mem_range.2 hat)
                  rw [show ((List.range m).all fun b => decide (b ≤ a) || decide ([(a : Int), (b : Int)] ∈ R.flatten)) = rowA m R.flatten a from rfl, hrow] at this
                  cases this
                rw [this, Bool.and_false])
              rw [hrow] at KC
              clear rs rx hD hrow
              go_wp2_with (go_at_call 38; refine KC.out.mono ?_; rintro e2 w4 ⟨rfl, hw4⟩; subst hw4)
              go_ret
              exact ⟨ret_bool HN.out.symm, hS.out⟩
            · rw [hrow] at KC
              have Hrow := Lib.hid hrow
              clear rs rx hD hrow
              go_wp2_with (go_at_call 38; refine KC.out.mono ?_; rintro e2 w4 ⟨rfl, hw4⟩; subst hw4)
              go_roundw
              case rel => exact ⟨a + 1, by omega, by go_num, fun a' ha' => by
                by_cases e : a' = a
                · subst e; exact Hrow.out
                · exact hA.out a' (by omega), by first | trivial | rfl⟩
              case measure => simp [intOf]; omega
          · obtain rfl : a = m := by omega
            have HY : Hid (vsB a R = true) := Lib.hid (by
              rw [vsB, Int.toNat_natCast, inB_true hn, Bool.true_and, Bool.and_eq_true]
              exact ⟨List.all_eq_true.2 fun r hr => List.all_eq_true.2 fun k hk => Hok.out r (List.mem_range.1 hr) k (List.mem_range.1 hk), List.all_eq_true.2 fun x hx => hA.out x (List.mem_range.1 hx)⟩)
            go_wp2_with fail
            go_ret
            exact ⟨ret_bool HY.out.symm, hS.out⟩
end Go.Proofs.Ytgflhgkcmfjkgaa
end
