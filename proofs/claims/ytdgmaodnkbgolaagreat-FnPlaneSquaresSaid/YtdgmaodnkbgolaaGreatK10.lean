/- The texts of this claim, run 10: Pn1 Po Pn3 Pm1 At Pm3 Pm6 SqB Ml1 DsD. -/
import Derived.Test.YtdgmaodnkbgolaaGreatK3
import Derived.Test.YtdgmaodnkbgolaaGreatK4
import Derived.Test.YtdgmaodnkbgolaaGreatK5
import Derived.Test.YtdgmaodnkbgolaaGreatK6
import Derived.Test.YtdgmaodnkbgolaaGreatK7
import Derived.Test.YtdgmaodnkbgolaaGreatK8
import Derived.Test.YtdgmaodnkbgolaaGreatK9
import Derived.Deep.RegionHeld3
import Derived.Deep.DrawnRows
section
/- Walks: the orders of planes, of the program. -/
namespace Go.Proofs.YtdgmaodnkbgolaaGreat
set_option linter.unusedSimpArgs false
set_option linter.unusedVariables false
open Go.RowKit
attribute [local go_sem ↓] Go.wp_at_zero Go.wp_at_succ

theorem plO_no {v k : Int → Int} {V K : Int} {f : Nat} {n : Int} (h : ¬ v n ≤ V) : plO v k V K f n = 0 := by
  cases f with
  | zero => rfl
  | succ f => rw [plO, if_neg h]
theorem plO_hit {v k : Int → Int} {V K : Int} {f : Nat} {n : Int} (h : v n ≤ V) (h2 : v n = V ∧ k n = K) : plO v k V K (f + 1) n = n := by rw [plO, if_pos h, if_pos h2]
theorem plO_next {v k : Int → Int} {V K : Int} {f : Nat} {n : Int} (h : v n ≤ V) (h2 : ¬ (v n = V ∧ k n = K)) : plO v k V K (f + 1) n = plO v k V K f (n + 1) := by rw [plO, if_pos h, if_neg h2]
set_option maxHeartbeats 8000000 in
set_option maxRecDepth 100000 in
theorem planeOrder_c (K1 K2 : FuncId) (fv fk : Int → Int) (P : Nat) (v : Value) (us : List Value) (A : List (List Int)) (w : World) (hv : RII w v us A) (hok : dOk P A = true) (h6 : 32 < fv 6)
    (hcf1 : ∀ (args : Array Value) (W : World), (callFunc K1 args).run Tryz.prog W = .ok (.enter K1 args) W)
    (hcf2 : ∀ (args : Array Value) (W : World), (callFunc K2 args).run Tryz.prog W = .ok (.enter K2 args) W)
    (hK1 : ∀ (n : Int) (W : World), 2 ≤ n → n ≤ 6 → Calls Tryz.prog K1 #[.int .i64 n] W fun e w' => e = .returned (.int .i64 (fv n)) ∧ W = w')
    (hK2 : ∀ (n : Int) (W : World), 2 ≤ n → n ≤ 6 → Calls Tryz.prog K2 #[.int .i64 n] W fun e w' => e = .returned (.int .i64 (fk n)) ∧ W = w') :
    Calls Tryz.prog 37 #[dv P v, .func (.func K1) #[] #[], .func (.func K2) #[] #[]] w (GivesI w (ordP fv fk P A)) := by
  obtain ⟨a, c, hsh⟩ := hv.1.sl.sh
  rw [hv.2.1] at hsh
  subst hsh
  have hD := dOk_t hok
  have hP := hD.le
  have hS0 := (St.refl w).newboxF 28 #[.int .i64 P, .slice a A.length c]
  have b0 := hS0.bcell 0 rfl 0 rfl
  have b1 := hS0.bcell 0 rfl 1 rfl
  have KV := fun W h => Lib.hid (ValidDesign_c P (.slice a A.length c) us A W h)
  rw [hok] at KV
  have KP := fun W h => Lib.hid (parametersOf_c P (.slice a A.length c) us A W h hD)
  have KV := KV _ (hS0.oldII hv)
  have HO : Hid (ordP fv fk P A = if (prmB P A && decide (nth (prmV P A) 4 = 1)) = true then plO fv fk (nth (prmV P A) 0) (nth (prmV P A) 3) 5 2 else 0) := Lib.hid (by rw [ordP, hok, Bool.true_and])
  have HV : Hid (prmB P A = true → nth (prmV P A) 0 ≤ 32) := Lib.hid (fun h => by rw [prm_val h]; simp only [nth, List.getD_cons_zero]; omega)
  have HK1 := Lib.hid hK1
  have HK2 := Lib.hid hK2
  have H6 := Lib.hid h6
  clear hK1 hK2 hD hok h6
  generalize ordP fv fk P A = R at *
  generalize prmV P A = xs at *
  generalize prmB P A = bb at *
  unfold dv at KV KP ⊢
  go_enter Tryz.func37, Tryz.ntmps37
  go_wp2_with (go_at_call 18; refine KV.out.mono ?_; rintro e2 w2 ⟨rfl, h2⟩; have hS2 := hS0.call0 h2; have b0 := hS2.bcell 0 rfl 0 rfl; have b1 := hS2.bcell 0 rfl 1 rfl)
  refine (KP _ (hS2.oldII hv)).out.mono ?_
  clear KP KV hS0 b0 b1
  unfold MakesPr pmV
  generalize nth xs 0 = V at *
  generalize nth xs 1 = x1 at *
  generalize nth xs 2 = x2 at *
  generalize nth xs 3 = K at *
  generalize nth xs 4 = L at *
  rintro e3 w3 ⟨rfl, h3⟩
  have hS3 := (hS2.call0 h3).newboxF 105 #[.int .i64 V, .int .i64 x1, .int .i64 x2, .int .i64 K, .int .i64 L]
  have p0 := hS3.bcell 0 rfl 0 rfl
  have p3 := hS3.bcell 0 rfl 3 rfl
  have p4 := hS3.bcell 0 rfl 4 rfl
  clear hS2 h2 h3
  go_wp2_with fail
  go_loopw [9] (fun n wr => ∃ i : Nat, i ≤ 4 ∧ n = .int .i64 ((2 : Int) + i) ∧ Hid (bb = true → L = 1 → R = plO fv fk V K (5 - i) (2 + i)) ∧ St w.heap.size w wr [box 105 w3.heap.size [.int .i64 V, .int .i64 x1, .int .i64 x2, .int .i64 K, .int .i64 L], box 28 w.heap.size [.int .i64 P, .slice a A.length c]]) (fun n _ => 7 - (intOf n).toNat)
  case atStart => exact ⟨0, by omega, rfl, fun h1 h2 => by rw [HO.out, if_pos (by rw [h1, h2]; rfl)]; rfl, hS3⟩
  case round =>
    clear hS3 p0 p3 p4
    obtain ⟨i, hi, rfl, hR, hS⟩ := hrel
    have p0 := fun s : SS w.heap.size w [box 105 w3.heap.size [.int .i64 V, .int .i64 x1, .int .i64 x2, .int .i64 K, .int .i64 L], box 28 w.heap.size [.int .i64 P, .slice a A.length c]] => s.st.bcell 0 rfl 0 rfl
    have p3 := fun s : SS w.heap.size w [box 105 w3.heap.size [.int .i64 V, .int .i64 x1, .int .i64 x2, .int .i64 K, .int .i64 L], box 28 w.heap.size [.int .i64 P, .slice a A.length c]] => s.st.bcell 0 rfl 3 rfl
    have p4 := fun s : SS w.heap.size w [box 105 w3.heap.size [.int .i64 V, .int .i64 x1, .int .i64 x2, .int .i64 K, .int .i64 L], box 28 w.heap.size [.int .i64 P, .slice a A.length c]] => s.st.bcell 0 rfl 4 rfl
    cases bb
    case false =>
      have HZ : Hid (R = 0) := Lib.hid (by rw [HO.out]; rfl)
      go_wp2_with fail
      have hne : Nonempty (SS _ _ _) := ⟨⟨_, hS⟩⟩
      refine wp_region_st (by kernel_rfl) (by kernel_rfl) hS ?_
      repeat (go_big_quiet_step (fail))
      refine wpQuiet_nil ?_
      rintro _ ⟨s2, rfl⟩
      have hS9 := s2.st
      generalize s2.w = w9 at hS9 ⊢
      have hS := hS9
      go_wp2_with fail
      go_ret
      exact ⟨ret_i64 HZ.out.symm, hS.out⟩
    case true =>
      by_cases hL : L = 1
      case neg =>
        have HZ : Hid (R = 0) := Lib.hid (by rw [HO.out, if_neg (by simpa using hL)])
        have f1 : (L == 1) = false := eq_f hL
        go_wp2_with fail
        have hne : Nonempty (SS _ _ _) := ⟨⟨_, hS⟩⟩
        refine wp_region_st (by kernel_rfl) (by kernel_rfl) hS ?_
        repeat (go_big_quiet_step (fail))
        refine wpQuiet_nil ?_
        rintro _ ⟨s2, rfl⟩
        have hS9 := s2.st
        generalize s2.w = w9 at hS9 ⊢
        have hS := hS9
        go_wp2_with fail
        go_ret
        exact ⟨ret_i64 HZ.out.symm, hS.out⟩
      case pos =>
        subst hL
        have hR1 := Lib.hid (hR.out rfl rfl)
        have hV32 := HV.out rfl
        by_cases hvn : fv (2 + (i : Int)) ≤ V
        case neg =>
          have HZ : Hid (R = 0) := Lib.hid (by rw [hR1.out, plO_no hvn])
          generalize hfn : fv (2 + (i : Int)) = fn at *
          have KF := Lib.hid (fun W => HK1.out (2 + (i : Int)) W (by omega) (by omega))
          rw [hfn] at KF
          clear hfn hR hV32
          go_wp2_with fail
          have hne : Nonempty (SS _ _ _) := ⟨⟨_, hS⟩⟩
          refine wp_region_st (by kernel_rfl) (by kernel_rfl) hS ?_
          repeat (go_big_quiet_step ((exact st_quiet0 (KF.out _))))
          refine wpQuiet_nil ?_
          rintro _ ⟨s2, rfl⟩
          have hS9 := s2.st
          generalize s2.w = w9 at hS9 ⊢
          have hS := hS9
          go_wp2_with fail
          go_ret
          exact ⟨ret_i64 HZ.out.symm, hS.out⟩
        case pos =>
          have hi4 : i < 4 := by
            by_cases e : i = 4
            · subst e; have := H6.out; rw [show (2 : Int) + ((4 : Nat) : Int) = 6 by omega] at hvn; omega
            · omega
          obtain ⟨f, hfe⟩ : ∃ f, 5 - i = f + 1 := ⟨4 - i, by omega⟩
          by_cases hit : fv (2 + (i : Int)) = V ∧ fk (2 + (i : Int)) = K
          · have HZ : Hid (R = 2 + (i : Int)) := Lib.hid (by rw [hR1.out, hfe, plO_hit hvn hit])
            generalize hfn : fv (2 + (i : Int)) = fn at *
            generalize hkn : fk (2 + (i : Int)) = kn at *
            have KF := Lib.hid (fun W => HK1.out (2 + (i : Int)) W (by omega) (by omega))
            have KG := Lib.hid (fun W => HK2.out (2 + (i : Int)) W (by omega) (by omega))
            rw [hfn] at KF
            rw [hkn] at KG
            obtain ⟨g1, g2⟩ := hit
            have f1 : (fn == V) = true := eq_t g1
            have f2 : (kn == K) = true := eq_t g2
            clear hfn hkn hR hV32 hfe g1 g2
            go_wp2_with fail
            have hne : Nonempty (SS _ _ _) := ⟨⟨_, hS⟩⟩
            refine wp_region_st (by kernel_rfl) (by kernel_rfl) hS ?_
            repeat (go_big_quiet_step ((exact st_quiet0 (KF.out _))))
            refine wpQuiet_nil ?_
            rintro _ ⟨s2, rfl⟩
            have hS9 := s2.st
            generalize s2.w = w9 at hS9 ⊢
            have hS := hS9
            go_wp2_with fail
            have hne : Nonempty (SS _ _ _) := ⟨⟨_, hS⟩⟩
            refine wp_region_st (by kernel_rfl) (by kernel_rfl) hS ?_
            repeat (go_big_quiet_step ((first | exact st_quiet0 (KF.out _) | exact st_quiet0 (KG.out _))))
            refine wpQuiet_nil ?_
            rintro _ ⟨s2, rfl⟩
            have hS10 := s2.st
            generalize s2.w = w10 at hS10 ⊢
            have hS := hS10
            go_wp2_with fail
            go_ret
            exact ⟨ret_i64 HZ.out.symm, hS.out⟩
          · have HZ : Hid (R = plO fv fk V K (5 - (i + 1)) (2 + ((i + 1 : Nat) : Int))) := Lib.hid (by rw [hR1.out, hfe, plO_next hvn hit, show 5 - (i + 1) = f by omega]; first | (congr 1; done) | (congr 1; omega))
            generalize hfn : fv (2 + (i : Int)) = fn at *
            generalize hkn : fk (2 + (i : Int)) = kn at *
            have KF := Lib.hid (fun W => HK1.out (2 + (i : Int)) W (by omega) (by omega))
            have KG := Lib.hid (fun W => HK2.out (2 + (i : Int)) W (by omega) (by omega))
            rw [hfn] at KF
            rw [hkn] at KG
            have hit2 : (fn == V) = false ∨ ((fn == V) = true ∧ (kn == K) = false) := by
              by_cases e : fn = V
              · exact .inr ⟨eq_t e, eq_f fun e2 => hit ⟨e, e2⟩⟩
              · exact .inl (eq_f e)
            clear hfn hkn hR hV32 hfe hit
            go_wp2_with fail
            have hne : Nonempty (SS _ _ _) := ⟨⟨_, hS⟩⟩
            refine wp_region_st (by kernel_rfl) (by kernel_rfl) hS ?_
            repeat (go_big_quiet_step ((exact st_quiet0 (KF.out _))))
            refine wpQuiet_nil ?_
            rintro _ ⟨s2, rfl⟩
            have hS9 := s2.st
            generalize s2.w = w9 at hS9 ⊢
            have hS := hS9
            rcases hit2 with f1 | ⟨f1, f2⟩
            all_goals
              go_wp2_with fail
              have hne : Nonempty (SS _ _ _) := ⟨⟨_, hS⟩⟩
              refine wp_region_st (by kernel_rfl) (by kernel_rfl) hS ?_
              repeat (go_big_quiet_step ((first | exact st_quiet0 (KF.out _) | exact st_quiet0 (KG.out _))))
              refine wpQuiet_nil ?_
              rintro _ ⟨s2, rfl⟩
              have hS10 := s2.st
              generalize s2.w = w10 at hS10 ⊢
              have hS := hS10
              go_wp2_with fail
              go_roundw
              case rel => exact ⟨i + 1, by omega, by go_num, fun _ _ => HZ.out, hS⟩
              case measure => simp [intOf]; omega
end Go.Proofs.YtdgmaodnkbgolaaGreat
end

section
/- Posts: a row and a code; a list of rows and a code. -/
namespace Go.Proofs.YtdgmaodnkbgolaaGreat
set_option linter.unusedSimpArgs false
set_option linter.unusedVariables false
/-- a list of rows of its own, and a code -/
def MakesC2 (w : World) (A : List (List Int)) (c : Int) (e : Ending) (w' : World) : Prop := ∃ v us, e = .returned (.tuple #[v, .int .i64 c]) ∧ us.length = A.length ∧ St w.heap.size w w' (own2 v us A)
end Go.Proofs.YtdgmaodnkbgolaaGreat
end

section
/- Walks: the classes of parallel lines, of the program. -/
namespace Go.Proofs.YtdgmaodnkbgolaaGreat
set_option linter.unusedSimpArgs false
set_option linter.unusedVariables false
open Go.RowKit
attribute [local go_sem ↓] Go.wp_at_zero Go.wp_at_succ

theorem idxR_cases (p : List Int → Bool) (xss : List (List Int)) : idxR p xss 0 = -1 ∨ ∃ j : Nat, j < xss.length ∧ idxR p xss 0 = (j : Int) := by
  unfold idxR
  rw [List.drop_zero]
  cases h : xss.findIdx? p with
  | none => exact .inl rfl
  | some j =>
    obtain ⟨h1, _⟩ := List.findIdx?_eq_some_iff_getElem.1 h
    exact .inr ⟨j, h1, by simp⟩
theorem rowsI_putP {us : List Value} {R : List (List Int)} (hl : us.length = R.length) {j : Nat} (hj : j < R.length) (u : Value) (r : List Int) : (rowsI us R).set j (row 2 u (iv r)) = rowsI (us.set j u) (R.set j r) := by
  refine List.ext_getElem (by simp [rowsI, hl]) fun i h1 h2 => ?_
  simp only [rowsI, List.getElem_set, List.getElem_zipWith]
  split <;> rfl
theorem own2_putP {v : Value} {us : List Value} {A : List (List Int)} {L2 : List Ent} (hl : us.length = A.length) {j : Nat} (hj : j < A.length) (u : Value) (r : List Int) :
    ((own2 v us A ++ L2).set (j + 1) (row 2 u (iv r))).set 0 (row 48 v (us.set j u)) = own2 v (us.set j u) (A.set j r) ++ L2 := by
  rw [own2, own2, List.cons_append, List.set_cons_succ, List.set_cons_zero, List.set_append_left _ _ (by rw [rowsI_len hl]; exact hj), rowsI_putP hl hj]; rfl
theorem own2_atP {v : Value} {us : List Value} {A : List (List Int)} {L2 : List Ent} (hl : us.length = A.length) {j : Nat} (hj : j < A.length) : (own2 v us A ++ L2)[j + 1]? = some (row 2 (vat us j) (iv (xat A j))) := by
  rw [own2, List.cons_append, List.getElem?_cons_succ, List.getElem?_append_left (by rw [rowsI_len hl]; exact hj), rowsI_get hl hj]
/-- the classes: no empty ones, and their numbers are those of lines -/
theorem pcK_ok (A : List (List Int)) : ∀ k, (pcK A k).length ≤ k ∧ ∀ c ∈ pcK A k, 0 < c.length ∧ c.length ≤ k ∧ ∀ x ∈ c, 0 ≤ x ∧ x < (k : Int)
  | 0 => ⟨Nat.le_refl _, fun c hc => by cases hc⟩
  | k + 1 => by
    obtain ⟨h0, h⟩ := pcK_ok A k
    have h' : ∀ c ∈ pcK A k, 0 < c.length ∧ c.length ≤ k + 1 ∧ ∀ x ∈ c, 0 ≤ x ∧ x < ((k + 1 : Nat) : Int) := fun c hc => ⟨(h c hc).1, by have := (h c hc).2.1; omega, fun x hx => by have := (h c hc).2.2 x hx; omega⟩
    rw [pcK, pcS]
    rcases idxR_cases (pcF A k) (pcK A k) with e | ⟨j, hj, e⟩
    · rw [e, if_pos (by omega)]
      refine ⟨by rw [List.length_append]; simp; omega, fun c hc => ?_⟩
      rcases List.mem_append.1 hc with hc | hc
      · exact h' c hc
      · rw [List.mem_singleton.1 hc]
        exact ⟨by simp, by simp, fun x hx => by rw [List.mem_singleton.1 hx]; omega⟩
    · rw [e, if_neg (by omega), Int.toNat_natCast]
      refine ⟨by rw [List.length_set]; omega, fun c hc => ?_⟩
      rcases List.mem_or_eq_of_mem_set hc with hc | rfl
      · exact h' c hc
      · have hx := h _ (xat_mem hj)
        refine ⟨by rw [List.length_append]; simp, by rw [List.length_append]; have := hx.2.1; simp; omega, fun x hm => ?_⟩
        rcases List.mem_append.1 hm with hm | hm
        · have := hx.2.2 x hm; omega
        · rw [List.mem_singleton.1 hm]; omega
set_option maxHeartbeats 4000000 in
set_option maxRecDepth 100000 in
theorem parallelClasses1_c (vc : Value) (cs : List Int) (gd gb : Nat) (P : Nat) (v : Value) (us : List Value) (A : List (List Int)) (k : Nat) (w : World) (hv : RII w v us A) (hd : BoxD w gd P v) (hb : w.cell? ⟨gb, 0, none⟩ = some (vat us k)) (hc : RdI w vc cs)
    (h0 : 0 < cs.length) (hi : 0 ≤ nth cs 0 ∧ nth cs 0 < A.length) (hk : k < A.length) :
    Calls Tryz.prog 121 #[vc, .pointer (some ⟨gd, 0, none⟩), .pointer (some ⟨gb, 0, none⟩)] w (GivesB w (pcF A k cs)) := by
  obtain ⟨i, hi2⟩ := Int.eq_ofNat_of_zero_le hi.1
  have hiA : i < A.length := by omega
  have d1 := hd.2
  have c0 := hc.cell 0 h0
  rw [hi2] at c0
  have x0 := hc.ixe (0 : Int) 0 rfl h0
  have ci := hv.cell i hiA
  have xi := hv.ixe (i : Int) i rfl hiA
  have HF : Hid (pcF A k cs = decide (((meB (xat A i) (xat A k)).length : Int) = 0)) := Lib.hid (by rw [pcF, hi2, Int.toNat_natCast]; simp)
  have KM := fun W h1 h2 => Lib.hid (MeetSets_c (vat us i) (vat us k) (xat A i) (xat A k) W h1 h2)
  rw [show ifSets (xat A i) (xat A k) (mee (xat A i) (xat A k)) = meB (xat A i) (xat A k) from rfl] at KM
  have r1 := Lib.hid (hv.row i hiA)
  have r2 := Lib.hid (hv.row k hk)
  generalize meB (xat A i) (xat A k) = M at *
  have hS := (St.refl w).drew
  have HE : Hid (((M.length : Int) == 0) = decide ((M.length : Int) = 0)) := Lib.hid (by
    by_cases e : (M.length : Int) = 0
    · rw [eq_t e, decide_eq_true e]
    · rw [eq_f e, decide_eq_false e])
  rw [HF.out]
  clear hc hi hi2 hd hv HF
  go_enter Tryz.func121, Tryz.ntmps121
  go_wp2_with fail
  go_region_held3 (fun w' => w'.cell? ⟨gd, 1, none⟩ = some v ∧ w'.cell? ⟨gb, 0, none⟩ = some (vat us k) ∧ w'.cell? (el vc 0) = some (.int .i64 i) ∧ w'.cell? (el v i) = some (vat us i)) (((try dsimp only); (repeat' apply And.intro); all_goals (repeat (first | assumption | exact cell_dr (by assumption) | refine cell_dr ?_ | refine cell_al ?_ | refine cell_sc (by assumption) ?_)))) (first
    | (go_at_call 42; refine (KM _ (hS.oldI r1.out) (hS.oldI r2.out)).out.mono ?_; rintro e w3 ⟨vm, rfl, h3⟩; have hlm := (h3.rdI 0 rfl).len; have d1 := cell_keepF h3.below (cell_dr d1); have d2 := cell_keepF h3.below (cell_dr hb); have d3 := cell_keepF h3.below (cell_dr c0); have d4 := cell_keepF h3.below (cell_dr ci)))
  go_wp2_with fail
  go_ret
  first
    | exact ⟨ret_bool HE.out, (hS.call0 h3.out).out⟩
    | exact ⟨by first | rfl | (simp), (hS.call0 h3.out).out⟩
set_option maxHeartbeats 8000000 in
set_option maxRecDepth 100000 in
theorem parallelClasses_c (P : Nat) (v : Value) (us : List Value) (A : List (List Int)) (w : World) (hv : RII w v us A) (hA : A.length ≤ 128) :
    Calls Tryz.prog 74 #[dv P v] w (MakesII w (pcK A A.length)) := by
  obtain ⟨a, c, hsh⟩ := hv.1.sl.sh
  rw [hv.2.1] at hsh
  subst hsh
  have hS0 := (St.refl w).newboxF 28 #[.int .i64 P, .slice a A.length c]
  have b1 := hS0.bcell 0 rfl 1 rfl
  have hln := hv.len
  have hix := hv.ixe
  have hS1 := (hS0.newnil 48).perm (L' := own2 (.slice none 0 0) [] (pcK A 0) ++ [box 28 w.heap.size [.int .i64 P, .slice a A.length c]]) (by rw [show pcK A 0 = [] from rfl, own2_nil']; exact List.perm_append_comm)
  have hcf : ∀ (args : Array Value) (W : World), (callFunc 121 args).run Tryz.prog W = .ok (.enter 121 args) W :=
    fun args W => callFunc_go (P := Tryz.prog) Tryz.func121 (by kernel_rfl) (by kernel_rfl) args W
  clear hS0
  unfold dv
  go_enter Tryz.func74, Tryz.ntmps74
  go_wp2_with fail
  clear b1
  go_loopw [10, 3, 4, 5, 6] (fun i o _ _ _ wr => ∃ (k : Nat) (v2 : Value) (uc : List Value), v2 = o ∧ k ≤ A.length ∧ i = .int .i64 k ∧ Hid (uc.length = (pcK A k).length) ∧ St w.heap.size w wr (own2 v2 uc (pcK A k) ++ [box 28 w.heap.size [.int .i64 P, .slice a A.length c]])) (fun i _ _ _ _ _ => A.length - (intOf i).toNat)
  case atStart => exact ⟨0, _, [], rfl, by omega, rfl, rfl, hS1⟩
  case round =>
    clear hS1
    obtain ⟨k, v2, uc, rfl, hk, rfl, hlu, hS⟩ := hrel
    by_cases hlt : k < A.length
    · have hck := (hS.oldII hv).cell k hlt
      have hxk := hix (k : Int) k rfl hlt
      have hOk := Lib.hid (pcK_ok A k)
      obtain ⟨xa, xc, hvk⟩ := (hv.row k hlt).sl.sh
      rw [hvk] at hck
      have hB := hS.newboxF 48 #[.slice xa (iv (xat A k)).length xc]
      have bd : BoxD _ w.heap.size P (.slice a A.length c) := ⟨hB.bcell _ (at_cons (at_app (i := 0) rfl)) 0 rfl, hB.bcell _ (at_cons (at_app (i := 0) rfl)) 1 rfl⟩
      have bb := (hB.bcell 0 rfl 0 rfl).trans (show some (Value.slice xa (iv (xat A k)).length xc) = some (vat us k) by rw [hvk])
      have rC := (hB.sub ((List.sublist_append_left _ _).cons _)).rii hlu.out
      have rA := hB.oldII hv
      have hblt := World.block_lt_of_cell? _ _ bd.1
      have hblt2 := World.block_lt_of_cell? _ _ bb
      have KI := Lib.hid (IndexFuncR_c 121 #[.pointer (some ⟨w.heap.size, 0, none⟩), .pointer (some ⟨wr.heap.size, 0, none⟩)] (pcF A k) v2 uc (pcK A k) _ rC hcf (fun j W hW hj => by
        have hc := hOk.out.2 _ (xat_mem hj)
        exact parallelClasses1_c (vat uc j) (xat (pcK A k) j) w.heap.size wr.heap.size P (.slice a A.length c) us A k W (rA.keep hW.below) (bd.keep hW.below) (cell_keepF hW.below bb) ((rC.keep hW.below).row j hj) hc.1 (by have := hc.2.2 _ (nth_mem hc.1); omega) hlt))
      have HS := Lib.hid (show pcK A (k + 1) = pcS A (pcK A k) k from rfl)
      unfold pcS at HS
      have hlC := rC.len
      rcases idxR_cases (pcF A k) (pcK A k) with e | ⟨j, hj, e⟩
      · rw [e] at KI HS
        rw [if_pos (by omega)] at HS
        have hCl : (pcK A k).length ≤ 128 := by have := hOk.out.1; omega
        generalize pcK A k = C at *
        clear bd bb rC rA e hvk
        have hN := Lib.hid (show uc.length < 4294967296 by rw [hlu.out]; omega)
        have Hl6 := Lib.hid (show (uc ++ [Value.slice none 0 0]).length = (C ++ [[]]).length by simp [hlu.out])
        have Hj6 := Lib.hid (show C.length < (C ++ [([] : List Int)]).length by simp)
        have Hv6 := Lib.hid (show vat (uc ++ [Value.slice none 0 0]) C.length = Value.slice none 0 0 by simp [vat, hlu.out])
        have Hx6 := Lib.hid (show xat (C ++ [([] : List Int)]) C.length = [] by simp [xat])
        have Hs6 := Lib.hid (show (C ++ [([] : List Int)]).set C.length [(k : Int)] = C ++ [[(k : Int)]] by simp)
        have HuL := Lib.hid hlu.out
        go_wp2_with (first
          | (refine stoII hS7 0 rfl C.length (by rw [Hl6.out]; exact Hj6.out) rfl _ _ rfl rfl v7 s7.cells s7.one rfl ?_; intro w8 hS8; rw [own2_putP Hl6.out Hj6.out] at hS8)
          | (at_builtin; refine appI hS6 (C.length + 1) hat (by simp) rfl _ _ rfl rfl _ rfl ?_; intro v7 w7 hS7; have s7 := (hS7.rdI (C.length + 1) (List.getElem?_set_self (by rw [own2, List.length_append, List.length_cons, rowsI_len Hl6.out]; have := Hj6.out; omega))).sl)
          | (at_builtin; refine appII hB2 0 rfl hN.out rfl _ _ rfl rfl _ rfl rfl ?_; intro v5 w5 hS5; have hS6 := own2_snocL (xs := []) HuL.out hS5; have r6 := (hS6.sub (List.sublist_append_left _ _)).rii Hl6.out; have c6 := r6.cell C.length Hj6.out; rw [Hv6.out] at c6; have x6 := r6.ixe (C.length : Int) C.length rfl Hj6.out; have hat := own2_atP (v := v5) (L2 := [box 28 w.heap.size [.int .i64 P, .slice a A.length c]]) Hl6.out Hj6.out; rw [Hv6.out, Hx6.out] at hat)
          | (go_at_call 120; refine KI.out.mono ?_; rintro e2 w2 ⟨rfl, h2⟩; have hB2 := ((hB.call0 h2).sub (List.sublist_cons_self _ _)).newnil 2))
        rw [show ([] : List Int) ++ [(k : Int)] = [(k : Int)] from rfl, Hs6.out, ← HS.out] at hS8
        go_roundw
        case rel => exact ⟨k + 1, _, _, rfl, by omega, by go_num, by rw [HS.out]; simp [Hid, HuL.out], hS8⟩
        case measure => simp [intOf]; omega
      · rw [e] at KI HS
        rw [if_neg (by omega), Int.toNat_natCast] at HS
        have hCl : (pcK A k).length ≤ 128 ∧ (xat (pcK A k) j).length ≤ 128 := by
          have := hOk.out.1
          have := (hOk.out.2 _ (xat_mem hj)).2.1
          omega
        generalize pcK A k = C at *
        clear bd bb rC rA e hvk
        have HuL := Lib.hid hlu.out
        have Hj6 := Lib.hid hj
        have Hxl := Lib.hid (show (xat C j).length < 4294967296 by omega)
        go_wp2_with (first
          | (refine stoII hS7 0 rfl j (by rw [HuL.out]; exact Hj6.out) rfl _ _ rfl rfl v7 s7.cells s7.one rfl ?_; intro w8 hS8; rw [own2_putP HuL.out Hj6.out] at hS8)
          | (at_builtin; refine appI hS6 (j + 1) hat Hxl.out rfl _ _ rfl rfl _ rfl ?_; intro v7 w7 hS7; have s7 := (hS7.rdI (j + 1) (List.getElem?_set_self (by rw [own2, List.length_append, List.length_cons, rowsI_len HuL.out]; have := Hj6.out; omega))).sl)
          | (go_at_call 120; refine KI.out.mono ?_; rintro e2 w2 ⟨rfl, h2⟩; have hS6 := (hB.call0 h2).sub (List.sublist_cons_self _ _); have r6 := (hS6.sub (List.sublist_append_left _ _)).rii HuL.out; have c6 := r6.cell j Hj6.out; have x6 := r6.ixe (j : Int) j rfl Hj6.out; have hat := own2_atP (v := v2) (L2 := [box 28 w.heap.size [.int .i64 P, .slice a A.length c]]) HuL.out Hj6.out))
        rw [← HS.out] at hS8
        go_roundw
        case rel => exact ⟨k + 1, _, _, rfl, by omega, by go_num, by rw [HS.out]; simp [Hid, HuL.out], hS8⟩
        case measure => simp [intOf]; omega
    · obtain rfl : k = A.length := by omega
      go_wp2_with fail
      go_ret
      exact ⟨_, uc, rfl, hlu.out, hS.sub (List.sublist_append_left _ _)⟩
end Go.Proofs.YtdgmaodnkbgolaaGreat
end

section
/- Walks: valid permutations of both sides; permutations that the laws make. -/
namespace Go.Proofs.YtdgmaodnkbgolaaGreat
set_option linter.unusedSimpArgs false
set_option linter.unusedVariables false
open Go.RowKit
attribute [local go_sem ↓] Go.wp_at_zero Go.wp_at_succ

set_option maxHeartbeats 2000000 in
set_option maxRecDepth 100000 in
theorem ValidPermutation_c (v : Value) (xs : List Int) (w : World) (hv : RdI w v xs) (hN : xs.length ≤ 1048576) : Calls Tryz.prog 79 #[v] w (GivesB w (pvB xs)) := by
  have hlx := hv.len
  have HP := Lib.hid (show IsP xs ↔ ∀ j, j < xs.length → nth (srt xs) j = j from isP_iff)
  have Hl := Lib.hid (srt_len xs)
  have HS := fun {B : Nat} {w0 w : World} {L : List Ent} (hS : St B w0 w L) (i : Nat) {v : Value} (hi : L[i]? = some (row 2 v (iv xs))) => Lib.hid (Sort_c hS i hi (by omega))
  generalize srt xs = ys at *
  go_enter Tryz.func79, Tryz.ntmps79
  go_wp2_with fail
  refine (Clone_c v xs w hv hN).mono ?_
  rintro e w1 ⟨u, rfl, h1⟩
  go_wp2_with fail
  refine (HS h1 0 rfl).out.mono ?_
  rintro e w2 ⟨rfl, hS⟩
  simp only [List.set_cons_zero] at hS
  have hln := (hS.rdI 0 rfl).len
  have hix := (hS.rdI 0 rfl).ix
  rw [Hl.out] at hln hix
  clear HS h1
  go_wp2_with fail
  go_loopw [4, 5, 12] (fun _ _ x wr => ∃ k : Nat, k ≤ xs.length ∧ x = .int .i64 k ∧ Hid (∀ j, j < k → nth ys j = j) ∧ St w.heap.size w wr [row 2 u (iv ys)]) (fun _ _ x _ => xs.length - (intOf x).toNat)
  case atStart => exact ⟨0, by omega, rfl, fun j hj => by omega, hS⟩
  case round =>
    clear hS
    obtain ⟨k, hk, rfl, hI, hS⟩ := hrel
    by_cases hlt : k < xs.length
    · have hc := (hS.rdI 0 rfl).cell k (by rw [Hl.out]; exact hlt)
      by_cases h1 : nth ys k = k
      · have e1 := ne_f h1
        have H1 := Lib.hid h1
        clear h1
        go_wp2_with fail
        go_roundw
        case rel => exact ⟨k + 1, by omega, by go_num, fun j hj => by
          by_cases e : j = k
          · subst e; exact H1.out
          · exact hI.out j (by omega), hS⟩
        case measure => simp [intOf]; omega
      · have e1 := ne_t h1
        have H1 := Lib.hid h1
        clear h1
        go_wp2_with fail
        go_ret
        exact ⟨ret_bool (pvB_no fun h => H1.out (HP.out.1 h.2 k hlt)).symm, hS.out⟩
    · go_wp2_with fail
      go_ret
      have hp : IsP xs := HP.out.2 fun j hj => hI.out j (by omega)
      refine ⟨ret_bool ?_, hS.out⟩
      by_cases h32 : xs.length ≤ 32
      · rw [pvB_yes h32 hp]; simp; omega
      · rw [pvB_no fun h => h32 h.1]; simp; omega

set_option maxHeartbeats 2000000 in
set_option maxRecDepth 100000 in
theorem l04Ok_c (v : Value) (xs : List Int) (w : World) (hv : RdI w v xs) : Calls Tryz.prog 68 #[v] w (GivesB w (pvB xs)) := by
  have hln := hv.len
  have hix := hv.ix
  have hle := hv.le
  have HP := Lib.hid (isP_iff2 (xs := xs))
  by_cases h32 : 32 < xs.length
  · have H := Lib.hid (pvB_no (xs := xs) fun h => by omega)
    go_enter Tryz.func68, Tryz.ntmps68
    go_wp2_with fail
    go_ret
    exact ⟨ret_bool H.out.symm, St.refl w⟩
  · go_enter Tryz.func68, Tryz.ntmps68
    go_wp2_with fail
    go_loopw [3] (fun x wr => ∃ k : Nat, k ≤ xs.length ∧ x = .int .i64 k ∧ Hid (∀ j, j < k → (0 ≤ nth xs j ∧ nth xs j ≤ xs.length - 1) ∧ nth xs j ∉ xs.take j) ∧ St w.heap.size w wr []) (fun x _ => xs.length - (intOf x).toNat)
    case atStart => exact ⟨0, by omega, rfl, fun j hj => by omega, St.refl w⟩
    case round =>
      obtain ⟨k, hk, rfl, hI, hS⟩ := hrel
      by_cases hlt : k < xs.length
      · have hq := fun s : SS w.heap.size w [] => (s.st.oldI hv).cell k hlt
        have hsl := rsl_hi hv k (by omega)
        by_cases h1 : 0 ≤ nth xs k ∧ nth xs k ≤ (xs.length : Int) - 1
        · have i1 := inB_true h1
          have H1 := Lib.hid h1
          clear h1
          by_cases h2 : nth xs k ∈ xs.take k
          · have i2 : decide (nth xs k ∈ List.drop 0 (xs.take k)) = true := decide_eq_true h2
            have H2 := Lib.hid h2
            clear h2
            have hHas := fun W (h : St w.heap.size w W []) => Lib.hid (l00Has_c (rsl v 0 k) _ (nth xs k) W (rsl_rd (h.oldI hv) (Nat.zero_le k) hk))
            rw [i2] at hHas
            go_wp2_with fail
            have hne : Nonempty (SS _ _ _) := ⟨⟨_, hS⟩⟩
            refine wp_region_st (by kernel_rfl) (by kernel_rfl) hS ?_
            repeat (go_big_quiet_step ((first | (go_at_call 113; exact st_quiet0 (l00In_c _ _ _ _)) | (go_at_call 114; exact st_quiet0 (hHas _ (SS.st _)).out))))
            refine wpQuiet_nil ?_
            rintro _ ⟨s2, rfl⟩
            have hS2 := s2.st
            generalize s2.w = w2 at hS2 ⊢
            go_wp2_with fail
            go_ret
            exact ⟨ret_bool (pvB_no fun h => (HP.out.1 h.2 k hlt).2 H2.out).symm, hS2⟩
          · have i2 : decide (nth xs k ∈ List.drop 0 (xs.take k)) = false := decide_eq_false h2
            have H2 := Lib.hid h2
            clear h2
            have hHas := fun W (h : St w.heap.size w W []) => Lib.hid (l00Has_c (rsl v 0 k) _ (nth xs k) W (rsl_rd (h.oldI hv) (Nat.zero_le k) hk))
            rw [i2] at hHas
            go_wp2_with fail
            have hne : Nonempty (SS _ _ _) := ⟨⟨_, hS⟩⟩
            refine wp_region_st (by kernel_rfl) (by kernel_rfl) hS ?_
            repeat (go_big_quiet_step ((first | (go_at_call 113; exact st_quiet0 (l00In_c _ _ _ _)) | (go_at_call 114; exact st_quiet0 (hHas _ (SS.st _)).out))))
            refine wpQuiet_nil ?_
            rintro _ ⟨s2, rfl⟩
            have hS2 := s2.st
            generalize s2.w = w2 at hS2 ⊢
            go_wp2_with fail
            go_roundw
            case rel => exact ⟨k + 1, by omega, by go_num, fun j hj => by
              by_cases e : j = k
              · subst e; exact ⟨H1.out, H2.out⟩
              · exact hI.out j (by omega), hS2⟩
            case measure => simp [intOf]; omega
        · have i1 := inB_false h1
          have H1 := Lib.hid h1
          clear h1
          go_wp2_with fail
          have hne : Nonempty (SS _ _ _) := ⟨⟨_, hS⟩⟩
          refine wp_region_st (by kernel_rfl) (by kernel_rfl) hS ?_
          repeat (go_big_quiet_step ((go_at_call 113; exact st_quiet0 (l00In_c _ _ _ _))))
          refine wpQuiet_nil ?_
          rintro _ ⟨s2, rfl⟩
          have hS2 := s2.st
          generalize s2.w = w2 at hS2 ⊢
          go_wp2_with fail
          go_ret
          exact ⟨ret_bool (pvB_no fun h => H1.out (HP.out.1 h.2 k hlt).1).symm, hS2⟩
      · go_wp2_with fail
        go_ret
        exact ⟨ret_bool (pvB_yes (by omega) (HP.out.2 fun j hj => hI.out j (by omega))).symm, hS⟩
end Go.Proofs.YtdgmaodnkbgolaaGreat
end

section
/- Walks: what the laws choose by bytes. -/
namespace Go.Proofs.YtdgmaodnkbgolaaGreat
set_option linter.unusedSimpArgs false
set_option linter.unusedVariables false
open Go.RowKit

/-- some number at most 1023, and less than n if there is one -/
theorem b10At_c (w : World) (cv : Value) (bs : List UInt8) (i n : Int) (hb : RdB w cv bs) (i0 : 0 ≤ i) (i1 : i ≤ 1000000) (n1 : n ≤ 1000000) :
    Calls Tryz.prog 11 #[cv, .int .i64 i, .int .i64 n] w fun e w' => ∃ x : Int, e = .returned (.int .i64 x) ∧ 0 ≤ x ∧ (x < n ∨ n ≤ 1 ∧ x = 0) ∧ w = w' := by
  have hln := hb.len
  have hix := hb.ix
  have hc := hb.cell
  have hle := hb.le
  by_cases h1 : n ≤ 1
  · go_enter Tryz.func11, Tryz.ntmps11
    go_wp2_with fail
    go_ret
    exact ⟨0, rfl, by omega, .inr ⟨h1, rfl⟩, rfl⟩
  · by_cases h2 : i < bs.length
    · obtain ⟨k, rfl⟩ := Int.eq_ofNat_of_zero_le i0
      have hck := hc k (by omega)
      have hbd := bnth_bd bs k
      go_enter Tryz.func11, Tryz.ntmps11
      go_wp2_with fail
      go_ret
      refine ⟨_, rfl, ?_, .inl ?_, rfl⟩
      · exact Int.emod_nonneg _ (by omega)
      · exact Int.emod_lt_of_pos _ (by omega)
    · go_enter Tryz.func11, Tryz.ntmps11
      go_wp2_with fail
      go_ret
      refine ⟨_, rfl, ?_, .inl ?_, rfl⟩
      · exact Int.emod_nonneg _ (by omega)
      · exact Int.emod_lt_of_pos _ (by omega)

end Go.Proofs.YtdgmaodnkbgolaaGreat
end

section
/- Walks: permutations that are made and drawn; composition, inverses. Walks: composition and inverses of permutations. -/
namespace Go.Proofs.YtdgmaodnkbgolaaGreat
set_option linter.unusedSimpArgs false
set_option linter.unusedVariables false
open Go.RowKit
attribute [local go_sem ↓] Go.wp_at_zero Go.wp_at_succ


set_option maxHeartbeats 1000000 in
set_option maxRecDepth 100000 in
theorem l04One_c (n : Nat) (w : World) (hn : n ≤ 1000) : Calls Tryz.prog 27 #[.int .i64 n] w (MakesI w (iot n)) := by
  have hS0 : St w.heap.size w (w.alloc (.cells #[] 2)) [row 2 (.slice (some ⟨w.heap.size, 0, none⟩) 0 0) (iv [])] := (St.refl w).new 2 #[] (by simp)
  go_enter Tryz.func27, Tryz.ntmps27
  go_wp2_with fail
  go_loopw [3, 4] (fun o x wr => ∃ k : Nat, k ≤ n ∧ x = .int .i64 k ∧ St w.heap.size w wr [row 2 o (iv (iot k))]) (fun _ x _ => n - (intOf x).toNat)
  case atStart => exact ⟨0, by omega, rfl, hS0⟩
  case round =>
    obtain ⟨k, hk, rfl, hS⟩ := hrel
    have hkl := iot_len k
    by_cases hlt : k < n
    · go_wp2_with (at_builtin; refine appI hS 0 rfl (by omega) rfl _ _ rfl rfl _ rfl ?_; intro v2 w2 hS2)
      go_roundw
      case rel => exact ⟨k + 1, by omega, by go_num, by rw [iot_succ]; exact hS2⟩
      case measure => simp [intOf]; omega
    · obtain rfl : k = n := by omega
      go_wp2_with fail
      go_ret
      exact ⟨_, rfl, hS⟩
/-- a permutation of n numbers, and the source goes on -/
def PermS (w0 : World) (cv : Value) (g K n : Nat) (L : List Ent) (e : Ending) (w' : World) : Prop := ∃ v xs, e = .returned v ∧ xs.length = n ∧ IsP xs ∧ Src w0 w' cv g K (row 2 v (iv xs) :: L)
set_option maxHeartbeats 2000000 in
set_option maxRecDepth 100000 in
theorem l04DrawPerm_c (w0 w : World) (cv : Value) (bs : List UInt8) (g K : Nat) (L : List Ent) (n : Nat) (hb : RdB w0 cv bs) (h : Src w0 w cv g K L) (hK : K < 100000000000) (hn : n ≤ 1000) :
    Calls Tryz.prog 29 #[.pointer (some ⟨g, 0, none⟩), .int .i64 n] w (PermS w0 cv g (K + 2 * n) n L) := by
  go_enter Tryz.func29, Tryz.ntmps29
  go_wp2_with fail
  refine (l04One_c n w hn).mono ?_
  rintro e w1 ⟨u, rfl, h1⟩
  have h2 := (h.call h1).perm List.perm_append_comm
  simp only [List.cons_append, List.nil_append] at h2
  clear h h1
  go_wp2_with fail
  go_loopw [6, 7, 8] (fun x _ _ wr => ∃ (j : Nat) (xs : List Int), j ≤ n ∧ x = .int .i64 ((j : Int) - 1) ∧ Hid (xs.length = n) ∧ Hid (IsP xs) ∧ Src w0 wr cv g (K + 2 * (n - j)) (row 2 u (iv xs) :: L)) (fun x _ _ _ => (intOf x).toNat)
  case atStart => exact ⟨n, iot n, by omega, by go_num, iot_len n, iot_isP n, h2.mono (by omega)⟩
  case round =>
    clear h2
    obtain ⟨j, xs, hj, rfl, hl, hp, hs⟩ := hrel
    by_cases h2 : 2 ≤ j
    · go_wp2_with fail
      refine (pick_c w0 wr cv bs g _ _ _ hb hs (by omega)).mono ?_
      rintro e w2 ⟨x, x0, x1, rfl, h3⟩
      obtain ⟨y, rfl⟩ := Int.eq_ofNat_of_zero_le x0
      have hyj : y < j := by omega
      have hyk : y < n := by omega
      have hr := h3.rdI 0 rfl
      have hi1 := hr.ixe ((j : Int) - 1) (j - 1) (by omega) (by rw [hl.out]; omega)
      have hi2 := hr.ixe (y : Int) y rfl (by rw [hl.out]; omega)
      have hc1 := hr.cell (j - 1) (by rw [hl.out]; omega)
      have hc2 := hr.cell y (by rw [hl.out]; omega)
      have Hsw := Lib.hid (hp.out.swp (i := j - 1) (k := y) (by rw [hl.out]; omega) (by rw [hl.out]; omega))
      obtain ⟨pp, ss, s0, s1, hS⟩ := h3
      clear hr x1 x0 hs
      go_wp2_with (first
        | (refine stoI hS2 1 rfl y (by rw [List.length_set, hl.out]; exact hyk) rfl _ _ rfl rfl _ rfl ?_; intro w3 hS3)
        | (refine stoI hS 1 rfl (j - 1) (by rw [hl.out]; omega) rfl _ _ rfl rfl _ rfl ?_; intro w2 hS2))
      go_roundw
      case rel => exact ⟨j - 1, swp2 xs (j - 1) y, by omega, by go_num, by unfold Hid; rw [swp2_len]; exact hl.out, Hsw.out, pp, ss, s0, by omega, hS3⟩
      case measure => simp [intOf]; omega
    · go_wp2_with fail
      go_ret
      exact ⟨_, xs, rfl, hl.out, hp.out, hs.mono (by omega)⟩
end Go.Proofs.YtdgmaodnkbgolaaGreat
end

section
/- Walks: the cycles of a permutation. Walks: SignOf; the law FnPermutations. Walks: CyclesOf, SignOf and OrderOfPermutation of any list, powers, permutations made of cycles, types. -/
namespace Go.Proofs.YtdgmaodnkbgolaaGreat
set_option linter.unusedSimpArgs false
set_option linter.unusedVariables false
open Go.RowKit
attribute [local go_sem ↓] Go.wp_at_zero Go.wp_at_succ
/-- the first j numbers of the cycle of x -/
def cyP (xs : List Int) (x j : Nat) : List Int := (List.range j).map fun i => ((it (pf xs) i x : Nat) : Int)
/-- what is seen: all cycles that numbers below m lead, and the first j numbers of that of m -/
def Seen (xs : List Int) (m j : Nat) (s : List Bool) : Prop := s.length = xs.length ∧ ∀ y, y < xs.length → (bat s y = true ↔ y ∈ (cycs xs.length (pf xs) m).flatten ∨ ∃ i, i < j ∧ y = it (pf xs) i m)
theorem Seen.start (xs : List Int) : Seen xs 0 0 (List.replicate xs.length false) := ⟨by simp, fun y hy => by rw [bat_rep]; simp [cycs]⟩
theorem Seen.step {xs : List Int} {m j : Nat} {s : List Bool} (h : Seen xs m j s) (hp : IsP xs) (hm : m < xs.length) : Seen xs m (j + 1) (s.set (it (pf xs) j m) true) := by
  have hlt := it_lt hp.bij hm j
  refine ⟨by rw [List.length_set]; exact h.1, fun y hy => ?_⟩
  rw [bat_set (by rw [h.1]; exact hlt)]
  by_cases e : it (pf xs) j m = y
  · rw [if_pos e]; exact ⟨fun _ => .inr ⟨j, by omega, e.symm⟩, fun _ => rfl⟩
  · rw [if_neg e, h.2 y hy]
    constructor
    · rintro (h1 | ⟨i, hi, e2⟩)
      · exact .inl h1
      · exact .inr ⟨i, by omega, e2⟩
    · rintro (h1 | ⟨i, hi, e2⟩)
      · exact .inl h1
      · refine .inr ⟨i, ?_, e2⟩
        refine Nat.lt_of_le_of_ne (by omega) fun e3 => e ?_
        rw [e2, e3]
theorem Seen.no {xs : List Int} {m : Nat} {s : List Bool} (h : Seen xs m 0 s) (hp : IsP xs) (hm : m < xs.length) (hL : ¬ Lead (pf xs) m) : bat s m = true ∧ Seen xs (m + 1) 0 s := by
  have hs := fun hh => hL ((lead_seen hp.bij hm).2 hh)
  refine ⟨(h.2 m hm).2 (.inl (Classical.byContradiction hs)), h.1, fun y hy => ?_⟩
  rw [h.2 y hy, cycs, if_neg hL]; simp
theorem Seen.fresh {xs : List Int} {m j : Nat} {s : List Bool} (h : Seen xs m j s) (hp : IsP xs) (hm : m < xs.length) (hL : Lead (pf xs) m) (hj : j < clen xs.length (pf xs) m) : bat s (it (pf xs) j m) = false := by
  have hlt := it_lt hp.bij hm j
  have hc := clen_ok hp.bij hm
  cases e : bat s (it (pf xs) j m) with
  | false => rfl
  | true =>
    rcases (h.2 _ hlt).1 e with h1 | ⟨i, hi, e2⟩
    · exact absurd h1 (lead_fresh hp.bij hm hL ((mem_cycL hp.bij hm).2 ⟨j, rfl⟩))
    · have := hc.inj hp.bij hm hj (by omega) e2; omega
theorem Seen.back {xs : List Int} {m : Nat} {s : List Bool} (h : Seen xs m (clen xs.length (pf xs) m) s) (hp : IsP xs) (hm : m < xs.length) (hL : Lead (pf xs) m) : bat s (it (pf xs) (clen xs.length (pf xs) m) m) = true ∧ Seen xs (m + 1) 0 s := by
  have hc := clen_ok hp.bij hm
  have hb := hc.back
  refine ⟨?_, h.1, fun y hy => ?_⟩
  · rw [hb]; exact (h.2 m hm).2 (.inr ⟨0, hc.pos, rfl⟩)
  · rw [h.2 y hy, cycs, if_pos hL]
    simp only [List.flatten_append, List.flatten_cons, List.flatten_nil, List.append_nil, List.mem_append]
    constructor
    · rintro (h1 | ⟨i, hi, rfl⟩)
      · exact .inl (.inl h1)
      · exact .inl (.inr ((mem_cycL hp.bij hm).2 ⟨i, rfl⟩))
    · rintro ((h1 | h1) | ⟨i, hi, _⟩)
      · exact .inl h1
      · unfold cycL at h1
        obtain ⟨i, hi, rfl⟩ := List.mem_map.1 h1
        exact .inr ⟨i, List.mem_range.1 hi, rfl⟩
      · omega
/-- what the list of cycles is -/
structure CyOk (xs : List Int) (C : List (List Int)) : Prop where
  shape : ∀ t, t < C.length → ∃ m, m < xs.length ∧ xat C t = cyP xs m (clen xs.length (pf xs) m)
  all : ∀ y, y < xs.length → ∃ t k, t < C.length ∧ k < (xat C t).length ∧ nth (xat C t) k = (y : Int)
  nodup : C.flatten.Nodup
  sum : C.flatten.length = xs.length
/-- a number of a later place is not among those of earlier ones -/
theorem CyOk.fresh {xs : List Int} {C : List (List Int)} (h : CyOk xs C) {t k : Nat} (ht : t < C.length) (hk : k < (xat C t).length) : nth (xat C t) k ∉ (C.take t).flatten ++ (xat C t).take k := by
  have hs : C.flatten = (C.take t).flatten ++ ((xat C t).take k ++ (nth (xat C t) k :: ((xat C t).drop (k + 1) ++ (C.drop (t + 1)).flatten))) := by
    conv => lhs; rw [← List.take_append_drop t C, drop_xat ht]
    rw [List.flatten_append, List.flatten_cons]
    congr 1
    rw [← List.cons_append, ← drop_nth hk, ← List.append_assoc, List.take_append_drop]
  have hn := h.nodup
  rw [hs, ← List.append_assoc, List.nodup_append] at hn
  exact fun hm => hn.2.2 _ hm _ (by simp) rfl
/-! ### the least common multiple, bounded -/
theorem sz_c (v : Value) (xs : List Int) (w : World) (hv : RdI w v xs) : Calls Tryz.prog 119 #[v] w fun e w' => e = .returned (.int .i64 xs.length) ∧ w = w' := by
  have hln := hv.len
  go_enter Tryz.func119, Tryz.ntmps119
  go_wp2_with fail
  go_ret
  exact ⟨rfl, rfl⟩
end Go.Proofs.YtdgmaodnkbgolaaGreat
end

section
/- Walks: valid Latin squares, isotopes, of the program. Walks: isotopes of the program. -/
namespace Go.Proofs.YtdgmaodnkbgolaaGreat
set_option linter.unusedSimpArgs false
set_option linter.unusedVariables false
open Go.RowKit
attribute [local go_sem ↓] Go.wp_at_zero Go.wp_at_succ


/-- a permutation of n numbers -/
noncomputable def pvN (n : Nat) (xs : List Int) : Bool := decide (xs.length = n) && pvB xs
set_option maxHeartbeats 2000000 in
set_option maxRecDepth 100000 in
theorem areP1_c (v : Value) (xs : List Int) (n : Nat) (g : Nat) (w : World) (hv : RdI w v xs) (hb : w.cell? ⟨g, 0, none⟩ = some (.int .i64 n)) (hN : xs.length ≤ 1048576) :
    Calls Tryz.prog 123 #[v, .pointer (some ⟨g, 0, none⟩)] w (GivesB w (!pvN n xs)) := by
  have hq : ∀ s : SS w.heap.size w [], s.w.cell? ⟨g, 0, none⟩ = some (.int .i64 n) := fun s => by rw [s.st.below.cell (World.block_lt_of_cell? _ _ hb)]; exact hb
  have HZ := fun s : SS w.heap.size w [] => Lib.hid (sz_c v xs s.w (s.st.oldI hv))
  have HV := fun s : SS w.heap.size w [] => Lib.hid (ValidPermutation_c v xs s.w (s.st.oldI hv) hN)
  have hS := St.refl w
  by_cases h : xs.length = n
  · have f1 : ((xs.length : Int) != (n : Int)) = false := ne_f (by omega)
    have He : Hid ((!pvN n xs) = !pvB xs) := Lib.hid (by rw [pvN, decide_eq_true h]; rfl)
    rw [He.out]
    generalize pvB xs = b at *
    clear h He
    go_enter Tryz.func123, Tryz.ntmps123
    go_wp2_with fail
    have hne : Nonempty (SS _ _ _) := ⟨⟨_, hS⟩⟩
    refine wp_region_st (by kernel_rfl) (by kernel_rfl) hS ?_
    repeat (go_big_quiet_step ((first | (go_at_call 119; exact st_quiet0 (HZ _).out) | (go_at_call 79; exact st_quiet (HV _).out))))
    refine wpQuiet_nil ?_
    rintro _ ⟨s2, rfl⟩
    have hS2 := s2.st
    generalize s2.w = w2 at hS2 ⊢
    go_wp2_with fail
    go_ret
    exact ⟨rfl, hS2⟩
  · have f1 : ((xs.length : Int) != (n : Int)) = true := ne_t (by omega)
    have He : Hid ((!pvN n xs) = true) := Lib.hid (by rw [pvN, decide_eq_false h]; rfl)
    rw [He.out]
    clear h He
    go_enter Tryz.func123, Tryz.ntmps123
    go_wp2_with fail
    have hne : Nonempty (SS _ _ _) := ⟨⟨_, hS⟩⟩
    refine wp_region_st (by kernel_rfl) (by kernel_rfl) hS ?_
    repeat (go_big_quiet_step ((first | (go_at_call 119; exact st_quiet0 (HZ _).out) | (go_at_call 79; exact st_quiet (HV _).out))))
    refine wpQuiet_nil ?_
    rintro _ ⟨s2, rfl⟩
    have hS2 := s2.st
    generalize s2.w = w2 at hS2 ⊢
    go_wp2_with fail
    go_ret
    exact ⟨rfl, hS2⟩
/-- all rows are permutations of n numbers -/
noncomputable def allP (n : Nat) (A : List (List Int)) : Bool := !anyR (fun r => !pvN n r) A
theorem allP_at {n : Nat} {A : List (List Int)} (h : allP n A = true) {x : Nat} (hx : x < A.length) : (xat A x).length = n ∧ pvB (xat A x) = true := by
  unfold allP anyR at h
  have h' : A.any (fun r => !pvN n r) = false := by simpa using h
  have := List.any_eq_false.1 h' _ (xat_mem hx)
  simpa [pvN] using this
theorem allP_of {n : Nat} {A : List (List Int)} (h : ∀ x, x < A.length → (xat A x).length = n ∧ pvB (xat A x) = true) : allP n A = true := by
  unfold allP anyR
  have : A.any (fun r => !pvN n r) = false := by
    rw [List.any_eq_false]
    intro r hr
    obtain ⟨x, hx, rfl⟩ := List.getElem_of_mem hr
    have := h x hx
    rw [xat_eq hx] at this
    simp [pvN, this]
  rw [this]; rfl
set_option maxHeartbeats 2000000 in
set_option maxRecDepth 100000 in
theorem arePermutations_c (n : Nat) (v : Value) (us : List Value) (A : List (List Int)) (w : World) (hv : RII w v us A) (hN : ∀ x, x < A.length → (xat A x).length ≤ 1048576) :
    Calls Tryz.prog 78 #[.int .i64 n, v] w (GivesB w (allP n A)) := by
  have hS1 := (St.refl w).newboxF 2 #[.int .i64 n]
  have hcf := callFunc_go Tryz.func123 (by kernel_rfl) (by kernel_rfl)
  have hmf : ∀ (fn : Fn) (first cap : Array Value) (w : World), (Instr.makeFunc fn first cap).run Tryz.prog w = .ok (.func fn first cap) w := fun _ _ _ _ => rfl
  have hcall := Lib.hid (ContainsFuncR_c 123 #[.pointer (some ⟨w.heap.size, 0, none⟩)] (fun r => !pvN n r) v us A _ (hS1.oldII hv) hcf (fun j W hW hj => areP1_c (vat us j) (xat A j) n w.heap.size W ((hW.oldII (hS1.oldII hv)).row j hj) (by
    rw [hW.below.cell (World.block_lt_of_cell? _ _ (hS1.bcell 0 rfl 0 rfl))]; exact hS1.bcell 0 rfl 0 rfl) (hN j hj)))
  clear hcf hN
  go_enter Tryz.func78, Tryz.ntmps78
  go_wp2_with fail
  refine hcall.out.mono ?_
  rintro e w1 ⟨rfl, h1⟩
  have hS2 := hS1.call0 h1
  go_wp2_with fail
  go_ret
  exact ⟨rfl, hS2.out⟩
theorem Lat.mk' {A : List (List Int)} (h1 : 1 ≤ A.length) (h2 : A.length ≤ 10) (ha : allP A.length A = true) (hc : ∀ y, y < A.length → pvB (colL A y) = true) : Lat A :=
  ⟨h1, h2, fun _ hx => (allP_at ha hx).1, fun _ hx => (pvB_t (allP_at ha hx).2).2, fun y hy => (pvB_t (hc y hy)).2⟩
theorem Lat.allP {A : List (List Int)} (h : Lat A) : allP A.length A = true := allP_of fun x hx => ⟨h.len x hx, pvB_yes (by rw [h.len x hx]; have := h.le; omega) (h.row x hx)⟩
theorem Lat.colP {A : List (List Int)} (h : Lat A) {y : Nat} (hy : y < A.length) : pvB (colL A y) = true := pvB_yes (by rw [colL_len]; have := h.le; omega) (h.col y hy)
theorem col_take {A : List (List Int)} {y k : Nat} (h : k < A.length) : (colL A y).take (k + 1) = (colL A y).take k ++ [at2 A k y] := by
  rw [take_nth (by rw [colL_len]; exact h), nth_colL h]
set_option maxHeartbeats 4000000 in
set_option maxRecDepth 100000 in
theorem ValidSquare_c (v : Value) (us : List Value) (A : List (List Int)) (w : World) (hv : RII w v us A) (hN : ∀ x, x < A.length → (xat A x).length ≤ 1048576) :
    Calls Tryz.prog 46 #[v] w (GivesB w (latB A)) := by
  have hln := hv.len
  have hix := hv.ix
  have HZ := fun W (h : RII W v us A) => Lib.hid (szII_c v us A W h)
  have HA := fun W (h : RII W v us A) => Lib.hid (arePermutations_c A.length v us A W h hN)
  by_cases hn : 1 ≤ (A.length : Int) ∧ (A.length : Int) ≤ 10
  · have i1 := inB_true hn
    cases ha : allP A.length A
    · have Hl := Lib.hid (latB_no (A := A) fun h => by rw [h.allP] at ha; cases ha)
      rw [ha] at HA
      clear ha
      go_enter Tryz.func46, Tryz.ntmps46
      go_wp2_with fail
      refine (HZ _ hv).out.mono ?_
      rintro e w1 ⟨rfl, rfl⟩
      go_wp2_with (first
        | (go_at_call 78; refine (HA _ hv).out.mono ?_; rintro e w3 ⟨rfl, h3⟩)
        | (go_at_call 48; refine (within_c _ _ _ _).mono ?_; rw [i1]; rintro e w2 ⟨rfl, rfl⟩))
      go_ret
      exact ⟨ret_bool Hl.out.symm, h3⟩
    · have hlt2 : A.length ≤ 10 := by omega
      have HL := Lib.hid (fun h => Lat.mk' (A := A) (by omega) hlt2 ha h)
      have Hc := fun y (hy : y < A.length) (h : pvB (colL A y) = false) => Lib.hid (latB_no (A := A) fun hl => by rw [hl.colP hy] at h; cases h)
      have Hrl := fun x (hx : x < A.length) => Lib.hid (allP_at ha hx).1
      rw [ha] at HA
      clear ha
      go_enter Tryz.func46, Tryz.ntmps46
      go_wp2_with fail
      refine (HZ _ hv).out.mono ?_
      rintro e w1 ⟨rfl, rfl⟩
      go_wp2_with (first
        | (go_at_call 78; refine (HA _ hv).out.mono ?_; rintro e w3 ⟨rfl, h3⟩)
        | (go_at_call 48; refine (within_c _ _ _ _).mono ?_; rw [i1]; rintro e w2 ⟨rfl, rfl⟩))
      go_loopw [4, 5, 6, 20, 25] (fun _ _ _ i _ wr => ∃ k : Nat, k ≤ A.length ∧ i = .int .i64 k ∧ Hid (∀ y, y < k → pvB (colL A y) = true) ∧ St w.heap.size w wr []) (fun _ _ _ i _ _ => A.length - (intOf i).toNat)
      case atStart => exact ⟨0, by omega, rfl, fun y hy => by omega, h3⟩
      case round =>
        clear h3
        obtain ⟨k, hk, rfl, hI, hS⟩ := hrel
        by_cases hlt : k < A.length
        · have hS1 := hS.emp
          have Hcl := Lib.hid (colL_len A k)
          have Hct := fun m (h : m < A.length) => Lib.hid (col_take (A := A) (y := k) h)
          have Htl := fun m => Lib.hid (show ((colL A k).take m).length < 4294967296 by rw [List.length_take, colL_len]; omega)
          have HV := fun W u (h : RdI W u (colL A k)) => Lib.hid (ValidPermutation_c u _ W h (by rw [colL_len]; omega))
          have Hck := Hc k hlt
          have Hta := Lib.hid (show (colL A k).take A.length = colL A k by rw [← Hcl.out, List.take_length])
          have Ht0 := Lib.hid (show (colL A k).take 0 = [] from rfl)
          have HI1 := Lib.hid (show pvB (colL A k) = true → ∀ y, y < k + 1 → pvB (colL A y) = true from fun h y hy => by
            by_cases e : y = k
            · rw [e]; exact h
            · exact hI.out y (by omega))
          generalize colL A k = C at *
          go_wp2_with fail
          go_loopw [5, 6, 25] (fun c _ j wr' => ∃ m : Nat, m ≤ A.length ∧ j = .int .i64 m ∧ St w.heap.size w wr' [row 2 c (iv (C.take m))]) (fun _ _ j _ => A.length - (intOf j).toNat)
          case atStart => exact ⟨0, by omega, rfl, by rw [Ht0.out]; exact hS1⟩
          case round =>
            clear hS hS1
            obtain ⟨m, hm, rfl, hS⟩ := hrel
            by_cases hml : m < A.length
            · have hR := hS.oldII hv
              have hcm := hR.cell m hml
              have hrl := (Hrl m hml).out
              have hxm := (hR.row m hml).ixe (k : Int) k rfl (by rw [hrl]; exact hlt)
              have hcx : wr.cell? (el (vat us m) k) = some (.int .i64 (at2 A m k)) := (hR.row m hml).cell k (by rw [hrl]; exact hlt)
              have Hst := Hct m hml
              have HtL := Htl m
              clear hR hrl
              generalize at2 A m k = z at *
              go_wp2_with (at_builtin; refine appI hS 0 rfl HtL.out rfl _ _ rfl rfl _ rfl ?_; intro v' w2 hS2)
              simp only [List.set_cons_zero] at hS2
              rw [← Hst.out] at hS2
              go_roundw
              case rel => exact ⟨m + 1, by omega, by go_num, hS2⟩
              case measure => simp [intOf]; omega
            · obtain rfl : m = A.length := by omega
              rw [Hta.out] at hS
              have hV := HV _ _ (hS.rdI 0 rfl)
              cases hp : pvB C
              · rw [hp] at hV
                have Hno := Hck hp
                clear hp
                go_wp2_with fail
                refine hV.out.mono ?_
                rintro e w4 ⟨rfl, h4⟩
                have hS4 := hS.call0 h4
                go_wp2_with fail
                go_ret
                exact ⟨ret_bool Hno.out.symm, hS4.out⟩
              · rw [hp] at hV
                have HI2 := Lib.hid (HI1.out hp)
                clear hp
                go_wp2_with fail
                refine hV.out.mono ?_
                rintro e w4 ⟨rfl, h4⟩
                have hS4 := hS.call0 h4
                go_wp2_with fail
                go_roundw
                case rel => exact ⟨k + 1, by omega, by go_num, HI2.out, hS4.out⟩
                case measure => simp [intOf]; omega
        · obtain rfl : k = A.length := by omega
          have Hy := Lib.hid (latB_yes (HL.out hI.out))
          go_wp2_with fail
          go_ret
          exact ⟨ret_bool Hy.out.symm, hS⟩
  · have i1 := inB_false hn
    have Hl := Lib.hid (latB_no (A := A) fun h => hn (by have := h.pos; have := h.le; omega))
    clear hn
    go_enter Tryz.func46, Tryz.ntmps46
    go_wp2_with fail
    refine (HZ _ hv).out.mono ?_
    rintro e w1 ⟨rfl, rfl⟩
    go_wp2_with (go_at_call 48; refine (within_c _ _ _ _).mono ?_; rw [i1]; rintro e w2 ⟨rfl, rfl⟩)
    go_ret
    exact ⟨ret_bool Hl.out.symm, St.refl _⟩


set_option maxHeartbeats 4000000 in
set_option maxRecDepth 100000 in
theorem l06Ok_c (v : Value) (us : List Value) (A : List (List Int)) (w : World) (hv : RII w v us A) : Calls Tryz.prog 26 #[v] w (GivesB w (latB A)) := by
  have hln := hv.len
  have hix := hv.ix
  by_cases hn1 : A.length < 1
  · have Hl := Lib.hid (latB_no (A := A) fun h => by have := h.pos; omega)
    go_enter Tryz.func26, Tryz.ntmps26
    go_wp2_with fail
    go_ret
    exact ⟨ret_bool Hl.out.symm, St.refl w⟩
  · by_cases hn2 : 10 < A.length
    · have Hl := Lib.hid (latB_no (A := A) fun h => by have := h.le; omega)
      go_enter Tryz.func26, Tryz.ntmps26
      go_wp2_with fail
      go_ret
      exact ⟨ret_bool Hl.out.symm, St.refl w⟩
    · have Hrow := fun x (hx : x < A.length) (hb : ¬ ((xat A x).length = A.length ∧ pvB (xat A x) = true)) => Lib.hid (latB_no (A := A) fun h => hb ⟨h.len x hx, pvB_yes (by rw [h.len x hx]; omega) (h.row x hx)⟩)
      have Hc := fun y (hy : y < A.length) (h : pvB (colL A y) = false) => Lib.hid (latB_no (A := A) fun hl => by rw [hl.colP hy] at h; cases h)
      have HL := fun (ha : ∀ x, x < A.length → (xat A x).length = A.length ∧ pvB (xat A x) = true) hc => Lib.hid (latB_yes (Lat.mk' (A := A) (by omega) (by omega) (allP_of ha) hc))
      go_enter Tryz.func26, Tryz.ntmps26
      go_wp2_with fail
      go_loopw [4] (fun i wr => ∃ k : Nat, k ≤ A.length ∧ i = .int .i64 k ∧ Hid (∀ x, x < k → (xat A x).length = A.length ∧ pvB (xat A x) = true) ∧ St w.heap.size w wr []) (fun i _ => A.length - (intOf i).toNat)
      case atStart => exact ⟨0, by omega, rfl, fun x hx => by omega, St.refl w⟩
      case round =>
        obtain ⟨k, hk, rfl, hI, hS⟩ := hrel
        by_cases hlt : k < A.length
        · have ck := (hS.oldII hv).cell k hlt
          have hr := (hS.oldII hv).row k hlt
          have hrl := hr.len
          have HV := Lib.hid (l04Ok_c (vat us k) (xat A k) wr hr)
          have HI1 := Lib.hid (show (xat A k).length = A.length → pvB (xat A k) = true → ∀ x, x < k + 1 → (xat A x).length = A.length ∧ pvB (xat A x) = true from fun h1 h2 x hx => by
            by_cases e : x = k
            · rw [e]; exact ⟨h1, h2⟩
            · exact hI.out x (by omega))
          have HR := Hrow k hlt
          clear hr
          generalize hX : xat A k = X at *
          clear hX
          by_cases hxl : X.length = A.length
          · have f1 : ((X.length : Int) != (A.length : Int)) = false := ne_f (by omega)
            have Hxl := Lib.hid hxl
            clear hxl
            cases hp : pvB X
            · rw [hp] at HV
              have Hno := HR (fun h => by rw [hp] at h; cases h.2)
              clear hp
              go_wp2_with (go_at_call 68; refine HV.out.mono ?_; rintro e w2 ⟨rfl, h2⟩; have hS2 := hS.call0 h2)
              go_ret
              exact ⟨ret_bool Hno.out.symm, hS2⟩
            · rw [hp] at HV
              have HI2 := Lib.hid (HI1.out Hxl.out hp)
              clear hp
              go_wp2_with (go_at_call 68; refine HV.out.mono ?_; rintro e w2 ⟨rfl, h2⟩; have hS2 := hS.call0 h2)
              go_roundw
              case rel => exact ⟨k + 1, by omega, by go_num, HI2.out, hS2⟩
              case measure => simp [intOf]; omega
          · have f1 : ((X.length : Int) != (A.length : Int)) = true := ne_t (by omega)
            have Hno := HR (fun h => hxl h.1)
            clear hxl
            go_wp2_with fail
            go_ret
            exact ⟨ret_bool Hno.out.symm, hS⟩
        · obtain rfl : k = A.length := by omega
          have HL2 := fun hc => HL hI.out hc
          have Hrl := fun x (hx : x < A.length) => Lib.hid (hI.out x hx).1
          clear hI Hrow HL
          go_wp2_with fail
          go_loopw [5, 6, 7] (fun i _ _ wr => ∃ k : Nat, k ≤ A.length ∧ i = .int .i64 k ∧ Hid (∀ y, y < k → pvB (colL A y) = true) ∧ St w.heap.size w wr []) (fun i _ _ _ => A.length - (intOf i).toNat)
          case atStart => exact ⟨0, by omega, rfl, fun y hy => by omega, hS⟩
          case round =>
            clear hS
            obtain ⟨k, hk, rfl, hI, hS⟩ := hrel
            by_cases hlt : k < A.length
            · have hS1 := hS.call St.emp0
              simp only [List.nil_append] at hS1
              have Hcl := Lib.hid (colL_len A k)
              have Hct := fun m (h : m < A.length) => Lib.hid (col_take (A := A) (y := k) h)
              have Htl := fun m => Lib.hid (show ((colL A k).take m).length < 4294967296 by rw [List.length_take, colL_len]; omega)
              have HV := fun W u (h : RdI W u (colL A k)) => Lib.hid (l04Ok_c u _ W h)
              have Hck := Hc k hlt
              have Hta := Lib.hid (show (colL A k).take A.length = colL A k by rw [← Hcl.out, List.take_length])
              have Ht0 := Lib.hid (show (colL A k).take 0 = [] from rfl)
              have HI1 := Lib.hid (show pvB (colL A k) = true → ∀ y, y < k + 1 → pvB (colL A y) = true from fun h y hy => by
                by_cases e : y = k
                · rw [e]; exact h
                · exact hI.out y (by omega))
              generalize colL A k = C at *
              go_wp2_with fail
              go_loopw [6, 7] (fun c j wr' => ∃ m : Nat, m ≤ A.length ∧ j = .int .i64 m ∧ St w.heap.size w wr' [row 2 c (iv (C.take m))]) (fun _ j _ => A.length - (intOf j).toNat)
              case atStart => exact ⟨0, by omega, rfl, by rw [Ht0.out]; exact hS1⟩
              case round =>
                clear hS hS1
                obtain ⟨m, hm, rfl, hS⟩ := hrel
                by_cases hml : m < A.length
                · have hR := hS.oldII hv
                  have hcm := hR.cell m hml
                  have hrl := (Hrl m hml).out
                  have hxm := (hR.row m hml).ixe (k : Int) k rfl (by rw [hrl]; exact hlt)
                  have hcx : wr.cell? (el (vat us m) k) = some (.int .i64 (at2 A m k)) := (hR.row m hml).cell k (by rw [hrl]; exact hlt)
                  have Hst := Hct m hml
                  have HtL := Htl m
                  clear hR hrl
                  generalize at2 A m k = z at *
                  go_wp2_with (at_builtin; refine appI hS 0 rfl HtL.out rfl _ _ rfl rfl _ rfl ?_; intro v' w2 hS2)
                  simp only [List.set_cons_zero] at hS2
                  rw [← Hst.out] at hS2
                  go_roundw
                  case rel => exact ⟨m + 1, by omega, by go_num, hS2⟩
                  case measure => simp [intOf]; omega
                · obtain rfl : m = A.length := by omega
                  rw [Hta.out] at hS
                  have hV := HV _ _ (hS.rdI 0 rfl)
                  cases hp : pvB C
                  · rw [hp] at hV
                    have Hno := Hck hp
                    clear hp
                    go_wp2_with fail
                    refine hV.out.mono ?_
                    rintro e w4 ⟨rfl, h4⟩
                    have hS4 := hS.call0 h4
                    go_wp2_with fail
                    go_ret
                    exact ⟨ret_bool Hno.out.symm, hS4.out⟩
                  · rw [hp] at hV
                    have HI2 := Lib.hid (HI1.out hp)
                    clear hp
                    go_wp2_with fail
                    refine hV.out.mono ?_
                    rintro e w4 ⟨rfl, h4⟩
                    have hS4 := hS.call0 h4
                    go_wp2_with fail
                    go_roundw
                    case rel => exact ⟨k + 1, by omega, by go_num, HI2.out, hS4.out⟩
                    case measure => simp [intOf]; omega
            · obtain rfl : k = A.length := by omega
              have Hy := HL2 hI.out
              go_wp2_with fail
              go_ret
              exact ⟨ret_bool Hy.out.symm, hS⟩
/-- a square and a code -/
def IIK (w : World) (A : List (List Int)) (c : Int) (e : Ending) (w' : World) : Prop := ∃ v us, e = .returned (.tuple #[v, .int .i64 c]) ∧ us.length = A.length ∧ St w.heap.size w w' (own2 v us A)
theorem IIK.no {w w' : World} {L : List Ent} {c : Int} (h : St w.heap.size w w' L) : IIK w [] c (.returned (.tuple #[.slice none 0 0, .int .i64 c])) w' := ⟨_, [], rfl, rfl, h.out.newnil _⟩
end Go.Proofs.YtdgmaodnkbgolaaGreat
end

section
/- Walks: orthogonal squares and lists of them, of the program. -/
namespace Go.Proofs.YtdgmaodnkbgolaaGreat
set_option linter.unusedSimpArgs false
set_option linter.unusedVariables false
open Go.RowKit
attribute [local go_sem ↓] Go.wp_at_zero Go.wp_at_succ

set_option maxHeartbeats 4000000 in
set_option maxRecDepth 100000 in
theorem superpose1_c (x y : Nat) (gn ga gb : Nat) (v v' : Value) (us us' : List Value) (n : Nat) (A B : List (List Int)) (w : World) (hn : w.cell? ⟨gn, 0, none⟩ = some (.int .i64 n)) (ha : w.cell? ⟨ga, 0, none⟩ = some v) (hb : w.cell? ⟨gb, 0, none⟩ = some v')
    (hv : RII w v us A) (hv' : RII w v' us' B) (hA : Sq0 n A) (hB : Sq0 n B) (hx : x < n) (hy : y < n) (hn2 : n ≤ 100) :
    Calls Tryz.prog 124 #[.int .i64 x, .int .i64 y, .pointer (some ⟨gn, 0, none⟩), .pointer (some ⟨ga, 0, none⟩), .pointer (some ⟨gb, 0, none⟩)] w (GivesI w ((ovF n A B x y : Nat) : Int)) := by
  have hxA : x < A.length := by rw [hA.len]; exact hx
  have hxB : x < B.length := by rw [hB.len]; exact hx
  have i1 := hv.ixe (x : Int) x rfl hxA
  have i2 := hv'.ixe (x : Int) x rfl hxB
  have i3 := (hv.row x hxA).ixe (y : Int) y rfl (by rw [hA.row x hx]; exact hy)
  have i4 := (hv'.row x hxB).ixe (y : Int) y rfl (by rw [hB.row x hx]; exact hy)
  have c1 := hv.cell x hxA
  have c2 := hv'.cell x hxB
  have eA := af_eq hA hx hy
  have eB := af_eq hB hx hy
  have c3 : w.cell? (el (vat us x) y) = some (.int .i64 (af A x y : Nat)) := by rw [← eA.1]; exact (hv.row x hxA).cell y (by rw [hA.row x hx]; exact hy)
  have c4 : w.cell? (el (vat us' x) y) = some (.int .i64 (af B x y : Nat)) := by rw [← eB.1]; exact (hv'.row x hxB).cell y (by rw [hB.row x hx]; exact hy)
  have hlt := ovF_lt hA hB hx hy
  have hN : n * n ≤ 10000 := Nat.mul_le_mul hn2 hn2
  have hO : ovF n A B x y = n * af A x y + af B x y := rfl
  generalize ovF n A B x y = o at *
  generalize af A x y = a at *
  generalize af B x y = b at *
  obtain ⟨P, hP⟩ : ∃ P, P = n * a := ⟨_, rfl⟩
  rw [← hP] at hO
  have q1 : (n : Int) * (a : Int) = (P : Int) := by rw [hP]; rfl
  have q2 : IntKind.i64.wrap (P : Int) = (P : Int) := IntWalk.i64_in _ (by omega)
  have q3 : (P : Int) + (b : Int) = (o : Int) := by omega
  have q4 : IntKind.i64.wrap (o : Int) = (o : Int) := IntWalk.i64_in _ (by omega)
  clear hA hB eA eB hO hP hv hv'
  go_enter Tryz.func124, Tryz.ntmps124
  go_wp2_with fail
  go_region_held3 (fun w' => w'.cell? ⟨gn, 0, none⟩ = some (.int .i64 n) ∧ w'.cell? ⟨ga, 0, none⟩ = some v ∧ w'.cell? ⟨gb, 0, none⟩ = some v' ∧ w'.cell? (el v x) = some (vat us x) ∧ w'.cell? (el v' x) = some (vat us' x) ∧ w'.cell? (el (vat us x) y) = some (.int .i64 (a : Int)) ∧ w'.cell? (el (vat us' x) y) = some (.int .i64 (b : Int))) (((try dsimp only); (repeat' apply And.intro); all_goals (repeat (first | assumption | exact cell_dr (by assumption) | refine cell_dr ?_ | refine cell_al ?_ | refine cell_sc (by assumption) ?_)))) (fail)
  go_wp2_with fail
  go_ret
  exact ⟨rfl, (St.refl w).drew⟩
set_option maxHeartbeats 4000000 in
set_option maxRecDepth 100000 in
theorem superpose_c (v v' : Value) (us us' : List Value) (n : Nat) (A B : List (List Int)) (w : World) (hv : RII w v us A) (hv' : RII w v' us' B) (hA : Sq0 n A) (hB : Sq0 n B) (hn2 : n ≤ 100) :
    Calls Tryz.prog 80 #[v, v'] w (MakesII w (ovL n A B)) := by
  obtain ⟨sa, ca, rfl⟩ := hv.1.sl.sh
  obtain ⟨sb, cb, rfl⟩ := hv'.1.sl.sh
  have hS1 := ((St.refl w).newboxF 26 #[.slice sa us.length ca]).newboxF 26 #[.slice sb us'.length cb]
  have hS2 := hS1.newboxF 2 #[.int .i64 n]
  simp only [World.size_alloc] at hS1 hS2
  have hcf := callFunc_go Tryz.func124 (by kernel_rfl) (by kernel_rfl)
  have hmf : ∀ (fn : Fn) (first cap : Array Value) (w : World), (Instr.makeFunc fn first cap).run Tryz.prog w = .ok (.func fn first cap) w := fun _ _ _ _ => rfl
  have HZ := Lib.hid (szII_c _ us A _ (hS1.oldII hv))
  rw [hA.len] at HZ
  have hcall := Lib.hid (filledSquare_c 124 #[.pointer (some ⟨w.heap.size + 1 + 1, 0, none⟩), .pointer (some ⟨w.heap.size, 0, none⟩), .pointer (some ⟨w.heap.size + 1, 0, none⟩)] (fun x y => ((ovF n A B x y : Nat) : Int)) n _ (by omega) hcf (fun x y W hW hx hy =>
    superpose1_c x y (w.heap.size + 1 + 1) w.heap.size (w.heap.size + 1) _ _ us us' n A B W
      (by rw [hW.below.cell (World.block_lt_of_cell? _ _ (hS2.bcell 0 rfl 0 rfl))]; exact hS2.bcell 0 rfl 0 rfl)
      (by rw [hW.below.cell (World.block_lt_of_cell? _ _ (hS2.bcell 2 rfl 0 rfl))]; exact hS2.bcell 2 rfl 0 rfl)
      (by rw [hW.below.cell (World.block_lt_of_cell? _ _ (hS2.bcell 1 rfl 0 rfl))]; exact hS2.bcell 1 rfl 0 rfl)
      ((hS2.oldII hv).keep hW.below) ((hS2.oldII hv').keep hW.below) hA hB hx hy hn2))
  clear hcf hA hB
  go_enter Tryz.func80, Tryz.ntmps80
  go_wp2_with fail
  refine HZ.out.mono ?_
  rintro e w1 ⟨rfl, rfl⟩
  go_wp2_with fail
  refine hcall.out.mono ?_
  rintro e w2 ⟨o, uo, rfl, hl, h2⟩
  have hS3 := hS2.call h2
  have Hl := Lib.hid hl
  clear hl h2
  go_wp2_with fail
  go_ret
  exact ⟨o, uo, rfl, Hl.out, hS3.sub (List.sublist_append_right _ _)⟩
set_option maxHeartbeats 8000000 in
set_option maxRecDepth 100000 in
theorem orthogonal_c (v v' : Value) (us us' : List Value) (A B : List (List Int)) (w : World) (hv : RII w v us A) (hv' : RII w v' us' B) (hA : Lat A) (hB : Lat B) :
    Calls Tryz.prog 47 #[v, v'] w (GivesB w (orB A B)) := by
  have hla := hv.len
  have hlb := hv'.len
  have hA10 := hA.le
  have hB10 := hB.le
  by_cases hne : A.length = B.length
  · have f1 : ((A.length : Int) != (B.length : Int)) = false := ne_f (by omega)
    have qA := hA.sq0
    have qB : Sq0 A.length B := by rw [hne]; exact hB.sq0
    have HS := fun W (a : RII W v us A) (b : RII W v' us' B) => Lib.hid (superpose_c v v' us us' A.length A B W a b qA qB (by omega))
    obtain ⟨n, hn⟩ : ∃ n, n = A.length := ⟨_, rfl⟩
    obtain ⟨N, hN⟩ : ∃ N, N = n * n := ⟨_, rfl⟩
    have hNle : N ≤ 100 := by rw [hN]; exact Nat.mul_le_mul (show n ≤ 10 by omega) (show n ≤ 10 by omega)
    have q1 : (A.length : Int) * (A.length : Int) = (N : Int) := by rw [hN, hn]; rfl
    have Hq := Lib.hid (And.intro qA qB)
    rw [← hn] at Hq HS
    have HfN := Lib.hid (fun x y (hx : x < n) (hy : y < n) => (show ovF n A B x y < N by rw [hN]; exact ovF_lt Hq.out.1 Hq.out.2 hx hy))
    have HY := Lib.hid (fun s (h : SnI n N (ovF n A B) n 0 s) => orB_yes hne (by rw [← hn]; exact h.ort Hq.out.1 Hq.out.2))
    have HNo := Lib.hid (fun x y s (h : SnI n N (ovF n A B) x y s) hx hy hb => orB_no (A := A) (B := B) fun hh => h.nort Hq.out.1 Hq.out.2 hx hy (HfN.out x y hx hy) hb (by rw [hn]; exact hh.2))
    have hnn : n ≤ 10 := by omega
    rw [← hne, ← hn] at hlb
    rw [← hne, ← hn] at f1
    rw [← hn] at hla q1
    clear qA qB hN hA10 hB10 hA hB hne hn
    go_enter Tryz.func47, Tryz.ntmps47
    go_wp2_with (at_make; refine mkO (St.refl w) rfl _ _ rfl _ _ N rfl rfl (by omega) ?_; intro sv w1 hS1; have hr := hS1.rdO 0 rfl; have hsx := hr.ixe; simp only [List.length_replicate] at hsx; clear hr)
    refine (HS _ (hS1.oldII hv) (hS1.oldII hv')).out.mono ?_
    rintro e w2 ⟨o, uo, rfl, hl, h2⟩
    have hS2 := hS1.call h2
    have hln := (h2.rii hl).len
    have hox := (h2.rii hl).ixe
    rw [ovL_len] at hln hl hox
    have Hl := Lib.hid hl
    clear hl h2 hS1
    go_wp2_with fail
    go_loopw [7, 9, 25, 31] (fun _ _ i _ wr => ∃ (k : Nat) (s : List Bool), k ≤ n ∧ i = .int .i64 k ∧ Hid (SnI n N (ovF n A B) k 0 s) ∧ St w.heap.size w wr (row 4 sv (bo s) :: own2 o uo (ovL n A B))) (fun _ _ i _ _ => n - (intOf i).toNat)
    case atStart => exact ⟨0, _, by omega, rfl, SnI.start, hS2⟩
    case round =>
      clear hS2
      obtain ⟨k, s, hk, rfl, hI, hS⟩ := hrel
      by_cases hlt : k < n
      · have hR := (hS.sub (L' := own2 o uo (ovL n A B)) (List.sublist_cons_self _ _)).rii (by rw [Hl.out, ovL_len])
        have ck := hR.cell k (by rw [ovL_len]; exact hlt)
        have hxk := hox (k : Int) k rfl hlt
        have hrow := hR.row k (by rw [ovL_len]; exact hlt)
        have hrl := hrow.len
        have hrx := hrow.ixe
        rw [ovL_row hlt] at hrl hrx
        clear hR hrow
        go_wp2_with fail
        clear ck hxk
        go_loopw [9, 31] (fun _ j wr' => ∃ (y : Nat) (s : List Bool), y ≤ n ∧ j = .int .i64 y ∧ Hid (SnI n N (ovF n A B) k y s) ∧ St w.heap.size w wr' (row 4 sv (bo s) :: own2 o uo (ovL n A B))) (fun _ j _ => n - (intOf j).toNat)
        case atStart => exact ⟨0, s, by omega, rfl, hI.out, hS⟩
        case round =>
          clear hI hS
          obtain ⟨y, s, hy, rfl, hI, hS⟩ := hrel
          by_cases hly : y < n
          · have hR := (hS.sub (L' := own2 o uo (ovL n A B)) (List.sublist_cons_self _ _)).rii (by rw [Hl.out, ovL_len])
            have cy := (hR.row k (by rw [ovL_len]; exact hlt)).cell y (by rw [ovL_row hlt]; exact hly)
            rw [ovL_at hlt hly] at cy
            have hxy := hrx (y : Int) y rfl hly
            have hfN := HfN.out k y hlt hly
            have hxs := hsx ((ovF n A B k y : Nat) : Int) (ovF n A B k y) rfl hfN
            have cs := (hS.rdO 0 rfl).cell (ovF n A B k y) (by rw [hI.out.len]; exact hfN)
            clear hR
            cases hb : bat s (ovF n A B k y)
            · have Hst := Lib.hid (hI.out.step hlt hly hfN hb)
              have Hsl := Lib.hid (show ovF n A B k y < s.length by rw [hI.out.len]; exact hfN)
              rw [hb] at cs
              clear hb
              generalize ovF n A B k y = o' at *
              go_wp2_with (refine stoO hS 0 rfl o' Hsl.out rfl _ _ rfl rfl true rfl ?_; intro w2' hS2)
              simp only [List.set_cons_zero] at hS2
              go_roundw
              case rel => exact ⟨y + 1, _, by omega, by go_num, Hst.out, hS2⟩
              case measure => simp [intOf]; omega
            · have Hno := Lib.hid (HNo.out _ _ _ hI.out hlt hly hb)
              rw [hb] at cs
              clear hb
              generalize ovF n A B k y = o' at *
              go_wp2_with fail
              go_ret
              exact ⟨ret_bool Hno.out.symm, hS.out⟩
          · obtain rfl : y = n := by omega
            have Hnx := Lib.hid hI.out.next
            go_wp2_with fail
            go_roundw
            case rel => exact ⟨k + 1, s, by omega, by go_num, Hnx.out, hS⟩
            case measure => simp [intOf]; omega
      · obtain rfl : k = n := by omega
        have Hy := Lib.hid (HY.out _ hI.out)
        go_wp2_with fail
        go_ret
        exact ⟨ret_bool Hy.out.symm, hS.out⟩
  · have f1 : ((A.length : Int) != (B.length : Int)) = true := ne_t (by omega)
    have H := Lib.hid (orB_no (A := A) (B := B) fun h => hne h.1)
    clear hne
    go_enter Tryz.func47, Tryz.ntmps47
    go_wp2_with fail
    go_ret
    exact ⟨ret_bool H.out.symm, St.refl w⟩
theorem und_elem_a3 : Tryz.prog.underlying 24 = some (.slice (Tryz.prog.elem 24)) := by kernel_rfl
theorem elem_size_a3 : (Tryz.prog.info? (Tryz.prog.elem 24)).map (·.size) = some 1 := by kernel_rfl
theorem rslIII_hi {w : World} {v : Value} {us : List Value} (h : Rd w v us) (hi : Nat) (h2 : hi ≤ us.length) (W : World) :
    (Instr.slice 24 v none (some (.int .i64 (hi : Int))) none).run Tryz.prog W = .ok (rsl v 0 hi) W := by
  obtain ⟨⟨a, cap, rfl, hc1, hc2, ha⟩, hcell⟩ := h
  obtain ⟨inf, hinf, hs⟩ := Option.map_eq_some_iff.1 elem_size_a3
  rw [run_slice_h W 24 a _ cap und_elem_a3 .i64 hi (by omega) (by omega)]
  simp [sizeOf, typeInfo, hinf, hs, rsl, Result.andThen]
theorem RIII.takeR {w : World} {v : Value} {vs : List Value} {uss : List (List Value)} {X : List (List (List Int))} (h : RIII w v vs uss X) {k : Nat} (hk : k ≤ X.length) : RIII w (rsl v 0 k) (vs.take k) (uss.take k) (X.take k) := by
  have h1 := rsl_Rd h.1 (Nat.zero_le k) (by rw [h.2.1]; exact hk)
  rw [List.drop_zero] at h1
  refine ⟨h1, by rw [List.length_take, List.length_take, h.2.1], fun j hj => ?_⟩
  rw [List.length_take] at hj
  have e1 : vat (vs.take k) j = vat vs j := by unfold vat; rw [List.getD_eq_getElem?_getD, List.getD_eq_getElem?_getD, List.getElem?_take, if_pos (by omega)]
  have e2 : vsat (uss.take k) j = vsat uss j := by unfold vsat; rw [List.getD_eq_getElem?_getD, List.getD_eq_getElem?_getD, List.getElem?_take, if_pos (by omega)]
  have e3 : x3at (X.take k) j = x3at X j := by unfold x3at; rw [List.getD_eq_getElem?_getD, List.getD_eq_getElem?_getD, List.getElem?_take, if_pos (by omega)]
  rw [e1, e2, e3]
  exact h.row j (by omega)
theorem szIII_c (v : Value) (vs : List Value) (uss : List (List Value)) (X : List (List (List Int))) (w : World) (hv : RIII w v vs uss X) :
    Calls Tryz.prog 31 #[v] w fun e w' => e = .returned (.int .i64 X.length) ∧ w = w' := by
  have hln := hv.len
  go_enter Tryz.func31, Tryz.ntmps31
  go_wp2_with fail
  go_ret
  exact ⟨rfl, rfl⟩
/-- rows of no more than 2^20 numbers -/
def Sml (X : List (List (List Int))) : Prop := ∀ k, k < X.length → ∀ x, x < (x3at X k).length → (xat (x3at X k) x).length ≤ 1048576
set_option maxHeartbeats 4000000 in
set_option maxRecDepth 100000 in
theorem ValidMols_c (v : Value) (vs : List Value) (uss : List (List Value)) (X : List (List (List Int))) (w : World) (hv : RIII w v vs uss X) (hN : Sml X) :
    Calls Tryz.prog 10 #[v] w (GivesB w (molB X)) := by
  have hln := hv.len
  have hix := hv.ixe
  have hle := hv.le
  have HZ := fun W a => Lib.hid (szIII_c v vs uss X W a)
  have Hv := Lib.hid hv
  clear hv
  go_enter Tryz.func10, Tryz.ntmps10
  go_wp2_with fail
  go_loopw [3, 4, 6, 9, 21] (fun _ _ _ i _ wr => ∃ k : Nat, k ≤ X.length ∧ i = .int .i64 k ∧ Hid (∀ j, j < k → Lat (x3at X j) ∧ ∀ i, i < j → orB (x3at X j) (x3at X i) = true) ∧ St w.heap.size w wr []) (fun _ _ _ i _ _ => X.length - (intOf i).toNat)
  case atStart => exact ⟨0, by omega, rfl, fun j hj => by omega, St.refl w⟩
  case round =>
    obtain ⟨k, hk, rfl, hI, hS⟩ := hrel
    by_cases hlt : k < X.length
    · have hR := hS.oldIII Hv.out
      have ck := hR.cell k hlt
      have hxk := hix (k : Int) k rfl hlt
      have HV := Lib.hid (ValidSquare_c (vat vs k) (vsat uss k) (x3at X k) wr (hR.row k hlt) (hN k hlt))
      cases hl : latB (x3at X k)
      · have Hno := Lib.hid (molB_no (X := X) fun h => by have := latB_yes (h.lat k hlt); rw [hl] at this; cases this)
        rw [hl] at HV
        clear hl hR
        go_wp2_with fail
        refine HV.out.mono ?_
        rintro e w2 ⟨rfl, h2⟩
        have hS2 := hS.call0 h2
        go_wp2_with fail
        go_ret
        exact ⟨ret_bool Hno.out.symm, hS2⟩
      · have Hlk := Lib.hid (latB_t hl)
        have Hsl := Lib.hid (rslIII_hi Hv.out.1 k (by rw [Hv.out.2.1]; omega))
        have Ht := fun W (a : RIII W v vs uss X) => Lib.hid (a.takeR (k := k) (by omega))
        have Htk := (Hv.out.takeR (k := k) (by omega))
        have htl := Htk.len
        have htx := Htk.ixe
        rw [List.length_take, Nat.min_eq_left hk] at htl htx
        rw [hl] at HV
        have hsl := Hsl.out
        clear hl hR Htk Hsl
        generalize hvt : rsl v 0 k = vt at *
        clear hvt
        go_wp2_with fail
        refine HV.out.mono ?_
        rintro e w2 ⟨rfl, h2⟩
        have hS2 := hS.call0 h2
        clear hS h2
        go_wp2_with fail
        clear ck hxk
        go_loopw [6, 21] (fun _ i wr' => ∃ m : Nat, m ≤ k ∧ i = .int .i64 m ∧ Hid (∀ i, i < m → orB (x3at X k) (x3at X i) = true) ∧ St w.heap.size w wr' []) (fun _ i _ => k - (intOf i).toNat)
        case atStart => exact ⟨0, by omega, rfl, fun j hj => by omega, hS2⟩
        case round =>
          clear hS2
          obtain ⟨m, hm, rfl, hJ, hS⟩ := hrel
          by_cases hlm : m < k
          · have hR := hS.oldIII Hv.out
            have cm : wr.cell? (el vt m) = some (vat vs m) := by
              have := (Ht _ hR).out.cell m (by rw [List.length_take]; omega)
              rw [this]; unfold vat
              rw [List.getD_eq_getElem?_getD, List.getD_eq_getElem?_getD, List.getElem?_take, if_pos hlm]
            have hxm := htx (m : Int) m rfl hlm
            have HO := Lib.hid (orthogonal_c (vat vs k) (vat vs m) (vsat uss k) (vsat uss m) (x3at X k) (x3at X m) wr (hR.row k hlt) (hR.row m (by omega)) Hlk.out (hI.out m hlm).1)
            cases ho : orB (x3at X k) (x3at X m)
            · have Hno := Lib.hid (molB_no (X := X) fun h => by have := h.ort k m hlm hlt; rw [ho] at this; cases this)
              rw [ho] at HO
              clear ho hR
              go_wp2_with fail
              refine HO.out.mono ?_
              rintro e w3 ⟨rfl, h3⟩
              have hS3 := hS.call0 h3
              go_wp2_with fail
              go_ret
              exact ⟨ret_bool Hno.out.symm, hS3⟩
            · have HJ := Lib.hid (show ∀ i, i < m + 1 → orB (x3at X k) (x3at X i) = true from fun i hi => by
                by_cases e : i = m
                · rw [e]; exact ho
                · exact hJ.out i (by omega))
              rw [ho] at HO
              clear ho hR
              go_wp2_with fail
              refine HO.out.mono ?_
              rintro e w3 ⟨rfl, h3⟩
              have hS3 := hS.call0 h3
              go_wp2_with fail
              go_roundw
              case rel => exact ⟨m + 1, by omega, by go_num, HJ.out, hS3⟩
              case measure => simp [intOf]; omega
          · obtain rfl : m = k := by omega
            have HI := Lib.hid (show ∀ j, j < m + 1 → Lat (x3at X j) ∧ ∀ i, i < j → orB (x3at X j) (x3at X i) = true from fun j hj => by
              by_cases e : j = m
              · rw [e]; exact ⟨Hlk.out, hJ.out⟩
              · exact hI.out j (by omega))
            go_wp2_with fail
            go_roundw
            case rel => exact ⟨m + 1, by omega, by go_num, HI.out, hS⟩
            case measure => simp [intOf]; omega
    · obtain rfl : k = X.length := by omega
      have H : Hid (inB (X.length : Int) 1 10 = molB X) := by
        unfold Hid
        by_cases h : 1 ≤ (X.length : Int) ∧ (X.length : Int) ≤ 10
        · rw [inB_true h, molB_yes ⟨by omega, by omega, fun k hk => (hI.out k hk).1, fun k i hi hk => (hI.out k hk).2 i hi⟩]
        · rw [inB_false h, molB_no fun hh => h (by have := hh.pos; have := hh.le; omega)]
      go_wp2_with (first
        | (go_at_call 48; refine (within_c _ _ _ _).mono ?_; rw [H.out]; rintro e w3 ⟨rfl, rfl⟩)
        | (go_at_call 31; refine (HZ _ (hS.oldIII Hv.out)).out.mono ?_; rintro e w2 ⟨rfl, rfl⟩))
      go_ret
      exact ⟨rfl, hS⟩
end Go.Proofs.YtdgmaodnkbgolaaGreat
end

section
/- Walks: the reference's sorting of blocks. -/
namespace Go.Proofs.YtdgmaodnkbgolaaGreat
set_option linter.unusedSimpArgs false
set_option linter.unusedVariables false
open Go.RowKit
attribute [local go_sem ↓] Go.wp_at_zero Go.wp_at_succ

section
variable {a : Act} {w : World} {Q : Exit → Act → World → Prop} {ops : Array Oper} {rest : List Oper} {o : Oper} {B : Nat} {w0 : World} {L : List Ent}
/-- append of the slices of a slice to an owned row of slices -/
theorem appsII2 (hS : St B w0 w L) (i : Nat) {v : Value} {us : List Value} (hi : L[i]? = some (row 48 v us)) (vx : Value) (ws : List Value) (hr : Rd w vx ws) (h1 : ∀ u ∈ ws, u.oneCell' = true) (hN : us.length + ws.length ≤ 4294967296) (hg : o.guard = none) (s x : Operand)
    (hop : o.op = .call { callee := .builtin .append, args := #[s, x], argTypes := #[26, 26] }) (hs : a.eval s = v) (hx : a.eval x = vx)
    (hK : ∀ v' w', St B w0 w' (L.set i (row 48 v' (us ++ ws))) → wpList Tryz.prog ops Q rest (a.put o.dst v') w') :
    wpList Tryz.prog ops Q (o :: rest) a w :=
  wpList_st_apps hg s x 26 hop 48 (.slice none 0 0) 24 Tryz.und_iss Tryz.info_is rfl hS i hi hs vx hx ws hr h1 (by omega) hN hK
end
theorem rslII_lo2 {w : World} {v : Value} {us : List Value} (h : Rd w v us) (lo : Nat) (h2 : lo ≤ us.length) (W : World) :
    (Instr.slice 26 v (some (.int .i64 (lo : Int))) none none).run Tryz.prog W = .ok (rsl v lo us.length) W := by
  obtain ⟨⟨a, cap, rfl, hc1, hc2, ha⟩, hcell⟩ := h
  rw [run_slice_l W 26 a _ cap und_elem_iis .i64 lo (by omega) (by omega), run_size_elemII]
  rfl
end Go.Proofs.YtdgmaodnkbgolaaGreat
end
