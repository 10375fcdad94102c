/- The texts of this claim, run 9: Tr15 SetS Tr16 PPc PPd PTs2 DsB. -/
import Derived.Test.YtegmjlblehjccaaGreatK2
import Derived.Test.YtegmjlblehjccaaGreatK4
import Derived.Test.YtegmjlblehjccaaGreatK5
import Derived.Test.YtegmjlblehjccaaGreatK6
import Derived.Test.YtegmjlblehjccaaGreatK7
import Derived.Test.YtegmjlblehjccaaGreatK8

section
/- Walks: third points and indices of blocks of the reference. -/
namespace Go.Proofs.YtegmjlblehjccaaGreat
set_option linter.unusedSimpArgs false
set_option linter.unusedVariables false
open Go.RowKit
attribute [local go_sem ↓] Go.wp_at_zero Go.wp_at_succ

theorem cell_keepT {w w' : World} (hb : Below w.heap.size w w') {p : Addr} {u : Value} (h : w.cell? p = some u) : w'.cell? p = some u := by
  rw [hb.cell (World.block_lt_of_cell? _ _ h)]; exact h
theorem TS.str {P : Nat} {A : List (List Int)} (h : TS P A) : StrA A := by
  have h1 := srtB_pw.1 (dOk_t h.ok).srt
  have h2 := h.nodup
  rw [List.nodup_iff_pairwise_ne] at h2
  unfold StrA
  rw [List.pairwise_iff_getElem] at *
  intro i j hi hj hij
  have a1 := of_decide_eq_true (h1 i j hi hj hij)
  have a2 := h2 i j hi hj hij
  have a3 : cmpI A[i] A[j] ≠ 0 := fun e => a2 (cmpI_eq e)
  omega
theorem TS.sum {P : Nat} {A : List (List Int)} (h : TS P A) {b : List Int} (hb : b ∈ A) {x y : Nat} (hxy : x ≠ y) (hx : (x : Int) ∈ b) (hy : (y : Int) ∈ b) : nth b 0 + nth b 1 + nth b 2 - x - y = thF A x y := by
  obtain ⟨p, q, r, h1, h2, h3, rfl⟩ := three_of (h.inc hb) (h.three _ hb)
  have hs : nth [(p : Int), (q : Int), (r : Int)] 0 + nth [(p : Int), (q : Int), (r : Int)] 1 + nth [(p : Int), (q : Int), (r : Int)] 2 = p + q + r := rfl
  rw [hs]
  have key : ∀ z : Nat, (z : Int) ∈ [(p : Int), (q : Int), (r : Int)] → x ≠ z → y ≠ z → thF A x y = z := fun z hz h1 h2 => h.th_of hb hx hy hz hxy h1 h2
  simp at hx hy
  have ex : x = p ∨ x = q ∨ x = r := by omega
  have ey : y = p ∨ y = q ∨ y = r := by omega
  rcases ex with rfl | rfl | rfl <;> rcases ey with rfl | rfl | rfl
  all_goals first
    | exact absurd rfl hxy
    | (rw [key p (by simp) (by omega) (by omega)]; omega)
    | (rw [key q (by simp) (by omega) (by omega)]; omega)
    | (rw [key r (by simp) (by omega) (by omega)]; omega)
set_option maxHeartbeats 8000000 in
set_option maxRecDepth 100000 in
theorem l11Third_c (P g x y : Nat) (v : Value) (us : List Value) (A : List (List Int)) (w : World) (hv : RII w v us A) (hb : BoxD w g P v) (hA : TS P A) (hx : x < P) (hy : y < P) (hxy : x ≠ y) :
    Calls Tryz.prog 200 #[.pointer (some ⟨g, 0, none⟩), .int .i64 x, .int .i64 y] w (GivesI w (thF A x y)) := by
  have hln := hv.len
  have hix := hv.ixe
  have hS0 := St.refl w
  have hAl := (dOk_t hA.ok).len
  obtain ⟨t, ht, htx, _⟩ := hA.one hx hy hxy
  have Ht := Lib.hid htx
  have HS := Lib.hid (fun b (h : b ∈ A) (h1 : (x : Int) ∈ b) (h2 : (y : Int) ∈ b) => hA.sum h hxy h1 h2)
  have HB := Lib.hid (fun b (h : b ∈ A) => hA.inc h)
  have H3 := Lib.hid (fun b (h : b ∈ A) => hA.three b h)
  have KH := fun W (z : Nat) i (h : RdI W (vat us i) (xat A i)) => Lib.hid (l00Has_c (vat us i) (xat A i) (z : Int) W h)
  have hx32 : x < 32 := by have := hA.p32; omega
  have hy32 : y < 32 := by have := hA.p32; omega
  have hP := hA.p32
  have Hb := Lib.hid hb
  have Hv := Lib.hid hv
  clear htx hA hb hv
  go_enter Tryz.func200, Tryz.ntmps200
  go_wp2_with fail
  go_loopw [7, 8] (fun ii _ wr => ∃ (i : Nat), ii = .int .i64 i ∧ i ≤ t ∧ St w.heap.size w wr []) (fun ii _ _ => t + 1 - (intOf ii).toNat)
  case atStart => exact ⟨0, rfl, by omega, hS0⟩
  case round =>
    clear hS0
    obtain ⟨i, rfl, hi, hS⟩ := hrel
    have hiA : i < A.length := by omega
    have hii : (i : Int) < (A.length : Int) := by omega
    have x1 := hix (i : Int) i rfl hiA
    have Rv := hS.oldII Hv.out
    have c0 := (hS.oldBoxD Hb.out).2
    have c1 := Rv.cell i hiA
    have Kx := KH _ x i (Rv.row i hiA)
    have Ky := KH _ y i (Rv.row i hiA)
    have hl3 : (xat A i).length = 3 := H3.out _ (xat_mem hiA)
    have Hr := Lib.hid (Hv.out.row i hiA)
    have HI := Lib.hid (HB.out _ (xat_mem hiA))
    have HSi := Lib.hid (HS.out _ (xat_mem hiA))
    have Hti := Lib.hid (show i = t → (x : Int) ∈ xat A i ∧ (y : Int) ∈ xat A i from fun e => by rw [e]; exact Ht.out)
    clear Rv
    generalize xat A i = B at *
    generalize vat us i = vi at *
    by_cases h1 : (x : Int) ∈ B
    · rw [decide_eq_true h1] at Kx
      by_cases h2 : (y : Int) ∈ B
      · rw [decide_eq_true h2] at Ky
        have b0 := HI.out.bd 0 (by omega)
        have b1 := HI.out.bd 1 (by omega)
        have b2 := HI.out.bd 2 (by omega)
        have HV := Lib.hid (HSi.out h1 h2)
        have hr := Hr.out
        have xa := hr.ixe 0 0 rfl (by omega)
        have xb := hr.ixe 1 1 rfl (by omega)
        have xc := hr.ixe 2 2 rfl (by omega)
        have ca := fun q : SS w.heap.size w [] => (q.st.oldI Hr.out).cell 0 (by omega)
        have cb := fun q : SS w.heap.size w [] => (q.st.oldI Hr.out).cell 1 (by omega)
        have cc := fun q : SS w.heap.size w [] => (q.st.oldI Hr.out).cell 2 (by omega)
        generalize nth B 0 = p0 at *
        generalize nth B 1 = p1 at *
        generalize nth B 2 = p2 at *
        have v1 : IntKind.i64.wrap (p0 + p1) = p0 + p1 := IntWalk.i64_in _ (by omega)
        have v2 : IntKind.i64.wrap (p0 + p1 + p2) = p0 + p1 + p2 := IntWalk.i64_in _ (by omega)
        have v3 : IntKind.i64.wrap (p0 + p1 + p2 - (x : Int)) = p0 + p1 + p2 - (x : Int) := IntWalk.i64_in _ (by omega)
        have v4 : IntKind.i64.wrap (p0 + p1 + p2 - (x : Int) - (y : Int)) = p0 + p1 + p2 - (x : Int) - (y : Int) := IntWalk.i64_in _ (by omega)
        clear hr h1 h2 b0 b1 b2 HSi HI Hti hl3
        go_wp2_with fail
        refine Kx.out.mono ?_
        rintro e w2 ⟨rfl, rfl⟩
        go_wp2_with fail
        refine Ky.out.mono ?_
        rintro e w2 ⟨rfl, rfl⟩
        go_wp2_with fail
        have hne : Nonempty (SS _ _ _) := ⟨⟨_, hS⟩⟩
        refine wp_region_st (by kernel_rfl) (by kernel_rfl) hS ?_
        repeat (go_big_quiet_step (fail))
        refine wpQuiet_nil ?_
        rintro _ ⟨s2, rfl⟩
        have hS3 := s2.st
        generalize s2.w = w3 at hS3 ⊢
        rw [HV.out]
        go_wp2_with fail
        go_ret
        exact ⟨rfl, hS3⟩
      · rw [decide_eq_false h2] at Ky
        have hit : i < t := by
          rcases Nat.eq_or_lt_of_le hi with e | h
          · exact absurd (Hti.out e).2 h2
          · exact h
        clear h1 h2 HSi HI Hti hl3
        go_wp2_with fail
        refine Kx.out.mono ?_
        rintro e w2 ⟨rfl, rfl⟩
        go_wp2_with fail
        refine Ky.out.mono ?_
        rintro e w2 ⟨rfl, rfl⟩
        go_wp2_with fail
        go_roundw
        case rel => exact ⟨i + 1, by go_num, by omega, hS⟩
        case measure => simp [intOf]; omega
    · rw [decide_eq_false h1] at Kx
      have hit : i < t := by
        rcases Nat.eq_or_lt_of_le hi with e | h
        · exact absurd (Hti.out e).1 h1
        · exact h
      clear h1 HSi HI Hti hl3
      go_wp2_with fail
      refine Kx.out.mono ?_
      rintro e w2 ⟨rfl, rfl⟩
      go_wp2_with fail
      go_roundw
      case rel => exact ⟨i + 1, by go_num, by omega, hS⟩
      case measure => simp [intOf]; omega
theorem idx_of {A : List (List Int)} (hn : A.Nodup) {m : Nat} (hm : m < A.length) : A.idxOf (xat A m) = m := by
  rw [xat_eq hm]; exact hn.idxOf_getElem m hm
theorem idx_mem {A : List (List Int)} {B : List Int} (h : B ∈ A) : A.idxOf B < A.length ∧ xat A (A.idxOf B) = B := by
  have hl := List.idxOf_lt_length_of_mem h
  exact ⟨hl, by rw [xat_eq hl]; exact List.getElem_idxOf hl⟩
set_option maxHeartbeats 4000000 in
set_option maxRecDepth 100000 in
theorem l11Index_c (P g a b c : Nat) (v : Value) (us : List Value) (A : List (List Int)) (w : World) (hv : RII w v us A) (hb : BoxD w g P v) (hA : TS P A) (hm : trp a b c ∈ A) :
    Calls Tryz.prog 201 #[.pointer (some ⟨g, 0, none⟩), .int .i64 a, .int .i64 b, .int .i64 c] w (GivesI w (A.idxOf (trp a b c) : Nat)) := by
  have hS0 := St.refl w
  have hAl := (dOk_t hA.ok).len
  have K1 := fun W => Lib.hid (l11Block_c a b c W)
  have K2 := fun W vp (h : RII W v us A) (hp : RdI W vp (trp a b c)) => Lib.hid (l05Find_c v vp us A (trp a b c) W h hp (by omega))
  have HF := Lib.hid (fun m b' (h : FndP A (trp a b c) m b') => (show b' = true ∧ A.idxOf (trp a b c) = m from by
    obtain ⟨h1, h2, h3⟩ := h.mem hA.str hm
    exact ⟨h1, by rw [← h3]; exact idx_of hA.nodup h2⟩))
  have Hv := Lib.hid hv
  have hb1 := hb.2
  have hS := hS0.drew
  clear hA hb hv hm
  generalize trp a b c = B at *
  generalize A.idxOf B = ix at *
  go_enter Tryz.func201, Tryz.ntmps201
  go_wp2_with fail
  go_region_held3 (fun w' => w'.cell? ⟨g, 1, none⟩ = some v) (((try dsimp only); (repeat' apply And.intro); all_goals (repeat (first | assumption | exact cell_dr (by assumption) | refine cell_dr ?_ | refine cell_al ?_ | refine cell_sc (by assumption) ?_)))) (first
    | (go_at_call 154; refine (K2 _ _ (hS3.oldII Hv.out) (h3.rdI 0 rfl)).out.mono ?_; rintro e w4 ⟨m, b', rfl, hF, h4⟩; obtain ⟨rfl, hix⟩ := HF.out _ _ hF; have d2 := cell_keepT h4.below d1)
    | (go_at_call 198; refine (K1 _).out.mono ?_; rintro e w3 ⟨vp, rfl, h3⟩; have hS3 := hS.call h3; have d1 := cell_keepT h3.below (cell_dr hb1)))
  all_goals
    have hix := Lib.hid hix
    go_wp2_with fail
    go_ret
    exact ⟨by rw [hix.out]; rfl, (hS3.call0 h4).out⟩
end Go.Proofs.YtegmjlblehjccaaGreat
end

section
/- Walks: sets of the reference. -/
namespace Go.Proofs.YtegmjlblehjccaaGreat
set_option linter.unusedSimpArgs false
set_option linter.unusedVariables false
open Go.RowKit

theorem l01Set_c (v : Value) (xs : List Int) (w : World) (hv : RdI w v xs) : Calls Tryz.prog 36 #[v] w (GivesB w (incB (-1) 32 xs)) := by
  have K := Lib.hid (l00Rises_c v xs 0 31 w hv)
  rw [show (0 : Int) - 1 = -1 from rfl, show (31 : Int) + 1 = 32 from rfl] at K
  generalize incB (-1) 32 xs = b at *
  go_enter Tryz.func36, Tryz.ntmps36
  go_wp2_with fail
  refine K.out.mono ?_
  rintro e w1 ⟨rfl, h1⟩
  go_wp2_with fail
  go_ret
  exact ⟨rfl, h1⟩
def bothL (xs ys : List Int) (b : Bool) : List Int := xs.filter fun x => decide (x ∈ ys) == b
theorem bothL_take {xs ys : List Int} {b : Bool} {k : Nat} (h : k < xs.length) : bothL (xs.take (k + 1)) ys b = bothL (xs.take k) ys b ++ if decide (nth xs k ∈ ys) = b then [nth xs k] else [] := by
  unfold bothL
  rw [take_nth h, List.filter_append]
  congr 1
  by_cases hc : decide (nth xs k ∈ ys) = b
  · rw [if_pos hc, List.filter_cons_of_pos (by rw [hc]; exact beq_self_eq_true b)]; rfl
  · rw [if_neg hc, List.filter_cons_of_neg (by rw [beq_iff_eq]; exact hc)]; rfl
theorem bothL_len (xs ys : List Int) (b : Bool) : (bothL xs ys b).length ≤ xs.length := List.length_filter_le _ _
theorem bothL_set {xs ys : List Int} {b : Bool} (h : incB (-1) 32 xs = true) : incB (-1) 32 (bothL xs ys b) = true :=
  incB_of (fun x hx => incB_gt h x ((List.mem_filter.1 hx).1)) ((incB_pw h).sublist List.filter_sublist)
set_option maxHeartbeats 4000000 in
set_option maxRecDepth 100000 in
theorem l01Both_c (va vb : Value) (xs ys : List Int) (b : Bool) (w : World) (ha : RdI w va xs) (hb : RdI w vb ys) (hx : incB (-1) 32 xs = true) (hy : incB (-1) 32 ys = true) :
    Calls Tryz.prog 199 #[va, vb, .bool b] w (MakesI w (bothL xs ys b)) := by
  have hln := ha.len
  have hix := ha.ixe
  have hlx : xs.length ≤ 33 := by have := inc_len hx (by omega); omega
  have hS0 := St.refl w
  have K1 := Lib.hid (l01Set_c va xs w ha)
  have K2 := fun W (h : St w.heap.size w W []) => Lib.hid (l01Set_c vb ys W (h.oldI hb))
  have KH := fun W (h : RdI W vb ys) x => Lib.hid (l00Has_c vb ys x W h)
  rw [hx] at K1
  rw [hy] at K2
  have Ha := Lib.hid ha
  have Hb := Lib.hid hb
  have HT := fun k (hk : k < xs.length) => Lib.hid (bothL_take (ys := ys) (b := b) hk)
  have HE := Lib.hid (show bothL (xs.take xs.length) ys b = bothL xs ys b by rw [List.take_length])
  have HL := fun k => Lib.hid (show (bothL (xs.take k) ys b).length ≤ 33 by have := bothL_len (xs.take k) ys b; rw [List.length_take] at this; omega)
  clear hx hy ha hb
  go_enter Tryz.func199, Tryz.ntmps199
  go_wp2_with fail
  refine K1.out.mono ?_
  rintro e w1 ⟨rfl, h1⟩
  have hS1 := hS0.call0 h1
  clear K1 h1 hS0
  go_wp2_with fail
  refine (K2 _ hS1).out.mono ?_
  rintro e w2 ⟨rfl, h2⟩
  have hS2 := hS1.call0 h2
  have hS3 : St w.heap.size w _ [row 2 (.slice (some ⟨w2.heap.size, 0, none⟩) 0 0) (iv (bothL (xs.take 0) ys b))] := hS2.new 2 #[] (by simp)
  clear K2 h2 hS1 hS2
  go_wp2_with fail
  go_loopw [7, 8] (fun o i wr => ∃ (k : Nat), k ≤ xs.length ∧ i = .int .i64 k ∧ St w.heap.size w wr [row 2 o (iv (bothL (xs.take k) ys b))]) (fun _ i _ => xs.length - (intOf i).toNat)
  case atStart => exact ⟨0, by omega, rfl, hS3⟩
  case round =>
    clear hS3
    obtain ⟨k, hk, rfl, hS⟩ := hrel
    by_cases hlt : k < xs.length
    · have x1 := hix (k : Int) k rfl hlt
      have c1 := (hS.oldI Ha.out).cell k hlt
      have K := KH _ (hS.oldI Hb.out) (nth xs k)
      have HTk := HT k hlt
      have HLk := HL k
      generalize nth xs k = x at *
      by_cases hc : decide (x ∈ ys) = b
      · have f1 : (decide (x ∈ ys) == b) = true := by rw [hc]; exact beq_self_eq_true b
        have H2 := Lib.hid (show bothL (xs.take (k + 1)) ys b = bothL (xs.take k) ys b ++ [x] by rw [HTk.out, if_pos hc])
        have hN := Lib.hid (show (bothL (xs.take k) ys b).length < 4294967296 by have := HLk.out; omega)
        clear hc HTk
        generalize decide (x ∈ ys) = d at *
        go_wp2_with fail
        refine K.out.mono ?_
        rintro e w4 ⟨rfl, rfl⟩
        go_wp2_with (at_builtin; refine appI hS 0 rfl hN.out rfl _ _ rfl rfl _ (by first | rfl | simp [Act.eval, Act.put]) ?_; intro v5 w5 hS5; simp only [List.set_cons_zero] at hS5)
        rw [← H2.out] at hS5
        go_roundw
        case rel => exact ⟨k + 1, by omega, by go_num, hS5⟩
        case measure => simp [intOf]; omega
      · have f1 : (decide (x ∈ ys) == b) = false := by
          cases h : decide (x ∈ ys) == b
          · rfl
          · exact absurd (beq_iff_eq.1 h) hc
        have H2 := Lib.hid (show bothL (xs.take (k + 1)) ys b = bothL (xs.take k) ys b by rw [HTk.out, if_neg hc, List.append_nil])
        clear hc HTk
        generalize decide (x ∈ ys) = d at *
        go_wp2_with fail
        refine K.out.mono ?_
        rintro e w4 ⟨rfl, rfl⟩
        rw [← H2.out] at hS
        go_wp2_with fail
        go_roundw
        case rel => exact ⟨k + 1, by omega, by go_num, hS⟩
        case measure => simp [intOf]; omega
    · obtain rfl : k = xs.length := by omega
      rw [HE.out] at hS
      go_wp2_with fail
      go_ret
      exact ⟨_, rfl, hS⟩
theorem sMinusSets_c (va vb : Value) (xs ys : List Int) (w : World) (ha : RdI w va xs) (hb : RdI w vb ys) (hx : incB (-1) 32 xs = true) (hy : incB (-1) 32 ys = true) :
    Calls Tryz.prog 157 #[va, vb] w (MakesI w (bothL xs ys false)) := by
  have K := Lib.hid (l01Both_c va vb xs ys false w ha hb hx hy)
  go_enter Tryz.func157, Tryz.ntmps157
  go_wp2_with fail
  refine K.out.mono ?_
  rintro e w1 ⟨v, rfl, h1⟩
  go_wp2_with fail
  go_ret
  exact ⟨v, rfl, h1⟩
theorem sMeetSets_c (va vb : Value) (xs ys : List Int) (w : World) (ha : RdI w va xs) (hb : RdI w vb ys) (hx : incB (-1) 32 xs = true) (hy : incB (-1) 32 ys = true) :
    Calls Tryz.prog 152 #[va, vb] w (MakesI w (bothL xs ys true)) := by
  have K := Lib.hid (l01Both_c va vb xs ys true w ha hb hx hy)
  go_enter Tryz.func152, Tryz.ntmps152
  go_wp2_with fail
  refine K.out.mono ?_
  rintro e w1 ⟨v, rfl, h1⟩
  go_wp2_with fail
  go_ret
  exact ⟨v, rfl, h1⟩
def uniL (xs ys : List Int) : List Int := ys.foldl putL xs
theorem uniL_take {xs ys : List Int} {k : Nat} (h : k < ys.length) : uniL xs (ys.take (k + 1)) = putL (uniL xs (ys.take k)) (nth ys k) := by
  unfold uniL; rw [take_nth h, List.foldl_append]; rfl
theorem uniL_len (xs : List Int) : ∀ ys : List Int, (uniL xs ys).length ≤ xs.length + ys.length := fun ys => by
  induction ys generalizing xs with
  | nil => exact Nat.le_refl _
  | cons y ys ih =>
    have h1 := ih (putL xs y)
    have h2 := putL_len xs y
    show (uniL (putL xs y) ys).length ≤ _
    rw [List.length_cons]; omega
set_option maxHeartbeats 4000000 in
set_option maxRecDepth 100000 in
theorem sUnionSets_c (va vb : Value) (xs ys : List Int) (w : World) (ha : RdI w va xs) (hb : RdI w vb ys) (hx : incB (-1) 32 xs = true) (hy : incB (-1) 32 ys = true) :
    Calls Tryz.prog 11 #[va, vb] w (MakesI w (uniL xs ys)) := by
  have hln := hb.len
  have hix := hb.ixe
  have hlx : xs.length ≤ 33 := by have := inc_len hx (by omega); omega
  have hly : ys.length ≤ 33 := by have := inc_len hy (by omega); omega
  have hS0 := St.refl w
  have K1 := Lib.hid (l01Set_c va xs w ha)
  have K2 := fun W (h : St w.heap.size w W []) => Lib.hid (l01Set_c vb ys W (h.oldI hb))
  have K3 := fun W (h : RdI W va xs) => Lib.hid (l00Own_c va xs W h (by omega))
  rw [hx] at K1
  rw [hy] at K2
  have Ha := Lib.hid ha
  have Hb := Lib.hid hb
  have HT := fun k (hk : k < ys.length) => Lib.hid (uniL_take (xs := xs) hk)
  have HE := Lib.hid (show uniL xs (ys.take ys.length) = uniL xs ys by rw [List.take_length])
  have HL := fun k => Lib.hid (show (uniL xs (ys.take k)).length ≤ 1000 by have := uniL_len xs (ys.take k); rw [List.length_take] at this; omega)
  have H0 := Lib.hid (show uniL xs (ys.take 0) = xs from rfl)
  clear hx hy ha hb
  go_enter Tryz.func11, Tryz.ntmps11
  go_wp2_with fail
  refine K1.out.mono ?_
  rintro e w1 ⟨rfl, h1⟩
  have hS1 := hS0.call0 h1
  clear K1 h1 hS0
  go_wp2_with fail
  refine (K2 _ hS1).out.mono ?_
  rintro e w2 ⟨rfl, h2⟩
  have hS2 := hS1.call0 h2
  clear K2 h2 hS1
  go_wp2_with fail
  refine (K3 _ (hS2.oldI Ha.out)).out.mono ?_
  rintro e w3 ⟨v3, rfl, h3⟩
  have hS3 : St w.heap.size w w3 [row 2 v3 (iv (uniL xs (ys.take 0)))] := hS2.call h3
  clear h3 hS2
  go_wp2_with fail
  go_loopw [5, 6] (fun o i wr => ∃ (k : Nat), k ≤ ys.length ∧ i = .int .i64 k ∧ St w.heap.size w wr [row 2 o (iv (uniL xs (ys.take k)))]) (fun _ i _ => ys.length - (intOf i).toNat)
  case atStart => exact ⟨0, by omega, rfl, hS3⟩
  case round =>
    clear hS3
    obtain ⟨k, hk, rfl, hS⟩ := hrel
    by_cases hlt : k < ys.length
    · have x1 := hix (k : Int) k rfl hlt
      have c1 := (hS.oldI Hb.out).cell k hlt
      have HTk := HT k hlt
      have HLk := HL k
      have K := Lib.hid (l00PutX_c u5 (uniL xs (ys.take k)) (nth ys k) wr (hS.rdI 0 rfl) (by have := HLk.out; omega))
      generalize nth ys k = x at *
      go_wp2_with fail
      refine K.out.mono ?_
      rintro e w4 ⟨v4, rfl, h4⟩
      have hS4 := (hS.call h4).sub (List.sublist_cons_self _ _)
      rw [← HTk.out] at hS4
      clear hS h4 K
      go_wp2_with fail
      go_roundw
      case rel => exact ⟨k + 1, by omega, by go_num, hS4⟩
      case measure => simp [intOf]; omega
    · obtain rfl : k = ys.length := by omega
      rw [HE.out] at hS
      go_wp2_with fail
      go_ret
      exact ⟨_, rfl, hS⟩
end Go.Proofs.YtegmjlblehjccaaGreat
end

section
/- Walks: quadrilaterals of two blocks of the reference. -/
namespace Go.Proofs.YtegmjlblehjccaaGreat
set_option linter.unusedSimpArgs false
set_option linter.unusedVariables false
open Go.RowKit
attribute [local go_sem ↓] Go.wp_at_zero Go.wp_at_succ

theorem inc_ext {xs ys : List Int} (h1 : xs.Pairwise (· < ·)) (h2 : ys.Pairwise (· < ·)) (h : ∀ z, z ∈ xs ↔ z ∈ ys) : xs = ys :=
  sorted_eq ((List.perm_ext_iff_of_nodup (h1.imp fun h => by omega) (h2.imp fun h => by omega)).2 h) (h1.imp fun h => by omega) (h2.imp fun h => by omega)
theorem both_bc {B : List Int} {a b c : Nat} (h : IsB B a b c) (hp : B.Pairwise (· < ·)) (hab : a ≠ b) (hac : a ≠ c) (hbc : b < c) : bothL B [(a : Int)] false = [(b : Int), (c : Int)] := by
  refine inc_ext (hp.sublist List.filter_sublist) (by simp; omega) fun z => ?_
  unfold bothL
  rw [List.mem_filter, h z]
  simp only [List.mem_cons, List.not_mem_nil, or_false, beq_iff_eq, decide_eq_false_iff_not]
  omega
/-- four blocks of a quadrilateral -/
def IsPas (A : List (List Int)) (q : List Int) : Prop := ∃ i j k l a b c d e f : Nat, Pas A q i j k l a b c d e f
def MakesPs (w : World) (A : List (List Int)) (n : Nat) (e : Ending) (w' : World) : Prop := ∃ v us R, e = .returned v ∧ RII w' v us R ∧ R.length ≤ n ∧ (∀ q ∈ R, IsPas A q) ∧ St w.heap.size w w' []
/-- the same, with lists of its own -/
def MakesPo (w : World) (A : List (List Int)) (n : Nat) (e : Ending) (w' : World) : Prop := ∃ v us R, e = .returned v ∧ us.length = R.length ∧ R.length ≤ n ∧ (∀ q ∈ R, IsPas A q) ∧ St w.heap.size w w' (own2 v us R)
theorem MakesPo.ps {w w' : World} {A : List (List Int)} {n : Nat} {e : Ending} (h : MakesPo w A n e w') : MakesPs w A n e w' := by
  obtain ⟨v, us, R, he, hl, hn, hq, hS⟩ := h
  exact ⟨v, us, R, he, hS.rii hl, hn, hq, hS.out⟩
/-- indices in their order -/
def q4s (i j k l : Nat) : List Int := putL (putL (putL [(i : Int)] j) k) l
theorem q4s_mem (i j k l : Nat) (z : Int) : z ∈ q4s i j k l ↔ z = i ∨ z = j ∨ z = k ∨ z = l := by
  unfold q4s
  rw [putL_mem, putL_mem, putL_mem, List.mem_singleton]; omega
theorem q4s_inc (i j k l : Nat) : (q4s i j k l).Pairwise (· < ·) := by
  have : incB (-1) ((i + j + k + l + 1 : Nat) : Int) (q4s i j k l) = true := by
    unfold q4s
    refine putL_incT (putL_incT (putL_incT ?_ (by omega) (by omega)) (by omega) (by omega)) (by omega) (by omega)
    rw [incB, if_neg (by omega)]; rfl
  exact incB_pw this
theorem nd5 {a b c s t : Nat} (h : [a, b, c, s, t].Nodup) : a ≠ b ∧ a ≠ c ∧ a ≠ s ∧ a ≠ t ∧ b ≠ c ∧ b ≠ s ∧ b ≠ t ∧ c ≠ s ∧ c ≠ t ∧ s ≠ t := by
  simpa [and_assoc] using h
theorem nd5_sw {a b c s t : Nat} (h : [a, b, c, s, t].Nodup) : [a, b, c, t, s].Nodup := (List.Perm.nodup_iff (by (try simp only [own2, List.cons_append, List.nil_append, List.append_nil]); classical exact List.perm_iff_count.2 (fun a => by simp only [List.cons_append, List.nil_append, List.append_nil, List.count_append, List.count_cons, List.count_nil] <;> omega))).1 h
section
variable {P : Nat} {A : List (List Int)}
theorem TS.lt (hT : TS P A) {B : List Int} (hB : B ∈ A) {x : Nat} (hx : (x : Int) ∈ B) : x < P := by
  have := incB_gt ((dOk_t hT.ok).inc _ hB) _ hx; omega
/-- the block of the third point -/
theorem TS.thB (hT : TS P A) {x y : Nat} (hx : x < P) (hy : y < P) (hxy : x ≠ y) : trp (thF A x y) x y ∈ A ∧ IsB (trp (thF A x y) x y) (thF A x y) x y := by
  obtain ⟨B, hB, h1, h2, h3, h4, h5, h6⟩ := hT.th hx hy hxy
  have hb := trp_B (thF A x y) x y
  refine ⟨?_, hb⟩
  obtain ⟨p, q, r, e1, e2, e3, rfl⟩ := three_of (hT.inc hB) (hT.three _ hB)
  have : [(p : Int), (q : Int), (r : Int)] = trp (thF A x y) x y := by
    obtain ⟨_, hi⟩ := trp_ok (P := P) h4 hx hy h5 h6 hxy
    refine inc_ext (by simp; omega) (incB_pw hi) fun z => ?_
    rw [hb z]
    simp only [List.mem_cons, List.not_mem_nil, or_false] at h1 h2 h3 ⊢
    omega
  rw [← this]; exact hB
theorem TS.quad (hT : TS P A) {i k a b c s t : Nat} (hi : i < A.length) (hk : k < A.length) (hB1 : IsB (xat A i) a b c) (hB2 : IsB (xat A k) a s t) (hn : [a, b, c, s, t].Nodup) (hf : thF A b s = thF A c t) :
    Pas A (q4s i k (A.idxOf (trp (thF A b s) b s)) (A.idxOf (trp (thF A b s) c t))) i k (A.idxOf (trp (thF A b s) b s)) (A.idxOf (trp (thF A b s) c t)) a b c s t (thF A b s) := by
  have m1 := xat_mem hi
  have m2 := xat_mem hk
  have hb := hT.lt m1 ((hB1 b).2 (by omega))
  have hc := hT.lt m1 ((hB1 c).2 (by omega))
  have hs := hT.lt m2 ((hB2 s).2 (by omega))
  have ht := hT.lt m2 ((hB2 t).2 (by omega))
  obtain ⟨nab, nac, nas, nat, nbc, nbs, nbt, ncs, nct, nst⟩ := nd5 hn
  obtain ⟨n1, i1⟩ := hT.thB hb hs nbs
  obtain ⟨n2, i2⟩ := hT.thB hc ht nct
  rw [← hf] at n2 i2
  obtain ⟨l1, e1⟩ := idx_mem n1
  obtain ⟨l2, e2⟩ := idx_mem n2
  obtain ⟨ne1, ne2⟩ := hT.th_ne hb hs nbs
  obtain ⟨ne3, ne4⟩ := hT.th_ne hc ht nct
  rw [← hf] at ne3 ne4
  have nea : thF A b s ≠ a := fun e => by
    rw [e] at n1 i1
    have hu := hT.uniq n1 m1 nab i1.m1 i1.m2 hB1.m1 hB1.m2
    exact hB1.no nas.symm nbs.symm ncs.symm (hu ▸ i1.m3)
  exact ⟨hi, hk, l1, l2, hB1, hB2, by rw [e1]; exact i1, by rw [e2]; exact i2, ⟨nab, nac, nas, nat, nea.symm, nbc, nbs, nbt, ne1.symm, ncs, nct, ne3.symm, nst, ne2.symm, ne4.symm⟩, q4s_inc _ _ _ _, q4s_mem _ _ _ _⟩
end
set_option maxHeartbeats 8000000 in
set_option maxRecDepth 100000 in
theorem l11Quads_c (P g i k a b c d e : Nat) (v : Value) (us : List Value) (A : List (List Int)) (w : World) (hv : RII w v us A) (hb : BoxD w g P v) (hA : TS P A) (hi : i < A.length) (hk : k < A.length)
    (hB1 : IsB (xat A i) a b c) (hB2 : IsB (xat A k) a d e) (hn : [a, b, c, d, e].Nodup) (hbc : b < c) (hde : d < e) :
    Calls Tryz.prog 153 #[.pointer (some ⟨g, 0, none⟩), .int .i64 i, .int .i64 k, .int .i64 a] w (MakesPo w A 2) := by
  have hAl := (dOk_t hA.ok).len
  have hP := hA.p32
  have m1 := xat_mem hi
  have m2 := xat_mem hk
  have ha := hA.lt m1 hB1.m1
  have hbP := hA.lt m1 hB1.m2
  have hcP := hA.lt m1 hB1.m3
  have hdP := hA.lt m2 hB2.m2
  have heP := hA.lt m2 hB2.m3
  obtain ⟨nab, nac, nad, nae, nbc, nbd, nbe, ncd, nce, nde⟩ := nd5 hn
  have hs32 : ∀ B ∈ A, incB (-1) 32 B = true := fun B hB => incB_of (fun t ht => by have := incB_gt ((dOk_t hA.ok).inc _ hB) t ht; omega) (incB_pw ((dOk_t hA.ok).inc _ hB))
  have ha32 : incB (-1) 32 [(a : Int)] = true := by rw [incB, if_neg (by omega)]; rfl
  have M1 := fun W vb (h : RdI W (vat us i) (xat A i)) (h2 : RdI W vb [(a : Int)]) => Lib.hid (sMinusSets_c (vat us i) vb (xat A i) [(a : Int)] W h h2 (hs32 _ m1) ha32)
  have M2 := fun W vb (h : RdI W (vat us k) (xat A k)) (h2 : RdI W vb [(a : Int)]) => Lib.hid (sMinusSets_c (vat us k) vb (xat A k) [(a : Int)] W h h2 (hs32 _ m2) ha32)
  rw [both_bc hB1 (incB_pw (hs32 _ m1)) nab nac hbc] at M1
  rw [both_bc hB2 (incB_pw (hs32 _ m2)) nad nae hde] at M2
  have KT := fun W x y (h : RII W v us A) (h2 : BoxD W g P v) (hx : x < P) (hy : y < P) (hxy : x ≠ y) => Lib.hid (l11Third_c P g x y v us A W h h2 hA hx hy hxy)
  have KI := fun W x y z (h : RII W v us A) (h2 : BoxD W g P v) (hm : trp x y z ∈ A) => Lib.hid (l11Index_c P g x y z v us A W h h2 hA hm)
  have KB := Lib.hid (fun x y (hx : x < P) (hy : y < P) (hxy : x ≠ y) => (hA.thB hx hy hxy).1)
  have KQ1 := Lib.hid (fun hf => hA.quad hi hk hB1 hB2 hn hf)
  have KQ2 := Lib.hid (fun hf => hA.quad (s := e) (t := d) hi hk hB1 (hB2.re fun z => by omega) (nd5_sw hn) hf)
  have HNe := Lib.hid (And.intro (And.intro nbd nce) (And.intro nbe ncd))
  clear nab nac nad nae nbc nbd nbe ncd nce nde
  have Hlt := Lib.hid (fun x y (hx : x < P) (hy : y < P) => hA.th_lt hx hy)
  have hS0 := St.refl w
  have hS1 : St w.heap.size w _ [row 2 (.slice (some ⟨w.heap.size, 0, none⟩) 1 1) (iv [(a : Int)])] := hS0.new 2 #[.int .i64 a] (by simp [maxLen])
  have c1 := hb.2
  have x1 := hv.ixe (i : Int) i rfl hi
  have x2 := hv.ixe (k : Int) k rfl hk
  have d1 := hv.cell i hi
  have Hb := Lib.hid hb
  have Hv := Lib.hid hv
  clear hA hv hb hB1 hB2 hn hs32 m1 m2 ha32
  go_enter Tryz.func153, Tryz.ntmps153
  go_wp2_with fail
  refine (M1 _ _ ((hS1.oldII Hv.out).row i hi) (hS1.rdI 0 rfl)).out.mono ?_
  rintro e1 w2 ⟨vx, rfl, h2⟩
  have hS2 := (hS1.call h2).sub (L' := [row 2 vx (iv [(b : Int), (c : Int)])]) (List.sublist_cons_self _ _)
  have c1 := (hS2.oldBoxD Hb.out).2
  have d1 := (hS2.oldII Hv.out).cell k hk
  clear hS1 hS0 h2 M1
  have hS3 : St w.heap.size w _ ([row 2 vx (iv [(b : Int), (c : Int)])] ++ [row 2 (.slice (some ⟨w2.heap.size, 0, none⟩) 1 1) (iv [(a : Int)])]) := hS2.new 2 #[.int .i64 a] (by simp [maxLen])
  clear hS2
  go_wp2_with fail
  refine (M2 _ _ ((hS3.oldII Hv.out).row k hk) (hS3.rdI 1 rfl)).out.mono ?_
  rintro e1 w3 ⟨vy, rfl, h3⟩
  have hS4 := (hS3.call h3).sub (L' := [row 2 vx (iv [(b : Int), (c : Int)]), row 2 vy (iv [(d : Int), (e : Int)])]) ((List.sublist_cons_self _ _).cons_cons _)
  clear hS3 h3 M2 c1 d1
  have hS5 : St w.heap.size w _ ([row 2 vx (iv [(b : Int), (c : Int)]), row 2 vy (iv [(d : Int), (e : Int)])] ++ [row 30 (.slice (some ⟨w3.heap.size, 0, none⟩) 0 0) []]) := hS4.new 30 #[] (by simp)
  have xx0 := (hS4.rdI 0 rfl).ixe 0 0 rfl (by simp)
  have xx1 := (hS4.rdI 0 rfl).ixe 1 1 rfl (by simp)
  have xy := fun (j : Int) (m : Nat) (e1 : j = (m : Int)) (hm : m < 2) => (hS4.rdI 1 rfl).ixe j m e1 (by simpa using hm)
  have HX := Lib.hid xy
  have hS6 := hS5.perm (L' := own2 (.slice (some ⟨w3.heap.size, 0, none⟩) 0 0) [] [] ++ [row 2 vx (iv [(b : Int), (c : Int)]), row 2 vy (iv [(d : Int), (e : Int)])]) (show List.Perm _ ([row 30 (.slice (some ⟨w3.heap.size, 0, none⟩) 0 0) []] ++ _) from List.perm_append_comm)
  clear hS4 hS5 xy
  go_wp2_with fail
  go_loopw [11, 12, 13, 14, 15, 16] (fun o ti _ _ _ _ wr => ∃ (t : Nat) (uo : List Value) (R : List (List Int)), t ≤ 2 ∧ ti = .int .i64 t ∧ Hid (R.length ≤ t ∧ uo.length = R.length ∧ ∀ q ∈ R, IsPas A q) ∧ St w.heap.size w wr (own2 o uo R ++ [row 2 vx (iv [(b : Int), (c : Int)]), row 2 vy (iv [(d : Int), (e : Int)])])) (fun _ ti _ _ _ _ _ => 2 - (intOf ti).toNat)
  case atStart => exact ⟨0, [], [], by omega, rfl, ⟨by simp, rfl, fun q hq => by cases hq⟩, hS6⟩
  case round =>
    clear hS6
    obtain ⟨t, uo, R, ht, rfl, hI, hS⟩ := hrel
    by_cases ht2 : t < 2
    · have hti : (t : Int) < 2 := by omega
      obtain ⟨y1, y2, hy1, hy2, hyP1, hyP2, hne, KQ⟩ : ∃ y1 y2 : Nat, nth [(d : Int), (e : Int)] t = y1 ∧ nth [(d : Int), (e : Int)] (1 - t) = y2 ∧ y1 < P ∧ y2 < P ∧ (b ≠ y1 ∧ c ≠ y2 ∧ b ≠ y2 ∧ c ≠ y1) ∧ (thF A b y1 = thF A c y2 → IsPas A (q4s i k (A.idxOf (trp (thF A b y1) b y1)) (A.idxOf (trp (thF A b y1) c y2)))) := by
        rcases (show t = 0 ∨ t = 1 by omega) with rfl | rfl
        · exact ⟨d, e, rfl, rfl, hdP, heP, ⟨HNe.out.1.1, HNe.out.1.2, HNe.out.2.1, HNe.out.2.2⟩, fun hf => ⟨_, _, _, _, _, _, _, _, _, _, KQ1.out hf⟩⟩
        · exact ⟨e, d, rfl, rfl, heP, hdP, ⟨HNe.out.2.1, HNe.out.2.2, HNe.out.1.1, HNe.out.1.2⟩, fun hf => ⟨_, _, _, _, _, _, _, _, _, _, KQ2.out hf⟩⟩
      have HQ := Lib.hid KQ
      have xy1 := HX.out (t : Int) t rfl ht2
      have xy2 := HX.out ((1 : Int) - (t : Int)) (1 - t) (by omega) (by omega)
      have w1 : IntKind.i64.wrap ((1 : Int) - (t : Int)) = (1 : Int) - (t : Int) := IntWalk.i64_in _ (by omega)
      obtain ⟨L, hL⟩ : ∃ L, L = own2 u11 uo R ++ [row 2 vx (iv [(b : Int), (c : Int)]), row 2 vy (iv [(d : Int), (e : Int)])] := ⟨_, rfl⟩
      rw [← hL] at hS
      have HLx : Hid (∀ W, St w.heap.size w W L → RdI W vx [(b : Int), (c : Int)] ∧ RdI W vy [(d : Int), (e : Int)]) := Lib.hid (fun W h => by
        subst hL
        have h' := h.sub (List.sublist_append_right _ _)
        exact ⟨h'.rdI 0 rfl, h'.rdI 1 rfl⟩)
      have k1 := fun q : SS w.heap.size w L => (HLx.out _ q.st).1.cell 0 (by simp)
      have k2 := fun q : SS w.heap.size w L => (HLx.out _ q.st).1.cell 1 (by simp)
      have k3 := fun q : SS w.heap.size w L => (HLx.out _ q.st).2.cell t (by simpa using ht2)
      have k4 := fun q : SS w.heap.size w L => (HLx.out _ q.st).2.cell (1 - t) (by simp; omega)
      rw [show nth [(b : Int), (c : Int)] 0 = (b : Int) from rfl] at k1
      rw [show nth [(b : Int), (c : Int)] 1 = (c : Int) from rfl] at k2
      rw [hy1] at k3
      rw [hy2] at k4
      have T1 := Lib.hid (fun q : SS w.heap.size w L => KT q.w b y1 (q.st.oldII Hv.out) (q.st.oldBoxD Hb.out) hbP hyP1 hne.1)
      have T2 := Lib.hid (fun q : SS w.heap.size w L => KT q.w c y2 (q.st.oldII Hv.out) (q.st.oldBoxD Hb.out) hcP hyP2 hne.2.1)
      have B1 := Lib.hid (KB.out b y1 hbP hyP1 hne.1)
      have B2 := Lib.hid (KB.out c y2 hcP hyP2 hne.2.1)
      have HLe := Lib.hid hL
      clear hL hy1 hy2 KQ
      by_cases hf : thF A b y1 = thF A c y2
      · have HQ := Lib.hid (HQ.out hf)
        rw [← hf] at T2 B2
        generalize thF A b y1 = f at *
        clear hf
        have J1 := Lib.hid (fun q : SS w.heap.size w L => KI q.w f b y1 (q.st.oldII Hv.out) (q.st.oldBoxD Hb.out) B1.out)
        have J2 := Lib.hid (fun q : SS w.heap.size w L => KI q.w f c y2 (q.st.oldII Hv.out) (q.st.oldBoxD Hb.out) B2.out)
        generalize A.idxOf (trp f b y1) = m1 at *
        generalize A.idxOf (trp f c y2) = m2 at *
        have f1 : ((f : Int) == (f : Int)) = true := eq_t rfl
        go_wp2_with fail
        have hne : Nonempty (SS _ _ _) := ⟨⟨_, hS⟩⟩
        refine wp_region_st (by kernel_rfl) (by kernel_rfl) hS ?_
        repeat (go_big_quiet_step ((go_at_call 200; exact st_quiet (T1.out _).out)))
        refine wpQuiet_nil ?_
        rintro _ ⟨s2, rfl⟩
        have hS4 := s2.st
        generalize s2.w = w4 at hS4 ⊢
        clear hS
        go_wp2_with fail
        have hne : Nonempty (SS _ _ _) := ⟨⟨_, hS4⟩⟩
        refine wp_region_st (by kernel_rfl) (by kernel_rfl) hS4 ?_
        repeat (go_big_quiet_step ((go_at_call 200; exact st_quiet (T2.out _).out)))
        refine wpQuiet_nil ?_
        rintro _ ⟨s2, rfl⟩
        have hS5 := s2.st
        generalize s2.w = w5 at hS5 ⊢
        clear hS4
        go_wp2_with fail
        have hne : Nonempty (SS _ _ _) := ⟨⟨_, hS5⟩⟩
        refine wp_region_st (by kernel_rfl) (by kernel_rfl) hS5 ?_
        repeat (go_big_quiet_step ((go_at_call 201; exact st_quiet (J1.out _).out)))
        refine wpQuiet_nil ?_
        rintro _ ⟨s2, rfl⟩
        have hS6 := s2.st
        generalize s2.w = w6 at hS6 ⊢
        clear hS5
        go_wp2_with fail
        have hne : Nonempty (SS _ _ _) := ⟨⟨_, hS6⟩⟩
        refine wp_region_st (by kernel_rfl) (by kernel_rfl) hS6 ?_
        repeat (go_big_quiet_step ((go_at_call 201; exact st_quiet (J2.out _).out)))
        refine wpQuiet_nil ?_
        rintro _ ⟨s2, rfl⟩
        have hS7 := s2.st
        generalize s2.w = w7 at hS7 ⊢
        clear hS6 k1 k2 k3 k4 T1 T2 J1 J2
        have hS8 : St w.heap.size w _ (L ++ [row 2 (.slice (some ⟨w7.heap.size, 0, none⟩) 1 1) (iv [(i : Int)])]) := hS7.new 2 #[.int .i64 i] (by simp [maxLen])
        have P1 := fun W vq (h : RdI W vq [(i : Int)]) => Lib.hid (l00PutX_c vq [(i : Int)] k W h (by simp))
        have P2 := fun W vq (h : RdI W vq (putL [(i : Int)] k)) => Lib.hid (l00PutX_c vq (putL [(i : Int)] k) m1 W h (by have := putL_len [(i : Int)] k; simp at this; omega))
        have P3 := fun W vq (h : RdI W vq (putL (putL [(i : Int)] k) m1)) => Lib.hid (l00PutX_c vq (putL (putL [(i : Int)] k) m1) m2 W h (by have := putL_len [(i : Int)] k; have := putL_len (putL [(i : Int)] k) m1; simp at *; omega))
        rw [show putL (putL (putL [(i : Int)] k) m1) m2 = q4s i k m1 m2 from rfl] at P3
        generalize q4s i k m1 m2 = D at *
        generalize putL (putL [(i : Int)] k) m1 = D2 at *
        generalize putL [(i : Int)] k = D1 at *
        have hul := Lib.hid (show uo.length < 4294967296 by rw [hI.out.2.1]; have := hI.out.1; omega)
        have R8 := (hS8.sub (List.sublist_append_right _ _)).rdI 0 rfl
        go_wp2_with fail
        refine (P1 _ _ R8).out.mono ?_
        rintro e8 w8 ⟨v8, rfl, h8⟩
        have hS9 := (hS8.sub (List.sublist_append_left _ _)).call h8
        clear hS8 R8 P1 hS7
        go_wp2_with fail
        refine (P2 _ _ (h8.rdI 0 rfl)).out.mono ?_
        rintro e9 w9 ⟨v9, rfl, h9⟩
        have hS10 := (hS9.sub (List.sublist_append_left _ _)).call h9
        clear hS9 P2 h8
        go_wp2_with fail
        refine (P3 _ _ (h9.rdI 0 rfl)).out.mono ?_
        rintro e10 w10 ⟨v10, rfl, h10⟩
        obtain ⟨ua, uc, hu⟩ := (h10.rdI 0 rfl).sl.sh
        generalize (iv D).length = dl at hu
        subst hu
        have hS11 := (hS10.sub (List.sublist_append_left _ _)).call h10
        clear hS10 P3 h9 h10
        rw [HLe.out] at hS11
        go_wp2_with (at_builtin; refine appII hS11 0 rfl hul.out rfl _ _ rfl rfl _ rfl (by first | rfl | simp [Act.eval, World.size_alloc]) ?_; intro v12 w12 hS12)
        have hS13 := own2_snocP hI.out.2.1 hS12
        go_roundw
        case rel => exact ⟨t + 1, _, _, by omega, by go_num, ⟨by rw [List.length_append]; have := hI.out.1; simp; omega, by rw [List.length_append, List.length_append, hI.out.2.1]; rfl, fun q hq => by
          rcases List.mem_append.1 hq with h | h
          · exact hI.out.2.2 q h
          · rw [List.mem_singleton.1 h]; exact HQ.out⟩, hS13⟩
        case measure => simp [intOf]; omega
      · have f1 : ((thF A b y1 : Int) == (thF A c y2 : Int)) = false := eq_f (by omega)
        clear hf HQ B1 B2
        generalize thF A b y1 = f at *
        generalize thF A c y2 = f' at *
        go_wp2_with fail
        have hne : Nonempty (SS _ _ _) := ⟨⟨_, hS⟩⟩
        refine wp_region_st (by kernel_rfl) (by kernel_rfl) hS ?_
        repeat (go_big_quiet_step ((go_at_call 200; exact st_quiet (T1.out _).out)))
        refine wpQuiet_nil ?_
        rintro _ ⟨s2, rfl⟩
        have hS4 := s2.st
        generalize s2.w = w4 at hS4 ⊢
        clear hS
        go_wp2_with fail
        have hne : Nonempty (SS _ _ _) := ⟨⟨_, hS4⟩⟩
        refine wp_region_st (by kernel_rfl) (by kernel_rfl) hS4 ?_
        repeat (go_big_quiet_step ((go_at_call 200; exact st_quiet (T2.out _).out)))
        refine wpQuiet_nil ?_
        rintro _ ⟨s2, rfl⟩
        have hS5 := s2.st
        generalize s2.w = w5 at hS5 ⊢
        clear hS4 k1 k2 k3 k4 T1 T2
        rw [HLe.out] at hS5
        go_wp2_with fail
        go_roundw
        case rel => exact ⟨t + 1, uo, R, by omega, by go_num, ⟨by have := hI.out.1; omega, hI.out.2.1, hI.out.2.2⟩, hS5⟩
        case measure => simp [intOf]; omega
    · obtain rfl : t = 2 := by omega
      have hR := hS.sub (List.sublist_append_left _ _)
      go_wp2_with fail
      go_ret
      exact ⟨_, uo, R, rfl, hI.out.2.1, hI.out.1, hI.out.2.2, hR⟩
end Go.Proofs.YtegmjlblehjccaaGreat
end

section
/- Plain: how the reference switches a quadrilateral. -/
namespace Go.Proofs.YtegmjlblehjccaaGreat
set_option linter.unusedSimpArgs false
set_option linter.unusedVariables false
open Go

theorem uniL_mem {xs : List Int} {z : Int} : ∀ ys : List Int, z ∈ uniL xs ys ↔ z ∈ xs ∨ z ∈ ys := fun ys => by
  induction ys generalizing xs with
  | nil => simp [uniL]
  | cons y ys ih =>
    show z ∈ uniL (putL xs y) ys ↔ _
    rw [ih, putL_mem, List.mem_cons]
    constructor
    · rintro ((h | h) | h)
      · exact .inr (.inl h)
      · exact .inl h
      · exact .inr (.inr h)
    · rintro (h | h | h)
      · exact .inl (.inr h)
      · exact .inl (.inl h)
      · exact .inr h
theorem uniL_set {n : Int} {xs : List Int} : ∀ ys : List Int, incB (-1) n xs = true → (∀ y ∈ ys, -1 < y ∧ y < n) → incB (-1) n (uniL xs ys) = true := fun ys => by
  induction ys generalizing xs with
  | nil => intro h _; exact h
  | cons y ys ih =>
    intro h hy
    have h1 := hy y (List.mem_cons_self ..)
    exact ih (putL_incT h h1.1 h1.2) fun z hz => hy z (List.mem_cons_of_mem _ hz)
/-- the points of the first blocks -/
def ptsL (A : List (List Int)) (q : List Int) : Nat → List Int
  | 0 => []
  | t + 1 => uniL (ptsL A q t) (xat A (nth q t).toNat)
/-- not on one of the first blocks with a -/
def aprB (A : List (List Int)) (q : List Int) (a x : Int) : Nat → Bool
  | 0 => decide (x ≠ a)
  | t + 1 => aprB A q a x t && !(decide (a ∈ xat A (nth q t).toNat) && decide (x ∈ xat A (nth q t).toNat))
/-- the last one found -/
def lstF (f : Int) (xs : List Int) : Int := if f ∈ xs then f else -1
section
variable {P : Nat} {A : List (List Int)} {q : List Int} {i j k l a b c d e f : Nat}
theorem Pas.qi (h : Pas A q i j k l a b c d e f) {t : Nat} (ht : t < 4) : ∃ m : Nat, nth q t = m ∧ m < A.length ∧ (m = i ∨ m = j ∨ m = k ∨ m = l) := by
  have hm := (h.mem _).1 (nth_mem (show t < q.length by rw [h.ql]; exact ht))
  have l1 := h.li
  have l2 := h.lj
  have l3 := h.lk
  have l4 := h.ll
  refine ⟨(nth q t).toNat, by omega, by omega, by omega⟩
theorem Pas.onto (h : Pas A q i j k l a b c d e f) {m : Nat} (hm : m = i ∨ m = j ∨ m = k ∨ m = l) : ∃ t, t < 4 ∧ nth q t = m := by
  have : (m : Int) ∈ q := (h.mem _).2 (by omega)
  obtain ⟨t, ht, e⟩ := List.getElem_of_mem this
  exact ⟨t, by have := h.ql; omega, by rw [nth_eq ht, e]⟩
theorem ptsL_mem {z : Int} : ∀ t, z ∈ ptsL A q t ↔ ∃ s, s < t ∧ z ∈ xat A (nth q s).toNat
  | 0 => by simp [ptsL]
  | t + 1 => by
    rw [ptsL, uniL_mem, ptsL_mem t]
    constructor
    · rintro (⟨s, hs, h⟩ | h)
      · exact ⟨s, by omega, h⟩
      · exact ⟨t, by omega, h⟩
    · rintro ⟨s, hs, h⟩
      by_cases e : s = t
      · subst e; exact .inr h
      · exact .inl ⟨s, by omega, h⟩
theorem TS.in32 (hT : TS P A) {B : List Int} (hB : B ∈ A) : incB (-1) 32 B = true := by
  have hP := hT.p32
  exact incB_of (fun t ht => by have := incB_gt ((dOk_t hT.ok).inc _ hB) t ht; omega) (incB_pw ((dOk_t hT.ok).inc _ hB))
theorem Pas.pset (hT : TS P A) (h : Pas A q i j k l a b c d e f) : ∀ t, t ≤ 4 → incB (-1) 32 (ptsL A q t) = true
  | 0, _ => rfl
  | t + 1, ht => by
    rw [ptsL]
    obtain ⟨m, hm, hml, _⟩ := h.qi (t := t) (by omega)
    refine uniL_set _ (h.pset hT t (by omega)) fun y hy => ?_
    rw [hm] at hy
    exact incB_gt (hT.in32 (xat_mem hml)) y hy
theorem Pas.pmem (h : Pas A q i j k l a b c d e f) (z : Int) : z ∈ ptsL A q 4 ↔ z = a ∨ z = b ∨ z = c ∨ z = d ∨ z = e ∨ z = f := by
  rw [ptsL_mem]
  constructor
  · rintro ⟨s, hs, hz⟩
    obtain ⟨m, hm, _, hm4⟩ := h.qi hs
    rw [hm, Int.toNat_natCast] at hz
    rcases hm4 with rfl | rfl | rfl | rfl
    · have := (h.b1 z).1 hz; omega
    · have := (h.b2 z).1 hz; omega
    · have := (h.b3 z).1 hz; omega
    · have := (h.b4 z).1 hz; omega
  · intro hz
    have key : ∀ m : Nat, (m = i ∨ m = j ∨ m = k ∨ m = l) → z ∈ xat A m → ∃ s, s < 4 ∧ z ∈ xat A (nth q s).toNat := fun m hm hz => by
      obtain ⟨t, ht, e⟩ := h.onto hm
      exact ⟨t, ht, by rw [e, Int.toNat_natCast]; exact hz⟩
    rcases hz with rfl | rfl | rfl | rfl | rfl | rfl
    · exact key i (by simp) h.b1.m1
    · exact key i (by simp) h.b1.m2
    · exact key i (by simp) h.b1.m3
    · exact key j (by simp) h.b2.m2
    · exact key j (by simp) h.b2.m3
    · exact key k (by simp) h.b3.m1
theorem aprB_iff {x y : Int} : ∀ t, aprB A q x y t = true ↔ y ≠ x ∧ ∀ s, s < t → ¬ (x ∈ xat A (nth q s).toNat ∧ y ∈ xat A (nth q s).toNat)
  | 0 => by simp [aprB]
  | t + 1 => by
    rw [aprB, Bool.and_eq_true, aprB_iff t]
    constructor
    · rintro ⟨⟨h1, h2⟩, h3⟩
      refine ⟨h1, fun s hs hc => ?_⟩
      by_cases e : s = t
      · subst e; simp [hc.1, hc.2] at h3
      · exact h2 s (by omega) hc
    · rintro ⟨h1, h2⟩
      refine ⟨⟨h1, fun s hs => h2 s (by omega)⟩, ?_⟩
      have := h2 t (by omega)
      by_cases e1 : x ∈ xat A (nth q t).toNat
      · by_cases e2 : y ∈ xat A (nth q t).toNat
        · exact absurd ⟨e1, e2⟩ this
        · simp [e2]
      · simp [e1]
theorem Pas.apr (h : Pas A q i j k l a b c d e f) {x : Int} (hx : x ∈ ptsL A q 4) : aprB A q a x 4 = decide (x = f) := by
  rw [Bool.eq_iff_iff, aprB_iff, decide_eq_true_eq]
  have key : ∀ m : Nat, (m = i ∨ m = j ∨ m = k ∨ m = l) → (∀ s, s < 4 → ¬ ((a : Int) ∈ xat A (nth q s).toNat ∧ x ∈ xat A (nth q s).toNat)) → ¬ ((a : Int) ∈ xat A m ∧ x ∈ xat A m) := fun m hm hs => by
    obtain ⟨t, ht, e⟩ := h.onto hm
    have := hs t ht
    rwa [e, Int.toNat_natCast] at this
  constructor
  · rintro ⟨h1, h2⟩
    have k1 := key i (by simp) h2
    have k2 := key j (by simp) h2
    rcases (h.pmem x).1 hx with e | e | e | e | e | e
    · exact absurd e h1
    · exact absurd ⟨h.b1.m1, e ▸ h.b1.m2⟩ k1
    · exact absurd ⟨h.b1.m1, e ▸ h.b1.m3⟩ k1
    · exact absurd ⟨h.b2.m1, e ▸ h.b2.m2⟩ k2
    · exact absurd ⟨h.b2.m1, e ▸ h.b2.m3⟩ k2
    · exact e
  · rintro rfl
    refine ⟨fun e => h.nd.af (by omega), fun s hs hc => ?_⟩
    obtain ⟨m, hm, _, hm4⟩ := h.qi hs
    rw [hm, Int.toNat_natCast] at hc
    rcases hm4 with rfl | rfl | rfl | rfl
    · exact h.b1.no h.nd.af.symm h.nd.bf.symm h.nd.cf.symm hc.2
    · exact h.b2.no h.nd.af.symm h.nd.df.symm h.nd.ef.symm hc.2
    · exact h.b3.no h.nd.af h.nd.ab h.nd.ad hc.1
    · exact h.b4.no h.nd.af h.nd.ac h.nd.ae hc.1
theorem lstF_take {f : Int} {xs : List Int} {n : Nat} (h : n < xs.length) : lstF f (xs.take (n + 1)) = if nth xs n = f then f else lstF f (xs.take n) := by
  unfold lstF
  rw [take_nth h]
  simp only [List.mem_append, List.mem_singleton]
  by_cases e : nth xs n = f
  · rw [if_pos (.inr e.symm), if_pos e]
  · rw [if_neg e]
    by_cases e2 : f ∈ xs.take n
    · rw [if_pos (.inl e2), if_pos e2]
    · rw [if_neg e2, if_neg]
      rintro (q | q)
      · exact e2 q
      · exact e q.symm
theorem Pas.lst (h : Pas A q i j k l a b c d e f) : lstF f (ptsL A q 4) = f := by
  unfold lstF; rw [if_pos ((h.pmem _).2 (by simp))]
/-- a block on one of the two points, with the other one put in its place -/
theorem sw_put {B : List Int} {x y : Int} (hB : incB (-1) 32 B = true) (hx : 0 ≤ x ∧ x < 32) (hy : 0 ≤ y ∧ y < 32) (hxy : x ≠ y) (h : (x ∈ B ∧ y ∉ B)) : putL (bothL B [x, y] false) y = swB x y B ∧ putL (bothL B [y, x] false) y = swB x y B := by
  have hb : ∀ t ∈ B, 0 ≤ t ∧ t < 32 := fun t ht => by have := incB_gt hB t ht; omega
  have key : ∀ ys : List Int, (∀ z, z ∈ ys ↔ z = x ∨ z = y) → putL (bothL B ys false) y = swB x y B := fun ys hys => by
    refine inc_ext (incB_pw (putL_incT (bothL_set hB) (by omega) hy.2)) (incB_pw (isSet_upF _)) fun z => ?_
    rw [putL_mem, swB_mem hb hx hy]
    unfold bothL exP
    rw [List.mem_filter, beq_iff_eq, decide_eq_false_iff_not, hys z]
    by_cases e1 : z = x
    · subst e1
      rw [if_pos rfl]
      constructor
      · rintro (e | ⟨_, e⟩)
        · exact absurd e hxy
        · exact absurd (.inl rfl) e
      · intro e; exact absurd e h.2
    · rw [if_neg e1]
      by_cases e2 : z = y
      · rw [if_pos e2]; exact ⟨fun _ => h.1, fun _ => .inl e2⟩
      · rw [if_neg e2]
        constructor
        · rintro (e | ⟨e, _⟩)
          · exact absurd e e2
          · exact e
        · intro e
          refine .inr ⟨e, ?_⟩
          rintro (q | q)
          · exact e1 q
          · exact e2 q
  exact ⟨key _ fun z => by simp, key _ fun z => by simp [or_comm]⟩
theorem exP_symm (x y z : Int) : exP x y z = exP y x z := by
  unfold exP
  by_cases h1 : z = x
  · rw [if_pos h1]
    by_cases h2 : z = y
    · rw [if_pos h2]; omega
    · rw [if_neg h2, if_pos h1]
  · rw [if_neg h1]
    by_cases h2 : z = y
    · rw [if_pos h2, if_pos h2]
    · rw [if_neg h2, if_neg h2, if_neg h1]
theorem swB_symm (x y : Int) (B : List Int) : swB x y B = swB y x B := by
  unfold swB; congr 1; funext z; rw [exP_symm]
/-- what stands at place m of the switched list -/
theorem Pas.row (hT : TS P A) (h : Pas A q i j k l a b c d e f) {m : Nat} (hm : m < A.length) : xat (swQ A q a f) m = if (m : Int) ∈ q then swB a f (xat A m) else xat A m := by
  have e0 : xat (swQ A q a f) m = if xat A m ∈ qBl A q then swB a f (xat A m) else xat A m := by
    rw [xat_eq (by rw [swQ, List.length_map]; exact hm)]
    unfold swQ
    rw [List.getElem_map, xat_eq hm]
  rw [e0]
  have e1 : xat A m ∈ qBl A q ↔ (m : Int) ∈ q := by
    rw [h.qbm, h.mem]
    have hinj : ∀ n, n < A.length → xat A m = xat A n → m = n := fun n hn e => by
      have h1 := idx_of hT.nodup hm
      rw [e, idx_of hT.nodup hn] at h1
      exact h1.symm
    constructor
    · rintro (e | e | e | e)
      · exact .inl (by rw [hinj i h.li e])
      · exact .inr (.inl (by rw [hinj j h.lj e]))
      · exact .inr (.inr (.inl (by rw [hinj k h.lk e])))
      · exact .inr (.inr (.inr (by rw [hinj l h.ll e])))
    · rintro (e | e | e | e)
      · exact .inl (by rw [show m = i by omega])
      · exact .inr (.inl (by rw [show m = j by omega]))
      · exact .inr (.inr (.inl (by rw [show m = k by omega])))
      · exact .inr (.inr (.inr (by rw [show m = l by omega])))
  by_cases e2 : (m : Int) ∈ q
  · rw [if_pos e2, if_pos (e1.2 e2)]
  · rw [if_neg e2, if_neg fun e => e2 (e1.1 e)]
/-- a block of the quadrilateral holds just one of the two points -/
theorem Pas.one (h : Pas A q i j k l a b c d e f) {m : Nat} (hm : (m : Int) ∈ q) : ((a : Int) ∈ xat A m ∧ (f : Int) ∉ xat A m) ∨ ((a : Int) ∉ xat A m ∧ (f : Int) ∈ xat A m) := by
  rcases (h.mem _).1 hm with e | e | e | e
  · rw [show m = i by omega]; exact .inl ⟨h.b1.m1, h.b1.no h.nd.af.symm h.nd.bf.symm h.nd.cf.symm⟩
  · rw [show m = j by omega]; exact .inl ⟨h.b2.m1, h.b2.no h.nd.af.symm h.nd.df.symm h.nd.ef.symm⟩
  · rw [show m = k by omega]; exact .inr ⟨h.b3.no h.nd.af h.nd.ab h.nd.ad, h.b3.m1⟩
  · rw [show m = l by omega]; exact .inr ⟨h.b4.no h.nd.af h.nd.ac h.nd.ae, h.b4.m1⟩
theorem Pas.put (hT : TS P A) (h : Pas A q i j k l a b c d e f) {m : Nat} (hm : m < A.length) (hq : (m : Int) ∈ q) : putL (bothL (xat A m) [(a : Int), (f : Int)] false) (if (a : Int) ∈ xat A m then (f : Int) else a) = xat (swQ A q a f) m := by
  rw [h.row hT hm, if_pos hq]
  have hB := hT.in32 (xat_mem hm)
  have hP := hT.p32
  have ha := hT.lt (xat_mem h.li) h.b1.m1
  have hf := hT.lt (xat_mem h.lk) h.b3.m1
  rcases h.one hq with e | e
  · rw [if_pos e.1]
    exact (sw_put hB (by omega) (by omega) (by have := h.nd.af; omega) e).1
  · rw [if_neg e.1, swB_symm]
    exact (sw_put hB (by omega) (by omega) (by have := h.nd.af; omega) ⟨e.2, e.1⟩).2
end
end Go.Proofs.YtegmjlblehjccaaGreat
end

section
/- Plain: all quadrilaterals of a triple system, by pairs of blocks. -/
namespace Go.Proofs.YtegmjlblehjccaaGreat
set_option linter.unusedSimpArgs false
set_option linter.unusedVariables false
open Go

theorem mem_mee {x y : List Int} (hx : IsSet x) (z : Int) : z ∈ mee x y ↔ z ∈ x ∧ z ∈ y := by
  unfold mee
  rw [mem_upF]
  simp only [Bool.and_eq_true, List.contains_iff_mem]
  constructor
  · rintro ⟨_, _, h⟩; exact h
  · intro h
    have := incB_gt hx z h.1
    exact ⟨by omega, by omega, h⟩
theorem mem_min {x y : List Int} (hx : IsSet x) (z : Int) : z ∈ min' x y ↔ z ∈ x ∧ z ∉ y := by
  unfold min'
  rw [mem_upF]
  simp only [Bool.and_eq_true, List.contains_iff_mem, Bool.not_eq_true', ← Bool.not_eq_true]
  constructor
  · rintro ⟨_, _, h⟩; exact h
  · intro h
    have := incB_gt hx z h.1
    exact ⟨by omega, by omega, h⟩
theorem mem_uni {x y : List Int} (hx : IsSet x) (hy : IsSet y) (z : Int) : z ∈ uni x y ↔ z ∈ x ∨ z ∈ y := by
  unfold uni
  rw [mem_upF]
  simp only [Bool.or_eq_true, List.contains_iff_mem]
  constructor
  · rintro ⟨_, _, h⟩; exact h
  · intro h
    have : -1 < z ∧ z < 32 := by
      rcases h with h | h
      · exact incB_gt hx z h
      · exact incB_gt hy z h
    exact ⟨by omega, by omega, h⟩
/-- the rest of a set -/
def mnB (b S : List Int) : List Int := ifSets b S (min' b S)
/-- how two blocks lie to each other -/
structure Pr5 (A : List (List Int)) (i j a b c d e : Nat) : Prop where
  me : meB (xat A i) (xat A j) = [(a : Int)]
  m1 : mnB (xat A i) [(a : Int)] = [(b : Int), (c : Int)]
  m2 : mnB (xat A j) [(a : Int)] = [(d : Int), (e : Int)]
  b1 : IsB (xat A i) a b c
  b2 : IsB (xat A j) a d e
  nd : [a, b, c, d, e].Nodup
section
variable {P : Nat} {A : List (List Int)}
theorem TS.rest (hT : TS P A) {B : List Int} (hB : B ∈ A) {a : Nat} (ha : (a : Int) ∈ B) : ∃ b c : Nat, mnB B [(a : Int)] = [(b : Int), (c : Int)] ∧ IsB B a b c ∧ a ≠ b ∧ a ≠ c ∧ b ≠ c := by
  have hs : IsSet B := hT.in32 hB
  have haP := hT.lt hB ha
  have h32 := hT.p32
  have hsa : IsSet [(a : Int)] := by unfold IsSet; rw [incB, if_neg (by omega)]; rfl
  unfold mnB ifSets
  rw [if_pos ⟨hs, hsa⟩]
  have hp : (min' B [(a : Int)]).Pairwise (· < ·) := incB_pw (isSet_upF _)
  obtain ⟨x, y, z, h1, h2, h3, rfl⟩ := three_of (hT.inc hB) (hT.three _ hB)
  simp only [List.mem_cons, List.not_mem_nil, or_false] at ha
  have key : ∀ b c : Nat, b < c → (∀ t : Int, (t = x ∨ t = y ∨ t = z) ↔ (t = a ∨ t = b ∨ t = c)) → a ≠ b → a ≠ c → min' [(x : Int), (y : Int), (z : Int)] [(a : Int)] = [(b : Int), (c : Int)] ∧ IsB [(x : Int), (y : Int), (z : Int)] a b c := fun b c hbc hm n1 n2 => by
    refine ⟨inc_ext hp (by simp; omega) fun t => ?_, fun t => ?_⟩
    · rw [mem_min hs]
      simp only [List.mem_cons, List.not_mem_nil, or_false]
      rw [hm t]; omega
    · simp only [List.mem_cons, List.not_mem_nil, or_false]; exact hm t
  rcases (show a = x ∨ a = y ∨ a = z by omega) with rfl | rfl | rfl
  · obtain ⟨k1, k2⟩ := key y z h2 (fun t => Iff.rfl) (by omega) (by omega)
    exact ⟨y, z, k1, k2, by omega, by omega, by omega⟩
  · obtain ⟨k1, k2⟩ := key x z (by omega) (fun t => by omega) (by omega) (by omega)
    exact ⟨x, z, k1, k2, by omega, by omega, by omega⟩
  · obtain ⟨k1, k2⟩ := key x y (by omega) (fun t => by omega) (by omega) (by omega)
    exact ⟨x, y, k1, k2, by omega, by omega, by omega⟩
theorem TS.meB_mem (hT : TS P A) {i j : Nat} (hi : i < A.length) (hj : j < A.length) (z : Int) : z ∈ meB (xat A i) (xat A j) ↔ z ∈ xat A i ∧ z ∈ xat A j := by
  have h1 : IsSet (xat A i) := hT.in32 (xat_mem hi)
  have h2 : IsSet (xat A j) := hT.in32 (xat_mem hj)
  unfold meB ifSets
  rw [if_pos ⟨h1, h2⟩, mem_mee h1]
theorem TS.pair (hT : TS P A) {i j : Nat} (hi : i < A.length) (hj : j < A.length) : (meB (xat A i) (xat A j)).length ≠ 1 ∨ ∃ a b c d e : Nat, Pr5 A i j a b c d e := by
  by_cases hl : (meB (xat A i) (xat A j)).length = 1
  · right
    obtain ⟨m, hm⟩ := List.length_eq_one_iff.1 hl
    have hmm := hT.meB_mem hi hj
    rw [hm] at hmm
    simp only [List.mem_singleton] at hmm
    obtain ⟨m1, m2⟩ := (hmm m).1 rfl
    have h0 := incB_gt (hT.in32 (xat_mem hi)) m m1
    obtain ⟨a, rfl⟩ := Int.eq_ofNat_of_zero_le (show 0 ≤ m by omega)
    obtain ⟨b, c, e1, k1, n1, n2, n3⟩ := hT.rest (xat_mem hi) m1
    obtain ⟨d, e, e2, k2, n4, n5, n6⟩ := hT.rest (xat_mem hj) m2
    refine ⟨a, b, c, d, e, hm, e1, e2, k1, k2, ?_⟩
    have x1 := (hmm b).2
    have x2 := (hmm c).2
    rw [k1 b, k2 b] at x1
    rw [k1 c, k2 c] at x2
    simp only [List.nodup_cons, List.mem_cons, List.not_mem_nil, or_false, not_or, not_false_eq_true, List.nodup_nil, and_true]
    omega
  · exact .inl hl
theorem Pas.swS {q : List Int} {i j k l a b c d e f : Nat} (h : Pas A q i j k l a b c d e f) : Pas A q i j l k a c b e d f :=
  ⟨h.li, h.lj, h.ll, h.lk, h.b1.re fun z => by omega, h.b2.re fun z => by omega, h.b4, h.b3, ⟨h.nd.ac, h.nd.ab, h.nd.ae, h.nd.ad, h.nd.af, h.nd.bc.symm, h.nd.ce, h.nd.cd, h.nd.cf, h.nd.be, h.nd.bd, h.nd.bf, h.nd.de.symm, h.nd.ef, h.nd.df⟩, h.inc, fun z => by rw [h.mem z]; omega⟩
theorem Pas.swP {q : List Int} {i j k l a b c d e f : Nat} (h : Pas A q i j k l a b c d e f) : Pas A q j i k l a d e b c f :=
  ⟨h.lj, h.li, h.lk, h.ll, h.b2, h.b1, h.b3.re fun z => by omega, h.b4.re fun z => by omega, ⟨h.nd.ad, h.nd.ae, h.nd.ab, h.nd.ac, h.nd.af, h.nd.de, h.nd.bd.symm, h.nd.cd.symm, h.nd.df, h.nd.be.symm, h.nd.ce.symm, h.nd.ef, h.nd.bc, h.nd.bf, h.nd.cf⟩, h.inc, fun z => by rw [h.mem z]; omega⟩
theorem TS.idxB (hT : TS P A) {k f b d : Nat} (hk : k < A.length) (h : IsB (xat A k) f b d) : A.idxOf (trp f b d) = k := by
  have hp := incB_pw (hT.in32 (xat_mem hk))
  have h32 := hT.p32
  have hx := xat_mem hk
  have l1 := hT.lt hx h.m1
  have l2 := hT.lt hx h.m2
  have l3 := hT.lt hx h.m3
  have hl := hT.three _ hx
  have hne : f ≠ b ∧ f ≠ d ∧ b ≠ d := by
    obtain ⟨x, y, z, h1, h2, h3, he⟩ := three_of (hT.inc hx) hl
    have e1 := h x; have e2 := h y; have e3 := h z
    rw [he] at e1 e2 e3
    simp only [List.mem_cons, true_or, or_true, true_iff, List.not_mem_nil, or_false] at e1 e2 e3
    omega
  obtain ⟨_, hi⟩ := trp_ok l1 l2 l3 hne.1 hne.2.1 hne.2.2
  have he : trp f b d = xat A k := inc_ext (incB_pw hi) hp fun z => by rw [trp_B f b d z, h z]
  rw [he, xat_eq hk]
  exact hT.nodup.idxOf_getElem k hk
/-- the quadrilateral of two blocks, if there is one -/
def qd4 (A : List (List Int)) (i j b c s t : Nat) : List Int := q4s i j (A.idxOf (trp (thF A b s) b s)) (A.idxOf (trp (thF A b s) c t))
def pcX (A : List (List Int)) (i j b c s t : Nat) : List (List Int) := if thF A b s = thF A c t then [qd4 A i j b c s t] else []
theorem Pas.qd (hT : TS P A) {q : List Int} {i j k l a b c d e f : Nat} (h : Pas A q i j k l a b c d e f) : q ∈ pcX A i j b c d e := by
  have m3 := xat_mem h.lk
  have m4 := xat_mem h.ll
  have t1 := hT.th_of m3 h.b3.m2 h.b3.m3 h.b3.m1 h.nd.bd h.nd.bf h.nd.df
  have t2 := hT.th_of m4 h.b4.m2 h.b4.m3 h.b4.m1 h.nd.ce h.nd.cf h.nd.ef
  unfold pcX qd4
  rw [if_pos (by rw [t1, t2]), t1, hT.idxB h.lk h.b3, hT.idxB h.ll h.b4, List.mem_singleton]
  exact inc_ext h.inc (q4s_inc _ _ _ _) fun z => by rw [h.mem z, q4s_mem]
/-- all of two blocks -/
theorem Pr5.all (hT : TS P A) {q : List Int} {i j k l a b c d e a' b' c' d' e' f' : Nat} (h : Pr5 A i j a b c d e) (hq : Pas A q i j k l a' b' c' d' e' f') : q ∈ pcX A i j b c d e ∨ q ∈ pcX A i j b c e d := by
  obtain ⟨n1, n2, n3, n4, n5, n6, n7, n8, n9, n10⟩ := nd5 h.nd
  have ea : a' = a := by
    have h1 := (h.b1 a').1 hq.b1.m1
    have h2 := (h.b2 a').1 hq.b2.m1
    omega
  subst ea
  have eb : (b' = b ∧ c' = c) ∨ (b' = c ∧ c' = b) := by
    have h1 := (h.b1 b').1 hq.b1.m2
    have h2 := (h.b1 c').1 hq.b1.m3
    have g1 := hq.nd.ab; have g2 := hq.nd.ac; have g3 := hq.nd.bc
    clear n1 n2 n3 n4 n5 n6 n7 n8 n9 n10
    omega
  have ed : (d' = d ∧ e' = e) ∨ (d' = e ∧ e' = d) := by
    have h1 := (h.b2 d').1 hq.b2.m2
    have h2 := (h.b2 e').1 hq.b2.m3
    have g1 := hq.nd.ad; have g2 := hq.nd.ae; have g3 := hq.nd.de
    clear n1 n2 n3 n4 n5 n6 n7 n8 n9 n10
    omega
  rcases eb with ⟨rfl, rfl⟩ | ⟨rfl, rfl⟩
  · rcases ed with ⟨rfl, rfl⟩ | ⟨rfl, rfl⟩
    · exact .inl (hq.qd hT)
    · exact .inr (hq.qd hT)
  · rcases ed with ⟨rfl, rfl⟩ | ⟨rfl, rfl⟩
    · exact .inr (hq.swS.qd hT)
    · exact .inl (hq.swS.qd hT)
theorem Pr5.pas (hT : TS P A) {q : List Int} {i j a b c d e : Nat} (hi : i < A.length) (hj : j < A.length) (h : Pr5 A i j a b c d e) (hq : q ∈ pcX A i j b c d e) : IsPas A q := by
  unfold pcX at hq
  split at hq
  · rename_i hf
    rw [List.mem_singleton] at hq
    subst hq
    exact ⟨_, _, _, _, _, _, _, _, _, _, hT.quad hi hj h.b1 h.b2 h.nd hf⟩
  · cases hq
theorem Pr5.pas2 (hT : TS P A) {q : List Int} {i j a b c d e : Nat} (hi : i < A.length) (hj : j < A.length) (h : Pr5 A i j a b c d e) (hq : q ∈ pcX A i j b c e d) : IsPas A q := by
  unfold pcX at hq
  split at hq
  · rename_i hf
    rw [List.mem_singleton] at hq
    subst hq
    exact ⟨_, _, _, _, _, _, _, _, _, _, hT.quad hi hj h.b1 (h.b2.re fun z => by omega) (nd5_sw h.nd) hf⟩
  · cases hq
/-- the quadrilaterals of the pairs so far -/
structure PsD (A : List (List Int)) (i j : Nat) (R : List (List Int)) : Prop where
  pas : ∀ q ∈ R, IsPas A q
  all : ∀ {q : List Int} {i' j' k l a b c d e f : Nat}, Pas A q i' j' k l a b c d e f → j' < i' → (i' < i ∨ (i' = i ∧ j' < j)) → q ∈ R
  le : R.length ≤ 2 * (128 * i + j)
theorem PsD.nil (A : List (List Int)) : PsD A 0 0 [] := ⟨(fun _ h => by cases h), fun _ _ h => by omega, by simp⟩
def pcR (A : List (List Int)) (i j b c d e : Nat) : Nat → List (List Int)
  | 0 => []
  | 1 => pcX A i j b c d e
  | _ => pcX A i j b c d e ++ pcX A i j b c e d
theorem pcX_len (i j b c d e : Nat) : (pcX A i j b c d e).length ≤ 1 := by unfold pcX; split <;> simp
theorem PsD.step (hT : TS P A) {i j a b c d e : Nat} {R : List (List Int)} (hi : i < A.length) (hj : j < A.length) (hR : PsD A i j R) (h : Pr5 A i j a b c d e) : PsD A i (j + 1) (R ++ pcR A i j b c d e 2) := by
  have l1 := pcX_len (A := A) i j b c d e
  have l2 := pcX_len (A := A) i j b c e d
  refine ⟨fun q hq => ?_, fun {q i' j' k l a' b' c' d' e' f'} hp hji hlt => ?_, by have := hR.le; show (R ++ (pcX A i j b c d e ++ pcX A i j b c e d)).length ≤ _; rw [List.length_append, List.length_append]; omega⟩
  · rcases List.mem_append.1 hq with hq | hq
    · exact hR.pas q hq
    · rcases List.mem_append.1 hq with hq | hq
      · exact h.pas hT hi hj hq
      · exact h.pas2 hT hi hj hq
  · by_cases he : i' = i ∧ j' = j
    · obtain ⟨rfl, rfl⟩ := he
      rcases h.all hT hp with hm | hm
      · exact List.mem_append_right _ (List.mem_append_left _ hm)
      · exact List.mem_append_right _ (List.mem_append_right _ hm)
    · exact List.mem_append_left _ (hR.all hp hji (by omega))
theorem PsD.skip (hT : TS P A) {i j : Nat} {R : List (List Int)} (hi : i < A.length) (hj : j < A.length) (hR : PsD A i j R) (h : (meB (xat A i) (xat A j)).length ≠ 1) : PsD A i (j + 1) R := by
  refine ⟨hR.pas, fun {q i' j' k l a' b' c' d' e' f'} hp hji hlt => ?_, by have := hR.le; omega⟩
  by_cases he : i' = i ∧ j' = j
  · exfalso
    obtain ⟨rfl, rfl⟩ := he
    apply h
    have : meB (xat A i') (xat A j') = [(a' : Int)] := by
      have h1 : IsSet (xat A i') := hT.in32 (xat_mem hi)
      have h2 : IsSet (xat A j') := hT.in32 (xat_mem hj)
      refine inc_ext ?_ (by simp) fun z => ?_
      · unfold meB ifSets
        rw [if_pos ⟨h1, h2⟩]
        exact incB_pw (isSet_upF _)
      · rw [hT.meB_mem hi hj, hp.b1 z, hp.b2 z, List.mem_singleton]
        have g3 := hp.nd.ad; have g4 := hp.nd.ae; have g5 := hp.nd.bd; have g6 := hp.nd.be; have g7 := hp.nd.cd; have g8 := hp.nd.ce
        omega
    rw [this]; rfl
  · exact hR.all hp hji (by omega)
theorem PsD.next {i : Nat} {R : List (List Int)} (hR : PsD A i i R) (hi : i ≤ 128) : PsD A (i + 1) 0 R :=
  ⟨hR.pas, fun hp hji hlt => hR.all hp hji (by omega), by have := hR.le; omega⟩
theorem PsD.fin {R : List (List Int)} (hR : PsD A A.length 0 R) (q : List Int) : q ∈ R ↔ IsPas A q := by
  refine ⟨hR.pas q, ?_⟩
  rintro ⟨i, j, k, l, a, b, c, d, e, f, hp⟩
  have hne : i ≠ j := by
    have := hp.idx
    simp only [List.nodup_cons, List.mem_cons, not_or] at this
    omega
  rcases Nat.lt_or_ge j i with h | h
  · exact hR.all hp h (.inl hp.li)
  · exact hR.all hp.swP (by omega) (.inl hp.lj)
theorem srt_q4s {i j k l : Nat} (h : [(i : Int), (j : Int), (k : Int), (l : Int)].Nodup) : srt [(i : Int), (j : Int), (k : Int), (l : Int)] = q4s i j k l := by
  refine sorted_eq ?_ (srt_up _) ((q4s_inc i j k l).imp fun h => by omega)
  refine (srt_perm _).trans ((List.perm_ext_iff_of_nodup h ((q4s_inc i j k l).imp fun h => by omega)).2 fun z => ?_)
  rw [q4s_mem]; simp
theorem Pr5.srt (hT : TS P A) {i j a b c d e : Nat} (hi : i < A.length) (hj : j < A.length) (h : Pr5 A i j a b c d e) (hf : thF A b d = thF A c e) : srt [(i : Int), (j : Int), (A.idxOf (trp (thF A b d) b d) : Int), (A.idxOf (trp (thF A b d) c e) : Int)] = qd4 A i j b c d e :=
  srt_q4s (hT.quad hi hj h.b1 h.b2 h.nd hf).idx
theorem Pr5.swap {i j a b c d e : Nat} (h : Pr5 A i j a b c d e) : IsB (xat A j) a e d ∧ [a, b, c, e, d].Nodup := ⟨h.b2.re fun z => by omega, nd5_sw h.nd⟩
end
end Go.Proofs.YtegmjlblehjccaaGreat
end

section
/- Plain: the matrix of third points, block by block. -/
namespace Go.Proofs.YtegmjlblehjccaaGreat
set_option linter.unusedSimpArgs false
set_option linter.unusedVariables false
open Go

open Classical in
/-- the entry behind k blocks and i points of block k -/
noncomputable def thK (A : List (List Int)) (k i x y : Nat) : Int :=
  if x = y then x else if (∃ j, j < k ∧ (x : Int) ∈ xat A j ∧ (y : Int) ∈ xat A j) ∨ ((x : Int) ∈ (xat A k).take i ∧ (y : Int) ∈ xat A k) then thF A x y else 0
structure ThS (P : Nat) (A : List (List Int)) (k i : Nat) (S : List (List Int)) : Prop where
  sqr : Sqr P S
  at' : ∀ x y, x < P → y < P → at2 S x y = thK A k i x y
theorem thK_00 (A : List (List Int)) (x y : Nat) : thK A 0 0 x y = if x = y then (x : Int) else 0 := by
  unfold thK
  by_cases h : x = y
  · rw [if_pos h, if_pos h]
  · rw [if_neg h, if_neg h, if_neg]
    rintro (⟨j, hj, _⟩ | ⟨h1, _⟩)
    · omega
    · simp at h1
section
variable {P : Nat} {A : List (List Int)}
/-- the three points from point i on -/
theorem three_at (h : TS P A) {k i : Nat} (hk : k < A.length) (hi : i < 3) : ∃ x y z : Nat, x < P ∧ y < P ∧ z < P ∧ x ≠ y ∧ x ≠ z ∧ y ≠ z ∧ nth (xat A k) i = x ∧ nth (xat A k) ((i + 1) % 3) = y ∧ nth (xat A k) ((i + 2) % 3) = z ∧
    (∀ u : Int, u ∈ xat A k ↔ u = x ∨ u = y ∨ u = z) ∧ (∀ u : Int, u ∈ (xat A k).take (i + 1) ↔ u ∈ (xat A k).take i ∨ u = x) ∧ thF A x y = z ∧ thF A x z = y := by
  have hb := xat_mem hk
  obtain ⟨p, q, r, hpq, hqr, hr, hb3⟩ := three_of (h.inc hb) (h.three _ hb)
  have fin : ∀ x y z : Nat, x < P → y < P → z < P → x ≠ y → x ≠ z → y ≠ z → nth (xat A k) i = x → nth (xat A k) ((i + 1) % 3) = y → nth (xat A k) ((i + 2) % 3) = z → (∀ u : Int, u ∈ xat A k ↔ u = x ∨ u = y ∨ u = z) →
      ∃ x y z : Nat, x < P ∧ y < P ∧ z < P ∧ x ≠ y ∧ x ≠ z ∧ y ≠ z ∧ nth (xat A k) i = x ∧ nth (xat A k) ((i + 1) % 3) = y ∧ nth (xat A k) ((i + 2) % 3) = z ∧
        (∀ u : Int, u ∈ xat A k ↔ u = x ∨ u = y ∨ u = z) ∧ (∀ u : Int, u ∈ (xat A k).take (i + 1) ↔ u ∈ (xat A k).take i ∨ u = x) ∧ thF A x y = z ∧ thF A x z = y := fun x y z hx hy hz h1 h2 h3 e1 e2 e3 hm => by
    have m1 : (x : Int) ∈ xat A k := (hm x).2 (.inl rfl)
    have m2 : (y : Int) ∈ xat A k := (hm y).2 (.inr (.inl rfl))
    have m3 : (z : Int) ∈ xat A k := (hm z).2 (.inr (.inr rfl))
    refine ⟨x, y, z, hx, hy, hz, h1, h2, h3, e1, e2, e3, hm, fun u => ?_, h.th_of hb m1 m2 m3 h1 h2 h3, h.th_of hb m1 m3 m2 h2 h1 (fun e => h3 e.symm)⟩
    rw [mem_take1 (by rw [h.three _ hb]; exact hi), e1]
  rcases (show i = 0 ∨ i = 1 ∨ i = 2 by omega) with rfl | rfl | rfl
  · exact fin p q r (by omega) (by omega) hr (by omega) (by omega) (by omega) (by rw [hb3]; rfl) (by rw [hb3]; rfl) (by rw [hb3]; rfl) (fun u => by rw [hb3]; simp)
  · exact fin q r p (by omega) hr (by omega) (by omega) (by omega) (by omega) (by rw [hb3]; rfl) (by rw [hb3]; rfl) (by rw [hb3]; rfl) (fun u => by rw [hb3]; simp; constructor <;> (intro h; omega))
  · exact fin r p q hr (by omega) (by omega) (by omega) (by omega) (by omega) (by rw [hb3]; rfl) (by rw [hb3]; rfl) (by rw [hb3]; rfl) (fun u => by rw [hb3]; simp; constructor <;> (intro h; omega))
/-- behind one more point -/
theorem ThS.step (h : TS P A) {k i : Nat} {S : List (List Int)} (hS : ThS P A k i S) {x y z : Nat} (hx : x < P) (hy : y < P) (hz : z < P) (h1 : x ≠ y) (h2 : x ≠ z) (h3 : y ≠ z)
    (hm : ∀ u : Int, u ∈ xat A k ↔ u = x ∨ u = y ∨ u = z) (ht : ∀ u : Int, u ∈ (xat A k).take (i + 1) ↔ u ∈ (xat A k).take i ∨ u = x) (e1 : thF A x y = z) (e2 : thF A x z = y) :
    ThS P A k (i + 1) (putS (putS S x y z) x z y) where
  sqr := putS_sqr (putS_sqr hS.sqr hx y z) hx z y
  at' u v hu hv := by
    rw [at2_putS (putS_sqr hS.sqr hx y z) hx hz, at2_putS hS.sqr hx hy, hS.at' u v hu hv]
    unfold thK
    by_cases c1 : x = u ∧ z = v
    · obtain ⟨rfl, rfl⟩ := c1
      rw [if_pos ⟨rfl, rfl⟩, if_neg h2, if_pos (.inr ⟨(ht _).2 (.inr rfl), (hm _).2 (.inr (.inr rfl))⟩), e2]
    · rw [if_neg c1]
      by_cases c2 : x = u ∧ y = v
      · obtain ⟨rfl, rfl⟩ := c2
        rw [if_pos ⟨rfl, rfl⟩, if_neg h1, if_pos (.inr ⟨(ht _).2 (.inr rfl), (hm _).2 (.inr (.inl rfl))⟩), e1]
      · rw [if_neg c2]
        by_cases c3 : u = v
        · rw [if_pos c3, if_pos c3]
        · rw [if_neg c3, if_neg c3]
          congr 1
          apply propext
          constructor
          · rintro (h | ⟨h, h'⟩)
            · exact .inl h
            · exact .inr ⟨(ht _).2 (.inl h), h'⟩
          · rintro (h | ⟨h, h'⟩)
            · exact .inl h
            · rcases (ht _).1 h with h | h
              · exact .inr ⟨h, h'⟩
              · exfalso
                have hux : u = x := by omega
                rcases (hm _).1 h' with h | h | h
                · omega
                · exact c2 ⟨hux.symm, by omega⟩
                · exact c1 ⟨hux.symm, by omega⟩
/-- behind one more block -/
theorem ThS.next (h : TS P A) {k : Nat} (hk : k < A.length) {S : List (List Int)} (hS : ThS P A k 3 S) : ThS P A (k + 1) 0 S where
  sqr := hS.sqr
  at' u v hu hv := by
    rw [hS.at' u v hu hv]
    unfold thK
    by_cases c3 : u = v
    · rw [if_pos c3, if_pos c3]
    · rw [if_neg c3, if_neg c3]
      have ht : (xat A k).take 3 = xat A k := by rw [← h.three _ (xat_mem hk), List.take_length]
      rw [ht]
      congr 1
      apply propext
      constructor
      · rintro (⟨j, hj, h⟩ | h)
        · exact .inl ⟨j, by omega, h⟩
        · exact .inl ⟨k, by omega, h⟩
      · rintro (⟨j, hj, h⟩ | ⟨h, _⟩)
        · by_cases e : j = k
          · subst e; exact .inr h
          · exact .inl ⟨j, by omega, h⟩
        · simp at h
/-- all blocks -/
theorem ThS.all (h : TS P A) {S : List (List Int)} (hS : ThS P A A.length 0 S) : S = sqF P fun x y => (thF A x y : Int) :=
  sq_ext hS.sqr (sqF_sqr P _) fun x y hx hy => by
    rw [hS.at' x y hx hy, at2_sqF hx hy]
    unfold thK
    by_cases e : x = y
    · rw [if_pos e]; subst e; rw [thF_self]
    · rw [if_neg e, if_pos]
      obtain ⟨i, hi, h1, _⟩ := h.one hx hy e
      exact .inl ⟨i, hi, h1⟩
end
end Go.Proofs.YtegmjlblehjccaaGreat
end

section
/- Walks: pairs and parameters of the reference. -/
namespace Go.Proofs.YtegmjlblehjccaaGreat
set_option linter.unusedSimpArgs false
set_option linter.unusedVariables false
open Go.RowKit
attribute [local go_sem ↓] Go.wp_at_zero Go.wp_at_succ

theorem parF_snoc {A : List (List Int)} {i x y : Nat} (hi : i < A.length) : parF (A.take (i + 1)) x y = parF (A.take i) x y + if (decide ((x : Int) ∈ xat A i) && decide ((y : Int) ∈ xat A i)) = true then 1 else 0 := by
  unfold parF; rw [take_xat hi, cntD_snoc]
theorem parR_take {P : Nat} {A : List (List Int)} {x t : Nat} (ht : t < P - (x + 1)) : (parR P A x).take (t + 1) = (parR P A x).take t ++ [parF A x (x + 1 + t)] := by
  rw [List.take_add_one, List.getElem?_eq_getElem (by simp [parR]; exact ht)]
  simp [parR]
set_option maxHeartbeats 4000000 in
set_option maxRecDepth 100000 in
theorem l10Pairs_c (P : Nat) (g : Nat) (v : Value) (us : List Value) (A : List (List Int)) (w : World) (hv : RII w v us A) (hb : BoxD w g P v) (hP : P ≤ 32) (hDl : A.length ≤ 128) :
    Calls Tryz.prog 166 #[.pointer (some ⟨g, 0, none⟩)] w (MakesI w (parL P A)) := by
  have hln := hv.len
  have hixe := hv.ixe
  have hS1 := St.emp0 (w := w)
  go_enter Tryz.func166, Tryz.ntmps166
  go_wp2_with fail
  go_loopw [3, 4, 5, 6, 7] (fun o i _ _ _ wr => ∃ x : Nat, x ≤ P ∧ i = .int .i64 x ∧ St w.heap.size w wr [row 2 o (iv (parK P A x))]) (fun _ i _ _ _ _ => P - (intOf i).toNat)
  case atStart => exact ⟨0, by omega, rfl, hS1⟩
  case round =>
    clear hS1
    obtain ⟨x, hx, rfl, hS⟩ := hrel
    have b0 := (hS.oldBoxD hb).1
    by_cases hxP : x < P
    · have hKs := Lib.hid (parK_succ P A x)
      have hS' := hS
      rw [show parK P A x = parK P A x ++ (parR P A x).take 0 by simp] at hS'
      clear hS
      go_wp2_with fail
      obtain ⟨wo, rfl⟩ : ∃ wo : World, wo = wr := ⟨_, rfl⟩
      go_loopw [3, 5, 6, 7] (fun o i _ _ wr => ∃ t : Nat, t ≤ P - (x + 1) ∧ i = .int .i64 ((x : Int) + 1 + t) ∧ St w.heap.size w wr [row 2 o (iv (parK P A x ++ (parR P A x).take t))]) (fun _ i _ _ _ => P - (intOf i).toNat)
      case atStart => exact ⟨0, by omega, by simp, hS'⟩
      case round =>
        clear hS' b0
        obtain ⟨t, ht, rfl, hS⟩ := hrel
        have b0 := (hS.oldBoxD hb).1
        by_cases htP : t < P - (x + 1)
        · obtain ⟨y, hy⟩ : ∃ y : Nat, x + 1 + t = y := ⟨_, rfl⟩
          have hyi : (x : Int) + 1 + t = (y : Int) := by omega
          have Ht := Lib.hid (parR_take (P := P) (A := A) (x := x) htP)
          rw [hy] at Ht
          have hyP : (y : Int) < P := by omega
          rw [hyi]
          have Hy := Lib.hid hyi
          clear hyi
          go_wp2_with fail
          obtain ⟨wq, rfl⟩ : ∃ wq : World, wq = wr := ⟨_, rfl⟩
          go_loopw [6, 7] (fun n i wr => ∃ k : Nat, k ≤ A.length ∧ i = .int .i64 k ∧ n = .int .i64 (parF (A.take k) x y) ∧ wr = wq) (fun _ i _ => A.length - (intOf i).toNat)
          case atStart => exact ⟨0, by omega, rfl, by simp [parF, cntD], rfl⟩
          case round =>
            obtain ⟨k, hk, rfl, rfl, rfl⟩ := hrel
            have b1 := (hS.oldBoxD hb).2
            by_cases hlt : k < A.length
            · have hrk := Lib.hid ((hS.oldII hv).row k hlt)
              have ck := (hS.oldII hv).cell k hlt
              have xk := hixe (k : Int) k rfl hlt
              have HF := Lib.hid (parF_snoc (x := x) (y := y) hlt)
              have hbd := cntD_bd (fun b => decide ((x : Int) ∈ b) && decide ((y : Int) ∈ b)) (A.take k)
              rw [show cntD (fun b => decide ((x : Int) ∈ b) && decide ((y : Int) ∈ b)) (A.take k) = parF (A.take k) x y from rfl] at hbd
              have hbl : (A.take k).length ≤ 128 := by simp; omega
              have KA := l00Has_c (vat us k) (xat A k) x wr hrk.out
              have KB := l00Has_c (vat us k) (xat A k) y wr hrk.out
              generalize decide ((x : Int) ∈ xat A k) = ba at *
              generalize decide ((y : Int) ∈ xat A k) = bb at *
              have KA := Lib.hid KA
              have KB := Lib.hid KB
              generalize parF (A.take k) x y = q at *
              generalize (A.take k).length = q' at *
              cases ba
              · go_wp2_with (go_at_call 156; refine KA.out.mono ?_; rintro e w1 ⟨rfl, rfl⟩)
                go_roundw
                case rel => exact ⟨k + 1, by omega, by go_num, by rw [HF.out]; simp, by first | trivial | rfl⟩
                case measure => simp [intOf]; omega
              · cases bb
                · go_wp2_with fail
                  refine KA.out.mono ?_
                  rintro e w1 ⟨rfl, rfl⟩
                  go_wp2_with fail
                  refine KB.out.mono ?_
                  rintro e w1 ⟨rfl, rfl⟩
                  go_wp2_with fail
                  go_roundw
                  case rel => exact ⟨k + 1, by omega, by go_num, by rw [HF.out]; simp, by first | trivial | rfl⟩
                  case measure => simp [intOf]; omega
                · go_wp2_with fail
                  refine KA.out.mono ?_
                  rintro e w1 ⟨rfl, rfl⟩
                  go_wp2_with fail
                  refine KB.out.mono ?_
                  rintro e w1 ⟨rfl, rfl⟩
                  go_wp2_with fail
                  go_roundw
                  case rel => exact ⟨k + 1, by omega, by go_num, by rw [HF.out]; simp, by first | trivial | rfl⟩
                  case measure => simp [intOf]; omega
            · obtain rfl : k = A.length := by omega
              rw [List.take_length]
              have hml := Lib.hid (show (parK P A x ++ (parR P A x).take t).length < 4294967296 by
                have := parK_len P A x
                have h2 : x * P ≤ 32 * 32 := Nat.mul_le_mul (by omega) (by omega)
                have : (parR P A x).length ≤ P := by simp [parR]
                simp only [List.length_append, List.length_take]; omega)
              go_wp2_with (at_builtin; refine appI hS 0 rfl hml.out rfl _ _ rfl rfl _ rfl ?_; intro v8 w8 hS8)
              simp only [List.set_cons_zero] at hS8
              rw [List.append_assoc, ← Ht.out] at hS8
              go_roundw
              case rel => exact ⟨t + 1, by omega, by have := Hy.out; go_num, hS8⟩
              case measure => have := Hy.out; simp [intOf]; omega
        · obtain rfl : t = P - (x + 1) := by omega
          rw [List.take_of_length_le (by simp [parR]), ← hKs.out] at hS
          have hge : ¬ ((x : Int) + 1 + ((P - (x + 1) : Nat) : Int)) < P := by omega
          go_wp2_with fail
          go_roundw
          case rel => exact ⟨x + 1, by omega, by go_num, hS⟩
          case measure => simp [intOf]; omega
    · obtain rfl : x = P := by omega
      rw [parK_end] at hS
      go_wp2_with fail
      go_ret
      exact ⟨_, rfl, hS⟩
end Go.Proofs.YtegmjlblehjccaaGreat
end
