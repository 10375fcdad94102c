/- The texts of this claim, run 9: Pj2 Ds9 DsA Pn1 Pn4 Pj3 Nw Fop. -/
import Derived.Test.YtdlmohigkkdegaaGreatK3
import Derived.Test.YtdlmohigkkdegaaGreatK4
import Derived.Test.YtdlmohigkkdegaaGreatK5
import Derived.Test.YtdlmohigkkdegaaGreatK6
import Derived.Test.YtdlmohigkkdegaaGreatK7
import Derived.Test.YtdlmohigkkdegaaGreatK8
import Derived.IntWalk
import Derived.Deep.RegionHeld3
import Derived.Deep.DrawnRows
section
/- Walk: the projective plane of a field, of the program. -/
namespace Go.Proofs.YtdlmohigkkdegaaGreat
set_option linter.unusedSimpArgs false
set_option linter.unusedVariables false
open Go.RowKit
attribute [local go_sem ↓] Go.wp_at_zero Go.wp_at_succ

theorem run_ix_r3 {P : Program} {g n c : Nat} {e : TypeId} (t : TypeId) (ht : P.underlying t = some (.slice e)) (he : (P.info? e).map (·.size) = some 3)
    (k : IntKind) (i : Nat) (hi : i < n) (w : World) :
    (Instr.indexAt t (.slice (some ⟨g, 0, none⟩) n c) (.int k i)).run P w = .ok (.pointer (some ⟨g, 3 * i, none⟩)) w := by
  obtain ⟨inf, hinf, hs⟩ := Option.map_eq_some_iff.1 he
  simp [Instr.indexAt, run_underlying ht, asIntOf, hi, sizeOf, typeInfo, hinf, hs, Addr.add, Nat.mul_comm]
  try omega
theorem run_ix_ar {P : Program} {g n : Nat} {e : TypeId} (t : TypeId) (ht : P.underlying t = some (.array n e)) (he : (P.info? e).map (·.size) = some 1)
    (k : IntKind) (i : Nat) (hi : i < n) (w : World) :
    (Instr.indexAt t (.pointer (some ⟨g, 0, none⟩)) (.int k i)).run P w = .ok (.pointer (some ⟨g, i, none⟩)) w := by
  obtain ⟨inf, hinf, hs⟩ := Option.map_eq_some_iff.1 he
  simp [Instr.indexAt, Instr.sureAddr, run_underlying ht, asIntOf, hi, sizeOf, typeInfo, hinf, hs, Addr.add]
  try omega
theorem flat3 : ∀ (X : List (List Int)) (k i : Nat), (∀ u ∈ X, u.length = 3) → k < X.length → i < 3 → X.flatten[3 * k + i]? = (xat X k)[i]?
  | [], k, i, _, h, _ => by simp at h
  | u :: X, 0, i, h3, _, hi => by
    have := h3 u (List.mem_cons_self ..)
    rw [List.flatten_cons, List.getElem?_append_left (by omega)]; simp [xat]
  | u :: X, k + 1, i, h3, hk, hi => by
    have h0 := h3 u (List.mem_cons_self ..)
    have := flat3 X k i (fun u hu => h3 u (List.mem_cons_of_mem _ hu)) (by simpa using hk) hi
    rw [List.flatten_cons, List.getElem?_append_right (by omega), show 3 * (k + 1) + i - u.length = 3 * k + i by omega, this]
    simp [xat]
/-- the entries of a point -/
def P3 (q : Nat) (X : List (List Int)) : Prop := ∀ k < X.length, ∃ a b c : Int, xat X k = [a, b, c] ∧ (0 ≤ a ∧ a < q) ∧ (0 ≤ b ∧ b < q) ∧ (0 ≤ c ∧ c < q)
theorem pp_3 (q : Nat) (h : 2 ≤ q) : P3 q (ppB q q) := by
  have hall : ∀ u ∈ ppB q q, ∃ a b c : Int, u = [a, b, c] ∧ (0 ≤ a ∧ a < q) ∧ (0 ≤ b ∧ b < q) ∧ (0 ≤ c ∧ c < q) := by
    intro u hu
    simp only [ppB, ppA, List.mem_append, List.mem_cons, List.mem_map, List.mem_flatMap, List.mem_range] at hu
    rcases hu with (rfl | ⟨z, hz, rfl⟩) | ⟨y, hy, z, hz, rfl⟩
    · exact ⟨_, _, _, rfl, by omega, by omega, by omega⟩
    · exact ⟨_, _, _, rfl, by omega, by omega, by omega⟩
    · exact ⟨_, _, _, rfl, by omega, by omega, by omega⟩
  intro k hk
  have he : xat (ppB q q) k = (ppB q q)[k] := by simp [xat, hk]
  rw [he]
  exact hall _ (List.getElem_mem hk)
theorem P3.len {q : Nat} {X : List (List Int)} (h : P3 q X) : ∀ u ∈ X, u.length = 3 := by
  intro u hu
  obtain ⟨k, hk, rfl⟩ := List.getElem_of_mem hu
  obtain ⟨a, b, c, he, _⟩ := h k hk
  have he2 : xat X k = X[k] := by simp [xat, hk]
  rw [← he2, he]; rfl
theorem P3.cs {q : Nat} {X : List (List Int)} (h : P3 q X) {cs : List Value} (hc : cs.take (3 * X.length) = iv X.flatten) {k : Nat} (hk : k < X.length) {a b c : Int} (he : xat X k = [a, b, c]) :
    cs[3 * k]? = some (.int .i64 a) ∧ cs[3 * k + 1]? = some (.int .i64 b) ∧ cs[3 * k + 2]? = some (.int .i64 c) := by
  have g := fun i (hi : i < 3) => flat3 X k i h.len hk hi
  have t := fun i (hi : i < 3) => (List.getElem?_take_of_lt (l := cs) (show 3 * k + i < 3 * X.length by omega)).symm
  refine ⟨?_, ?_, ?_⟩
  · show cs[3 * k + 0]? = _
    rw [t 0 (by omega), hc, iv, List.getElem?_map, g 0 (by omega), he]; rfl
  · rw [t 1 (by omega), hc, iv, List.getElem?_map, g 1 (by omega), he]; rfl
  · rw [t 2 (by omega), hc, iv, List.getElem?_map, g 2 (by omega), he]; rfl
theorem sz3_c (g n c : Nat) (w : World) : Calls Tryz.prog 49 #[.slice (some ⟨g, 0, none⟩) n c] w fun e w' => e = .returned (.int .i64 n) ∧ w = w' := by
  go_enter Tryz.func49, Tryz.ntmps49
  go_wp2_with fail
  go_ret
  exact ⟨rfl, rfl⟩
theorem dtS_lim {p : Int} {D : Nat} {fs : List Int} {n : Nat} (hp : p ^ D = (n : Int)) (hf : FV p D fs) (hn : 0 < n) (u v : List Int) (i : Nat) : 0 ≤ dtS p D fs u v i ∧ dtS p D fs u v i < n := by
  cases i with
  | zero => exact ⟨Int.le_refl _, by simp only [dtS]; omega⟩
  | succ i => have := fsum_el (D := D) (show 0 < p by have := hf.p2; omega) (dtS p D fs u v i) (fmul p D fs (nth u i) (nth v i)) 1; rw [dtS, ← hp]; exact this
theorem pjR_len (p : Int) (D : Nat) (fs : List Int) (X : List (List Int)) (u : List Int) (k : Nat) : (pjR p D fs X u k).length ≤ k := by
  induction k with
  | zero => simp [pjR]
  | succ k ih =>
    rw [pjR]
    split
    · simp; omega
    · omega
theorem pjQ_len (p : Int) (D : Nat) (fs : List Int) (X : List (List Int)) (j : Nat) : (pjQ p D fs X j).length = j := by
  induction j with
  | zero => rfl
  | succ j ih => rw [pjQ, List.length_append, ih]; rfl
theorem ProjectivePlane_no (q : Int) (w : World) (hb : 5 < q ∨ mkOk q = false) : Calls Tryz.prog 8 #[.int .i64 q] w (MakesD w 0 [] 2) := by
  have hS0 := (St.refl w).newboxF 27 #[.int .i64 0, .slice none 0 0]
  have HM := fun W => Lib.hid (MakeField_c q W)
  by_cases hm : mkOk q = false
  · have h1 : mkfC q = 2 := by rw [mkfC, hm]; rfl
    rw [h1] at HM
    generalize mkfP q = a1 at *
    generalize mkfD q = a2 at *
    generalize mkfL q = a3 at *
    clear hb hm h1
    go_enter Tryz.func8, Tryz.ntmps8
    go_wp2_with (go_at_call 17; refine (HM _).out.mono ?_; rintro e2 w2 ⟨v2, rfl, h2⟩; obtain ⟨va, vc, hvs⟩ := (h2.rdI 0 rfl).sl.sh; subst hvs; unfold fv; have hB := (hS0.call0 h2.out).newboxF 42 #[.int .i64 a1, .int .i64 a2, .slice va (iv a3).length vc]; have e0 := hB.bcell 1 rfl 0 rfl; have e1 := hB.bcell 1 rfl 1 rfl; have f0 := hB.bfree 1 rfl; have h6 := (hB.bstore 1 rfl 0 (.int .i64 0)).bstore 1 rfl 1 (.slice none 0 0); have d0 := h6.bcell 1 rfl 0 rfl; have d1 := h6.bcell 1 rfl 1 rfl)
    refine bodyPost_ret (v := .tuple #[.agg #[.int .i64 0, .slice none 0 0], .int .i64 2]) (by simp [results, Tryz.results8, go_sem, d0, d1]) rfl ?_
    exact MakesD.no h6
  · have hm : mkOk q = true := by simpa using hm
    have h5 : 5 < q := hb.resolve_right (by rw [hm]; simp)
    obtain ⟨n, rfl, h2, h64, -⟩ := mkOk_t hm
    have h1 : mkfC n = 0 := by rw [mkfC, hm]; rfl
    rw [h1] at HM
    have hq1 : (32 : Int) < (n : Int) * n := by
      have : 6 * 6 ≤ n * n := Nat.mul_le_mul (by omega) (by omega)
      omega
    have hq2 : (n : Int) * n ≤ 4096 := by
      have : n * n ≤ 64 * 64 := Nat.mul_le_mul h64 h64
      omega
    have w1 : IntKind.i64.wrap ((n : Int) * n) = (n : Int) * n := IntWalk.i64_in _ (by omega)
    have w2 : IntKind.i64.wrap ((n : Int) * n + n) = (n : Int) * n + n := IntWalk.i64_in _ (by omega)
    have w3 : IntKind.i64.wrap ((n : Int) * n + n + 1) = (n : Int) * n + n + 1 := IntWalk.i64_in _ (by omega)
    have hq3 : (32 : Int) < (n : Int) * n + n + 1 := by omega
    generalize mkfP n = a1 at *
    generalize mkfD n = a2 at *
    generalize mkfL n = a3 at *
    clear hb hm h1
    go_enter Tryz.func8, Tryz.ntmps8
    go_wp2_with (go_at_call 17; refine (HM _).out.mono ?_; rintro e2 w2 ⟨v2, rfl, h2⟩; obtain ⟨va, vc, hvs⟩ := (h2.rdI 0 rfl).sl.sh; subst hvs; unfold fv; have hB := (hS0.call0 h2.out).newboxF 42 #[.int .i64 a1, .int .i64 a2, .slice va (iv a3).length vc]; have e0 := hB.bcell 1 rfl 0 rfl; have e1 := hB.bcell 1 rfl 1 rfl; have f0 := hB.bfree 1 rfl; have h6 := (hB.bstore 1 rfl 0 (.int .i64 0)).bstore 1 rfl 1 (.slice none 0 0); have d0 := h6.bcell 1 rfl 0 rfl; have d1 := h6.bcell 1 rfl 1 rfl)
    refine bodyPost_ret (v := .tuple #[.agg #[.int .i64 0, .slice none 0 0], .int .i64 2]) (by simp [results, Tryz.results8, go_sem, d0, d1]) rfl ?_
    exact MakesD.no h6
set_option maxHeartbeats 16000000 in
set_option maxRecDepth 100000 in
theorem ProjectivePlane_c (q : Nat) (w : World) (hm : mkOk q = true) (q2 : 2 ≤ q) (q5 : q ≤ 5) (hlu : (pjU q).length ≤ 128) : Calls Tryz.prog 8 #[.int .i64 q] w (MakesD w (q * q + q + 1 : Nat) (pjB q) 0) := by
  obtain ⟨n, p, D, fs, hn, hf, h1, h2, h3, h4⟩ := mk_fq hm (by omega)
  obtain rfl : n = q := by omega
  have hS0 := (St.refl w).newboxF 27 #[.int .i64 0, .slice none 0 0]
  have HM := Lib.hid (MakeField_c n (w.alloc (.cells #[.int .i64 0, .slice none 0 0] 27)))
  have HP := fun W => Lib.hid (projectivePoints_c n W (by omega))
  have hBe : pjB n = srtL (pjU n) := rfl
  have hUe : pjU n = pjQ (mkfP n) (mkfD n).toNat (mkfL n) (ppB n n) (ppB n n).length := rfl
  rw [h1, h2, h3, h4] at HM
  rw [h1, h2, h3, Int.toNat_natCast] at hUe
  have hX3 := pp_3 n q2
  have hXl := ppB_len n n
  have HX2 : (ppB n n).length ≤ 31 := by
    rw [hXl]
    have : n * n ≤ 5 * 5 := Nat.mul_le_mul q5 q5
    omega
  have HXl := Lib.hid hXl
  clear hXl
  generalize hX : ppB n n = X at *
  have Hlim := fun u v i => Lib.hid (dtS_lim hf.pow hf.fv (by omega) u v i)
  have HXm := fun (a b : Int) => Lib.hid ((fmul_el (p := p) (D := D) hf.fv.fa a b).lim hf.fv)
  have KPr := fun v W a b (hW : RdI W v fs) a0 a1 b0 b1 => Lib.hid (product_c p D v fs a b W hW hf.fv a0 a1 b0 b1)
  have KCo := fun v W a b (hW : RdI W v fs) a0 a1 b0 b1 => Lib.hid (combine_c p D v fs a b 1 W hW hf.fv a0 a1 b0 b1 (.inl rfl))
  have hqq : (n : Int) * n ≤ 25 ∧ 0 ≤ (n : Int) * n := by
    have : n * n ≤ 5 * 5 := Nat.mul_le_mul q5 q5
    omega
  have wq1 : IntKind.i64.wrap ((n : Int) * n) = (n : Int) * n := IntWalk.i64_in _ (by omega)
  have wq2 : IntKind.i64.wrap ((n : Int) * n + n) = (n : Int) * n + n := IntWalk.i64_in _ (by omega)
  have wq3 : IntKind.i64.wrap ((n : Int) * n + n + 1) = (n : Int) * n + n + 1 := IntWalk.i64_in _ (by omega)
  have hq32 : ¬ (32 : Int) < (n : Int) * n + n + 1 := by omega
  have HB := Lib.hid hBe
  have HU := Lib.hid hUe
  have HX3 := Lib.hid hX3
  have Hhx := Lib.hid hX
  clear hf h1 h2 h3 h4 hm hn hX3 hX hBe hUe
  go_enter Tryz.func8, Tryz.ntmps8
  go_wp2_with (first
    | (go_at_call 17; refine HM.out.mono ?_; rintro e2 w2 ⟨v2, rfl, h2⟩; obtain ⟨va, vc, hvs⟩ := (h2.rdI 0 rfl).sl.sh; rw [iv_len] at hvs; subst hvs; unfold fv; have hB := (hS0.call h2).newboxF 42 #[.int .i64 p, .int .i64 D, .slice va fs.length vc])
    | (go_at_call 45; refine (HP _).out.mono ?_; rintro e3 w3 ⟨v3, rfl, h3⟩; obtain ⟨gp, cs, h3, ⟨cap, rfl, -⟩, hcs⟩ := h3; have hC := hB.call h3))
  clear HM HP hS0 h2 hB h3
  try rw [Hhx.out] at hcs
  obtain ⟨LB, hLB⟩ : ∃ LB : List Ent, LB = [box 42 w2.heap.size [.int .i64 p, .int .i64 D, .slice va fs.length vc], box 27 w.heap.size [.int .i64 0, .slice none 0 0], row 2 (.slice va fs.length vc) (iv fs), box 72 gp cs] := ⟨_, rfl⟩
  have hS1 := (hC.newnil 32).perm (L' := own2 (.slice none 0 0) [] (pjQ p D fs X 0) ++ LB) (by rw [hLB, show pjQ p D fs X 0 = [] from rfl, own2_nil']; exact List.perm_append_comm)
  have hbx : Hid (LB[0]? = some (box 42 w2.heap.size [.int .i64 p, .int .i64 D, .slice va fs.length vc])) := Lib.hid (by rw [hLB]; rfl)
  have hrw : Hid (LB[2]? = some (row 2 (.slice va fs.length vc) (iv fs))) := Lib.hid (by rw [hLB]; rfl)
  have hbp : Hid (LB[3]? = some (box 72 gp cs)) := Lib.hid (by rw [hLB]; rfl)
  have HLB := Lib.hid hLB
  have Hcs := fun k (hk : k < X.length) a b c (he : xat X k = [a, b, c]) => Lib.hid (HX3.out.cs hcs hk he)
  have Hix := fun k (hk : k < X.length) W => run_ix_r3 (P := Tryz.prog) (g := gp) (n := X.length) (c := cap) 70 Tryz.und_i3s (by kernel_rfl) .i64 k hk W
  clear hC hLB hcs
  unfold fv at KPr KCo
  try rw [Hhx.out]
  go_loopw [36, 7, 9, 10, 11, 12, 13, 14] (fun i o _ _ _ _ _ _ wr => ∃ (j : Nat) (v2 : Value) (us : List Value), v2 = o ∧ j ≤ X.length ∧ i = .int .i64 j ∧ Hid (us.length = (pjQ p D fs X j).length) ∧ St w.heap.size w wr (own2 v2 us (pjQ p D fs X j) ++ LB)) (fun i _ _ _ _ _ _ _ _ => X.length - (intOf i).toNat)
  case atStart => exact ⟨0, _, [], rfl, by omega, rfl, rfl, hS1⟩
  case round =>
    clear hS1
    obtain ⟨j, v2, us, rfl, hj, rfl, hlu2, hS⟩ := hrel
    by_cases hjt : j < X.length
    · obtain ⟨a, b, c, hu, ha, hb, hc⟩ := HX3.out j hjt
      have hix := Hix j hjt
      have hcc := (Hcs j hjt a b c hu).out
      have k0 := hS.bcell _ (at_app hbp.out) _ hcc.1
      have k1 := hS.bcell _ (at_app hbp.out) _ hcc.2.1
      have k2 := hS.bcell _ (at_app hbp.out) _ hcc.2.2
      clear hcc
      have hS' := ((hS.newboxF 72 #[.int .i64 a, .int .i64 b, .int .i64 c]).newnil 2).perm (L' := row 2 (.slice none 0 0) (iv (pjR p D fs X (xat X j) 0)) :: box 72 wr.heap.size [.int .i64 a, .int .i64 b, .int .i64 c] :: (own2 v2 us (pjQ p D fs X j) ++ LB)) List.perm_append_comm
      go_wp2_with fail
      generalize wr.heap.size = g9 at *
      clear hS k0 k1 k2
      have Hu := Lib.hid hu
      clear hu hix
      go_loopw [42, 10, 11, 12, 13, 14] (fun i o _ _ _ _ wr => ∃ (k : Nat) (v3 : Value), v3 = o ∧ k ≤ X.length ∧ i = .int .i64 k ∧ St w.heap.size w wr (row 2 v3 (iv (pjR p D fs X (xat X j) k)) :: box 72 g9 [.int .i64 a, .int .i64 b, .int .i64 c] :: (own2 v2 us (pjQ p D fs X j) ++ LB))) (fun i _ _ _ _ _ _ => X.length - (intOf i).toNat)
      case atStart => exact ⟨0, _, rfl, by omega, rfl, hS'⟩
      case round =>
        clear hS'
        obtain ⟨k, v3, rfl, hk, rfl, hS⟩ := hrel
        by_cases hkt : k < X.length
        · obtain ⟨a2, b2, c2, hv, ha2, hb2, hc2⟩ := HX3.out k hkt
          have hix := Hix k hkt
          have hcc := (Hcs k hkt a2 b2 c2 hv).out
          have k0 := hS.bcell _ (at_cons (at_cons (at_app hbp.out))) _ hcc.1
          have k1 := hS.bcell _ (at_cons (at_cons (at_app hbp.out))) _ hcc.2.1
          have k2 := hS.bcell _ (at_cons (at_cons (at_app hbp.out))) _ hcc.2.2
          clear hcc
          have hS' := hS.newboxF 72 #[.int .i64 a2, .int .i64 b2, .int .i64 c2]
          go_wp2_with fail
          generalize wr.heap.size = g12 at *
          clear hS k0 k1 k2 hix
          have Hv := Lib.hid hv
          clear hv
          go_loopw [47, 13, 14] (fun i s _ wr => ∃ (e : Nat), e ≤ 3 ∧ i = .int .i64 e ∧ s = .int .i64 (dtS p D fs (xat X j) (xat X k) e) ∧ St w.heap.size w wr (box 72 g12 [.int .i64 a2, .int .i64 b2, .int .i64 c2] :: row 2 v3 (iv (pjR p D fs X (xat X j) k)) :: box 72 g9 [.int .i64 a, .int .i64 b, .int .i64 c] :: (own2 v2 us (pjQ p D fs X j) ++ LB))) (fun i _ _ _ => 3 - (intOf i).toNat)
          case atStart => exact ⟨0, by omega, rfl, rfl, hS'⟩
          case round =>
            clear hS'
            obtain ⟨e, he, rfl, rfl, hS⟩ := hrel
            by_cases het : e < 3
            · have cu : ([.int .i64 a, .int .i64 b, .int .i64 c] : List Value)[e]? = some (.int .i64 (nth (xat X j) e)) ∧ 0 ≤ nth (xat X j) e ∧ nth (xat X j) e ≤ 1000000 := by
                rw [Hu.out]
                obtain rfl | rfl | rfl : e = 0 ∨ e = 1 ∨ e = 2 := by omega
                · exact ⟨rfl, by simp [nth]; omega, by simp [nth]; omega⟩
                · exact ⟨rfl, by simp [nth]; omega, by simp [nth]; omega⟩
                · exact ⟨rfl, by simp [nth]; omega, by simp [nth]; omega⟩
              have cv : ([.int .i64 a2, .int .i64 b2, .int .i64 c2] : List Value)[e]? = some (.int .i64 (nth (xat X k) e)) ∧ 0 ≤ nth (xat X k) e ∧ nth (xat X k) e ≤ 1000000 := by
                rw [Hv.out]
                obtain rfl | rfl | rfl : e = 0 ∨ e = 1 ∨ e = 2 := by omega
                · exact ⟨rfl, by simp [nth]; omega, by simp [nth]; omega⟩
                · exact ⟨rfl, by simp [nth]; omega, by simp [nth]; omega⟩
                · exact ⟨rfl, by simp [nth]; omega, by simp [nth]; omega⟩
              have HSc := Lib.hid (show dtS p D fs (xat X j) (xat X k) (e + 1) = fsum p D (dtS p D fs (xat X j) (xat X k) e) (fmul p D fs (nth (xat X j) e) (nth (xat X k) e)) 1 from rfl)
              have hl := (Hlim (xat X j) (xat X k) e).out
              have hx := (HXm (nth (xat X j) e) (nth (xat X k) e)).out
              have hfr := hS.rdI _ (at_cons (at_cons (at_cons (at_app hrw.out))))
              have hia := fun W => run_ix_ar (P := Tryz.prog) (g := g9) 72 (n := 3) (e := 2) (by kernel_rfl) (by kernel_rfl) .i64 e het W
              have hib := fun W => run_ix_ar (P := Tryz.prog) (g := g12) 72 (n := 3) (e := 2) (by kernel_rfl) (by kernel_rfl) .i64 e het W
              have b0 := hS.bcell _ (at_cons (at_cons (at_cons (at_app hbx.out)))) 0 rfl
              have b1 := hS.bcell _ (at_cons (at_cons (at_cons (at_app hbx.out)))) 1 rfl
              have b2 := hS.bcell _ (at_cons (at_cons (at_cons (at_app hbx.out)))) 2 rfl
              have b3 := hS.bcell 2 rfl e cu.1
              have b4 := hS.bcell 0 rfl e cv.1
              have q0 : ∀ s : SS wr.heap.size wr [], s.w.cell? ⟨w2.heap.size, 0, none⟩ = some (.int .i64 p) := fun s => by rw [s.st.below.cell (World.block_lt_of_cell? _ _ b0)]; exact b0
              have q1 : ∀ s : SS wr.heap.size wr [], s.w.cell? ⟨w2.heap.size, 1, none⟩ = some (.int .i64 D) := fun s => by rw [s.st.below.cell (World.block_lt_of_cell? _ _ b1)]; exact b1
              have q2 : ∀ s : SS wr.heap.size wr [], s.w.cell? ⟨w2.heap.size, 2, none⟩ = some (.slice va fs.length vc) := fun s => by rw [s.st.below.cell (World.block_lt_of_cell? _ _ b2)]; exact b2
              have q3 : ∀ s : SS wr.heap.size wr [], s.w.cell? ⟨g9, e, none⟩ = some (.int .i64 (nth (xat X j) e)) := fun s => by rw [s.st.below.cell (World.block_lt_of_cell? _ _ b3)]; exact b3
              have q4 : ∀ s : SS wr.heap.size wr [], s.w.cell? ⟨g12, e, none⟩ = some (.int .i64 (nth (xat X k) e)) := fun s => by rw [s.st.below.cell (World.block_lt_of_cell? _ _ b4)]; exact b4
              have KP := fun s : SS wr.heap.size wr [] => KPr (.slice va fs.length vc) s.w (nth (xat X j) e) (nth (xat X k) e) (s.st.oldI hfr) cu.2.1 cu.2.2 cv.2.1 cv.2.2
              have KC := fun s : SS wr.heap.size wr [] => KCo (.slice va fs.length vc) s.w (dtS p D fs (xat X j) (xat X k) e) (fmul p D fs (nth (xat X j) e) (nth (xat X k) e)) (s.st.oldI hfr) hl.1 (by omega) hx.1 hx.2
              clear cu cv hl hx b0 b1 b2 b3 b4 hfr
              generalize fsum p D (dtS p D fs (xat X j) (xat X k) e) (fmul p D fs (nth (xat X j) e) (nth (xat X k) e)) 1 = R at *
              generalize fmul p D fs (nth (xat X j) e) (nth (xat X k) e) = M at *
              generalize nth (xat X j) e = ue at *
              generalize nth (xat X k) e = ve at *
              have hT := St.refl wr
              go_wp2_with fail
              have hne : Nonempty (SS _ _ _) := ⟨⟨_, hT⟩⟩
              refine wp_region_st (by kernel_rfl) (by kernel_rfl) hT ?_
              repeat (go_big_quiet_step ((first | (go_at_call 47; exact st_quiet (KP _).out) | (go_at_call 46; exact st_quiet (KC _).out))))
              refine wpQuiet_nil ?_
              rintro _ ⟨s2, rfl⟩
              have hT5 := s2.st
              generalize s2.w = w5 at hT5 ⊢
              have hS5 := hS.call0 hT5
              go_wp2_with fail
              go_roundw
              case rel => exact ⟨e + 1, by omega, by go_num, by rw [HSc.out], hS5⟩
              case measure => simp [intOf]; omega
            · obtain rfl : e = 3 := by omega
              have HSk := Lib.hid (show pjR p D fs X (xat X j) (k + 1) = if dtS p D fs (xat X j) (xat X k) 3 = 0 then pjR p D fs X (xat X j) k ++ [(k : Int)] else pjR p D fs X (xat X j) k from rfl)
              have hS6 := hS.sub (List.sublist_cons_self _ _)
              by_cases hz : dtS p D fs (xat X j) (xat X k) 3 = 0
              · rw [if_pos hz] at HSk
                have hN := Lib.hid (show (pjR p D fs X (xat X j) k).length < 4294967296 by have := pjR_len p D fs X (xat X j) k; omega)
                rw [hz]
                go_wp2_with (at_builtin; refine appI hS6 0 rfl hN.out rfl _ _ rfl rfl _ (by first | rfl | simp [Act.eval, Act.put]) ?_; intro v5 w5 hS5; simp only [List.set_cons_zero] at hS5)
                rw [← HSk.out] at hS5
                go_roundw
                case rel => exact ⟨k + 1, _, rfl, by omega, by go_num, hS5⟩
                case measure => simp [intOf]; omega
              · rw [if_neg hz] at HSk
                generalize dtS p D fs (xat X j) (xat X k) 3 = z at *
                go_wp2_with fail
                rw [← HSk.out] at hS6
                go_roundw
                case rel => exact ⟨k + 1, _, rfl, by omega, by go_num, hS6⟩
                case measure => simp [intOf]; omega
        · obtain rfl : k = X.length := by omega
          obtain ⟨qa, qc, hq⟩ := (hS.rdI 0 rfl).sl.sh
          rw [iv_len] at hq
          have hpl := pjR_len p D fs X (xat X j) X.length
          have hS7 := (hS.perm (List.Perm.swap _ _ _) |>.sub (List.sublist_cons_self _ _)).perm (L' := own2 v2 us (pjQ p D fs X j) ++ LB ++ [row 2 v3 (iv (pjR p D fs X (xat X j) X.length))]) (List.perm_append_singleton _ _).symm
          have hN := Lib.hid (show us.length < 4294967296 by rw [hlu2.out, pjQ_len]; omega)
          have HSj := Lib.hid (show pjQ p D fs X (j + 1) = pjQ p D fs X j ++ [pjR p D fs X (xat X j) X.length] from rfl)
          generalize (pjR p D fs X (xat X j) X.length) = ln at *
          generalize hln : ln.length = l1 at *
          subst hq
          go_wp2_with (at_builtin; refine appII hS7 0 rfl hN.out rfl _ _ rfl rfl _ rfl rfl ?_; intro v5 w5 hS5)
          have hS8 := own2_snocL hlu2.out hS5
          rw [← HSj.out] at hS8
          have hu3 : Hid ((us ++ [Value.slice qa l1 qc]).length = (pjQ p D fs X (j + 1)).length) := Lib.hid (by rw [HSj.out]; simp [hlu2.out])
          go_roundw
          case rel => exact ⟨j + 1, _, _, rfl, by omega, by go_num, hu3, hS8⟩
          case measure => simp [intOf]; omega
    · obtain rfl : j = X.length := by omega
      rw [← HU.out] at hS hlu2
      have rR := (hS.sub (List.sublist_append_left _ _)).rii hlu2.out
      rw [HLB.out] at hS
      have hSb := hS.sub (L' := [box 27 w.heap.size [.int .i64 0, .slice none 0 0]]) (((List.Sublist.refl _).cons_cons _ |>.trans (.cons_cons _ (List.nil_sublist [row 2 (.slice va fs.length vc) (iv fs), box 72 gp cs])) |>.cons _).trans (List.sublist_append_right _ _))
      have Hrows := Lib.hid (show ∀ xs ∈ pjU n, xs.length ≤ 1048576 by
        rw [HU.out]
        have h1 : ∀ j, ∀ xs ∈ pjQ p D fs X j, xs.length ≤ X.length := fun j => by
          induction j with
          | zero => simp [pjQ]
          | succ j ih =>
            intro xs hx
            rcases List.mem_append.1 (by rw [pjQ] at hx; exact hx) with h | h
            · exact ih xs h
            · rw [List.mem_singleton.1 h]; exact pjR_len _ _ _ _ _ _
        intro xs hx
        have := h1 _ xs hx
        omega)
      have KS := Lib.hid (sorted_c (X.length : Int) v2 us _ _ rR hlu Hrows.out)
      rw [← HB.out] at KS
      have KZ := fun W => Lib.hid (sz3_c gp X.length cap W)
      have hmm : ((n * n + n + 1 : Nat) : Int) = (X.length : Int) := by rw [HXl.out]; omega
      have Hmm := Lib.hid hmm
      clear rR hS hmm
      generalize X.length = N at *
      go_wp2_with (first
        | (go_at_call 49; refine (KZ _).out.mono ?_; rintro e5 w5 ⟨rfl, rfl⟩)
        | (go_at_call 48; refine KS.out.mono ?_; rintro e4 w4 ⟨v4, us4, rfl, hl4, h4⟩; obtain ⟨a4, c4, hv4⟩ := (h4.rd 0 (e := 32) (v := v4) (us := us4) rfl).sl.sh; rw [hl4] at hv4; subst hv4; unfold dv; have hB := hSb.call h4; have e0 := hB.bcell 0 rfl 0 rfl; have e1 := hB.bcell 0 rfl 1 rfl; have f0 := hB.bfree 0 rfl; have h6 := (hB.bstore 0 rfl 0 (.int .i64 (N : Int))).bstore 0 rfl 1 (.slice a4 (pjB n).length c4); have g0 := h6.bcell 0 rfl 0 rfl; have g1 := h6.bcell 0 rfl 1 rfl))
      refine bodyPost_ret (v := .tuple #[.agg #[.int .i64 (N : Int), .slice a4 (pjB n).length c4], .int .i64 0]) (by simp [results, Tryz.results8, go_sem, g0, g1]) rfl ?_
      exact ⟨.slice a4 (pjB n).length c4, us4, by rw [Hmm.out]; rfl, hl4, h6.sub (.cons _ (.refl _))⟩
end Go.Proofs.YtdlmohigkkdegaaGreat
end

section
/- Walks: the parameters of a balanced design. -/
namespace Go.Proofs.YtdlmohigkkdegaaGreat
set_option linter.unusedSimpArgs false
set_option linter.unusedVariables false
open Go.RowKit
attribute [local go_sem ↓] Go.wp_at_zero Go.wp_at_succ

/-- parameters as a value -/
def pmV (xs : List Int) : Value := .agg #[.int .i64 (nth xs 0), .int .i64 (nth xs 1), .int .i64 (nth xs 2), .int .i64 (nth xs 3), .int .i64 (nth xs 4)]
def MakesPr (w : World) (xs : List Int) (b : Bool) (e : Ending) (w' : World) : Prop := e = .returned (.tuple #[pmV xs, .bool b]) ∧ St w.heap.size w w' []
theorem prmV_no {P : Nat} {A : List (List Int)} (h : prmB P A = false) : prmV P A = [0, 0, 0, 0, 0] := by unfold prmV; rw [if_neg (by rw [h]; decide)]
theorem MakesPr.no {w w' : World} {L : List Ent} {P : Nat} {A : List (List Int)} (h : prmB P A = false) (hS : St w.heap.size w w' L) :
    MakesPr w (prmV P A) (prmB P A) (.returned (.tuple #[.agg #[.int .i64 0, .int .i64 0, .int .i64 0, .int .i64 0, .int .i64 0], .bool false])) w' := by
  rw [prmV_no h, h]; exact ⟨rfl, hS.out⟩
theorem prm_no1 {P : Nat} {A : List (List Int)} (h : ¬ (2 ≤ P ∧ 0 < A.length ∧ 2 ≤ (xat A 0).length)) : prmB P A = false := by
  unfold prmB
  by_cases h1 : 2 ≤ P
  · by_cases h2 : 0 < A.length
    · have h3 : ¬ 2 ≤ (xat A 0).length := fun h3 => h ⟨h1, h2, h3⟩
      simp [h3]
    · simp [h2]
  · simp [h1]
theorem prm_no2 {P : Nat} {A : List (List Int)} {k : Nat} (hk : k < A.length) (h : (xat A k).length ≠ (xat A 0).length) : prmB P A = false := by
  unfold prmB
  have : (A.all fun b => b.length == (xat A 0).length) = false := by
    rw [Bool.eq_false_iff]; intro hh
    have := List.all_eq_true.1 hh _ (xat_mem hk)
    simp at this; exact h this
  rw [this]; simp
theorem prm_no3 {P : Nat} {A : List (List Int)} {k : Nat} (hk : k < (parL P A).length) (h : nth (parL P A) k ≠ nth (parL P A) 0) : prmB P A = false := by
  unfold prmB
  have : ((parL P A).all fun c => c == nth (parL P A) 0) = false := by
    rw [Bool.eq_false_iff]; intro hh
    have := List.all_eq_true.1 hh _ (nth_mem hk)
    simp at this; exact h this
  rw [this]; simp
theorem prm_yes {P : Nat} {A : List (List Int)} (h1 : 2 ≤ P ∧ 0 < A.length ∧ 2 ≤ (xat A 0).length) (h2 : ∀ k, k < A.length → (xat A k).length = (xat A 0).length) (h3 : ∀ k, k < (parL P A).length → nth (parL P A) k = nth (parL P A) 0) : prmB P A = true := by
  unfold prmB
  have e1 : (A.all fun b => b.length == (xat A 0).length) = true := List.all_eq_true.2 fun b hb => by
    obtain ⟨k, hk, rfl⟩ := List.getElem_of_mem hb
    have := h2 k hk
    rw [xat_eq hk] at this; simp [this]
  have e2 : ((parL P A).all fun c => c == nth (parL P A) 0) = true := List.all_eq_true.2 fun b hb => by
    obtain ⟨k, hk, rfl⟩ := List.getElem_of_mem hb
    have := h3 k hk
    rw [nth_eq hk] at this; simp [this]
  rw [e1, e2]; simp [h1]
theorem prm_val {P : Nat} {A : List (List Int)} (h : prmB P A = true) : prmV P A = [(P : Int), (A.length : Int), nth (repL P A) 0, ((xat A 0).length : Int), nth (parL P A) 0] := by unfold prmV; rw [if_pos h]
theorem parL_pos {P : Nat} {A : List (List Int)} (h : 2 ≤ P) : 0 < (parL P A).length := by
  rw [← parK_end, show P = (P - 1) + 1 by omega]
  have : ∀ k, 0 < k → 0 < (parK (P - 1 + 1) A k).length := by
    intro k hk
    induction k with
    | zero => omega
    | succ k ih =>
      rw [parK_succ, List.length_append]
      rcases Nat.eq_zero_or_pos k with rfl | h0
      · simp [parR]; omega
      · have := ih h0; omega
  exact this _ (by omega)
theorem repL_len (P : Nat) (A : List (List Int)) : (repL P A).length = P := by simp [repL]

set_option maxHeartbeats 8000000 in
set_option maxRecDepth 100000 in
theorem parametersOf_c (P : Nat) (v : Value) (us : List Value) (A : List (List Int)) (w : World) (hv : RII w v us A) (hD : DOk P A) :
    Calls Tryz.prog 126 #[dv P v] w (MakesPr w (prmV P A) (prmB P A)) := by
  obtain ⟨a, c, hsh⟩ := hv.1.sl.sh
  rw [hv.2.1] at hsh
  subst hsh
  have hP := hD.le
  have hDl := hD.len
  have HD := Lib.hid hD
  clear hD
  have hS1 := ((St.refl w).newboxF 27 #[.int .i64 P, .slice a A.length c]).newboxF 129 #[.int .i64 0, .int .i64 0, .int .i64 0, .int .i64 0, .int .i64 0]
  simp only [World.size_alloc] at hS1
  have b0 := hS1.bcell 1 rfl 0 rfl
  have b1 := hS1.bcell 1 rfl 1 rfl
  have hix := hv.ix
  have f0 := hS1.bfree 0 rfl
  have r0 := hS1.bcell 0 rfl 0 rfl
  have r1 := hS1.bcell 0 rfl 1 rfl
  have r2 := hS1.bcell 0 rfl 2 rfl
  have r3 := hS1.bcell 0 rfl 3 rfl
  have r4 := hS1.bcell 0 rfl 4 rfl
  unfold dv
  by_cases h1 : 2 ≤ P
  · by_cases h2 : 0 < A.length
    · have fz := eq_f (show ¬ (A.length : Int) = 0 by omega)
      have cz := (hS1.oldII hv).cell 0 h2
      have hl0 := (hv.row 0 h2).len
      by_cases h3 : 2 ≤ (xat A 0).length
      · have HPC := Lib.hid (pairCounts_c P (.slice a A.length c) us A _ (hS1.oldII hv) HD.out)
        have hC0 := parL_pos (A := A) h1
        have H1 := Lib.hid (And.intro h1 (And.intro h2 h3))
        have h3' : ¬ ((xat A 0).length : Int) < 2 := by omega
        have h1' : ¬ (P : Int) < 2 := by omega
        have x0 := hv.ixe 0 0 rfl h2
        have HR := fun W h => Lib.hid (replicationsOf_c P (.slice a A.length c) us A W h HD.out)
        have hprm := Lib.hid (fun h h' => prm_val (prm_yes (A := A) H1.out h h'))
        have hprb := Lib.hid (fun h h' => prm_yes (A := A) H1.out h h')
        unfold dv at HPC HR
        go_enter Tryz.func126, Tryz.ntmps126
        go_wp2_with fail
        refine HPC.out.mono ?_
        clear HPC r0 r1 r2 r3 r4 f0 b0 b1 cz
        rintro e w2 ⟨vc, rfl, h4⟩
        have hS2 := hS1.call h4
        have b1 := hS2.bcell 1 rfl 1 rfl
        have hlc := (h4.rdI 0 rfl).len
        have hic := (h4.rdI 0 rfl).ix
        have xc0 := (h4.rdI 0 rfl).ixe 0 0 rfl hC0
        have hCle : (parL P A).length ≤ 1024 := by
          have := parK_len P A P
          have h2 : P * P ≤ 32 * 32 := Nat.mul_le_mul (by omega) (by omega)
          rw [parK_end] at this; omega
        have HN2 := Lib.hid (fun k (hk : k < A.length) (h : (xat A k).length ≠ (xat A 0).length) => prm_no2 (P := P) hk h)
        have HN3 := Lib.hid (fun k (hk : k < (parL P A).length) (h : nth (parL P A) k ≠ nth (parL P A) 0) => prm_no3 hk h)
        generalize parL P A = C at *
        clear hS1 h4
        simp only [List.cons_append, List.nil_append] at hS2
        go_wp2_with fail
        go_loopw [6, 32] (fun _ i wr => ∃ k : Nat, k ≤ A.length ∧ i = .int .i64 k ∧ Hid (∀ j, j < k → (xat A j).length = (xat A 0).length) ∧ St w.heap.size w wr [box 129 (w.heap.size + 1) [.int .i64 0, .int .i64 0, .int .i64 0, .int .i64 0, .int .i64 0], box 27 w.heap.size [.int .i64 P, .slice a A.length c], row 2 vc (iv C)]) (fun _ i _ => A.length - (intOf i).toNat)
        case atStart => exact ⟨0, by omega, rfl, fun j hj => by omega, hS2⟩
        case round =>
          clear hS2 b1
          obtain ⟨k, hk, rfl, hI, hS⟩ := hrel
          have b1 := hS.bcell 1 rfl 1 rfl
          by_cases hlt : k < A.length
          · have ck := (hS.oldII hv).cell k hlt
            have cz := (hS.oldII hv).cell 0 h2
            have hlk := (hv.row k hlt).len
            by_cases he : (xat A k).length = (xat A 0).length
            · have f := ne_f (show ((xat A k).length : Int) = (xat A 0).length by omega)
              have He := Lib.hid he
              clear he
              go_wp2_with fail
              go_roundw
              case rel => exact ⟨k + 1, by omega, by go_num, fun j hj => by
                by_cases e : j = k
                · rw [e]; exact He.out
                · exact hI.out j (by omega), hS⟩
              case measure => simp [intOf]; omega
            · have f := ne_t (fun e : ((xat A k).length : Int) = (xat A 0).length => he (by omega))
              have HN := Lib.hid (HN2.out k hlt he)
              clear he
              have r0 := hS.bcell 0 rfl 0 rfl
              have r1 := hS.bcell 0 rfl 1 rfl
              have r2 := hS.bcell 0 rfl 2 rfl
              have r3 := hS.bcell 0 rfl 3 rfl
              have r4 := hS.bcell 0 rfl 4 rfl
              have f0 := hS.bfree 0 rfl
              have hZ := ((((hS.bstore 0 rfl 0 (.int .i64 0)).bstore 0 rfl 1 (.int .i64 0)).bstore 0 rfl 2 (.int .i64 0)).bstore 0 rfl 3 (.int .i64 0)).bstore 0 rfl 4 (.int .i64 0)
              have z0 := hZ.bcell 0 rfl 0 rfl
              have z1 := hZ.bcell 0 rfl 1 rfl
              have z2 := hZ.bcell 0 rfl 2 rfl
              have z3 := hZ.bcell 0 rfl 3 rfl
              have z4 := hZ.bcell 0 rfl 4 rfl
              go_wp2_with fail
              refine bodyPost_ret (v := .tuple #[.agg #[.int .i64 0, .int .i64 0, .int .i64 0, .int .i64 0, .int .i64 0], .bool false]) (by simp [results, Tryz.results126, go_sem, z0, z1, z2, z3, z4]) rfl ?_
              exact MakesPr.no HN.out hZ
          · obtain rfl : k = A.length := by omega
            have hall := hI
            clear hI
            go_wp2_with fail
            go_loopw [8, 48] (fun _ i wr => ∃ k : Nat, k ≤ C.length ∧ i = .int .i64 k ∧ Hid (∀ j, j < k → nth C j = nth C 0) ∧ St w.heap.size w wr [box 129 (w.heap.size + 1) [.int .i64 0, .int .i64 0, .int .i64 0, .int .i64 0, .int .i64 0], box 27 w.heap.size [.int .i64 P, .slice a A.length c], row 2 vc (iv C)]) (fun _ i _ => C.length - (intOf i).toNat)
            case atStart => exact ⟨0, by omega, rfl, fun j hj => by omega, hS⟩
            case round =>
              clear hS b1
              obtain ⟨k, hk, rfl, hI, hS⟩ := hrel
              by_cases hlt : k < C.length
              · have ck := (hS.rdI 2 rfl).cell k hlt
                have cz := (hS.rdI 2 rfl).cell 0 hC0
                by_cases he : nth C k = nth C 0
                · have f := ne_f he
                  have He := Lib.hid he
                  clear he
                  go_wp2_with fail
                  go_roundw
                  case rel => exact ⟨k + 1, by omega, by go_num, fun j hj => by
                    by_cases e : j = k
                    · rw [e]; exact He.out
                    · exact hI.out j (by omega), hS⟩
                  case measure => simp [intOf]; omega
                · have f := ne_t he
                  have HN := Lib.hid (HN3.out k hlt he)
                  clear he
                  have r0 := hS.bcell 0 rfl 0 rfl
                  have r1 := hS.bcell 0 rfl 1 rfl
                  have r2 := hS.bcell 0 rfl 2 rfl
                  have r3 := hS.bcell 0 rfl 3 rfl
                  have r4 := hS.bcell 0 rfl 4 rfl
                  have f0 := hS.bfree 0 rfl
                  have hZ := ((((hS.bstore 0 rfl 0 (.int .i64 0)).bstore 0 rfl 1 (.int .i64 0)).bstore 0 rfl 2 (.int .i64 0)).bstore 0 rfl 3 (.int .i64 0)).bstore 0 rfl 4 (.int .i64 0)
                  have z0 := hZ.bcell 0 rfl 0 rfl
                  have z1 := hZ.bcell 0 rfl 1 rfl
                  have z2 := hZ.bcell 0 rfl 2 rfl
                  have z3 := hZ.bcell 0 rfl 3 rfl
                  have z4 := hZ.bcell 0 rfl 4 rfl
                  go_wp2_with fail
                  refine bodyPost_ret (v := .tuple #[.agg #[.int .i64 0, .int .i64 0, .int .i64 0, .int .i64 0, .int .i64 0], .bool false]) (by simp [results, Tryz.results126, go_sem, z0, z1, z2, z3, z4]) rfl ?_
                  exact MakesPr.no HN.out hZ
              · obtain rfl : k = C.length := by omega
                have HV := Lib.hid (hprm.out hall.out hI.out)
                have HB := Lib.hid (hprb.out hall.out hI.out)
                have b0 := hS.bcell 1 rfl 0 rfl
                have b1 := hS.bcell 1 rfl 1 rfl
                have cz := (hS.oldII hv).cell 0 h2
                have c0 := (hS.rdI 2 rfl).cell 0 hC0
                have hS3 := hS.drew
                clear hI hprm hprb HN2 HN3
                go_wp2_with fail
                refine regionG (fun w' => w'.cell? ⟨w.heap.size, 0, none⟩ = some (.int .i64 P) ∧ w'.cell? ⟨w.heap.size, 1, none⟩ = some (.slice a A.length c) ∧ w'.cell? (el (.slice a A.length c) 0) = some (vat us 0) ∧ w'.cell? (el vc 0) = some (.int .i64 (nth C 0))) 18 (by kernel_rfl) ⟨cell_dr b0, cell_dr b1, cell_dr cz, cell_dr c0⟩ (fun hHeld => ?_)
                refine takeP (i := 0) (v := ?_) rfl (by kernel_rfl) (fun _ _ _ h => h) (by rfl) ?_ (by assumption) ?_
                case refine_2 => (intro w'; go_simp; first | done | with_reducible rfl)
                try simp only [Act.put, List.setIfInBounds_toArray, List.set_cons_zero, List.set_cons_succ]
                refine takeH (i := 1) [17] (v := ?_) rfl (by kernel_rfl) (fun _ _ _ h => h) (by rfl) ?_ (by assumption) ?_
                case refine_2 => (intro w' hSw; (try dsimp only at hSw); go_simp; first | done | with_reducible rfl)
                try simp only [Act.put, List.setIfInBounds_toArray, List.set_cons_zero, List.set_cons_succ]
                refine takeP (i := 2) (v := ?_) rfl (by kernel_rfl) (fun _ _ _ h => h) (by rfl) ?_ (by assumption) ?_
                case refine_2 => (intro w'; go_simp; first | done | with_reducible rfl)
                try simp only [Act.put, List.setIfInBounds_toArray, List.set_cons_zero, List.set_cons_succ]
                refine takeH (i := 3) [4, 17] (v := ?_) rfl (by kernel_rfl) (fun _ _ _ h => h) (by rfl) ?_ (by assumption) ?_
                case refine_2 => (intro w' hSw; (try dsimp only at hSw); go_simp; first | done | with_reducible rfl)
                try simp only [Act.put, List.setIfInBounds_toArray, List.set_cons_zero, List.set_cons_succ]
                refine takeH (i := 5) [6, 7, 8, 17] (v := ?_) rfl (by kernel_rfl) (fun _ _ _ h => h) (by rfl) ?_ (by assumption) ?_
                case refine_2 => (intro w' hSw; (try dsimp only at hSw); go_simp; first | done | with_reducible rfl)
                try simp only [Act.put, List.setIfInBounds_toArray, List.set_cons_zero, List.set_cons_succ]
                refine takeP (i := 9) (v := ?_) rfl (by kernel_rfl) (fun _ _ _ h => h) (by rfl) ?_ (by assumption) ?_
                case refine_2 => (intro w'; go_simp; first | done | with_reducible rfl)
                try simp only [Act.put, List.setIfInBounds_toArray, List.set_cons_zero, List.set_cons_succ]
                refine takeH (i := 10) [11, 12, 13, 17] (v := ?_) rfl (by kernel_rfl) (fun _ _ _ h => h) (by rfl) ?_ (by assumption) ?_
                case refine_2 => (intro w' hSw; (try dsimp only at hSw); go_simp; first | done | with_reducible rfl)
                try simp only [Act.put, List.setIfInBounds_toArray, List.set_cons_zero, List.set_cons_succ]
                refine takeP (i := 11) (v := ?_) rfl (by kernel_rfl) (fun _ _ _ h => h) (by rfl) ?_ (by assumption) ?_
                case refine_2 => (intro w'; go_simp; first | done | with_reducible rfl)
                try simp only [Act.put, List.setIfInBounds_toArray, List.set_cons_zero, List.set_cons_succ]
                refine takeH (i := 12) [13, 17] (v := ?_) rfl (by kernel_rfl) (fun _ _ _ h => h) (by rfl) ?_ (by assumption) ?_
                case refine_2 => (intro w' hSw; (try dsimp only at hSw); go_simp; first | done | with_reducible rfl)
                try simp only [Act.put, List.setIfInBounds_toArray, List.set_cons_zero, List.set_cons_succ]
                refine takeP (i := 14) (v := ?_) rfl (by kernel_rfl) (fun _ _ _ h => h) (by rfl) ?_ (by assumption) ?_
                case refine_2 => (intro w'; go_simp; first | done | with_reducible rfl)
                try simp only [Act.put, List.setIfInBounds_toArray, List.set_cons_zero, List.set_cons_succ]
                refine takeP (i := 15) (v := ?_) rfl (by kernel_rfl) (fun _ _ _ h => h) (by rfl) ?_ (by assumption) ?_
                case refine_2 => (intro w'; go_simp; first | done | with_reducible rfl)
                try simp only [Act.put, List.setIfInBounds_toArray, List.set_cons_zero, List.set_cons_succ]
                refine takeH (i := 16) [17] (v := ?_) rfl (by kernel_rfl) (fun _ _ _ h => h) (by rfl) ?_ (by assumption) ?_
                case refine_2 => (intro w' hSw; (try dsimp only at hSw); go_simp; first | done | with_reducible rfl)
                try simp only [Act.put, List.setIfInBounds_toArray, List.set_cons_zero, List.set_cons_succ]
                refine readyG (rs := [4]) (by kernel_rfl) (by simp) ?_
                refine AllG.cons rfl (fun K hK => ?_) AllG.nil
                go_simp
                refine (szII_c _ us A _ (hS3.oldII hv)).mono ?_
                rintro e w4 ⟨rfl, rfl⟩
                refine hK.out _ _ ⟨cell_dr b0, cell_dr b1, cell_dr cz, cell_dr c0⟩ (fun hHeld => ?_)
                clear hK K
                try simp only [Act.put, List.setIfInBounds_toArray, List.set_cons_zero, List.set_cons_succ]
                refine readyG (rs := [6]) (by kernel_rfl) (by simp) ?_
                refine AllG.cons rfl (fun K hK => ?_) AllG.nil
                go_simp
                refine (HR _ (hS3.oldII hv)).out.mono ?_
                rintro e w5 ⟨vr, rfl, h5⟩
                have hS5 := hS3.call h5
                have e0 := hS5.bcell 1 rfl 0 rfl
                have e1 := hS5.bcell 1 rfl 1 rfl
                have ez := (hS5.oldII hv).cell 0 h2
                have ec := (hS5.rdI 2 rfl).cell 0 hC0
                have xr0 := (h5.rdI 0 rfl).ixe 0 0 rfl (by rw [repL_len]; omega)
                have cr0 := (h5.rdI 0 rfl).cell 0 (by rw [repL_len]; omega)
                have rz := Lib.hid ((hS5.oldII hv).row 0 h2)
                have hS6 := Lib.hid hS5
                refine hK.out _ _ ⟨e0, e1, ez, ec⟩ (fun hHeld => ?_)
                clear hK K h5 hS3 hS b0 b1 cz c0
                try simp only [Act.put, List.setIfInBounds_toArray, List.set_cons_zero, List.set_cons_succ]
                refine takeP (i := 7) (v := ?_) rfl (by kernel_rfl) (fun _ _ _ h => h) (by rfl) ?_ (by assumption) ?_
                case refine_2 => (intro w'; go_simp; first | done | with_reducible rfl)
                try simp only [Act.put, List.setIfInBounds_toArray, List.set_cons_zero, List.set_cons_succ]
                refine readyG (rs := [8, 13]) (by kernel_rfl) (by simp) ?_
                refine AllG.cons rfl (fun K hK => ?_) (AllG.cons rfl (fun K hK => ?_) AllG.nil)
                · go_simp
                  refine hK.out _ _ ⟨e0, e1, ez, ec⟩ (fun hHeld => ?_)
                  clear hK K
                  try simp only [Act.put, List.setIfInBounds_toArray, List.set_cons_zero, List.set_cons_succ]
                  refine readyG (rs := [13]) (by kernel_rfl) (by simp) ?_
                  refine AllG.cons rfl (fun K hK => ?_) AllG.nil
                  go_simp
                  refine (size_c _ _ _ rz.out).mono ?_
                  rintro e w6 ⟨rfl, rfl⟩
                  refine hK.out _ _ ⟨e0, e1, ez, ec⟩ (fun hHeld => ?_)
                  clear hK K
                  try simp only [Act.put, List.setIfInBounds_toArray, List.set_cons_zero, List.set_cons_succ]
                  have t0 := hS5.bcell 0 rfl 0 rfl
                  have t1 := hS5.bcell 0 rfl 1 rfl
                  have t2 := hS5.bcell 0 rfl 2 rfl
                  have t3 := hS5.bcell 0 rfl 3 rfl
                  have t4 := hS5.bcell 0 rfl 4 rfl
                  have f0 := hS5.bfree 0 rfl
                  refine takeP (i := 17) (v := ?_) rfl (by kernel_rfl) (fun _ _ _ h => h) (by rfl) ?_ (by assumption) ?_
                  case refine_2 => (intro w'; go_simp; first | done | with_reducible rfl)
                  try simp only [Act.put, List.setIfInBounds_toArray, List.set_cons_zero, List.set_cons_succ]
                  refine readyG (rs := [18]) (by kernel_rfl) (by simp) ?_
                  refine AllG.last rfl (by kernel_rfl) (fun K hK => ?_) AllG.nil
                  go_simp
                  refine hK.out _ _ ?_
                  clear hK K
                  try simp only [Act.put, List.setIfInBounds_toArray, List.set_cons_zero, List.set_cons_succ]
                  refine readyG (rs := [19]) (by kernel_rfl) (by simp) ?_
                  refine AllG.last rfl (by kernel_rfl) (fun K hK => ?_) AllG.nil
                  go_simp
                  refine hK.out _ _ ?_
                  clear hK K
                  try simp only [Act.put, List.setIfInBounds_toArray, List.set_cons_zero, List.set_cons_succ]
                  refine doneG (by kernel_rfl) ?_ _
                  refine NoPanic.normal ?_
                  have hZ := ((((hS6.out.bstore 0 rfl 0 (.int .i64 P)).bstore 0 rfl 1 (.int .i64 A.length)).bstore 0 rfl 2 (.int .i64 (nth (repL P A) 0))).bstore 0 rfl 3 (.int .i64 (xat A 0).length)).bstore 0 rfl 4 (.int .i64 (nth C 0))
                  have z0 := hZ.bcell 0 rfl 0 rfl
                  have z1 := hZ.bcell 0 rfl 1 rfl
                  have z2 := hZ.bcell 0 rfl 2 rfl
                  have z3 := hZ.bcell 0 rfl 3 rfl
                  have z4 := hZ.bcell 0 rfl 4 rfl
                  clear hS5 t0 t1 t2 t3 t4
                  go_wp2_with fail
                  refine bodyPost_ret (v := .tuple #[.agg #[.int .i64 P, .int .i64 A.length, .int .i64 (nth (repL P A) 0), .int .i64 (xat A 0).length, .int .i64 (nth C 0)], .bool true]) (by simp [results, Tryz.results126, go_sem, z0, z1, z2, z3, z4]) rfl ?_
                  rw [HB.out, HV.out]
                  exact ⟨rfl, hZ.out⟩
                · go_simp
                  refine (size_c _ _ _ rz.out).mono ?_
                  rintro e w6 ⟨rfl, rfl⟩
                  refine hK.out _ _ ⟨e0, e1, ez, ec⟩ (fun hHeld => ?_)
                  clear hK K
                  try simp only [Act.put, List.setIfInBounds_toArray, List.set_cons_zero, List.set_cons_succ]
                  refine readyG (rs := [8]) (by kernel_rfl) (by simp) ?_
                  refine AllG.cons rfl (fun K hK => ?_) AllG.nil
                  go_simp
                  refine hK.out _ _ ⟨e0, e1, ez, ec⟩ (fun hHeld => ?_)
                  clear hK K
                  try simp only [Act.put, List.setIfInBounds_toArray, List.set_cons_zero, List.set_cons_succ]
                  have t0 := hS5.bcell 0 rfl 0 rfl
                  have t1 := hS5.bcell 0 rfl 1 rfl
                  have t2 := hS5.bcell 0 rfl 2 rfl
                  have t3 := hS5.bcell 0 rfl 3 rfl
                  have t4 := hS5.bcell 0 rfl 4 rfl
                  have f0 := hS5.bfree 0 rfl
                  refine takeP (i := 17) (v := ?_) rfl (by kernel_rfl) (fun _ _ _ h => h) (by rfl) ?_ (by assumption) ?_
                  case refine_2 => (intro w'; go_simp; first | done | with_reducible rfl)
                  try simp only [Act.put, List.setIfInBounds_toArray, List.set_cons_zero, List.set_cons_succ]
                  refine readyG (rs := [18]) (by kernel_rfl) (by simp) ?_
                  refine AllG.last rfl (by kernel_rfl) (fun K hK => ?_) AllG.nil
                  go_simp
                  refine hK.out _ _ ?_
                  clear hK K
                  try simp only [Act.put, List.setIfInBounds_toArray, List.set_cons_zero, List.set_cons_succ]
                  refine readyG (rs := [19]) (by kernel_rfl) (by simp) ?_
                  refine AllG.last rfl (by kernel_rfl) (fun K hK => ?_) AllG.nil
                  go_simp
                  refine hK.out _ _ ?_
                  clear hK K
                  try simp only [Act.put, List.setIfInBounds_toArray, List.set_cons_zero, List.set_cons_succ]
                  refine doneG (by kernel_rfl) ?_ _
                  refine NoPanic.normal ?_
                  have hZ := ((((hS6.out.bstore 0 rfl 0 (.int .i64 P)).bstore 0 rfl 1 (.int .i64 A.length)).bstore 0 rfl 2 (.int .i64 (nth (repL P A) 0))).bstore 0 rfl 3 (.int .i64 (xat A 0).length)).bstore 0 rfl 4 (.int .i64 (nth C 0))
                  have z0 := hZ.bcell 0 rfl 0 rfl
                  have z1 := hZ.bcell 0 rfl 1 rfl
                  have z2 := hZ.bcell 0 rfl 2 rfl
                  have z3 := hZ.bcell 0 rfl 3 rfl
                  have z4 := hZ.bcell 0 rfl 4 rfl
                  clear hS5 t0 t1 t2 t3 t4
                  go_wp2_with fail
                  refine bodyPost_ret (v := .tuple #[.agg #[.int .i64 P, .int .i64 A.length, .int .i64 (nth (repL P A) 0), .int .i64 (xat A 0).length, .int .i64 (nth C 0)], .bool true]) (by simp [results, Tryz.results126, go_sem, z0, z1, z2, z3, z4]) rfl ?_
                  rw [HB.out, HV.out]
                  exact ⟨rfl, hZ.out⟩
      · have H := Lib.hid (prm_no1 (P := P) (A := A) (fun h => h3 h.2.2))
        go_enter Tryz.func126, Tryz.ntmps126
        go_wp2_with fail
        refine bodyPost_ret (v := .tuple #[.agg #[.int .i64 0, .int .i64 0, .int .i64 0, .int .i64 0, .int .i64 0], .bool false]) (by simp [results, Tryz.results126, go_sem, r0, r1, r2, r3, r4]) rfl ?_
        exact MakesPr.no H.out hS1
    · have H := Lib.hid (prm_no1 (P := P) (A := A) (fun h => h2 h.2.1))
      have f := eq_t (show (A.length : Int) = 0 by omega)
      have h1' : ¬ (P : Int) < 2 := by omega
      have H0 := Lib.hid (show A.length = 0 by omega)
      clear h2
      go_enter Tryz.func126, Tryz.ntmps126
      go_wp2_with fail
      refine bodyPost_ret (v := .tuple #[.agg #[.int .i64 0, .int .i64 0, .int .i64 0, .int .i64 0, .int .i64 0], .bool false]) (by simp [results, Tryz.results126, go_sem, r0, r1, r2, r3, r4]) rfl ?_
      first
      | exact MakesPr.no H.out hS1
      | (rw [H0.out] at hS1; exact MakesPr.no H.out hS1)
  · have H := Lib.hid (prm_no1 (P := P) (A := A) (fun h => h1 h.1))
    have h1' : (P : Int) < 2 := by omega
    go_enter Tryz.func126, Tryz.ntmps126
    go_wp2_with fail
    refine bodyPost_ret (v := .tuple #[.agg #[.int .i64 0, .int .i64 0, .int .i64 0, .int .i64 0, .int .i64 0], .bool false]) (by simp [results, Tryz.results126, go_sem, r0, r1, r2, r3, r4]) rfl ?_
    exact MakesPr.no H.out hS1
end Go.Proofs.YtdlmohigkkdegaaGreat
end

section
/- Walks: ParametersOf of the program; replications, pairs and parameters of the reference. -/
namespace Go.Proofs.YtdlmohigkkdegaaGreat
set_option linter.unusedSimpArgs false
set_option linter.unusedVariables false
open Go.RowKit
attribute [local go_sem ↓] Go.wp_at_zero Go.wp_at_succ
def z5 (g : Nat) : Ent := box 129 g [.int .i64 0, .int .i64 0, .int .i64 0, .int .i64 0, .int .i64 0]
end Go.Proofs.YtdlmohigkkdegaaGreat
end

section
/- Walks: the orders of planes, of the program. -/
namespace Go.Proofs.YtdlmohigkkdegaaGreat
set_option linter.unusedSimpArgs false
set_option linter.unusedVariables false
open Go.RowKit
attribute [local go_sem ↓] Go.wp_at_zero Go.wp_at_succ

theorem plO_no {v k : Int → Int} {V K : Int} {f : Nat} {n : Int} (h : ¬ v n ≤ V) : plO v k V K f n = 0 := by
  cases f with
  | zero => rfl
  | succ f => rw [plO, if_neg h]
theorem plO_hit {v k : Int → Int} {V K : Int} {f : Nat} {n : Int} (h : v n ≤ V) (h2 : v n = V ∧ k n = K) : plO v k V K (f + 1) n = n := by rw [plO, if_pos h, if_pos h2]
theorem plO_next {v k : Int → Int} {V K : Int} {f : Nat} {n : Int} (h : v n ≤ V) (h2 : ¬ (v n = V ∧ k n = K)) : plO v k V K (f + 1) n = plO v k V K f (n + 1) := by rw [plO, if_pos h, if_neg h2]
set_option maxHeartbeats 8000000 in
set_option maxRecDepth 100000 in
theorem planeOrder_c (K1 K2 : FuncId) (fv fk : Int → Int) (P : Nat) (v : Value) (us : List Value) (A : List (List Int)) (w : World) (hv : RII w v us A) (hok : dOk P A = true) (h6 : 32 < fv 6)
    (hcf1 : ∀ (args : Array Value) (W : World), (callFunc K1 args).run Tryz.prog W = .ok (.enter K1 args) W)
    (hcf2 : ∀ (args : Array Value) (W : World), (callFunc K2 args).run Tryz.prog W = .ok (.enter K2 args) W)
    (hK1 : ∀ (n : Int) (W : World), 2 ≤ n → n ≤ 6 → Calls Tryz.prog K1 #[.int .i64 n] W fun e w' => e = .returned (.int .i64 (fv n)) ∧ W = w')
    (hK2 : ∀ (n : Int) (W : World), 2 ≤ n → n ≤ 6 → Calls Tryz.prog K2 #[.int .i64 n] W fun e w' => e = .returned (.int .i64 (fk n)) ∧ W = w') :
    Calls Tryz.prog 56 #[dv P v, .func (.func K1) #[] #[], .func (.func K2) #[] #[]] w (GivesI w (ordP fv fk P A)) := by
  obtain ⟨a, c, hsh⟩ := hv.1.sl.sh
  rw [hv.2.1] at hsh
  subst hsh
  have hD := dOk_t hok
  have hP := hD.le
  have hS0 := (St.refl w).newboxF 27 #[.int .i64 P, .slice a A.length c]
  have b0 := hS0.bcell 0 rfl 0 rfl
  have b1 := hS0.bcell 0 rfl 1 rfl
  have KV := fun W h => Lib.hid (ValidDesign_c P (.slice a A.length c) us A W h)
  rw [hok] at KV
  have KP := fun W h => Lib.hid (parametersOf_c P (.slice a A.length c) us A W h hD)
  have KV := KV _ (hS0.oldII hv)
  have HO : Hid (ordP fv fk P A = if (prmB P A && decide (nth (prmV P A) 4 = 1)) = true then plO fv fk (nth (prmV P A) 0) (nth (prmV P A) 3) 5 2 else 0) := Lib.hid (by rw [ordP, hok, Bool.true_and])
  have HV : Hid (prmB P A = true → nth (prmV P A) 0 ≤ 32) := Lib.hid (fun h => by rw [prm_val h]; simp only [nth, List.getD_cons_zero]; omega)
  have HK1 := Lib.hid hK1
  have HK2 := Lib.hid hK2
  have H6 := Lib.hid h6
  clear hK1 hK2 hD hok h6
  generalize ordP fv fk P A = R at *
  generalize prmV P A = xs at *
  generalize prmB P A = bb at *
  unfold dv at KV KP ⊢
  go_enter Tryz.func56, Tryz.ntmps56
  go_wp2_with (go_at_call 52; refine KV.out.mono ?_; rintro e2 w2 ⟨rfl, h2⟩; have hS2 := hS0.call0 h2; have b0 := hS2.bcell 0 rfl 0 rfl; have b1 := hS2.bcell 0 rfl 1 rfl)
  refine (KP _ (hS2.oldII hv)).out.mono ?_
  clear KP KV hS0 b0 b1
  unfold MakesPr pmV
  generalize nth xs 0 = V at *
  generalize nth xs 1 = x1 at *
  generalize nth xs 2 = x2 at *
  generalize nth xs 3 = K at *
  generalize nth xs 4 = L at *
  rintro e3 w3 ⟨rfl, h3⟩
  have hS3 := (hS2.call0 h3).newboxF 129 #[.int .i64 V, .int .i64 x1, .int .i64 x2, .int .i64 K, .int .i64 L]
  have p0 := hS3.bcell 0 rfl 0 rfl
  have p3 := hS3.bcell 0 rfl 3 rfl
  have p4 := hS3.bcell 0 rfl 4 rfl
  clear hS2 h2 h3
  go_wp2_with fail
  go_loopw [9] (fun n wr => ∃ i : Nat, i ≤ 4 ∧ n = .int .i64 ((2 : Int) + i) ∧ Hid (bb = true → L = 1 → R = plO fv fk V K (5 - i) (2 + i)) ∧ St w.heap.size w wr [box 129 w3.heap.size [.int .i64 V, .int .i64 x1, .int .i64 x2, .int .i64 K, .int .i64 L], box 27 w.heap.size [.int .i64 P, .slice a A.length c]]) (fun n _ => 7 - (intOf n).toNat)
  case atStart => exact ⟨0, by omega, rfl, fun h1 h2 => by rw [HO.out, if_pos (by rw [h1, h2]; rfl)]; rfl, hS3⟩
  case round =>
    clear hS3 p0 p3 p4
    obtain ⟨i, hi, rfl, hR, hS⟩ := hrel
    have p0 := fun s : SS w.heap.size w [box 129 w3.heap.size [.int .i64 V, .int .i64 x1, .int .i64 x2, .int .i64 K, .int .i64 L], box 27 w.heap.size [.int .i64 P, .slice a A.length c]] => s.st.bcell 0 rfl 0 rfl
    have p3 := fun s : SS w.heap.size w [box 129 w3.heap.size [.int .i64 V, .int .i64 x1, .int .i64 x2, .int .i64 K, .int .i64 L], box 27 w.heap.size [.int .i64 P, .slice a A.length c]] => s.st.bcell 0 rfl 3 rfl
    have p4 := fun s : SS w.heap.size w [box 129 w3.heap.size [.int .i64 V, .int .i64 x1, .int .i64 x2, .int .i64 K, .int .i64 L], box 27 w.heap.size [.int .i64 P, .slice a A.length c]] => s.st.bcell 0 rfl 4 rfl
    cases bb
    case false =>
      have HZ : Hid (R = 0) := Lib.hid (by rw [HO.out]; rfl)
      go_wp2_with fail
      have hne : Nonempty (SS _ _ _) := ⟨⟨_, hS⟩⟩
      refine wp_region_st (by kernel_rfl) (by kernel_rfl) hS ?_
      repeat (go_big_quiet_step (fail))
      refine wpQuiet_nil ?_
      rintro _ ⟨s2, rfl⟩
      have hS9 := s2.st
      generalize s2.w = w9 at hS9 ⊢
      have hS := hS9
      go_wp2_with fail
      go_ret
      exact ⟨ret_i64 HZ.out.symm, hS.out⟩
    case true =>
      by_cases hL : L = 1
      case neg =>
        have HZ : Hid (R = 0) := Lib.hid (by rw [HO.out, if_neg (by simpa using hL)])
        have f1 : (L == 1) = false := eq_f hL
        go_wp2_with fail
        have hne : Nonempty (SS _ _ _) := ⟨⟨_, hS⟩⟩
        refine wp_region_st (by kernel_rfl) (by kernel_rfl) hS ?_
        repeat (go_big_quiet_step (fail))
        refine wpQuiet_nil ?_
        rintro _ ⟨s2, rfl⟩
        have hS9 := s2.st
        generalize s2.w = w9 at hS9 ⊢
        have hS := hS9
        go_wp2_with fail
        go_ret
        exact ⟨ret_i64 HZ.out.symm, hS.out⟩
      case pos =>
        subst hL
        have hR1 := Lib.hid (hR.out rfl rfl)
        have hV32 := HV.out rfl
        by_cases hvn : fv (2 + (i : Int)) ≤ V
        case neg =>
          have HZ : Hid (R = 0) := Lib.hid (by rw [hR1.out, plO_no hvn])
          generalize hfn : fv (2 + (i : Int)) = fn at *
          have KF := Lib.hid (fun W => HK1.out (2 + (i : Int)) W (by omega) (by omega))
          rw [hfn] at KF
          clear hfn hR hV32
          go_wp2_with fail
          have hne : Nonempty (SS _ _ _) := ⟨⟨_, hS⟩⟩
          refine wp_region_st (by kernel_rfl) (by kernel_rfl) hS ?_
          repeat (go_big_quiet_step ((exact st_quiet0 (KF.out _))))
          refine wpQuiet_nil ?_
          rintro _ ⟨s2, rfl⟩
          have hS9 := s2.st
          generalize s2.w = w9 at hS9 ⊢
          have hS := hS9
          go_wp2_with fail
          go_ret
          exact ⟨ret_i64 HZ.out.symm, hS.out⟩
        case pos =>
          have hi4 : i < 4 := by
            by_cases e : i = 4
            · subst e; have := H6.out; rw [show (2 : Int) + ((4 : Nat) : Int) = 6 by omega] at hvn; omega
            · omega
          obtain ⟨f, hfe⟩ : ∃ f, 5 - i = f + 1 := ⟨4 - i, by omega⟩
          by_cases hit : fv (2 + (i : Int)) = V ∧ fk (2 + (i : Int)) = K
          · have HZ : Hid (R = 2 + (i : Int)) := Lib.hid (by rw [hR1.out, hfe, plO_hit hvn hit])
            generalize hfn : fv (2 + (i : Int)) = fn at *
            generalize hkn : fk (2 + (i : Int)) = kn at *
            have KF := Lib.hid (fun W => HK1.out (2 + (i : Int)) W (by omega) (by omega))
            have KG := Lib.hid (fun W => HK2.out (2 + (i : Int)) W (by omega) (by omega))
            rw [hfn] at KF
            rw [hkn] at KG
            obtain ⟨g1, g2⟩ := hit
            have f1 : (fn == V) = true := eq_t g1
            have f2 : (kn == K) = true := eq_t g2
            clear hfn hkn hR hV32 hfe g1 g2
            go_wp2_with fail
            have hne : Nonempty (SS _ _ _) := ⟨⟨_, hS⟩⟩
            refine wp_region_st (by kernel_rfl) (by kernel_rfl) hS ?_
            repeat (go_big_quiet_step ((exact st_quiet0 (KF.out _))))
            refine wpQuiet_nil ?_
            rintro _ ⟨s2, rfl⟩
            have hS9 := s2.st
            generalize s2.w = w9 at hS9 ⊢
            have hS := hS9
            go_wp2_with fail
            have hne : Nonempty (SS _ _ _) := ⟨⟨_, hS⟩⟩
            refine wp_region_st (by kernel_rfl) (by kernel_rfl) hS ?_
            repeat (go_big_quiet_step ((first | exact st_quiet0 (KF.out _) | exact st_quiet0 (KG.out _))))
            refine wpQuiet_nil ?_
            rintro _ ⟨s2, rfl⟩
            have hS10 := s2.st
            generalize s2.w = w10 at hS10 ⊢
            have hS := hS10
            go_wp2_with fail
            go_ret
            exact ⟨ret_i64 HZ.out.symm, hS.out⟩
          · have HZ : Hid (R = plO fv fk V K (5 - (i + 1)) (2 + ((i + 1 : Nat) : Int))) := Lib.hid (by rw [hR1.out, hfe, plO_next hvn hit, show 5 - (i + 1) = f by omega]; first | (congr 1; done) | (congr 1; omega))
            generalize hfn : fv (2 + (i : Int)) = fn at *
            generalize hkn : fk (2 + (i : Int)) = kn at *
            have KF := Lib.hid (fun W => HK1.out (2 + (i : Int)) W (by omega) (by omega))
            have KG := Lib.hid (fun W => HK2.out (2 + (i : Int)) W (by omega) (by omega))
            rw [hfn] at KF
            rw [hkn] at KG
            have hit2 : (fn == V) = false ∨ ((fn == V) = true ∧ (kn == K) = false) := by
              by_cases e : fn = V
              · exact .inr ⟨eq_t e, eq_f fun e2 => hit ⟨e, e2⟩⟩
              · exact .inl (eq_f e)
            clear hfn hkn hR hV32 hfe hit
            go_wp2_with fail
            have hne : Nonempty (SS _ _ _) := ⟨⟨_, hS⟩⟩
            refine wp_region_st (by kernel_rfl) (by kernel_rfl) hS ?_
            repeat (go_big_quiet_step ((exact st_quiet0 (KF.out _))))
            refine wpQuiet_nil ?_
            rintro _ ⟨s2, rfl⟩
            have hS9 := s2.st
            generalize s2.w = w9 at hS9 ⊢
            have hS := hS9
            rcases hit2 with f1 | ⟨f1, f2⟩
            all_goals
              go_wp2_with fail
              have hne : Nonempty (SS _ _ _) := ⟨⟨_, hS⟩⟩
              refine wp_region_st (by kernel_rfl) (by kernel_rfl) hS ?_
              repeat (go_big_quiet_step ((first | exact st_quiet0 (KF.out _) | exact st_quiet0 (KG.out _))))
              refine wpQuiet_nil ?_
              rintro _ ⟨s2, rfl⟩
              have hS10 := s2.st
              generalize s2.w = w10 at hS10 ⊢
              have hS := hS10
              go_wp2_with fail
              go_roundw
              case rel => exact ⟨i + 1, by omega, by go_num, fun _ _ => HZ.out, hS⟩
              case measure => simp [intOf]; omega
end Go.Proofs.YtdlmohigkkdegaaGreat
end

section
/- Walks: orders of affine and of projective planes, parallel classes, completed planes, planes without a line, of the program. -/
namespace Go.Proofs.YtdlmohigkkdegaaGreat
set_option linter.unusedSimpArgs false
set_option linter.unusedVariables false
open Go.RowKit
attribute [local go_sem ↓] Go.wp_at_zero Go.wp_at_succ

theorem AffineOrder_c (P : Nat) (v : Value) (us : List Value) (A : List (List Int)) (w : World) (hv : RII w v us A) (hok : dOk P A = true) :
    Calls Tryz.prog 18 #[dv P v] w (GivesI w (ordP afV afK P A)) := by
  obtain ⟨a, c, hsh⟩ := hv.1.sl.sh
  rw [hv.2.1] at hsh
  subst hsh
  have hS0 := (St.refl w).newboxF 27 #[.int .i64 P, .slice a A.length c]
  have b0 := hS0.bcell 0 rfl 0 rfl
  have b1 := hS0.bcell 0 rfl 1 rfl
  have hcf1 : ∀ (args : Array Value) (W : World), (callFunc 67 args).run Tryz.prog W = .ok (.enter 67 args) W :=
    fun args W => callFunc_go (P := Tryz.prog) Tryz.func67 (by kernel_rfl) (by kernel_rfl) args W
  have hcf2 : ∀ (args : Array Value) (W : World), (callFunc 68 args).run Tryz.prog W = .ok (.enter 68 args) W :=
    fun args W => callFunc_go (P := Tryz.prog) Tryz.func68 (by kernel_rfl) (by kernel_rfl) args W
  have K := Lib.hid (planeOrder_c 67 68 afV afK P (.slice a A.length c) us A _ (hS0.oldII hv) hok (by decide) hcf1 hcf2 (fun n W n2 n6 => by
      have hb : n * n ≤ 36 ∧ 0 ≤ n * n := by
        obtain ⟨m, rfl⟩ := Int.eq_ofNat_of_zero_le (show 0 ≤ n by omega)
        have : m * m ≤ 6 * 6 := Nat.mul_le_mul (by omega) (by omega)
        omega
      have w1 : IntKind.i64.wrap (n * n) = n * n := IntWalk.i64_in _ (by omega)
      unfold afV
      go_enter Tryz.func67, Tryz.ntmps67
      go_wp2_with fail
      go_ret
      exact ⟨rfl, rfl⟩) (fun n W n2 n6 => by
      unfold afK
      go_enter Tryz.func68, Tryz.ntmps68
      go_wp2_with fail
      go_ret
      exact ⟨rfl, rfl⟩))
  generalize ordP afV afK P A = z at *
  unfold dv at K ⊢
  go_enter Tryz.func18, Tryz.ntmps18
  go_wp2_with fail
  refine K.out.mono ?_
  rintro e w2 ⟨rfl, h2⟩
  have hS2 := hS0.call0 h2
  go_wp2_with fail
  go_ret
  exact ⟨rfl, hS2.out⟩
theorem ProjectiveOrder_c (P : Nat) (v : Value) (us : List Value) (A : List (List Int)) (w : World) (hv : RII w v us A) (hok : dOk P A = true) :
    Calls Tryz.prog 12 #[dv P v] w (GivesI w (ordP pjV pjK P A)) := by
  obtain ⟨a, c, hsh⟩ := hv.1.sl.sh
  rw [hv.2.1] at hsh
  subst hsh
  have hS0 := (St.refl w).newboxF 27 #[.int .i64 P, .slice a A.length c]
  have b0 := hS0.bcell 0 rfl 0 rfl
  have b1 := hS0.bcell 0 rfl 1 rfl
  have hcf1 : ∀ (args : Array Value) (W : World), (callFunc 57 args).run Tryz.prog W = .ok (.enter 57 args) W :=
    fun args W => callFunc_go (P := Tryz.prog) Tryz.func57 (by kernel_rfl) (by kernel_rfl) args W
  have hcf2 : ∀ (args : Array Value) (W : World), (callFunc 58 args).run Tryz.prog W = .ok (.enter 58 args) W :=
    fun args W => callFunc_go (P := Tryz.prog) Tryz.func58 (by kernel_rfl) (by kernel_rfl) args W
  have K := Lib.hid (planeOrder_c 57 58 pjV pjK P (.slice a A.length c) us A _ (hS0.oldII hv) hok (by decide) hcf1 hcf2 (fun n W n2 n6 => by
      have hb : n * n ≤ 36 ∧ 0 ≤ n * n := by
        obtain ⟨m, rfl⟩ := Int.eq_ofNat_of_zero_le (show 0 ≤ n by omega)
        have : m * m ≤ 6 * 6 := Nat.mul_le_mul (by omega) (by omega)
        omega
      have w1 : IntKind.i64.wrap (n * n) = n * n := IntWalk.i64_in _ (by omega)
      have w2 : IntKind.i64.wrap (n * n + n) = n * n + n := IntWalk.i64_in _ (by omega)
      have w3 : IntKind.i64.wrap (n * n + n + 1) = n * n + n + 1 := IntWalk.i64_in _ (by omega)
      unfold pjV
      go_enter Tryz.func57, Tryz.ntmps57
      go_wp2_with fail
      go_ret
      exact ⟨rfl, rfl⟩) (fun n W n2 n6 => by
      unfold pjK
      go_enter Tryz.func58, Tryz.ntmps58
      go_wp2_with fail
      go_ret
      exact ⟨rfl, rfl⟩))
  generalize ordP pjV pjK P A = z at *
  unfold dv at K ⊢
  go_enter Tryz.func12, Tryz.ntmps12
  go_wp2_with fail
  refine K.out.mono ?_
  rintro e w2 ⟨rfl, h2⟩
  have hS2 := hS0.call0 h2
  go_wp2_with fail
  go_ret
  exact ⟨rfl, hS2.out⟩
set_option maxHeartbeats 4000000 in
set_option maxRecDepth 100000 in
theorem RemoveLine_c (P : Nat) (v : Value) (us : List Value) (A : List (List Int)) (blk : Nat) (w : World) (hv : RII w v us A) (hok : dOk P A = true) (hb : blk < A.length) (ho : ordP pjV pjK P A ≠ 0)
    (hne : ∀ j, j < A.length → (j : Int) ≠ blk → rsB (xat A j) (cplB P (xat A blk)) ≠ []) (hn0 : cplB P (xat A blk) ≠ []) :
    Calls Tryz.prog 16 #[dv P v, .int .i64 blk] w (MakesD w (cplB P (xat A blk)).length (srtL (resR A blk (cplB P (xat A blk)) A.length)) 0) := by
  obtain ⟨a, c, hsh⟩ := hv.1.sl.sh
  rw [hv.2.1] at hsh
  subst hsh
  have hS0 := ((St.refl w).newboxF 27 #[.int .i64 P, .slice a A.length c]).newboxF 27 #[.int .i64 0, .slice none 0 0]
  simp only [World.size_alloc] at hS0
  have b0 := hS0.bcell 1 rfl 0 rfl
  have b1 := hS0.bcell 1 rfl 1 rfl
  have K1 := Lib.hid (hasBlock_c P (.slice a A.length c) us A blk _ (hS0.oldII hv))
  rw [show hbC P A blk = 0 by rw [hbC, if_pos hok, if_pos (inB_true (by omega))]] at K1
  have K2 := fun W h => Lib.hid (ProjectiveOrder_c P (.slice a A.length c) us A W h hok)
  have K3 := fun W h => Lib.hid (ResidualDesign_c P (.slice a A.length c) us A blk W h hok hb hne hn0)
  have f1 := eq_f ho
  generalize ordP pjV pjK P A = z at *
  generalize (cplB P (xat A blk)).length = Q at *
  generalize srtL (resR A blk (cplB P (xat A blk)) A.length) = D at *
  unfold dv at K1 K2 K3 ⊢
  go_enter Tryz.func16, Tryz.ntmps16
  go_wp2_with (first
    | (go_at_call 63; refine K1.out.mono ?_; rintro e w2 ⟨rfl, h2⟩; have hS2 := hS0.call0 h2; have c0 := hS2.bcell 1 rfl 0 rfl; have c1 := hS2.bcell 1 rfl 1 rfl)
    | (go_at_call 12; refine (K2 _ (hS2.oldII hv)).out.mono ?_; rintro e w3 ⟨rfl, h3⟩; have hS3 := hS2.call0 h3; have d0 := hS3.bcell 1 rfl 0 rfl; have d1 := hS3.bcell 1 rfl 1 rfl)
    | (go_at_call 64; refine (K3 _ (hS3.oldII hv)).out.mono ?_; rintro e4 w4 ⟨v4, us4, rfl, hl4, h4⟩; obtain ⟨a4, c4, hv4⟩ := (h4.rd 0 (e := 32) (v := v4) (us := us4) rfl).sl.sh; rw [hl4] at hv4; subst hv4; unfold dv; have hB := hS3.call h4; have e0 := hB.bcell 0 rfl 0 rfl; have e1 := hB.bcell 0 rfl 1 rfl; have f0 := hB.bfree 0 rfl; have h6 := (hB.bstore 0 rfl 0 (.int .i64 Q)).bstore 0 rfl 1 (.slice a4 D.length c4); have g0 := h6.bcell 0 rfl 0 rfl; have g1 := h6.bcell 0 rfl 1 rfl))
  refine bodyPost_ret (v := .tuple #[.agg #[.int .i64 Q, .slice a4 D.length c4], .int .i64 0]) (by simp [results, Tryz.results16, go_sem, g0, g1]) rfl ?_
  exact ⟨_, us4, rfl, hl4, h6.sub (.cons _ (.cons _ (.refl _)))⟩
end Go.Proofs.YtdlmohigkkdegaaGreat
end

section
/- Walks: lines through two points, arcs, of the program; membership, of the laws. -/
namespace Go.Proofs.YtdlmohigkkdegaaGreat
set_option linter.unusedSimpArgs false
set_option linter.unusedVariables false
open Go.RowKit
attribute [local go_sem ↓] Go.wp_at_zero Go.wp_at_succ






set_option maxHeartbeats 4000000 in
set_option maxRecDepth 100000 in
theorem LineThrough1_c (vc : Value) (cs : List Int) (ga gb : Nat) (a b : Int) (w : World) (ha : w.cell? ⟨ga, 0, none⟩ = some (.int .i64 a)) (hb : w.cell? ⟨gb, 0, none⟩ = some (.int .i64 b)) (hc : RdI w vc cs) :
    Calls Tryz.prog 61 #[vc, .pointer (some ⟨ga, 0, none⟩), .pointer (some ⟨gb, 0, none⟩)] w (GivesB w (ltB a b cs)) := by
  have KA := fun n W h => Lib.hid (Contains_c vc cs n W h)
  unfold ltB
  generalize hp : decide (a ∈ cs) = x at *
  generalize hq : decide (b ∈ cs) = y at *
  cases x <;> cases y
  all_goals
    go_enter Tryz.func61, Tryz.ntmps61
    go_wp2_with (go_at_call 62; refine (KA _ _ hc).out.mono ?_; simp only [hp, hq]; rintro e w3 ⟨rfl, rfl⟩)
    go_ret
    exact ⟨rfl, St.refl _⟩
set_option maxHeartbeats 4000000 in
set_option maxRecDepth 100000 in
theorem IsArc1_c (vb vs : Value) (bs ss : List Int) (gs : Nat) (w : World) (hs : w.cell? ⟨gs, 0, none⟩ = some vs) (rs : RdI w vs ss) (rb : RdI w vb bs) :
    Calls Tryz.prog 72 #[vb, .pointer (some ⟨gs, 0, none⟩)] w (GivesB w (arB ss bs)) := by
  have KM := fun W h1 h2 => Lib.hid (MeetSets_c vb vs bs ss W h1 h2)
  rw [show ifSets bs ss (mee bs ss) = meB bs ss from rfl] at KM
  unfold arB
  generalize meB bs ss = M at *
  have HE : Hid (decide ((3 : Int) ≤ (M.length : Int)) = decide (3 ≤ M.length)) := Lib.hid (by
    by_cases e : 3 ≤ M.length
    · rw [decide_eq_true e, decide_eq_true (by omega)]
    · rw [decide_eq_false e, decide_eq_false (by omega)])
  have hS := St.refl w
  go_enter Tryz.func72, Tryz.ntmps72
  go_wp2_with (go_at_call 53; refine (KM _ rb rs).out.mono ?_; rintro e w3 ⟨vm, rfl, h3⟩; have hlm := (h3.rdI 0 rfl).len)
  go_ret
  exact ⟨ret_bool HE.out, h3.out⟩
theorem b10Has_c (v : Value) (xs : List Int) (x : Int) (w : World) (hv : RdI w v xs) :
    Calls Tryz.prog 15 #[v, .int .i64 x] w fun e w' => e = .returned (.bool (decide (x ∈ xs))) ∧ w = w' := by
  have hln := hv.len
  have hix := hv.ix
  have hc := hv.cell
  have hm := hv.le
  go_enter Tryz.func15, Tryz.ntmps15
  go_wp2_with fail
  go_loopw [5] (fun i wr => ∃ k : Nat, k ≤ xs.length ∧ i = .int .i64 k ∧ wr = w ∧ ∀ j < k, nth xs j ≠ x) (fun i _ => xs.length - (intOf i).toNat)
  case atStart => exact ⟨0, by omega, rfl, rfl, fun j h => by omega⟩
  case round =>
    obtain ⟨k, hk, rfl, rfl, hn⟩ := hrel
    by_cases hlt : k < xs.length
    · by_cases he : nth xs k = x
      · have hmem : Hid (decide (x ∈ xs) = true) := Lib.hid (decide_eq_true (by rw [← he]; exact nth_mem hlt))
        clear hn
        go_wp2_with fail
        go_ret
        exact ⟨by rw [hmem.out]; rfl, rfl⟩
      · have Hn := Lib.hid hn
        clear hn
        go_wp2_with fail
        go_roundw
        case rel => exact ⟨k + 1, by omega, by go_num, (by first | rfl | trivial), fun j hj => by
          by_cases e : j = k
          · rw [e]; exact he
          · exact Hn.out j (by omega)⟩
        case measure => simp [intOf]; omega
    · obtain rfl : k = xs.length := by omega
      have hmem : Hid (decide (x ∈ xs) = false) := Lib.hid (decide_eq_false (fun hm => by
        obtain ⟨j, hj, e⟩ := List.getElem_of_mem hm
        exact hn j hj (by rw [nth_eq hj, e])))
      clear hn
      go_wp2_with fail
      go_ret
      exact ⟨by rw [hmem.out]; rfl, rfl⟩
set_option maxHeartbeats 4000000 in
set_option maxRecDepth 100000 in
theorem LineThrough_c (P : Nat) (v : Value) (us : List Value) (A : List (List Int)) (a b : Int) (w : World) (hv : RII w v us A) (hok : dOk P A = true) (ha : 0 ≤ a ∧ a < P) (hb : 0 ≤ b ∧ b < P) (k : Nat) (hk : idxR (ltB a b) A 0 = k) :
    Calls Tryz.prog 14 #[dv P v, .int .i64 a, .int .i64 b] w fun e w' => e = .returned (.tuple #[.int .i64 k, .int .i64 0]) ∧ St w.heap.size w w' [] := by
  obtain ⟨sa, sc, hsh⟩ := hv.1.sl.sh
  rw [hv.2.1] at hsh
  subst hsh
  have hP := (dOk_t hok).le
  have hS0 := (((St.refl w).newboxF 27 #[.int .i64 P, .slice sa A.length sc]).newboxF 2 #[.int .i64 a]).newboxF 2 #[.int .i64 b]
  have b0 := hS0.bcell 2 rfl 0 rfl
  have b1 := hS0.bcell 2 rfl 1 rfl
  have ba := hS0.bcell 1 rfl 0 rfl
  have bb := hS0.bcell 0 rfl 0 rfl
  have KV := Lib.hid (ValidDesign_c P (.slice sa A.length sc) us A _ (hS0.oldII hv))
  rw [hok] at KV
  have wp1 : IntKind.i64.wrap ((P : Int) - 1) = (P : Int) - 1 := IntWalk.i64_in _ (by omega)
  have i1 := inB_true (n := a) (a := 0) (b := (P : Int) - 1) (by omega)
  have i2 := inB_true (n := b) (a := 0) (b := (P : Int) - 1) (by omega)
  have hcf : ∀ (args : Array Value) (W : World), (callFunc 61 args).run Tryz.prog W = .ok (.enter 61 args) W :=
    fun args W => callFunc_go (P := Tryz.prog) Tryz.func61 (by kernel_rfl) (by kernel_rfl) args W
  have KI := fun W (hW : St (((w.alloc (.cells #[.int .i64 P, .slice sa A.length sc] 27)).alloc (.cells #[.int .i64 a] 2)).alloc (.cells #[.int .i64 b] 2)).heap.size (((w.alloc (.cells #[.int .i64 P, .slice sa A.length sc] 27)).alloc (.cells #[.int .i64 a] 2)).alloc (.cells #[.int .i64 b] 2)) W []) =>
    Lib.hid (IndexFuncR_c 61 #[.pointer (some ⟨w.heap.size + 1, 0, none⟩), .pointer (some ⟨w.heap.size + 1 + 1, 0, none⟩)] (ltB a b) (.slice sa A.length sc) us A W ((hS0.oldII hv).keep hW.below) hcf (fun j W2 hW2 hj =>
      LineThrough1_c (vat us j) (xat A j) (w.heap.size + 1) (w.heap.size + 1 + 1) a b W2 (cell_keepF hW2.below (cell_keepF hW.below (by first | exact ba | simpa [World.size_alloc] using ba))) (cell_keepF hW2.below (cell_keepF hW.below (by first | exact bb | simpa [World.size_alloc] using bb))) ((((hS0.oldII hv).keep hW.below).keep hW2.below).row j hj)))
  simp only [hk] at KI
  unfold dv at KV ⊢
  go_enter Tryz.func14, Tryz.ntmps14
  go_wp2_with (first
    | (go_at_call 52; refine KV.out.mono ?_; rintro e w2 ⟨rfl, h2⟩; have hS2 := hS0.call0 h2; have c0 := hS2.bcell 2 rfl 0 rfl; have c1 := hS2.bcell 2 rfl 1 rfl; have ca := hS2.bcell 1 rfl 0 rfl; have cb := hS2.bcell 0 rfl 0 rfl; simp only [World.size_alloc] at ca cb)
    | (go_at_call 59; refine (within_c _ _ _ _).mono ?_; simp only [i1, i2]; rintro e w3 ⟨rfl, rfl⟩)
    | (go_at_call 60; refine (KI _ h2).out.mono ?_; rintro e w4 ⟨rfl, h4⟩; have hS4 := hS2.call0 h4))
  go_ret2
  exact ⟨rfl, hS4.out⟩
set_option maxHeartbeats 4000000 in
set_option maxRecDepth 100000 in
theorem IsArc_c (P : Nat) (v vs : Value) (us : List Value) (A : List (List Int)) (ss : List Int) (w : World) (hv : RII w v us A) (rs : RdI w vs ss) (hok : dOk P A = true) (hs : validSetB ss P = true) :
    Calls Tryz.prog 20 #[dv P v, vs] w fun e w' => e = .returned (.tuple #[.bool (!anyR (arB ss) A), .int .i64 0]) ∧ St w.heap.size w w' [] := by
  obtain ⟨sa, sc, hsh⟩ := hv.1.sl.sh
  rw [hv.2.1] at hsh
  subst hsh
  obtain ⟨ta, tc, hsh⟩ := rs.sl.sh
  rw [iv_len] at hsh
  subst hsh
  have hP := (dOk_t hok).le
  have hS0 := ((St.refl w).newboxF 27 #[.int .i64 P, .slice sa A.length sc]).newboxF 32 #[.slice ta ss.length tc]
  have b0 := hS0.bcell 1 rfl 0 rfl
  have b1 := hS0.bcell 1 rfl 1 rfl
  have ba := hS0.bcell 0 rfl 0 rfl
  have KV := Lib.hid (ValidDesign_c P (.slice sa A.length sc) us A _ (hS0.oldII hv))
  rw [hok] at KV
  have KS := fun W h => Lib.hid (ValidSet_c (.slice ta ss.length tc) ss P W h)
  rw [hs] at KS
  have hcf : ∀ (args : Array Value) (W : World), (callFunc 72 args).run Tryz.prog W = .ok (.enter 72 args) W :=
    fun args W => callFunc_go (P := Tryz.prog) Tryz.func72 (by kernel_rfl) (by kernel_rfl) args W
  have KI := fun W (hW : St ((w.alloc (.cells #[.int .i64 P, .slice sa A.length sc] 27)).alloc (.cells #[.slice ta ss.length tc] 32)).heap.size ((w.alloc (.cells #[.int .i64 P, .slice sa A.length sc] 27)).alloc (.cells #[.slice ta ss.length tc] 32)) W []) =>
    Lib.hid (ContainsFuncR_c 72 #[.pointer (some ⟨w.heap.size + 1, 0, none⟩)] (arB ss) (.slice sa A.length sc) us A W ((hS0.oldII hv).keep hW.below) hcf (fun j W2 hW2 hj =>
      IsArc1_c (vat us j) (.slice ta ss.length tc) (xat A j) ss (w.heap.size + 1) W2 (cell_keepF hW2.below (cell_keepF hW.below (by first | exact ba | simp [World.size_alloc]))) (((hS0.oldI rs).keep hW.below).keep hW2.below) ((((hS0.oldII hv).keep hW.below).keep hW2.below).row j hj)))
  generalize anyR (arB ss) A = z at *
  unfold dv at KV ⊢
  cases z
  all_goals
    go_enter Tryz.func20, Tryz.ntmps20
    go_wp2_with (first
      | (go_at_call 52; refine KV.out.mono ?_; rintro e w2 ⟨rfl, h2⟩; have hS2 := hS0.call0 h2; have c0 := hS2.bcell 1 rfl 0 rfl; have c1 := hS2.bcell 1 rfl 1 rfl; have ca := hS2.bcell 0 rfl 0 rfl; simp only [World.size_alloc] at ca)
      | (go_at_call 70; refine (KS _ ((hS0.oldI rs).keep h2.below)).out.mono ?_; rintro e w3 ⟨rfl, rfl⟩)
      | (go_at_call 71; refine (KI _ h2).out.mono ?_; rintro e w4 ⟨rfl, h4⟩; have hS4 := hS2.call0 h4))
    go_ret2
    exact ⟨rfl, hS4.out⟩
end Go.Proofs.YtdlmohigkkdegaaGreat
end

section
/- New boxes: a design, parameters. -/
namespace Go.Proofs.YtdlmohigkkdegaaGreat
set_option linter.unusedSimpArgs false
set_option linter.unusedVariables false
open Go.RowKit

theorem newDz (w : World) (P : Int) (v : Value) : St w.heap.size w (w.alloc (.cells #[.int .i64 P, v] 27)) [] ∧ BoxD (w.alloc (.cells #[.int .i64 P, v] 27)) w.heap.size P v := by
  have hN := (St.refl w).newboxF 27 #[.int .i64 P, v]
  exact ⟨hN.out, hN.bcell 0 rfl 0 rfl, hN.bcell 0 rfl 1 rfl⟩
end Go.Proofs.YtdlmohigkkdegaaGreat
end

section
/- Walks: the program's operations on elements of a valid field. -/
namespace Go.Proofs.YtdlmohigkkdegaaGreat
set_option linter.unusedSimpArgs false
set_option linter.unusedVariables false
open Go.RowKit
attribute [local go_sem ↓] Go.wp_at_zero Go.wp_at_succ

theorem FV.ok {p d : Int} {xs : List Int} (h : FV p d xs) : fOk p d xs = true := by
  have h3 : pu p 64 d.toNat 1 ≤ 64 := by
    rw [pu_le (by have := h.p2; omega) d.toNat 1 (by omega) (by rw [Int.one_mul]; exact h.q), Int.one_mul]; exact h.q
  rw [fOk_yes h.pr h.d1 h3 h.len h.top (allIn_iff.2 h.inp)]
  exact h.irr
theorem vecOk_of {q : Int} {xs : List Int} (h : In q xs) : vecOk q xs = true := by
  simp only [vecOk, anyP, Bool.not_eq_true', List.any_eq_false]
  intro x hx
  have := h x hx
  rw [inB_true (by omega)]; simp
theorem St.lits {B : Nat} {w0 w : World} {L : List Ent} (h : St B w0 w L) (xs : List Int) (hm : xs.length ≤ 1000) :
    St B w0 (w.alloc (.cells (iv xs).toArray 2)) (L ++ [row 2 (.slice (some ⟨w.heap.size, 0, none⟩) xs.length xs.length) (iv xs)]) := by
  have h2 := h.new 2 (iv xs).toArray (by simp [iv_len]; unfold maxLen; omega)
  simpa only [List.size_toArray, iv_len] using h2

theorem areElements1_c (x q : Int) (g : Nat) (w : World) (hb : w.cell? ⟨g, 0, none⟩ = some (.int .i64 q)) (q0 : 0 ≤ q) (q1 : q ≤ 1000000) :
    Calls Tryz.prog 136 #[.int .i64 x, .pointer (some ⟨g, 0, none⟩)] w (GivesB w (!inB x 0 (q - 1))) := by
  go_enter Tryz.func136, Tryz.ntmps136
  go_wp2_with fail
  refine (within_c _ _ _ _).mono ?_
  rintro e w1 ⟨rfl, rfl⟩
  go_wp2_with fail
  go_ret
  exact ⟨rfl, St.refl w⟩

set_option maxHeartbeats 1000000 in
set_option maxRecDepth 100000 in
theorem areElements_c (p : Int) (D : Nat) (v : Value) (fs : List Int) (vl : Value) (xs : List Int) (w : World) (hv : RdI w v fs) (hl : RdI w vl xs) (hf : FV p D fs) (hx : In (p ^ D) xs) :
    Calls Tryz.prog 69 #[fv p D v, vl] w (GivesB w true) := by
  have hS0 := (St.refl w).newboxF 42 #[.int .i64 p, .int .i64 D, v]
  have hd : (D : Int) ≤ 9223372036854775807 := by have := hf.d6; omega
  have HV := Lib.hid (ValidField_c p D v fs _ (hS0.oldI hv) hd)
  rw [hf.ok] at HV
  have HZ := fun W => Lib.hid (fieldSize_c p D v fs W hf)
  rw [Int.toNat_natCast] at HZ
  have hq := hf.q64
  have hq0 : 0 < p ^ D := Int.pow_pos hf.fa.pos
  have Hvec := Lib.hid (vecOk_of hx)
  clear hf hx hd
  generalize p ^ D = q at *
  have hcf := callFunc_go Tryz.func136 (by kernel_rfl) (by kernel_rfl)
  have hmf : ∀ (fn : Fn) (first cap : Array Value) (w : World), (Instr.makeFunc fn first cap).run Tryz.prog w = .ok (.func fn first cap) w := fun _ _ _ _ => rfl
  have hcall := fun (W : World) (g : Nat) (hv : RdI W vl xs) (hc : W.cell? ⟨g, 0, none⟩ = some (.int .i64 q)) => Lib.hid (ContainsFunc_c 136 #[.pointer (some ⟨g, 0, none⟩)] (fun x => !inB x 0 (q - 1)) vl xs W hv hcf (fun x W' hW _ => areElements1_c x q g W' (by
    rw [hW.below.cell (World.block_lt_of_cell? _ _ hc)]; exact hc) (by omega) (by omega)))
  clear hcf
  unfold fv at HV HZ ⊢
  go_enter Tryz.func69, Tryz.ntmps69
  go_wp2_with fail
  refine HV.out.mono ?_
  rintro e w1 ⟨rfl, h1⟩
  have hS1 := hS0.call0 h1
  have b0 := hS1.bcell 0 rfl 0 rfl
  have b1 := hS1.bcell 0 rfl 1 rfl
  have b2 := hS1.bcell 0 rfl 2 rfl
  go_wp2_with fail
  refine (HZ _).out.mono ?_
  rintro e w2 ⟨rfl, h2⟩
  have hS2 := (hS1.call0 h2).newboxF 2 #[.int .i64 q]
  go_wp2_with fail
  refine (hcall _ _ (hS2.oldI hl) (hS2.bcell 0 rfl 0 rfl)).out.mono ?_
  rw [show anyP (fun x => !inB x 0 (q - 1)) xs = false by have := Hvec.out; simpa [vecOk] using this]
  rintro e w3 ⟨rfl, h3⟩
  have hS3 := hS2.call0 h3
  go_wp2_with fail
  go_ret
  exact ⟨rfl, hS3.out⟩

theorem in2 {q a b : Int} (ha : 0 ≤ a ∧ a < q) (hb : 0 ≤ b ∧ b < q) : In q [a, b] := fun x hx => by
  simp only [List.mem_cons, List.not_mem_nil, or_false] at hx
  rcases hx with rfl | rfl <;> assumption
set_option maxHeartbeats 1000000 in
set_option maxRecDepth 100000 in
theorem FieldMul_c (p : Int) (D : Nat) (v : Value) (fs : List Int) (a b : Int) (w : World) (hv : RdI w v fs) (hf : FV p D fs) (ha : El p D a) (hb : El p D b) :
    Calls Tryz.prog 19 #[fv p D v, .int .i64 a, .int .i64 b] w (GivesI w (fmul p D fs a b)) := by
  have hS0 := (St.refl w).newboxF 42 #[.int .i64 p, .int .i64 D, v]
  have hS1 := hS0.lits [a, b] (by simp)
  have HE := Lib.hid (areElements_c p D v fs _ [a, b] _ (hS1.oldI hv) (hS1.rdI 1 rfl) hf (in2 ha hb))
  have HC := fun W (hv : RdI W v fs) => Lib.hid (product_c p D v fs a b W hv hf (ha.lim hf).1 (ha.lim hf).2 (hb.lim hf).1 (hb.lim hf).2 )
  simp only [World.size_alloc] at HE
  clear hf ha hb
  unfold fv at *
  go_enter Tryz.func19, Tryz.ntmps19
  go_wp2_with fail
  refine HE.out.mono ?_
  rintro e w1 ⟨rfl, h1⟩
  have hS2 := hS1.call0 h1
  have b0 := hS2.bcell 0 rfl 0 rfl
  have b1 := hS2.bcell 0 rfl 1 rfl
  have b2 := hS2.bcell 0 rfl 2 rfl
  go_wp2_with fail
  refine (HC _ (hS2.oldI hv)).out.mono ?_
  rintro e w2 ⟨rfl, h2⟩
  have hS3 := hS2.call0 h2
  go_wp2_with fail
  go_ret
  exact ⟨rfl, hS3.out⟩
end Go.Proofs.YtdlmohigkkdegaaGreat
end
