/- The texts of this claim, run 9: Ar2 Rx1 Rx2 Rx3 Rx4 Rx5 Br4. -/
import Derived.Test.YtljemlfocajhnaaGreatK4
import Derived.Test.YtljemlfocajhnaaGreatK6
import Derived.Test.YtljemlfocajhnaaGreatK7
import Derived.Test.YtljemlfocajhnaaGreatK8
import Derived.Deep.CutRange
import Derived.Deep.CutBlock
section
/- Walks: lists of squares and arrays that the reference draws. -/
namespace Go.Proofs.YtljemlfocajhnaaGreat
set_option linter.unusedSimpArgs false
set_option linter.unusedVariables false
open Go.RowKit
attribute [local go_sem ↓] Go.wp_at_zero Go.wp_at_succ


theorem mkq_of {q : Nat} (h : mkOk (q : Int) = true) : MK q := by
  obtain ⟨m, e, _, _, hm⟩ := mkOk_t h
  have : q = m := by omega
  rw [this]; exact hm
end Go.Proofs.YtljemlfocajhnaaGreat
end

section
/- Walk: the affine plane of a field, of the reference. -/
namespace Go.Proofs.YtljemlfocajhnaaGreat
set_option linter.unusedSimpArgs false
set_option linter.unusedVariables false
open Go.RowKit
attribute [local go_sem ↓] Go.wp_at_zero Go.wp_at_succ

set_option maxHeartbeats 16000000 in
set_option maxRecDepth 100000 in
theorem l12Plane_c (q : Nat) (w : World) (hm : mkOk q = true) (q2 : 2 ≤ q) (q5 : q ≤ 5) : Calls Tryz.prog 32 #[.int .i64 q] w (MakesDV w (q * q : Nat) (srtL (rpB q q))) := by
  obtain ⟨n, p, D, fs, hn, hf, h1, h2, h3, h4⟩ := mk_fq hm (by omega)
  obtain rfl : n = q := by omega
  have hS0 := (St.refl w).newboxF 26 #[.int .i64 0, .slice none 0 0]
  have HM := Lib.hid (l03Make_c n (w.alloc (.cells #[.int .i64 0, .slice none 0 0] 26)) q2 (by omega) (mkq_of hm))
  have hmk := mkq_of hm
  have e1 : (((spl n).1 : Nat) : Int) = p := by rw [← h1]; simp [mkfP, hm]
  have e2 : (spl n).2 = D := by
    have e : (((spl n).2 : Nat) : Int) = D := by rw [← h2]; simp [mkfD, hm]
    omega
  have e3 : mkF n = fs := by rw [← h3]; simp [mkfL, hm]
  rw [e1, e2, e3] at HM
  have HS := fun m b x => Lib.hid (lsX_succ n m b x)
  rw [h1, h2, h3, Int.toNat_natCast] at HS
  have HVs := fun m x => Lib.hid (lvX_succ n m x)
  have HE := fun (a b : Int) => Lib.hid (fsum_el (D := D) (show 0 < p by have := hf.fv.p2; omega) a b 1)
  have HX := fun (a b : Int) => Lib.hid ((fmul_el (p := p) (D := D) hf.fv.fa a b).lim hf.fv)
  have Hpw := Lib.hid hf.pow
  have Hfv := Lib.hid hf.fv
  have KPr := fun g v W a b (hW : RdI W v fs) (hB : BoxF W g p D v) a0 a1 b0 b1 => Lib.hid (l03Mul_c p D g v fs a b W hW hB hf.fv a0 a1 b0 b1)
  have KCo := fun g v W a b (hB : BoxF W g p D v) a0 a1 b0 b1 => Lib.hid (l03Sum_c p D g v fs a b 1 W hB hf.fv a0 a1 b0 b1 (by omega) (by omega))
  have R0 := fun c => Lib.hid (rpA_succ n c)
  have R1 := fun m => Lib.hid (rpC_0 n m)
  have R2 := fun m b => Lib.hid (rpC_succ n m b)
  have R3 := fun m => Lib.hid (rpB_succ n m)
  have R4 := Lib.hid (rpB_0 n)
  have RL := fun m b (h : m ≤ n) (hb : b ≤ n) => Lib.hid (show (rpC n m b).length ≤ 1000 by
    rw [rpC_len]
    have : m * n ≤ 5 * 5 := Nat.mul_le_mul (by omega) (by omega)
    omega)
  have RA := fun c (h : c ≤ n) => Lib.hid (show (rpA n c).length ≤ 1000 by rw [rpA_len]; omega)
  have hqq : (n : Int) * n ≤ 25 ∧ 0 ≤ (n : Int) * n := by
    have : n * n ≤ 5 * 5 := Nat.mul_le_mul q5 q5
    omega
  have wqq : IntKind.i64.wrap ((n : Int) * n) = (n : Int) * n := IntWalk.i64_in _ (by omega)
  have Hrows := Lib.hid (fun xs (hx : xs ∈ rpB n n) => (show xs.length ≤ 1048576 by
    rcases List.mem_append.1 hx with hx | hx
    · obtain ⟨c, _, rfl⟩ := List.mem_map.1 hx
      simp [lnV]; omega
    · obtain ⟨m, _, hx⟩ := List.mem_flatMap.1 hx
      obtain ⟨b, _, rfl⟩ := List.mem_map.1 hx
      simp [lnS]; omega))
  clear hf h1 h2 h3 h4 hm hn hmk e1 e2 e3
  go_enter Tryz.func32, Tryz.ntmps32
  go_wp2_with (go_at_call 57; refine HM.out.mono ?_; rintro e2 w2 ⟨v2, rfl, h2⟩; obtain ⟨va, vc, hvs⟩ := (h2.rdI 0 rfl).sl.sh; rw [iv_len] at hvs; subst hvs; unfold fv; have hB := (hS0.call h2).newboxF 89 #[.int .i64 p, .int .i64 D, .slice va fs.length vc])
  clear HM hS0 h2
  obtain ⟨LB, hLB⟩ : ∃ LB : List Ent, LB = [box 89 w2.heap.size [.int .i64 p, .int .i64 D, .slice va fs.length vc], box 26 w.heap.size [.int .i64 0, .slice none 0 0], row 2 (.slice va fs.length vc) (iv fs)] := ⟨_, rfl⟩
  have hS1 := hB.empII0.perm (L' := own2 (.slice (some ⟨w2.heap.size + 1, 0, none⟩) 0 0) [] (rpA n 0) ++ LB) (by rw [hLB]; simp only [World.size_alloc]; exact List.perm_append_comm)
  have hbx : Hid (LB[0]? = some (box 89 w2.heap.size [.int .i64 p, .int .i64 D, .slice va fs.length vc])) := Lib.hid (by rw [hLB]; rfl)
  have hrw : Hid (LB[2]? = some (row 2 (.slice va fs.length vc) (iv fs))) := Lib.hid (by rw [hLB]; rfl)
  have HLB := Lib.hid hLB
  clear hB hLB
  go_wp2_with fail
  go_loopw [4, 5, 6, 7] (fun o i _ _ wr => ∃ (c : Nat) (us : List Value), c ≤ n ∧ i = .int .i64 c ∧ Hid (us.length = (rpA n c).length) ∧ St w.heap.size w wr (own2 o us (rpA n c) ++ LB)) (fun _ i _ _ _ => n - (intOf i).toNat)
  case atStart => exact ⟨0, [], by omega, rfl, Lib.hid rfl, hS1⟩
  case round =>
    clear hS1
    obtain ⟨c, us, hc, rfl, hlu, hS⟩ := hrel
    by_cases hct : c < n
    · have hqm : (n : Int) * c ≤ 25 ∧ 0 ≤ (n : Int) * c := by
        have : n * c ≤ 5 * 5 := Nat.mul_le_mul q5 (by omega)
        omega
      have wqm : IntKind.i64.wrap ((n : Int) * c) = (n : Int) * c := IntWalk.i64_in _ (by omega)
      have HVs := HVs c
      have R0 := R0 c
      obtain ⟨nc, hnc⟩ : ∃ nc, (n : Int) * c = nc := ⟨_, rfl⟩
      rw [hnc] at HVs wqm hqm
      have Hnc := Lib.hid hnc
      have hS' := (hS.new 2 #[] (by simp)).perm (L' := row 2 (.slice (some ⟨wr.heap.size, 0, none⟩) 0 0) (iv (lvX n c 0)) :: (own2 u4 us (rpA n c) ++ LB)) List.perm_append_comm
      go_wp2_with fail
      go_loopw [6, 7] (fun o i wr => ∃ (x : Nat), x ≤ n ∧ i = .int .i64 x ∧ St w.heap.size w wr (row 2 o (iv (lvX n c x)) :: (own2 u4 us (rpA n c) ++ LB))) (fun _ i _ => n - (intOf i).toNat)
      case atStart => exact ⟨0, by omega, rfl, hS'⟩
      case round =>
        clear hS hS'
        obtain ⟨x, hx, rfl, hS⟩ := hrel
        by_cases hxt : x < n
        · have HV := HVs x
          have hN := Lib.hid (show (lvX n c x).length < 4294967296 by simp [lvX]; omega)
          have w5 : IntKind.i64.wrap (nc + (x : Int)) = nc + (x : Int) := IntWalk.i64_in _ (by omega)
          go_wp2_with (at_builtin; refine appI hS 0 rfl hN.out rfl _ _ rfl rfl _ (by first | rfl | simp [Act.eval, Act.put]) ?_; intro v5 w5 hS5; simp only [List.set_cons_zero] at hS5)
          rw [← HV.out] at hS5
          go_roundw
          case rel => exact ⟨x + 1, by omega, by go_num, hS5⟩
          case measure => simp [intOf]; omega
        · obtain rfl : x = n := by omega
          obtain ⟨qa, qc, hq⟩ := (hS.rdI 0 rfl).sl.sh
          rw [iv_len, show (lvX x c x).length = x by simp [lvX]] at hq
          subst hq
          have hS7 := hS.perm (L' := own2 u4 us (rpA x c) ++ LB ++ [row 2 (.slice qa x qc) (iv (lvX x c x))]) (List.perm_append_singleton _ _).symm
          have hN := Lib.hid (show us.length < 4294967296 by
            have h2 := (RA c (by omega)).out
            rw [hlu.out]; omega)
          go_wp2_with (at_builtin; refine appII hS7 0 rfl hN.out rfl _ _ rfl rfl _ rfl rfl ?_; intro v5 w5 hS5)
          have hS8 := own2_snocL hlu.out hS5
          rw [show lvX x c x = lnV x c from rfl, ← R0.out] at hS8
          have hu3 : Hid ((us ++ [Value.slice qa x qc]).length = (rpA x (c + 1)).length) := Lib.hid (by rw [R0.out]; simp [hlu.out])
          clear hS hS7 hS5 hN
          go_roundw
          case rel => exact ⟨c + 1, _, by omega, by go_num, hu3, hS8⟩
          case measure => simp [intOf]; omega
    · obtain rfl : c = n := by omega
      rw [← R4.out] at hS hlu
      clear RA R0
      go_wp2_with fail
      go_loopw [4, 8, 9, 10, 11] (fun o i _ _ _ wr => ∃ (m : Nat) (us : List Value), m ≤ c ∧ i = .int .i64 m ∧ Hid (us.length = (rpB c m).length) ∧ St w.heap.size w wr (own2 o us (rpB c m) ++ LB)) (fun _ i _ _ _ _ => c - (intOf i).toNat)
      case atStart => exact ⟨0, _, by omega, rfl, hlu, hS⟩
      case round =>
        clear hS hlu
        obtain ⟨m, us, hmn, rfl, hlu, hS⟩ := hrel
        by_cases hmt : m < c
        · have R1 := R1 m
          have R3 := R3 m
          rw [← R1.out] at hS hlu
          go_wp2_with fail
          go_loopw [4, 9, 10, 11] (fun o i _ _ wr => ∃ (b : Nat) (us : List Value), b ≤ c ∧ i = .int .i64 b ∧ Hid (us.length = (rpC c m b).length) ∧ St w.heap.size w wr (own2 o us (rpC c m b) ++ LB)) (fun _ i _ _ _ => c - (intOf i).toNat)
          case atStart => exact ⟨0, _, by omega, rfl, hlu, hS⟩
          case round =>
            clear hS hlu
            obtain ⟨b, us, hb, rfl, hlu, hS⟩ := hrel
            by_cases hbt : b < c
            · have R2 := R2 m b
              have HS := HS m b
              have hS' := (hS.new 2 #[] (by simp)).perm (L' := row 2 (.slice (some ⟨wr.heap.size, 0, none⟩) 0 0) (iv (lsX c m b 0)) :: (own2 u4 us (rpC c m b) ++ LB)) List.perm_append_comm
              go_wp2_with fail
              go_loopw [10, 11] (fun o i wr => ∃ (y : Nat), y ≤ c ∧ i = .int .i64 y ∧ St w.heap.size w wr (row 2 o (iv (lsX c m b y)) :: (own2 u4 us (rpC c m b) ++ LB))) (fun _ i _ => c - (intOf i).toNat)
              case atStart => exact ⟨0, by omega, rfl, hS'⟩
              case round =>
                clear hS hS'
                obtain ⟨y, hy, rfl, hS⟩ := hrel
                by_cases hyt : y < c
                · have HSy := HS y
                  have hN := Lib.hid (show (lsX c m b y).length < 4294967296 by simp [lsX]; omega)
                  have hE := (HE (fmul p D fs m y) b).out
                  have hX := (HX m y).out
                  have KP1 := fun g W hW hB => KPr g (.slice va fs.length vc) W (m : Int) (y : Int) hW hB (by omega) (by omega) (by omega) (by omega)
                  have KC1 := fun g W hB => KCo g (.slice va fs.length vc) W (fmul p D fs m y) (b : Int) hB hX.1 hX.2 (by omega) (by omega)
                  have hxy : (c : Int) * y ≤ 25 ∧ 0 ≤ (c : Int) * y := by
                    have : c * y ≤ 5 * 5 := Nat.mul_le_mul q5 (by omega)
                    omega
                  have wxy : IntKind.i64.wrap ((c : Int) * y) = (c : Int) * y := IntWalk.i64_in _ (by omega)
                  have hEb : 0 ≤ fsum p D (fmul p D fs m y) b 1 ∧ fsum p D (fmul p D fs m y) b 1 ≤ 5 := by
                    have h1 := hE.1
                    have h2 := hE.2
                    rw [Hpw.out] at h2
                    omega
                  clear hE hX
                  generalize fsum p D (fmul p D fs m y) b 1 = sm at *
                  generalize fmul p D fs m y = ml at *
                  obtain ⟨xy, hxye⟩ : ∃ xy, (c : Int) * y = xy := ⟨_, rfl⟩
                  rw [hxye] at hxy wxy HSy
                  have w5 : IntKind.i64.wrap (xy + sm) = xy + sm := IntWalk.i64_in _ (by omega)
                  have hSd := Lib.hid hS
                  have hB := Lib.hid (show BoxF wr w2.heap.size p D (.slice va fs.length vc) from ⟨hS.bcell _ (at_cons (at_app hbx.out)) 0 rfl, hS.bcell _ (at_cons (at_app hbx.out)) 1 rfl, hS.bcell _ (at_cons (at_app hbx.out)) 2 rfl⟩)
                  have hR := Lib.hid (hS.rdI _ (at_cons (at_app hrw.out)))
                  clear hS
                  go_wp2_with fail
                  refine (KP1 _ _ hR.out hB.out).out.mono ?_
                  rintro e w6 ⟨rfl, h6⟩
                  have hS := hSd.out.call0 h6
                  have hB := Lib.hid (show BoxF w6 w2.heap.size p D (.slice va fs.length vc) from ⟨hS.bcell _ (at_cons (at_app hbx.out)) 0 rfl, hS.bcell _ (at_cons (at_app hbx.out)) 1 rfl, hS.bcell _ (at_cons (at_app hbx.out)) 2 rfl⟩)
                  clear h6 hSd
                  go_wp2_with fail
                  refine (KC1 _ _ hB.out).out.mono ?_
                  rintro e w7 ⟨rfl, h7⟩
                  have hS2 := hS.call0 h7
                  clear h7 hS
                  go_wp2_with (at_builtin; refine appI hS2 0 rfl hN.out rfl _ _ rfl rfl _ (by first | rfl | simp [Act.eval, Act.put]) ?_; intro v5 w5 hS5; simp only [List.set_cons_zero] at hS5)
                  rw [← HSy.out] at hS5
                  go_roundw
                  case rel => exact ⟨y + 1, by omega, by go_num, hS5⟩
                  case measure => simp [intOf]; omega
                · obtain rfl : y = c := by omega
                  obtain ⟨qa, qc, hq⟩ := (hS.rdI 0 rfl).sl.sh
                  rw [iv_len, show (lsX y m b y).length = y by simp [lsX]] at hq
                  subst hq
                  have hS7 := hS.perm (L' := own2 u4 us (rpC y m b) ++ LB ++ [row 2 (.slice qa y qc) (iv (lsX y m b y))]) (List.perm_append_singleton _ _).symm
                  have hN := Lib.hid (show us.length < 4294967296 by have h2 := (RL m b hmn hb).out; rw [hlu.out]; omega)
                  go_wp2_with (at_builtin; refine appII hS7 0 rfl hN.out rfl _ _ rfl rfl _ rfl rfl ?_; intro v5 w5 hS5)
                  have hS8 := own2_snocL hlu.out hS5
                  rw [show lsX y m b y = lnS y m b from rfl, ← R2.out] at hS8
                  have hu3 : Hid ((us ++ [Value.slice qa y qc]).length = (rpC y m (b + 1)).length) := Lib.hid (by rw [R2.out]; simp [hlu.out])
                  go_roundw
                  case rel => exact ⟨b + 1, _, by omega, by go_num, hu3, hS8⟩
                  case measure => simp [intOf]; omega
            · obtain rfl : b = c := by omega
              rw [← R3.out] at hS hlu
              go_wp2_with fail
              go_roundw
              case rel => exact ⟨m + 1, us, by omega, by go_num, hlu, hS⟩
              case measure => simp [intOf]; omega
        · obtain rfl : m = c := by omega
          have rR := (hS.sub (List.sublist_append_left _ _)).rii hlu.out
          have hSb := (hS.perm (L' := [box 26 w.heap.size [.int .i64 0, .slice none 0 0]] ++ (own2 u4 us (rpB m m) ++ [box 89 w2.heap.size [.int .i64 p, .int .i64 D, .slice va fs.length vc], row 2 (.slice va fs.length vc) (iv fs)])) (by rw [HLB.out]; exact (by (try simp only [own2, List.cons_append, List.nil_append, List.append_nil]); classical exact List.perm_iff_count.2 (fun a => by simp only [List.cons_append, List.nil_append, List.append_nil, List.count_append, List.count_cons, List.count_nil] <;> omega)))).sub (L' := [box 26 w.heap.size [.int .i64 0, .slice none 0 0]]) (List.sublist_append_left _ _)
          have KS := Lib.hid (l10Sort_c u4 us _ _ rR (by rw [rpB_len]; have := Nat.mul_le_mul q5 q5; omega) Hrows.out)
          have hmm : ((m * m : Nat) : Int) = (m : Int) * m := by omega
          generalize srtL (rpB m m) = A at *
          rw [hmm]
          clear rR hS hlu
          go_wp2_with (go_at_call 33; refine KS.out.mono ?_; rintro e4 w4 ⟨v4, us4, rfl, hl4, h4⟩; obtain ⟨a4, c4, hv4⟩ := (h4.rd 0 (e := 46) (v := v4) (us := us4) rfl).sl.sh; rw [hl4] at hv4; subst hv4; have hB := hSb.call h4; have e0 := hB.bcell 0 rfl 0 rfl; have e1 := hB.bcell 0 rfl 1 rfl; have f0 := hB.bfree 0 rfl; have h6 := (hB.bstore 0 rfl 0 (.int .i64 ((m : Int) * m))).bstore 0 rfl 1 (.slice a4 A.length c4); have g0 := h6.bcell 0 rfl 0 rfl; have g1 := h6.bcell 0 rfl 1 rfl)
          refine bodyPost_ret (v := .agg #[.int .i64 ((m : Int) * m), .slice a4 A.length c4]) (by simp [results, Tryz.results32, go_sem, g0, g1]) rfl ?_
          exact ⟨_, us4, rfl, hl4, h6.sub (.cons _ (.refl _))⟩
end Go.Proofs.YtljemlfocajhnaaGreat
end

section
/- Walk: the points of a projective plane and the plane, of the reference. -/
namespace Go.Proofs.YtljemlfocajhnaaGreat
set_option linter.unusedSimpArgs false
set_option linter.unusedVariables false
open Go.RowKit
attribute [local go_sem ↓] Go.wp_at_zero Go.wp_at_succ

set_option maxHeartbeats 16000000 in
set_option maxRecDepth 100000 in
theorem l12Triples_c (q : Nat) (w : World) (hq : q ≤ 1000) : Calls Tryz.prog 86 #[.int .i64 q] w (MakesII w (ppB q q)) := by
  have hS0 : St w.heap.size w ((w.alloc (.cells #[.int .i64 0, .int .i64 0, .int .i64 1] 2)).alloc (.cells #[.slice (some ⟨w.heap.size, 0, none⟩) 3 3] 46)) (own2 (.slice (some ⟨w.heap.size + 1, 0, none⟩) 1 1) [.slice (some ⟨w.heap.size, 0, none⟩) 3 3] (ppA 0)) := by
    have h1 := (((St.refl w).new 2 #[.int .i64 0, .int .i64 0, .int .i64 1] (by simp [maxLen])).new 46 #[.slice (some ⟨w.heap.size, 0, none⟩) 3 3] (by simp [maxLen]))
    simp only [World.size_alloc] at h1
    exact h1.perm List.perm_append_comm
  have HA := fun z => Lib.hid (ppA_succ z)
  have HC := fun y z => Lib.hid (ppC_succ q y z)
  have HB := fun y => Lib.hid (ppB_succ q y)
  have HB0 := Lib.hid (ppB_0 q)
  have HC0 := fun y => Lib.hid (ppC_0 q y)
  have HAl := fun z => Lib.hid (ppA_len z)
  have HCl := fun y z => Lib.hid (ppC_len q y z)
  have Hsq : ∀ y, y ≤ q → Hid (y * q ≤ 1000 * 1000) := fun y hy => Lib.hid (Nat.mul_le_mul (by omega) (by omega))
  go_enter Tryz.func86, Tryz.ntmps86
  go_wp2_with fail
  go_loopw [3, 4] (fun p i wr => ∃ (z : Nat) (us : List Value), z ≤ q ∧ i = .int .i64 z ∧ Hid (us.length = (ppA z).length) ∧ St w.heap.size w wr (own2 p us (ppA z))) (fun _ i _ => q - (intOf i).toNat)
  case atStart => exact ⟨0, _, by omega, rfl, Lib.hid rfl, hS0⟩
  case round =>
    clear hS0
    obtain ⟨z, us, hz, rfl, hlu, hS⟩ := hrel
    by_cases hlt : z < q
    · have hN := Lib.hid (show us.length < 4294967296 by rw [hlu.out, (HAl z).out]; omega)
      have hS1 := hS.new 2 #[.int .i64 0, .int .i64 1, .int .i64 z] (by simp [maxLen])
      have HAz := HA z
      clear hS
      go_wp2_with (at_builtin; refine appII hS1 0 rfl hN.out rfl _ _ rfl rfl _ rfl (by rw [World.size_alloc]; rfl) ?_; intro v5 w5 hS5)
      have hS6 := own2_snocL (L2 := []) hlu.out (xs := [0, 1, (z : Int)]) (by rw [List.append_nil]; exact hS5)
      rw [← HAz.out, List.append_nil] at hS6
      have hu3 : Hid ((us ++ [Value.slice (some ⟨wr.heap.size, 0, none⟩) 3 3]).length = (ppA (z + 1)).length) := Lib.hid (by rw [HAz.out]; simp [hlu.out])
      clear hS1 hS5
      go_roundw
      case rel => exact ⟨z + 1, _, by omega, by go_num, hu3, hS6⟩
      case measure => simp [intOf]; omega
    · obtain rfl : z = q := by omega
      rw [← HB0.out] at hS hlu
      go_wp2_with fail
      go_loopw [3, 5, 6] (fun p i _ wr => ∃ (y : Nat) (us : List Value), y ≤ z ∧ i = .int .i64 y ∧ Hid (us.length = (ppB z y).length) ∧ St w.heap.size w wr (own2 p us (ppB z y))) (fun _ i _ _ => z - (intOf i).toNat)
      case atStart => exact ⟨0, _, by omega, rfl, hlu, hS⟩
      case round =>
        clear hS hlu
        obtain ⟨y, us, hy, rfl, hlu, hS⟩ := hrel
        by_cases hyt : y < z
        · have HBy := HB y
          have Hsy := Hsq y hy
          rw [← (HC0 y).out] at hS hlu
          go_wp2_with fail
          go_loopw [3, 6] (fun p i wr => ∃ (x : Nat) (us : List Value), x ≤ z ∧ i = .int .i64 x ∧ Hid (us.length = (ppC z y x).length) ∧ St w.heap.size w wr (own2 p us (ppC z y x))) (fun _ i _ => z - (intOf i).toNat)
          case atStart => exact ⟨0, _, by omega, rfl, hlu, hS⟩
          case round =>
            clear hS hlu
            obtain ⟨x, us, hx, rfl, hlu, hS⟩ := hrel
            by_cases hxt : x < z
            · have hN := Lib.hid (show us.length < 4294967296 by rw [hlu.out, (HCl y x).out]; have := Hsy.out; omega)
              have hS1 := hS.new 2 #[.int .i64 1, .int .i64 y, .int .i64 x] (by simp [maxLen])
              have HCx := HC y x
              clear hS
              go_wp2_with (at_builtin; refine appII hS1 0 rfl hN.out rfl _ _ rfl rfl _ rfl (by rw [World.size_alloc]; rfl) ?_; intro v5 w5 hS5)
              have hS6 := own2_snocL (L2 := []) hlu.out (xs := [1, (y : Int), (x : Int)]) (by rw [List.append_nil]; exact hS5)
              rw [← HCx.out, List.append_nil] at hS6
              have hu3 : Hid ((us ++ [Value.slice (some ⟨wr.heap.size, 0, none⟩) 3 3]).length = (ppC z y (x + 1)).length) := Lib.hid (by rw [HCx.out]; simp [hlu.out])
              clear hS1 hS5
              go_roundw
              case rel => exact ⟨x + 1, _, by omega, by go_num, hu3, hS6⟩
              case measure => simp [intOf]; omega
            · obtain rfl : x = z := by omega
              rw [← HBy.out] at hS hlu
              go_wp2_with fail
              go_roundw
              case rel => exact ⟨y + 1, us, by omega, by go_num, hlu, hS⟩
              case measure => simp [intOf]; omega
        · obtain rfl : y = z := by omega
          go_wp2_with fail
          go_ret
          exact ⟨_, us, rfl, hlu.out, hS⟩
end Go.Proofs.YtljemlfocajhnaaGreat
end

section
/- Walk: the projective plane of a field, of the reference. -/
namespace Go.Proofs.YtljemlfocajhnaaGreat
set_option linter.unusedSimpArgs false
set_option linter.unusedVariables false
open Go.RowKit
attribute [local go_sem ↓] Go.wp_at_zero Go.wp_at_succ

set_option maxHeartbeats 16000000 in
set_option maxRecDepth 100000 in
theorem l12Space_c (q : Nat) (w : World) (hm : mkOk q = true) (q2 : 2 ≤ q) (q5 : q ≤ 5) : Calls Tryz.prog 55 #[.int .i64 q] w (MakesDV w (q * q + q + 1 : Nat) (pjB q)) := by
  obtain ⟨n, p, D, fs, hn, hf, h1, h2, h3, h4⟩ := mk_fq hm (by omega)
  obtain rfl : n = q := by omega
  have hS0 := (St.refl w).newboxF 26 #[.int .i64 0, .slice none 0 0]
  have HM := Lib.hid (l03Make_c n (w.alloc (.cells #[.int .i64 0, .slice none 0 0] 26)) q2 (by omega) (mkq_of hm))
  have e1 : (((spl n).1 : Nat) : Int) = p := by rw [← h1]; simp [mkfP, hm]
  have e2 : (spl n).2 = D := by
    have e : (((spl n).2 : Nat) : Int) = D := by rw [← h2]; simp [mkfD, hm]
    omega
  have e3 : mkF n = fs := by rw [← h3]; simp [mkfL, hm]
  rw [e1, e2, e3] at HM
  have HP := fun W => Lib.hid (l12Triples_c n W (by omega))
  have hBe : pjB n = srtL (pjU n) := rfl
  have hUe : pjU n = pjQ (mkfP n) (mkfD n).toNat (mkfL n) (ppB n n) (ppB n n).length := rfl
  rw [h1, h2, h3, Int.toNat_natCast] at hUe
  have hX3 := pp_3X n q2
  have hXl := ppB_len n n
  have HX2 : (ppB n n).length ≤ 31 := by
    rw [hXl]
    have : n * n ≤ 5 * 5 := Nat.mul_le_mul q5 q5
    omega
  have HXl := Lib.hid hXl
  clear hXl
  generalize hX : ppB n n = X at *
  have Hlim := fun u v i => Lib.hid (dtS_limX hf.pow hf.fv (by omega) u v i)
  have HXm := fun (a b : Int) => Lib.hid ((fmul_el (p := p) (D := D) hf.fv.fa a b).lim hf.fv)
  have KPr := fun g v W a b (hW : RdI W v fs) (hB : BoxF W g p D v) a0 a1 b0 b1 => Lib.hid (l03Mul_c p D g v fs a b W hW hB hf.fv a0 a1 b0 b1)
  have KCo := fun g v W a b (hB : BoxF W g p D v) a0 a1 b0 b1 => Lib.hid (l03Sum_c p D g v fs a b 1 W hB hf.fv a0 a1 b0 b1 (by omega) (by omega))
  have HB := Lib.hid hBe
  have HU := Lib.hid hUe
  have HX3 := Lib.hid hX3
  have Hhx := Lib.hid hX
  clear hf h1 h2 h3 h4 hm hn hX3 hX hBe hUe e1 e2 e3
  go_enter Tryz.func55, Tryz.ntmps55
  go_wp2_with (first
    | (go_at_call 57; refine HM.out.mono ?_; rintro e2 w2 ⟨v2, rfl, h2⟩; obtain ⟨va, vc, hvs⟩ := (h2.rdI 0 rfl).sl.sh; rw [iv_len] at hvs; subst hvs; unfold fv; have hB := (hS0.call h2).newboxF 89 #[.int .i64 p, .int .i64 D, .slice va fs.length vc])
    | (go_at_call 86; refine (HP _).out.mono ?_; rintro e3 w3 ⟨v3, up, rfl, hup, h3⟩; have hC := hB.call h3))
  try rw [Hhx.out] at hC hup
  clear HM HP hS0 h2 hB h3
  have Hup := Lib.hid hup
  obtain ⟨LB, hLB⟩ : ∃ LB : List Ent, LB = own2 v3 up X ++ [box 89 w2.heap.size [.int .i64 p, .int .i64 D, .slice va fs.length vc], box 26 w.heap.size [.int .i64 0, .slice none 0 0], row 2 (.slice va fs.length vc) (iv fs)] := ⟨_, rfl⟩
  have hD : St w.heap.size w w3 LB := hC.perm (by rw [hLB]; exact (by (try simp only [own2, List.cons_append, List.nil_append, List.append_nil]); classical exact List.perm_iff_count.2 (fun a => by simp only [List.cons_append, List.nil_append, List.append_nil, List.count_append, List.count_cons, List.count_nil] <;> omega)))
  have hS1 := hD.empII0.perm (L' := own2 (.slice (some ⟨w3.heap.size, 0, none⟩) 0 0) [] (pjQ p D fs X 0) ++ LB) List.perm_append_comm
  have hbx : Hid (LB[(own2 v3 up X).length + 0]? = some (box 89 w2.heap.size [.int .i64 p, .int .i64 D, .slice va fs.length vc])) := Lib.hid (by rw [hLB]; exact at_app rfl)
  have hrw : Hid (LB[(own2 v3 up X).length + 2]? = some (row 2 (.slice va fs.length vc) (iv fs))) := Lib.hid (by rw [hLB]; exact at_app rfl)
  have hsub : Hid (List.Sublist (own2 v3 up X) LB) := Lib.hid (by rw [hLB]; exact List.sublist_append_left _ _)
  have hRd := fun {W : World} {L : List Ent} (h : St w.heap.size w W L) (hs : List.Sublist LB L) => (h.sub (hsub.out.trans hs)).rii Hup.out
  have hln := (hRd hS1 (List.sublist_append_right _ _)).len
  have HLB := Lib.hid hLB
  clear hC hLB hD hup
  go_wp2_with fail
  go_loopw [5, 6, 7, 8, 9, 10] (fun o i _ _ _ _ wr => ∃ (j : Nat) (us : List Value), j ≤ X.length ∧ i = .int .i64 j ∧ Hid (us.length = (pjQ p D fs X j).length) ∧ St w.heap.size w wr (own2 o us (pjQ p D fs X j) ++ LB)) (fun _ i _ _ _ _ _ => X.length - (intOf i).toNat)
  case atStart => exact ⟨0, _, by omega, rfl, Lib.hid rfl, hS1⟩
  case round =>
    clear hS1
    obtain ⟨j, us, hj, rfl, hlu, hS⟩ := hrel
    by_cases hjt : j < X.length
    · have hS' := (hS.new 2 #[] (by simp)).perm (L' := row 2 (.slice (some ⟨wr.heap.size, 0, none⟩) 0 0) (iv (pjR p D fs X (xat X j) 0)) :: (own2 u5 us (pjQ p D fs X j) ++ LB)) List.perm_append_comm
      go_wp2_with fail
      go_loopw [7, 8, 9, 10] (fun o i _ _ wr => ∃ (k : Nat), k ≤ X.length ∧ i = .int .i64 k ∧ St w.heap.size w wr (row 2 o (iv (pjR p D fs X (xat X j) k)) :: (own2 u5 us (pjQ p D fs X j) ++ LB))) (fun _ i _ _ _ => X.length - (intOf i).toNat)
      case atStart => exact ⟨0, by omega, rfl, hS'⟩
      case round =>
        clear hS hS'
        obtain ⟨k, hk, rfl, hS⟩ := hrel
        by_cases hkt : k < X.length
        · go_wp2_with fail
          go_loopw [9, 10] (fun s i wr => ∃ (e : Nat), e ≤ 3 ∧ i = .int .i64 e ∧ s = .int .i64 (dtS p D fs (xat X j) (xat X k) e) ∧ St w.heap.size w wr (row 2 u7 (iv (pjR p D fs X (xat X j) k)) :: (own2 u5 us (pjQ p D fs X j) ++ LB))) (fun _ i _ => 3 - (intOf i).toNat)
          case atStart => exact ⟨0, by omega, rfl, rfl, hS⟩
          case round =>
            clear hS
            obtain ⟨e, he, rfl, rfl, hS⟩ := hrel
            by_cases het : e < 3
            · have hu := (HX3.out j hjt).2 e het
              have hv := (HX3.out k hkt).2 e het
              have HSc := Lib.hid (show dtS p D fs (xat X j) (xat X k) (e + 1) = fsum p D (dtS p D fs (xat X j) (xat X k) e) (fmul p D fs (nth (xat X j) e) (nth (xat X k) e)) 1 from rfl)
              have hl := (Hlim (xat X j) (xat X k) e).out
              have hx := (HXm (nth (xat X j) e) (nth (xat X k) e)).out
              have hsL : List.Sublist LB (row 2 u7 (iv (pjR p D fs X (xat X j) k)) :: (own2 u5 us (pjQ p D fs X j) ++ LB)) := (List.sublist_append_right _ _).cons _
              have hR := hRd hS hsL
              have hfr := hS.rdI _ (at_cons (at_app hrw.out))
              have hBX : BoxF wr w2.heap.size p D (.slice va fs.length vc) := ⟨hS.bcell _ (at_cons (at_app hbx.out)) 0 rfl, hS.bcell _ (at_cons (at_app hbx.out)) 1 rfl, hS.bcell _ (at_cons (at_app hbx.out)) 2 rfl⟩
              have hia := hR.ixe (j : Int) j rfl hjt
              have hib := hR.ixe (k : Int) k rfl hkt
              have hic := (hR.row j hjt).ixe (e : Int) e rfl (by rw [(HX3.out j hjt).1]; exact het)
              have hid' := (hR.row k hkt).ixe (e : Int) e rfl (by rw [(HX3.out k hkt).1]; exact het)
              have b0 := hR.cell j hjt
              have b1 := hR.cell k hkt
              have b3 := (hR.row j hjt).cell e (by rw [(HX3.out j hjt).1]; exact het)
              have b4 := (hR.row k hkt).cell e (by rw [(HX3.out k hkt).1]; exact het)
              have q0 : ∀ s : SS wr.heap.size wr [], s.w.cell? (el v3 j) = some (vat up j) := fun s => by rw [s.st.below.cell (World.block_lt_of_cell? _ _ b0)]; exact b0
              have q1 : ∀ s : SS wr.heap.size wr [], s.w.cell? (el v3 k) = some (vat up k) := fun s => by rw [s.st.below.cell (World.block_lt_of_cell? _ _ b1)]; exact b1
              have q3 : ∀ s : SS wr.heap.size wr [], s.w.cell? (el (vat up j) e) = some (.int .i64 (nth (xat X j) e)) := fun s => by rw [s.st.below.cell (World.block_lt_of_cell? _ _ b3)]; exact b3
              have q4 : ∀ s : SS wr.heap.size wr [], s.w.cell? (el (vat up k) e) = some (.int .i64 (nth (xat X k) e)) := fun s => by rw [s.st.below.cell (World.block_lt_of_cell? _ _ b4)]; exact b4
              have KP := fun s : SS wr.heap.size wr [] => KPr w2.heap.size (.slice va fs.length vc) s.w (nth (xat X j) e) (nth (xat X k) e) (s.st.oldI hfr) (s.st.oldF hBX) hu.1 (by omega) hv.1 (by omega)
              have KC := fun s : SS wr.heap.size wr [] => KCo w2.heap.size (.slice va fs.length vc) s.w (dtS p D fs (xat X j) (xat X k) e) (fmul p D fs (nth (xat X j) e) (nth (xat X k) e)) (s.st.oldF hBX) hl.1 (by omega) hx.1 hx.2
              clear hu hv hl hx b0 b1 b3 b4 hfr hBX hR
              generalize fsum p D (dtS p D fs (xat X j) (xat X k) e) (fmul p D fs (nth (xat X j) e) (nth (xat X k) e)) 1 = R at *
              generalize fmul p D fs (nth (xat X j) e) (nth (xat X k) e) = M at *
              generalize nth (xat X j) e = ue at *
              generalize nth (xat X k) e = ve at *
              have hT := St.refl wr
              go_wp2_with fail
              have hne : Nonempty (SS _ _ _) := ⟨⟨_, hT⟩⟩
              refine wp_region_st (by kernel_rfl) (by kernel_rfl) hT ?_
              repeat (go_big_quiet_step ((first | (go_at_call 59; exact st_quiet (KP _).out) | (go_at_call 58; exact st_quiet (KC _).out))))
              refine wpQuiet_nil ?_
              rintro _ ⟨s2, rfl⟩
              have hT5 := s2.st
              generalize s2.w = w5 at hT5 ⊢
              have hS5 := hS.call0 hT5
              go_wp2_with fail
              go_roundw
              case rel => exact ⟨e + 1, by omega, by go_num, by rw [HSc.out], hS5⟩
              case measure => simp [intOf]; omega
            · obtain rfl : e = 3 := by omega
              have HSk := Lib.hid (show pjR p D fs X (xat X j) (k + 1) = if dtS p D fs (xat X j) (xat X k) 3 = 0 then pjR p D fs X (xat X j) k ++ [(k : Int)] else pjR p D fs X (xat X j) k from rfl)
              by_cases hz : dtS p D fs (xat X j) (xat X k) 3 = 0
              · rw [if_pos hz] at HSk
                have hN := Lib.hid (show (pjR p D fs X (xat X j) k).length < 4294967296 by have := pjR_lenX p D fs X (xat X j) k; omega)
                rw [hz]
                go_wp2_with (at_builtin; refine appI hS 0 rfl hN.out rfl _ _ rfl rfl _ (by first | rfl | simp [Act.eval, Act.put]) ?_; intro v5 w5 hS5; simp only [List.set_cons_zero] at hS5)
                rw [← HSk.out] at hS5
                go_roundw
                case rel => exact ⟨k + 1, by omega, by go_num, hS5⟩
                case measure => simp [intOf]; omega
              · rw [if_neg hz] at HSk
                generalize dtS p D fs (xat X j) (xat X k) 3 = z at *
                go_wp2_with fail
                rw [← HSk.out] at hS
                go_roundw
                case rel => exact ⟨k + 1, by omega, by go_num, hS⟩
                case measure => simp [intOf]; omega
        · obtain rfl : k = X.length := by omega
          have hpl := pjR_lenX p D fs X (xat X j) X.length
          have HSj := Lib.hid (show pjQ p D fs X (j + 1) = pjQ p D fs X j ++ [pjR p D fs X (xat X j) X.length] from rfl)
          generalize (pjR p D fs X (xat X j) X.length) = ln at *
          generalize hln' : ln.length = l1 at *
          obtain ⟨qa, qc, hq⟩ := (hS.rdI 0 rfl).sl.sh
          rw [iv_len, hln'] at hq
          have hS7 := hS.perm (L' := own2 u5 us (pjQ p D fs X j) ++ LB ++ [row 2 u7 (iv ln)]) (List.perm_append_singleton _ _).symm
          have hN := Lib.hid (show us.length < 4294967296 by rw [hlu.out, pjQ_lenX]; omega)
          subst hq
          go_wp2_with (at_builtin; refine appII hS7 0 rfl hN.out rfl _ _ rfl rfl _ rfl rfl ?_; intro v5 w5 hS5)
          have hS8 := own2_snocL hlu.out hS5
          rw [← HSj.out] at hS8
          have hu3 : Hid ((us ++ [Value.slice qa l1 qc]).length = (pjQ p D fs X (j + 1)).length) := Lib.hid (by rw [HSj.out]; simp [hlu.out])
          clear hS hS7
          go_roundw
          case rel => exact ⟨j + 1, _, by omega, by go_num, hu3, hS8⟩
          case measure => simp [intOf]; omega
    · obtain rfl : j = X.length := by omega
      rw [← HU.out] at hS hlu
      have rR := (hS.sub (List.sublist_append_left _ _)).rii hlu.out
      have hSb := (hS.perm (L' := [box 26 w.heap.size [.int .i64 0, .slice none 0 0]] ++ ((own2 u5 us (pjU n) ++ own2 v3 up X) ++ [box 89 w2.heap.size [.int .i64 p, .int .i64 D, .slice va fs.length vc], row 2 (.slice va fs.length vc) (iv fs)])) (by rw [HLB.out]; exact (by (try simp only [own2, List.cons_append, List.nil_append, List.append_nil]); classical exact List.perm_iff_count.2 (fun a => by simp only [List.cons_append, List.nil_append, List.append_nil, List.count_append, List.count_cons, List.count_nil] <;> omega)))).sub (L' := [box 26 w.heap.size [.int .i64 0, .slice none 0 0]]) (List.sublist_append_left _ _)
      have Hrows := Lib.hid (show ∀ xs ∈ pjU n, xs.length ≤ 1048576 by
        rw [HU.out]
        have h1 : ∀ j, ∀ xs ∈ pjQ p D fs X j, xs.length ≤ X.length := fun j => by
          induction j with
          | zero => simp [pjQ]
          | succ j ih =>
            intro xs hx
            rcases List.mem_append.1 (by rw [pjQ] at hx; exact hx) with h | h
            · exact ih xs h
            · rw [List.mem_singleton.1 h]; exact pjR_lenX _ _ _ _ _ _
        intro xs hx
        have := h1 _ xs hx
        omega)
      have KS := Lib.hid (l10Sort_c u5 us _ _ rR (by rw [HU.out, pjQ_lenX]; omega) Hrows.out)
      rw [← HB.out] at KS
      have hmm : ((n * n + n + 1 : Nat) : Int) = (X.length : Int) := by rw [HXl.out]; omega
      have Hmm := Lib.hid hmm
      clear rR hS hmm hlu
      generalize X.length = N at *
      generalize pjB n = A at *
      go_wp2_with (go_at_call 33; refine KS.out.mono ?_; rintro e4 w4 ⟨v4, us4, rfl, hl4, h4⟩; obtain ⟨a4, c4, hv4⟩ := (h4.rd 0 (e := 46) (v := v4) (us := us4) rfl).sl.sh; rw [hl4] at hv4; subst hv4; have hB := hSb.call h4; have e0 := hB.bcell 0 rfl 0 rfl; have e1 := hB.bcell 0 rfl 1 rfl; have f0 := hB.bfree 0 rfl; have h6 := (hB.bstore 0 rfl 0 (.int .i64 N)).bstore 0 rfl 1 (.slice a4 A.length c4); have g0 := h6.bcell 0 rfl 0 rfl; have g1 := h6.bcell 0 rfl 1 rfl)
      refine bodyPost_ret (v := .agg #[.int .i64 (N : Int), .slice a4 A.length c4]) (by simp [results, Tryz.results55, go_sem, g0, g1]) rfl ?_
      exact ⟨.slice a4 A.length c4, us4, by rw [Hmm.out]; rfl, hl4, h6.sub (.cons _ (.refl _))⟩
end Go.Proofs.YtljemlfocajhnaaGreat
end

section
/- Walks: designs, bent a little, that the reference draws. -/
namespace Go.Proofs.YtljemlfocajhnaaGreat
set_option linter.unusedSimpArgs false
set_option linter.unusedVariables false
open Go.RowKit
attribute [local go_sem ↓] Go.wp_at_zero Go.wp_at_succ

/-- some design of its own -/
def MakesAny (w0 : World) (cv : Value) (g K : Nat) (L : List Ent) (e : Ending) (w' : World) : Prop := ∃ (P : Int) (A : List (List Int)) (v : Value) (us : List Value), A.length ≤ 300 ∧ e = .returned (dv P v) ∧ us.length = A.length ∧ Src w0 w' cv g K (own2 v us A ++ L)
/-- a design in a box, beside the box of the result -/
def AnyD (w0 : World) (cv : Value) (g K : Nat) (L : List Ent) (gr gd : Nat) (w' : World) : Prop :=
  ∃ (P : Int) (A : List (List Int)) (v : Value) (us : List Value), Hid (A.length ≤ 300 ∧ us.length = A.length) ∧ Src w0 w' cv g K (box 26 gd [.int .i64 P, v] :: box 26 gr [.int .i64 0, .slice none 0 0] :: (own2 v us A ++ L))
theorem SrcD.app {w0 w' : World} {cv : Value} {g K : Nat} {L : List Ent} {gr gd : Nat} {P : Int} {A : List (List Int)} {us : List Value} {v' u : Value} {xs : List Int} {pp : Int} {ss : Int} (hl : us.length = A.length)
    (p0 : 0 ≤ pp) (p1 : pp ≤ K)
    (h : St w0.heap.size w0 w' (box 59 g [cv, .int .i64 pp, .int .u64 ss] :: box 26 gd [.int .i64 P, v'] :: box 26 gr [.int .i64 0, .slice none 0 0] :: row 46 v' (us ++ [u]) :: ((rowsI us A ++ L) ++ [row 2 u (iv xs)]))) :
    Src w0 w' cv g K (box 26 gd [.int .i64 P, v'] :: box 26 gr [.int .i64 0, .slice none 0 0] :: (own2 v' (us ++ [u]) (A ++ [xs]) ++ L)) := by
  refine ⟨pp, ss, p0, p1, h.perm ?_⟩
  rw [own2, rowsI_app hl]
  refine List.Perm.cons _ (List.Perm.cons _ (List.Perm.cons _ (List.Perm.cons _ ?_)))
  show (rowsI us A ++ L ++ [row 2 u (iv xs)]).Perm (rowsI us A ++ [row 2 u (iv xs)] ++ L)
  rw [List.append_assoc, List.append_assoc]
  exact List.perm_append_comm.append_left _
theorem AnyD.app {w0 w' : World} {cv : Value} {g K : Nat} {L : List Ent} {gr gd : Nat} {P : Int} {A : List (List Int)} {us : List Value} {v' u : Value} {xs : List Int} {pp : Int} {ss : Int} (hl : A.length ≤ 299 ∧ us.length = A.length)
    (p0 : 0 ≤ pp) (p1 : pp ≤ K)
    (h : St w0.heap.size w0 w' (box 59 g [cv, .int .i64 pp, .int .u64 ss] :: box 26 gd [.int .i64 P, v'] :: box 26 gr [.int .i64 0, .slice none 0 0] :: row 46 v' (us ++ [u]) :: ((rowsI us A ++ L) ++ [row 2 u (iv xs)]))) : AnyD w0 cv g K L gr gd w' := by
  exact ⟨P, A ++ [xs], v', us ++ [u], Lib.hid ⟨by simp; omega, by simp [hl.2]⟩, SrcD.app hl.2 p0 p1 h⟩
theorem Src.newnilS {w0 w : World} {cv : Value} {g K : Nat} {D E : Ent} {L : List Ent} (h : Src w0 w cv g K (D :: E :: L)) : Src w0 w cv g K (D :: E :: (own2 (.slice none 0 0) [] [] ++ L)) := by
  obtain ⟨p, s, h0, h1, hS⟩ := h
  refine ⟨p, s, h0, h1, (hS.newnil 46).perm ?_⟩
  rw [own2_nil']
  exact ((List.perm_append_comm.cons _).cons _).cons _
/-- the length of the slice in a cell -/
def lenAt (w : World) (p : Addr) : Nat := match w.cell? p with
  | some (.slice _ n _) => n
  | _ => 0
set_option maxHeartbeats 16000000 in
set_option maxRecDepth 100000 in
theorem l10Bent_c (w0 w : World) (cv : Value) (bs : List UInt8) (g K : Nat) (L : List Ent) (hb : RdB w0 cv bs) (h : Src w0 w cv g K L) (hK : K < 1000000) :
    Calls Tryz.prog 27 #[.pointer (some ⟨g, 0, none⟩)] w (MakesAny w0 cv g (K + 220) L) := by
  have h0 := h.newboxF 26 #[.int .i64 0, .slice none 0 0]
  clear h
  go_enter Tryz.func27, Tryz.ntmps27
  go_wp2_with fail
  refine (l10Draw_c w0 _ cv bs g _ _ hb h0 (by omega)).mono ?_
  rintro e w1 ⟨P, A, v, us, hok, rfl, hl, h1⟩
  have HA := Lib.hid (show A.length ≤ 128 ∧ us.length = A.length from ⟨(dOk_t hok).len, hl⟩)
  obtain ⟨ra, rc, hre⟩ := (h1.rd 0 (e := 46) (v := v) (us := us) rfl).sl.sh
  subst hre
  have h2 := (h1.newboxF 26 #[.int .i64 P, .slice ra us.length rc]).perm (L' := box 26 w1.heap.size [.int .i64 P, .slice ra us.length rc] :: box 26 w.heap.size [.int .i64 0, .slice none 0 0] :: (own2 (.slice ra us.length rc) us A ++ L)) (by (try simp only [own2, List.cons_append, List.nil_append, List.append_nil]); classical exact List.perm_iff_count.2 (fun a => by simp only [List.cons_append, List.nil_append, List.append_nil, List.count_append, List.count_cons, List.count_nil] <;> omega))
  clear h0 h1 hok hl
  unfold dv
  go_wp2_with fail
  refine (pick_c w0 _ cv bs g _ _ 24 hb h2 (by omega)).mono ?_
  rintro e w2 ⟨x, x0, x1, rfl, h3⟩
  clear h2 x1
  go_upto_block 0 with fail
  go_cut [] from 16 (fun w' => AnyD w0 cv g (K + 212) L w.heap.size w1.heap.size w')
  case first =>
    by_cases hx0 : x = 0
    · subst hx0
      go_wp2_with fail
      refine (among_lit [0, 32, 33] w0 _ cv bs g _ _ hb h3 (by simp) (by omega)).mono ?_
      rintro e w3 ⟨z, hz, rfl, h4⟩
      have c0 := h4.box 0 (e := 26) rfl 0 rfl
      have f0 := h4.bfree 0 (e := 26) rfl
      have h5 := h4.bstore 0 (e := 26) rfl 0 (.int .i64 z)
      simp only [List.set_cons_zero, List.set_cons_succ] at h5
      clear h3 h4 hz
      go_wp2_with fail
      go_meet
      case rel => exact ⟨z, A, _, us, Lib.hid ⟨by have := HA.out.1; omega, HA.out.2⟩, h5.mono (by omega)⟩
    · by_cases hx1 : x = 1
      · subst hx1
        obtain ⟨pp, ss, p0, p1, hT⟩ := h3
        have HPp := Lib.hid (And.intro p0 p1)
        have c0 := hT.bcell 1 rfl 0 rfl
        have c1 := hT.bcell 1 rfl 1 rfl
        have hT1 := hT.new 2 #[] (by simp [maxLen])
        have hN := Lib.hid (show us.length < 4294967296 by rw [HA.out.2]; have := HA.out.1; omega)
        clear hT p0 p1
        go_wp2_with (at_builtin; refine appII hT1 3 rfl hN.out rfl _ _ rfl rfl _ rfl (by rw [World.size_alloc]; rfl) ?_; intro v8 w8 hS8; simp only [own2, List.cons_append, List.set_cons_zero, List.set_cons_succ] at hS8; obtain ⟨la, lc, hle⟩ := (hS8.rd 3 (e := 46) rfl).sl.sh; simp only [List.length_append, List.length_singleton] at hle; subst hle; have d1 := hS8.bcell 1 rfl 1 rfl; have f1 := hS8.bfree 1 rfl; have hS9 := hS8.bstore 1 rfl 1 (.slice la (us.length + 1) lc); simp only [List.set_cons_zero, List.set_cons_succ] at hS9)
        go_meet
        case rel => exact AnyD.app (xs := []) ⟨by have := HA.out.1; omega, HA.out.2⟩ HPp.out.1 (by have := HPp.out.2; omega) hS9
      · by_cases hx2 : x = 2
        · subst hx2
          obtain ⟨pp, ss, p0, p1, hT⟩ := h3
          have HPp := Lib.hid (And.intro p0 p1)
          have c0 := hT.bcell 1 rfl 0 rfl
          have c1 := hT.bcell 1 rfl 1 rfl
          have hT1 := hT.new 2 #[.int .i64 0] (by simp [maxLen])
          have hN := Lib.hid (show us.length < 4294967296 by rw [HA.out.2]; have := HA.out.1; omega)
          clear hT p0 p1
          go_wp2_with (at_builtin; refine appII hT1 3 rfl hN.out rfl _ _ rfl rfl _ rfl (by rw [World.size_alloc]; rfl) ?_; intro v8 w8 hS8; simp only [own2, List.cons_append, List.set_cons_zero, List.set_cons_succ] at hS8; obtain ⟨la, lc, hle⟩ := (hS8.rd 3 (e := 46) rfl).sl.sh; simp only [List.length_append, List.length_singleton] at hle; subst hle; have d1 := hS8.bcell 1 rfl 1 rfl; have f1 := hS8.bfree 1 rfl; have hS9 := hS8.bstore 1 rfl 1 (.slice la (us.length + 1) lc); simp only [List.set_cons_zero, List.set_cons_succ] at hS9)
          go_meet
          case rel => exact AnyD.app (xs := [0]) ⟨by have := HA.out.1; omega, HA.out.2⟩ HPp.out.1 (by have := HPp.out.2; omega) hS9
        · by_cases hx3 : x = 3
          · subst hx3
            obtain ⟨pp, ss, p0, p1, hT⟩ := h3
            have HPp := Lib.hid (And.intro p0 p1)
            have c0 := hT.bcell 1 rfl 0 rfl
            have c1 := hT.bcell 1 rfl 1 rfl
            have hT1 := hT.new 2 #[.int .i64 P] (by simp [maxLen])
            have hN := Lib.hid (show us.length < 4294967296 by rw [HA.out.2]; have := HA.out.1; omega)
            clear hT p0 p1
            go_wp2_with (at_builtin; refine appII hT1 3 rfl hN.out rfl _ _ rfl rfl _ rfl (by rw [World.size_alloc]; rfl) ?_; intro v8 w8 hS8; simp only [own2, List.cons_append, List.set_cons_zero, List.set_cons_succ] at hS8; obtain ⟨la, lc, hle⟩ := (hS8.rd 3 (e := 46) rfl).sl.sh; simp only [List.length_append, List.length_singleton] at hle; subst hle; have d1 := hS8.bcell 1 rfl 1 rfl; have f1 := hS8.bfree 1 rfl; have hS9 := hS8.bstore 1 rfl 1 (.slice la (us.length + 1) lc); simp only [List.set_cons_zero, List.set_cons_succ] at hS9)
            go_meet
            case rel => exact AnyD.app (xs := [P]) ⟨by have := HA.out.1; omega, HA.out.2⟩ HPp.out.1 (by have := HPp.out.2; omega) hS9
          · by_cases hx4 : x = 4
            · subst hx4
              have c0 := h3.box 0 (e := 26) rfl 0 rfl
              have c1 := h3.box 0 (e := 26) rfl 1 rfl
              have f1 := h3.bfree 0 (e := 26) rfl
              have h5 := (h3.bstore 0 (e := 26) rfl 0 (.int .i64 3)).bstore 0 (e := 26) rfl 1 (.slice none 0 0)
              simp only [List.set_cons_zero, List.set_cons_succ] at h5
              have h6 := (h5.sub (L' := box 26 w1.heap.size [.int .i64 3, .slice none 0 0] :: box 26 w.heap.size [.int .i64 0, .slice none 0 0] :: L) (((List.sublist_append_right _ _).cons_cons _).cons_cons _)).newnilS
              clear h3 h5
              go_wp2_with fail
              refine (pick_c w0 _ cv bs g _ _ 3 hb h6 (by omega)).mono ?_
              rintro e w3 ⟨y, y0, y1, rfl, h7⟩
              obtain ⟨m, hm⟩ : ∃ m : Nat, 127 + y = m := ⟨(127 + y).toNat, by omega⟩
              have hm2 : m ≤ 129 := by omega
              have wm : IntKind.i64.wrap (127 + y) = (m : Int) := by rw [IntWalk.i64_in _ (by omega)]; exact hm
              clear h6
              go_wp2_with fail
              clear wm hm y0 y1
              go_loopw [] (fun wr => ∃ (A : List (List Int)) (v : Value) (us : List Value), Hid (A.length ≤ m ∧ us.length = A.length) ∧ Src w0 wr cv g (K + 212) (box 26 w1.heap.size [.int .i64 3, v] :: box 26 w.heap.size [.int .i64 0, .slice none 0 0] :: (own2 v us A ++ L))) (fun wr => m - lenAt wr ⟨w1.heap.size, 1, none⟩)
              case atStart => exact ⟨[], _, [], Lib.hid ⟨by simp, rfl⟩, h7.mono (by omega)⟩
              case round =>
                clear h7
                obtain ⟨A, v, us, HA, hS⟩ := hrel
                obtain ⟨ra, rc, hre⟩ := (hS.rd 2 (e := 46) (v := v) (us := us) rfl).sl.sh
                have hln := fun ty W => run_len_sl (P := Tryz.prog) (hS.rd 2 (e := 46) (v := v) (us := us) rfl).sl 24 ty Tryz.und_iss W
                have e1 := HA.out.2
                rw [e1] at hln hre
                subst hre
                have hq := HA.out.1
                obtain ⟨pp, ss, p0, p1, hT⟩ := hS
                have HPp := Lib.hid (And.intro p0 p1)
                have c1 := hT.bcell 1 rfl 1 rfl
                by_cases hlt : A.length < m
                · have hT1 := hT.new 2 #[.int .i64 0, .int .i64 1, .int .i64 2] (by simp [maxLen])
                  have hN := Lib.hid (show us.length < 4294967296 by rw [HA.out.2]; have := HA.out.1; omega)
                  have hLA : lenAt wr ⟨w1.heap.size, 1, none⟩ = A.length := by unfold lenAt; rw [c1]
                  have HLA := Lib.hid hLA
                  have hlt' : (A.length : Int) < m := by omega
                  clear hT p0 p1 hLA e1
                  go_wp2_with (at_builtin; refine appII hT1 3 rfl hN.out rfl _ _ rfl rfl _ rfl (by rw [World.size_alloc]; rfl) ?_; intro v8 w8 hS8; simp only [own2, List.cons_append, List.set_cons_zero, List.set_cons_succ] at hS8; obtain ⟨la, lc, hle⟩ := (hS8.rd 3 (e := 46) rfl).sl.sh; rw [List.length_append, List.length_singleton, HA.out.2] at hle; subst hle; have d1 := hS8.bcell 1 rfl 1 rfl; have f1 := hS8.bfree 1 rfl; have hS9 := hS8.bstore 1 rfl 1 (.slice la (A.length + 1) lc); simp only [List.set_cons_zero, List.set_cons_succ] at hS9)
                  have g1 := hS9.bcell 1 rfl 1 rfl
                  go_roundw
                  case rel =>
                    exact ⟨A ++ [[0, 1, 2]], _, us ++ [_], Lib.hid ⟨by simp; omega, by simp [HA.out.2]⟩, SrcD.app (xs := [0, 1, 2]) HA.out.2 HPp.out.1 HPp.out.2 hS9⟩
                  case measure => rw [HLA.out]; unfold lenAt; rw [g1]; show m - (A.length + 1) < m - A.length; omega
                · have hge : ¬ (A.length : Int) < m := by omega
                  clear hlt e1
                  go_wp2_with fail
                  go_meet
                  case rel => exact ⟨3, A, _, us, Lib.hid ⟨by omega, HA.out.2⟩, pp, ss, p0, p1, hT⟩
            · go_wp2_with fail
              go_meet
              case rel => exact ⟨P, A, _, us, Lib.hid ⟨by have := HA.out.1; omega, HA.out.2⟩, h3.mono (by omega)⟩
  case rest =>
    clear h3 HA
    obtain ⟨P, A, v, us, HA, hS⟩ := hcut
    obtain ⟨ra, rc, hre⟩ := (hS.rd 2 (e := 46) (v := v) (us := us) rfl).sl.sh
    subst hre
    have c0 := hS.box 0 (e := 26) rfl 0 rfl
    have c1 := hS.box 0 (e := 26) rfl 1 rfl
    have b0 := hS.box 1 (e := 26) rfl 0 rfl
    have b1 := hS.box 1 (e := 26) rfl 1 rfl
    have f1 := hS.bfree 1 (e := 26) rfl
    have h7 := (hS.bstore 1 (e := 26) rfl 0 (.int .i64 P)).bstore 1 (e := 26) rfl 1 (.slice ra us.length rc)
    simp only [List.set_cons_zero, List.set_cons_succ] at h7
    have d0 := h7.box 1 (e := 26) rfl 0 rfl
    have d1 := h7.box 1 (e := 26) rfl 1 rfl
    clear hS
    go_wp2_with fail
    refine bodyPost_ret (v := .agg #[.int .i64 P, .slice ra us.length rc]) (by simp [results, Tryz.results27, go_sem, d0, d1]) rfl ?_
    exact ⟨P, A, _, us, HA.out.1, rfl, HA.out.2, (h7.sub ((List.sublist_cons_self _ _).trans (List.sublist_cons_self _ _))).mono (by omega)⟩
end Go.Proofs.YtljemlfocajhnaaGreat
end

section
/- Walk: designs that are planes, often, that the reference draws. -/
namespace Go.Proofs.YtljemlfocajhnaaGreat
set_option linter.unusedSimpArgs false
set_option linter.unusedVariables false
open Go.RowKit
attribute [local go_sem ↓] Go.wp_at_zero Go.wp_at_succ
/-- a design in a box that is one, beside the box of the result -/
def OkD (w0 : World) (cv : Value) (g K : Nat) (L : List Ent) (gr gd : Nat) (w' : World) : Prop :=
  ∃ (P : Nat) (A : List (List Int)) (v : Value) (us : List Value), Hid (dOk P A = true ∧ 0 < A.length ∧ us.length = A.length) ∧ Src w0 w' cv g K (box 26 gd [.int .i64 P, v] :: box 26 gr [.int .i64 0, .slice none 0 0] :: (own2 v us A ++ L))
def OkA (w0 : World) (cv : Value) (g K : Nat) (L : List Ent) (gr gd : Nat) (w' : World) : Prop :=
  ∃ (P : Nat) (A : List (List Int)) (v : Value) (us : List Value), Hid (0 < A.length ∧ A.length ≤ 300 ∧ us.length = A.length) ∧ Src w0 w' cv g K (box 26 gd [.int .i64 P, v] :: box 26 gr [.int .i64 0, .slice none 0 0] :: (own2 v us A ++ L))
theorem rowsI_cut {us : List Value} {A : List (List Int)} (hl : us.length = A.length) (k : Nat) : (rowsI (us.take k ++ us.drop (k + 1)) (A.take k ++ A.drop (k + 1))).Sublist (rowsI us A) := by
  have e : rowsI (us.take k ++ us.drop (k + 1)) (A.take k ++ A.drop (k + 1)) = (rowsI us A).take k ++ (rowsI us A).drop (k + 1) := by
    unfold rowsI
    rw [List.zipWith_append (by simp [hl]), List.take_zipWith, List.drop_zipWith]
  rw [e, ← List.eraseIdx_eq_take_drop_succ]
  exact List.eraseIdx_sublist _ _
theorem cut_out {w0 w' : World} {cv : Value} {g K : Nat} {L : List Ent} {gr gd k : Nat} {P : Int} {A : List (List Int)} {us : List Value} {v v' : Value} {pp : Int} {ss : Int} (hl : A.length ≤ 300 ∧ us.length = A.length) (hk : k < A.length)
    (p0 : 0 ≤ pp) (p1 : pp ≤ K)
    (h : St w0.heap.size w0 w' (row 46 v' ([] ++ (us.take k).drop 0 ++ (us.take A.length).drop (k + 1)) :: box 59 g [cv, .int .i64 pp, .int .u64 ss] :: box 26 gd [.int .i64 P, v'] :: box 26 gr [.int .i64 0, .slice none 0 0] :: (own2 v us A ++ L))) : AnyD w0 cv g K L gr gd w' := by
  rw [List.nil_append, List.drop_zero, ← hl.2, List.take_length] at h
  refine ⟨P, A.take k ++ A.drop (k + 1), v', us.take k ++ us.drop (k + 1), Lib.hid ⟨by simp; omega, by simp [hl.2]⟩, pp, ss, p0, p1, ?_⟩
  have h2 := h.sub (L' := row 46 v' (us.take k ++ us.drop (k + 1)) :: box 59 g [cv, .int .i64 pp, .int .u64 ss] :: box 26 gd [.int .i64 P, v'] :: box 26 gr [.int .i64 0, .slice none 0 0] :: (rowsI (us.take k ++ us.drop (k + 1)) (A.take k ++ A.drop (k + 1)) ++ L)) (((((((rowsI_cut hl.2 k).append (List.Sublist.refl L)).cons _).cons_cons _).cons_cons _).cons_cons _).cons_cons _)
  refine h2.perm ?_
  exact (List.Perm.swap _ _ _).trans ((((List.Perm.swap _ _ _).trans ((List.Perm.swap _ _ _).cons _))).cons _)
set_option maxHeartbeats 16000000 in
set_option maxRecDepth 100000 in
theorem l12Draw_c (w0 w : World) (cv : Value) (bs : List UInt8) (g K : Nat) (L : List Ent) (hb : RdB w0 cv bs) (h : Src w0 w cv g K L) (hK : K < 100000) :
    Calls Tryz.prog 31 #[.pointer (some ⟨g, 0, none⟩)] w (MakesAny w0 cv g (K + 400) L) := by
  have h0 := h.newboxF 26 #[.int .i64 0, .slice none 0 0]
  clear h
  go_enter Tryz.func31, Tryz.ntmps31
  go_wp2_with fail
  have KA := among_lit [2, 3, 2, 3, 4, 5] w0 _ cv bs g _ _ hb h0 (by simp) (by omega)
  rw [World.size_alloc] at KA
  refine KA.mono ?_
  clear KA
  rintro e w1 ⟨z, hz, rfl, h1⟩
  obtain ⟨q, rfl, q2, q5⟩ : ∃ q : Nat, z = q ∧ 2 ≤ q ∧ q ≤ 5 := by
    simp only [List.mem_cons, List.not_mem_nil, or_false] at hz
    exact ⟨z.toNat, by omega, by omega, by omega⟩
  obtain ⟨hm, hok, hln⟩ := rp_ok q2 q5
  have KP := fun W => Lib.hid (l12Plane_c q W hm q2 q5)
  have KQ := fun W => Lib.hid (l12Space_c q W hm q2 q5)
  have HJ := Lib.hid (And.intro (rj_ok q2 q5) (show 0 < q * q + q + 1 by omega))
  have HO := Lib.hid (show dOk (q * q : Nat) (srtL (rpB q q)) = true ∧ 0 < (srtL (rpB q q)).length from ⟨hok, by rw [hln]; omega⟩)
  generalize srtL (rpB q q) = A at *
  generalize pjB q = B at *
  clear h0 hz hm hok hln
  go_wp2_with fail
  refine (KP _).out.mono ?_
  rintro e w2 ⟨v, us, rfl, hl, h2⟩
  have HA := Lib.hid (show dOk (q * q : Nat) A = true ∧ 0 < A.length ∧ us.length = A.length from ⟨HO.out.1, HO.out.2, hl⟩)
  obtain ⟨ra, rc, hre⟩ := (h2.rd 0 (e := 46) (v := v) (us := us) rfl).sl.sh
  subst hre
  have h3 := ((h1.call h2).newboxF 26 #[.int .i64 (q * q : Nat), .slice ra us.length rc]).perm (L' := box 26 w2.heap.size [.int .i64 (q * q : Nat), .slice ra us.length rc] :: box 26 w.heap.size [.int .i64 0, .slice none 0 0] :: (own2 (.slice ra us.length rc) us A ++ L)) (by (try simp only [own2, List.cons_append, List.nil_append, List.append_nil]); classical exact List.perm_iff_count.2 (fun a => by simp only [List.cons_append, List.nil_append, List.append_nil, List.count_append, List.count_cons, List.count_nil] <;> omega))
  obtain ⟨Q, hQ⟩ : ∃ Q : Nat, q * q = Q := ⟨_, rfl⟩
  obtain ⟨Q1, hQ1⟩ : ∃ Q1 : Nat, q * q + q + 1 = Q1 := ⟨_, rfl⟩
  rw [hQ] at HA h3 HO
  rw [hQ1] at HJ KQ
  try rw [hQ]
  clear h1 h2 KP hl HO hQ hQ1
  unfold dv
  go_wp2_with fail
  refine (pick_c w0 _ cv bs g _ _ 5 hb h3 (by omega)).mono ?_
  rintro e w3 ⟨x, x0, x1, rfl, h4⟩
  clear h3 x1
  go_upto_block 0 with fail
  go_cut [] from 8 (fun w' => OkD w0 cv g (K + 100) L w.heap.size w2.heap.size w')
  case first =>
    by_cases hx0 : x = 0
    · subst hx0
      go_wp2_with fail
      refine (KQ _).out.mono ?_
      rintro e w4 ⟨v4, us4, rfl, hl4, h5⟩
      have HB := Lib.hid (show dOk Q1 B = true ∧ 0 < B.length ∧ us4.length = B.length from ⟨HJ.out.1.1, by rw [HJ.out.1.2]; exact HJ.out.2, hl4⟩)
      obtain ⟨rb, rd, hre⟩ := (h5.rd 0 (e := 46) (v := v4) (us := us4) rfl).sl.sh
      subst hre
      have h6 := h4.call h5
      have c0 := h6.box 0 (e := 26) rfl 0 rfl
      have c1 := h6.box 0 (e := 26) rfl 1 rfl
      have f1 := h6.bfree 0 (e := 26) rfl
      have h7 := (h6.bstore 0 (e := 26) rfl 0 (.int .i64 Q1)).bstore 0 (e := 26) rfl 1 (.slice rb us4.length rd)
      simp only [List.cons_append, List.set_cons_zero, List.set_cons_succ] at h7
      have h8 := (h7.perm (L' := box 26 w2.heap.size [.int .i64 Q1, .slice rb us4.length rd] :: box 26 w.heap.size [.int .i64 0, .slice none 0 0] :: ((own2 (.slice rb us4.length rd) us4 B ++ L) ++ own2 (.slice ra us.length rc) us A)) (by (try simp only [own2, List.cons_append, List.nil_append, List.append_nil]); classical exact List.perm_iff_count.2 (fun a => by simp only [List.cons_append, List.nil_append, List.append_nil, List.count_append, List.count_cons, List.count_nil] <;> omega))).sub (L' := box 26 w2.heap.size [.int .i64 Q1, .slice rb us4.length rd] :: box 26 w.heap.size [.int .i64 0, .slice none 0 0] :: (own2 (.slice rb us4.length rd) us4 B ++ L)) (((List.sublist_append_left _ _).cons_cons _).cons_cons _)
      clear h4 h5 h6 h7 hl4
      unfold dv
      go_wp2_with fail
      go_meet
      case rel => exact ⟨Q1, B, _, us4, HB, h8.mono (by omega)⟩
    · by_cases hx1 : x = 1
      · subst hx1
        go_wp2_with fail
        refine (l10Bent_c w0 _ cv bs g _ _ hb h4 (by omega)).mono ?_
        rintro e w4 ⟨P, B, v4, us4, hB, rfl, hl4, h5⟩
        obtain ⟨rb, rd, hre⟩ := (h5.rd 0 (e := 46) (v := v4) (us := us4) rfl).sl.sh
        subst hre
        have h6 := (h5.perm (L' := box 26 w.heap.size [.int .i64 0, .slice none 0 0] :: ((own2 (.slice rb us4.length rd) us4 B ++ L) ++ (box 26 w2.heap.size [.int .i64 Q, .slice ra us.length rc] :: own2 (.slice ra us.length rc) us A))) (by (try simp only [own2, List.cons_append, List.nil_append, List.append_nil]); classical exact List.perm_iff_count.2 (fun a => by simp only [List.cons_append, List.nil_append, List.append_nil, List.count_append, List.count_cons, List.count_nil] <;> omega))).sub (L' := box 26 w.heap.size [.int .i64 0, .slice none 0 0] :: (own2 (.slice rb us4.length rd) us4 B ++ L)) ((List.sublist_append_left _ _).cons_cons _)
        have c0 := h6.box 0 (e := 26) rfl 0 rfl
        have c1 := h6.box 0 (e := 26) rfl 1 rfl
        have f1 := h6.bfree 0 (e := 26) rfl
        have h7 := (h6.bstore 0 (e := 26) rfl 0 (.int .i64 P)).bstore 0 (e := 26) rfl 1 (.slice rb us4.length rd)
        simp only [List.set_cons_zero, List.set_cons_succ] at h7
        have d0 := h7.box 0 (e := 26) rfl 0 rfl
        have d1 := h7.box 0 (e := 26) rfl 1 rfl
        have Hl4 := Lib.hid hl4
        clear h4 h5 h6 hl4
        unfold dv
        go_wp2_with fail
        refine bodyPost_ret (v := .agg #[.int .i64 P, .slice rb us4.length rd]) (by simp [results, Tryz.results31, go_sem, d0, d1]) rfl ?_
        exact ⟨P, B, _, us4, hB, rfl, Hl4.out, (h7.sub (List.sublist_cons_self _ _)).mono (by omega)⟩
      · go_wp2_with fail
        go_meet
        case rel => exact ⟨Q, A, _, us, HA, h4.mono (by omega)⟩
  case rest =>
    clear h4 HA KQ HJ
    obtain ⟨P, A, v, us, HA, h4⟩ := hcut
    go_wp2_with fail
    refine (one_c w0 _ cv bs g _ _ 2 hb h4 (by omega)).mono ?_
    rintro e w3 ⟨b, rfl, h5⟩
    clear h4
    go_upto_if 22 with fail
    go_cut [] from 10 (fun w' => OkA w0 cv g (K + 300) L w.heap.size w2.heap.size w')
    case first =>
      cases b
      · go_wp2_with fail
        go_meet
        case rel => exact ⟨P, A, v, us, Lib.hid ⟨HA.out.2.1, by have := (dOk_t HA.out.1).len; omega, HA.out.2.2⟩, h5.mono (by omega)⟩
      · have b0 := h5.box 0 (e := 26) rfl 0 rfl
        have hP := (dOk_t HA.out.1).le
        go_wp2_with fail
        refine (l04DrawPerm_c w0 _ cv bs g _ _ P hb h5 (by omega) (by omega)).mono ?_
        rintro e w4 ⟨vp, p, rfl, hpl, hpp, h6⟩
        have hbx : BoxD w4 w2.heap.size P v := ⟨h6.box 1 (e := 26) rfl 0 rfl, h6.box 1 (e := 26) rfl 1 rfl⟩
        have hR := h6.riiS (v := v) (us := us) (A := A) (((List.sublist_append_left _ _).cons _).cons _ |>.cons _) HA.out.2.2
        have HK := Lib.hid (l10Image_c P w2.heap.size v us A vp p w4 hR hbx (h6.rdI 0 rfl) HA.out.1 hpl)
        have HL := Lib.hid (show 0 < (srtL (imgL p A)).length ∧ (srtL (imgL p A)).length ≤ 300 from by rw [srtL_len, imgL, List.length_map]; have := (dOk_t HA.out.1).len; exact ⟨HA.out.2.1, by omega⟩)
        generalize srtL (imgL p A) = S at *
        clear h5 hbx hR hpl hpp b0
        go_wp2_with fail
        refine HK.out.mono ?_
        clear HK
        rintro e w5 ⟨v5, us5, rfl, hl5, h7⟩
        obtain ⟨rb, rd, hre⟩ := (h7.rd 0 (e := 46) (v := v5) (us := us5) rfl).sl.sh
        subst hre
        have h8 := h6.call h7
        have c0 := h8.box 1 (e := 26) rfl 0 rfl
        have c1 := h8.box 1 (e := 26) rfl 1 rfl
        have f1 := h8.bfree 1 (e := 26) rfl
        have h9 := (h8.bstore 1 (e := 26) rfl 0 (.int .i64 P)).bstore 1 (e := 26) rfl 1 (.slice rb us5.length rd)
        simp only [List.cons_append, List.set_cons_zero, List.set_cons_succ] at h9
        have h10 := (h9.perm (L' := box 26 w2.heap.size [.int .i64 P, .slice rb us5.length rd] :: box 26 w.heap.size [.int .i64 0, .slice none 0 0] :: ((own2 (.slice rb us5.length rd) us5 S ++ L) ++ (row 2 vp (iv p) :: own2 v us A))) (by (try simp only [own2, List.cons_append, List.nil_append, List.append_nil]); classical exact List.perm_iff_count.2 (fun a => by simp only [List.cons_append, List.nil_append, List.append_nil, List.count_append, List.count_cons, List.count_nil] <;> omega))).sub (L' := box 26 w2.heap.size [.int .i64 P, .slice rb us5.length rd] :: box 26 w.heap.size [.int .i64 0, .slice none 0 0] :: (own2 (.slice rb us5.length rd) us5 S ++ L)) (((List.sublist_append_left _ _).cons_cons _).cons_cons _)
        have Hl5 := Lib.hid hl5
        clear h6 h7 h8 h9 hl5
        unfold dv
        go_wp2_with fail
        go_meet
        case rel => exact ⟨P, S, _, us5, Lib.hid ⟨HL.out.1, HL.out.2, Hl5.out⟩, h10.mono (by omega)⟩
    case rest =>
      clear h5 HA
      obtain ⟨P, A, v, us, HA, h4⟩ := hcut
      go_wp2_with fail
      refine (one_c w0 _ cv bs g _ _ 8 hb h4 (by omega)).mono ?_
      rintro e w3 ⟨b, rfl, h5⟩
      clear h4
      go_upto_if 29 with fail
      go_cut [] from 13 (fun w' => AnyD w0 cv g (K + 310) L w.heap.size w2.heap.size w')
      case first =>
        cases b
        · go_wp2_with fail
          go_meet
          case rel => exact ⟨P, A, v, us, Lib.hid ⟨HA.out.2.1, HA.out.2.2⟩, h5.mono (by omega)⟩
        · have b1 := h5.box 0 (e := 26) rfl 1 rfl
          obtain ⟨ra, rc, hre⟩ := (h5.rd 2 (e := 46) (v := v) (us := us) rfl).sl.sh
          rw [HA.out.2.2] at hre
          subst hre
          go_wp2_with fail
          refine (pick_c w0 _ cv bs g _ _ _ hb h5 (by omega)).mono ?_
          rintro e w4 ⟨y, y0, y1, rfl, h6⟩
          obtain ⟨k, rfl⟩ := Int.eq_ofNat_of_zero_le y0
          have hk : k < A.length := by have := HA.out.1; omega
          clear y0 y1 h5
          obtain ⟨pp, ss, p0, p1, hS⟩ := h6
          have HPp := Lib.hid (And.intro p0 p1)
          have b1 := hS.bcell 1 rfl 1 rfl
          have hrd := hS.rd 3 (e := 46) (v := .slice ra A.length rc) (us := us) rfl
          have i1 := rslII_hi hrd k (by rw [HA.out.2.2]; omega)
          have i2 := rslII_lo2 hrd (k + 1) (by rw [HA.out.2.2]; omega)
          rw [HA.out.2.2, Int.natCast_add, Int.natCast_one] at i2
          have rA := Lib.hid (fun (W : World) (h : Rd W (.slice ra A.length rc) us) => rsl_Rd h (lo := 0) (hi := k) (by omega) (by rw [HA.out.2.2]; omega))
          have rB := Lib.hid (fun (W : World) (h : Rd W (.slice ra A.length rc) us) => rsl_Rd h (lo := k + 1) (hi := A.length) (by omega) (by rw [HA.out.2.2]; omega))
          generalize rsl (.slice ra A.length rc) 0 k = vA at *
          generalize rsl (.slice ra A.length rc) (k + 1) A.length = vB at *
          have Hone := Lib.hid (fun u (hu : u ∈ us) => (show u.oneCell' = true by
            obtain ⟨j, hj, rfl⟩ := List.getElem_of_mem hu
            have hR := (hS.sub (L' := own2 (.slice ra A.length rc) us A) (((List.sublist_append_left _ _).cons _).cons _ |>.cons _)).rii HA.out.2.2
            rw [← vat_eq hj]
            exact (hR.row j (by rw [← HA.out.2.2]; exact hj)).sl.one))
          have hS1 := (hS.drew.new 46 #[] (by simp)).perm List.perm_append_comm
          simp only [List.cons_append, List.nil_append] at hS1
          have hA3 := HA.out.2.1
          have hw := IntWalk.i64_in ((k : Int) + 1) (by omega)
          clear p0 p1 hrd
          go_wp2_with fail
          refine regionG (fun w' => w'.cell? ⟨w2.heap.size, 1, none⟩ = some (.slice ra A.length rc)) 13 (by kernel_rfl) (cell_dr b1) (fun hHeld => ?_)
          refine takeP (i := 1) (v := ?_) rfl (by kernel_rfl) (fun _ _ _ h => h) (by rfl) ?_ (by assumption) ?_
          case refine_2 => (intro w'; go_simp; first | done | with_reducible rfl)
          try simp only [Act.put, List.setIfInBounds_toArray, List.set_cons_zero, List.set_cons_succ]
          refine takeH (i := 2) [4, 5, 11] (v := ?_) rfl (by kernel_rfl) (fun _ _ _ h => h) (by rfl) ?_ (by assumption) ?_
          case refine_2 => (intro w' hSw; (try dsimp only at hSw); go_simp; first | done | with_reducible rfl)
          try simp only [Act.put, List.setIfInBounds_toArray, List.set_cons_zero, List.set_cons_succ]
          refine takeP (i := 3) (v := ?_) rfl (by kernel_rfl) (fun _ _ _ h => h) (by rfl) ?_ (by assumption) ?_
          case refine_2 => (intro w'; go_simp; first | done | with_reducible rfl)
          try simp only [Act.put, List.setIfInBounds_toArray, List.set_cons_zero, List.set_cons_succ]
          refine takeP (i := 4) (v := ?_) rfl (by kernel_rfl) (fun _ _ _ h => h) (by rfl) ?_ (by assumption) ?_
          case refine_2 => (intro w'; go_simp; first | done | with_reducible rfl)
          try simp only [Act.put, List.setIfInBounds_toArray, List.set_cons_zero, List.set_cons_succ]
          refine takeP (i := 6) (v := ?_) rfl (by kernel_rfl) (fun _ _ _ h => h) (by rfl) ?_ (by assumption) ?_
          case refine_2 => (intro w'; go_simp; first | done | with_reducible rfl)
          try simp only [Act.put, List.setIfInBounds_toArray, List.set_cons_zero, List.set_cons_succ]
          refine takeH (i := 7) [10, 11] (v := ?_) rfl (by kernel_rfl) (fun _ _ _ h => h) (by rfl) ?_ (by assumption) ?_
          case refine_2 => (intro w' hSw; (try dsimp only at hSw); go_simp; first | done | with_reducible rfl)
          try simp only [Act.put, List.setIfInBounds_toArray, List.set_cons_zero, List.set_cons_succ]
          refine takeP (i := 8) (v := ?_) rfl (by kernel_rfl) (fun _ _ _ h => h) (by rfl) ?_ (by assumption) ?_
          case refine_2 => (intro w'; go_simp; first | done | with_reducible rfl)
          try simp only [Act.put, List.setIfInBounds_toArray, List.set_cons_zero, List.set_cons_succ]
          refine takeP (i := 9) (v := ?_) rfl (by kernel_rfl) (fun _ _ _ h => h) (by rfl) ?_ (by assumption) ?_
          case refine_2 => (intro w'; go_simp; first | done | with_reducible rfl)
          try simp only [Act.put, List.setIfInBounds_toArray, List.set_cons_zero, List.set_cons_succ]
          refine takeP (i := 10) (v := ?_) rfl (by kernel_rfl) (fun _ _ _ h => h) (by rfl) ?_ (by assumption) ?_
          case refine_2 => (intro w'; go_simp; first | done | with_reducible rfl)
          try simp only [Act.put, List.setIfInBounds_toArray, List.set_cons_zero, List.set_cons_succ]
          refine readyG (rs := [0]) (by kernel_rfl) (by simp) ?_
          refine AllG.cons rfl (fun Q9 hK => ?_) AllG.nil
          go_simp
          refine hK.out _ _ (cell_al hHeld) (fun hHeld2 => ?_)
          clear hK Q9
          try simp only [Act.put, List.setIfInBounds_toArray, List.set_cons_zero, List.set_cons_succ]
          refine readyG (rs := [5]) (by kernel_rfl) (by simp) ?_
          refine AllG.cons rfl (fun Q9 hK => ?_) AllG.nil
          refine stepsII hS1 0 rfl vA ((us.take k).drop 0) (rA.out _ (hS1.rd 4 (e := 46) rfl)) (fun u hu => Hone.out u (List.mem_of_mem_take (List.mem_of_mem_drop hu))) (by simp [HA.out.2.2]; omega) rfl (.tmp 35) (.tmp 39) rfl (by first | rfl | simp [Act.eval, Act.put]) (by first | rfl | simp [Act.eval, Act.put]) ?_
          intro v5 w5 hS5
          simp only [List.set_cons_zero] at hS5
          refine hK.out _ _ (hS5.bcell 2 rfl 1 rfl) (fun hHeld3 => ?_)
          clear hK Q9
          try simp only [Act.put, List.setIfInBounds_toArray, List.set_cons_zero, List.set_cons_succ]
          refine readyG (rs := [11]) (by kernel_rfl) (by simp) ?_
          refine AllG.cons rfl (fun Q9 hK => ?_) AllG.nil
          refine stepsII hS5 0 rfl vB ((us.take A.length).drop (k + 1)) (rB.out _ (hS5.rd 4 (e := 46) rfl)) (fun u hu => Hone.out u (List.mem_of_mem_take (List.mem_of_mem_drop hu))) (by simp [HA.out.2.2]; omega) rfl (.tmp 40) (.tmp 45) rfl (by first | rfl | simp [Act.eval, Act.put]) (by first | rfl | simp [Act.eval, Act.put]) ?_
          intro v6 w6 hS6
          simp only [List.set_cons_zero] at hS6
          obtain ⟨la, lc, hle⟩ := (hS6.rd 0 (e := 46) rfl).sl.sh
          generalize hml : ([] ++ (us.take k).drop 0 ++ (us.take A.length).drop (k + 1)).length = ml at hle
          subst hle
          have c1 := hS6.bcell 2 rfl 1 rfl
          have f1 := hS6.bfree 2 rfl
          refine hK.out _ _ c1 (fun hHeld4 => ?_)
          clear hK Q9
          try simp only [Act.put, List.setIfInBounds_toArray, List.set_cons_zero, List.set_cons_succ]
          refine takeP (i := 12) (v := ?_) rfl (by kernel_rfl) (fun _ _ _ h => h) (by rfl) ?_ (by assumption) ?_
          case refine_2 => (intro w'; go_simp; first | done | with_reducible rfl)
          try simp only [Act.put, List.setIfInBounds_toArray, List.set_cons_zero, List.set_cons_succ]
          refine readyG (rs := [13]) (by kernel_rfl) (by simp) ?_
          refine AllG.last rfl (by kernel_rfl) (fun Q9 hK => ?_) AllG.nil
          go_simp
          refine hK.out _ _ ?_
          clear hK Q9
          try simp only [Act.put, List.setIfInBounds_toArray, List.set_cons_zero, List.set_cons_succ]
          refine doneG (by kernel_rfl) ?_ _
          refine NoPanic.normal ?_
          have hS7 := hS6.bstore 2 rfl 1 (.slice la ml lc)
          simp only [List.set_cons_zero, List.set_cons_succ] at hS7
          have hT : AnyD w0 cv g (K + 310) L w.heap.size w2.heap.size _ := cut_out (K := K + 310) (v' := .slice la ml lc) HA.out.2 hk HPp.out.1 (by have := HPp.out.2; omega) hS7
          clear hS6 hS7 hS5 hS1
          go_wp2_with fail
          go_meet
          case rel => exact hT
      case rest =>
        clear h5 HA
        obtain ⟨P, A, v, us, HA, h4⟩ := hcut
        obtain ⟨ra, rc, hre⟩ := (h4.rd 2 (e := 46) (v := v) (us := us) rfl).sl.sh
        subst hre
        have c0 := h4.box 0 (e := 26) rfl 0 rfl
        have c1 := h4.box 0 (e := 26) rfl 1 rfl
        have b0 := h4.box 1 (e := 26) rfl 0 rfl
        have b1 := h4.box 1 (e := 26) rfl 1 rfl
        have f1 := h4.bfree 1 (e := 26) rfl
        have h7 := (h4.bstore 1 (e := 26) rfl 0 (.int .i64 P)).bstore 1 (e := 26) rfl 1 (.slice ra us.length rc)
        simp only [List.set_cons_zero, List.set_cons_succ] at h7
        have d0 := h7.box 1 (e := 26) rfl 0 rfl
        have d1 := h7.box 1 (e := 26) rfl 1 rfl
        clear h4
        go_wp2_with fail
        refine bodyPost_ret (v := .agg #[.int .i64 P, .slice ra us.length rc]) (by simp [results, Tryz.results31, go_sem, d0, d1]) rfl ?_
        exact ⟨P, A, _, us, HA.out.1, rfl, HA.out.2, (h7.sub ((List.sublist_cons_self _ _).trans (List.sublist_cons_self _ _))).mono (by omega)⟩
end Go.Proofs.YtljemlfocajhnaaGreat
end

section
/- Walks: rounds and home teams of the reference. -/
namespace Go.Proofs.YtljemlfocajhnaaGreat
set_option linter.unusedSimpArgs false
set_option linter.unusedVariables false
open Go.RowKit
attribute [local go_sem ↓] Go.wp_at_zero Go.wp_at_succ

theorem l14Pair_c (a b : Int) (w : World) : Calls Tryz.prog 54 #[.int .i64 a, .int .i64 b] w (MakesI w (prL a b)) := by
  have hx : ∀ x y : Int, St w.heap.size w (w.alloc (.cells #[.int .i64 x, .int .i64 y] 2)) [row 2 (.slice (some ⟨w.heap.size, 0, none⟩) 2 2) (iv [x, y])] := fun x y => (St.refl w).new 2 (iv [x, y]).toArray (by simp [iv, maxLen])
  by_cases h : a < b
  · have hp : prL a b = [a, b] := by rw [prL, if_neg (by omega)]
    rw [hp]
    clear hp
    go_enter Tryz.func54, Tryz.ntmps54
    go_wp2_with fail
    go_ret
    exact ⟨_, rfl, hx _ _⟩
  · have hp : prL a b = [b, a] := by
      rw [prL]
      by_cases e : b < a
      · rw [if_pos e]
      · rw [if_neg e, show a = b by omega]
    rw [hp]
    clear hp
    go_enter Tryz.func54, Tryz.ntmps54
    go_wp2_with fail
    go_ret
    exact ⟨_, rfl, hx _ _⟩
/-- some pairs of teams -/
def PrsOk (n : Int) (q : List (List Int)) : Prop := ∀ p ∈ q, p.length = 2 ∧ ∀ x ∈ p, 0 ≤ x ∧ x < n
theorem PrsOk.snoc {n : Int} {q : List (List Int)} {a b : Int} (h : PrsOk n q) (ha : 0 ≤ a ∧ a < n) (hb : 0 ≤ b ∧ b < n) : PrsOk n (q ++ [prL a b]) := fun p hp => by
  rcases List.mem_append.1 hp with hp | hp
  · exact h p hp
  · rw [List.mem_singleton.1 hp]
    refine ⟨prL_len a b, fun x hx => ?_⟩
    rw [prL] at hx
    split at hx <;> simp at hx <;> omega
theorem PrsOk.srt {n : Int} {q : List (List Int)} (h : PrsOk n q) : PrsOk n (srtL q) := fun p hp => h p ((srtL_perm q).mem_iff.1 hp)
/-- some rounds -/
def RdsOk (n : Int) (X : List (List (List Int))) : Prop := ∀ q ∈ X, PrsOk n q ∧ q.length ≤ 40
theorem RdsOk.snoc {n : Int} {X : List (List (List Int))} {q : List (List Int)} (h : RdsOk n X) (hq : PrsOk n q) (hl : q.length ≤ 40) : RdsOk n (X ++ [q]) := fun p hp => by
  rcases List.mem_append.1 hp with hp | hp
  · exact h p hp
  · rw [List.mem_singleton.1 hp]; exact ⟨hq, hl⟩
def MakesRd (w : World) (n : Nat) (e : Ending) (w' : World) : Prop := ∃ v vs uss X, e = .returned v ∧ Fit3 vs uss X ∧ RdsOk n X ∧ X.length = n - 1 + n % 2 ∧ St w.heap.size w w' (own3 v vs uss X)
set_option maxHeartbeats 16000000 in
set_option maxRecDepth 100000 in
theorem l14Rounds_c (n : Nat) (w : World) (h2 : 2 ≤ n) (h32 : n ≤ 32) : Calls Tryz.prog 30 #[.int .i64 n] w (MakesRd w n) := by
  obtain ⟨m, hm⟩ : ∃ m, n - 1 + n % 2 = m := ⟨_, rfl⟩
  obtain ⟨h, hh⟩ : ∃ h, (m - 1) / 2 = h := ⟨_, rfl⟩
  have q0 : (n : Int).tmod 2 = ((n % 2 : Nat) : Int) := by rw [Int.tmod_eq_emod_of_nonneg (by omega)]; rfl
  have q1 : (n : Int) - 1 + (n : Int) % 2 = (m : Int) := by omega
  have q2 : (n : Int) - 1 + ((n % 2 : Nat) : Int) = (m : Int) := by omega
  have q3 : ((m : Int) - 1).tdiv 2 = (h : Int) := by rw [Int.tdiv_eq_ediv_of_nonneg (by omega)]; omega
  have q4 : ((m : Int) - 1) / 2 = (h : Int) := by omega
  have hb : 1 ≤ m ∧ m ≤ 32 ∧ h ≤ 16 ∧ m ≤ n := by omega
  have Hm := Lib.hid hm
  have Hh := Lib.hid hh
  have hS0 := St.emp0 (w := w)
  have hS0 : St w.heap.size w (w.alloc (.cells #[] 24)) (own3 (.slice (some ⟨w.heap.size, 0, none⟩) 0 0) [] [] []) := (St.refl w).new 24 #[] (by simp)
  clear hm hh
  go_enter Tryz.func30, Tryz.ntmps30
  go_wp2_with fail
  go_loopw [4, 5, 6, 7] (fun o r _ _ wr => ∃ (k : Nat) (vs : List Value) (uss : List (List Value)) (X : List (List (List Int))), k ≤ m ∧ r = .int .i64 k ∧ Hid (Fit3 vs uss X ∧ RdsOk n X ∧ X.length = k) ∧ St w.heap.size w wr (own3 o vs uss X)) (fun _ r _ _ _ => m - (intOf r).toNat)
  case atStart => exact ⟨0, [], [], [], by omega, rfl, ⟨⟨rfl, rfl, fun k h => by simp at h⟩, fun q hq => (by cases hq), rfl⟩, hS0⟩
  case round =>
    clear hS0
    obtain ⟨r, vs, uss, X, hk, rfl, hI, hS⟩ := hrel
    by_cases hlt : r < m
    · have hB := ((hS.call ((St.refl wr).new 46 #[] (by simp)))).perm (L' := own2 (.slice (some ⟨wr.heap.size, 0, none⟩) 0 0) [] [] ++ own3 u4 vs uss X) (by exact List.perm_append_comm)
      by_cases he : n % 2 = 0
      · have f1 : ((n : Int) % 2 == 0) = true := eq_t (by omega)
        clear q0
        have HP0 := Lib.hid (show PrsOk n ([] ++ [prL (r : Int) ((n : Int) - 1)]) from PrsOk.snoc (fun p hp => by cases hp) (by omega) (by omega))
        go_wp2_with (first
          | (at_builtin; refine appII hS2 0 rfl (by simp) rfl _ _ rfl rfl _ rfl rfl ?_; intro v3 w3 hS3)
          | (go_at_call 54; refine (l14Pair_c (r : Int) ((n : Int) - 1) _).mono ?_; rintro e2 w2 ⟨u, rfl, h2⟩; obtain ⟨ua, uc, hu⟩ := (h2.rdI 0 rfl).sl.sh; rw [iv_len, prL_len] at hu; subst hu; have hS2 := hB.call h2))
        have hS1 := own2_snocL rfl hS3
        clear hS2 h2 hS3 hB
        go_loopw [7, 6] (fun ii qq wr => ∃ (i : Nat) (q : Value) (us : List Value) (A : List (List Int)), q = qq ∧ 1 ≤ i ∧ i ≤ h + 1 ∧ ii = .int .i64 i ∧ Hid (us.length = A.length ∧ PrsOk n A ∧ A.length ≤ i) ∧ St w.heap.size w wr (own2 q us A ++ own3 u4 vs uss X)) (fun ii _ _ => h + 1 - (intOf ii).toNat)
        case atStart => exact ⟨1, _, _, _, rfl, by omega, by omega, rfl, ⟨rfl, HP0.out, by simp⟩, hS1⟩
        case round =>
          clear hS1
          obtain ⟨i, q, us, A, rfl, hi1, hi2, rfl, hJ, hS⟩ := hrel
          by_cases hit : i ≤ h
          · have qa : ((r : Int) + (i : Int)).tmod (m : Int) = (((r + i) % m : Nat) : Int) := by rw [Int.tmod_eq_emod_of_nonneg (by omega)]; rfl
            have qb : ((r : Int) - (i : Int) + (m : Int)).tmod (m : Int) = (((r + m - i) % m : Nat) : Int) := by
              rw [show (r : Int) - (i : Int) + (m : Int) = ((r + m - i : Nat) : Int) by omega, Int.tmod_eq_emod_of_nonneg (by omega)]; rfl
            have qm : ((m : Int) == 0) = false := eq_f (by omega)
            have qn : ¬ (m : Int) = 0 := by omega
            have qo : ¬ m = 0 := by omega
            have xa := Nat.mod_lt (r + i) (show 0 < m by omega)
            have xb := Nat.mod_lt (r + m - i) (show 0 < m by omega)
            have hlN := Lib.hid (show us.length < 4294967296 by have := hJ.out.2.2; rw [hJ.out.1]; omega)
            have w1 : IntKind.i64.wrap ((r : Int) + (i : Int)) = (r : Int) + (i : Int) := IntWalk.i64_in _ (by omega)
            have w2 : IntKind.i64.wrap (m : Int) = (m : Int) := IntWalk.i64_in _ (by omega)
            have w3 : IntKind.i64.wrap ((r : Int) - (i : Int)) = (r : Int) - (i : Int) := IntWalk.i64_in _ (by omega)
            have w4 : IntKind.i64.wrap ((r : Int) - (i : Int) + (m : Int)) = (r : Int) - (i : Int) + (m : Int) := IntWalk.i64_in _ (by omega)
            have hil : (i : Int) ≤ (h : Int) := by omega
            generalize (r + i) % m = ra at *
            generalize (r + m - i) % m = rb at *
            have wa : IntKind.i64.wrap (ra : Int) = (ra : Int) := IntWalk.i64_in _ (by omega)
            have wb : IntKind.i64.wrap (rb : Int) = (rb : Int) := IntWalk.i64_in _ (by omega)
            have HPr := Lib.hid (hJ.out.2.1.snoc (a := (ra : Int)) (b := (rb : Int)) (by omega) (by omega))
            go_wp2_with fail
            go_region_law (first
              | (refine stepII hS2 0 rfl hlN.out rfl (.tmp 37) (.tmp 51) rfl (by simp [Act.eval, Act.put]) _ rfl (by simp [Act.eval, Act.put]) ?_; intro v3 w3 hS3)
              | (go_simp; go_at_call 54; refine (l14Pair_c ra rb _).mono ?_; rintro e2 w2 ⟨u, rfl, h2⟩; obtain ⟨ua, uc, hu⟩ := (h2.rdI 0 rfl).sl.sh; rw [iv_len, prL_len] at hu; subst hu; have hS2 := hS.drew.call h2))
            all_goals
              go_wp2_with fail
              go_roundw
              case rel =>
                refine ⟨i + 1, v3, us ++ [.slice ua 2 uc], A ++ [prL ra rb], rfl, by omega, by omega, by go_num, ⟨by simp [hJ.out.1], HPr.out, by have := hJ.out.2.2; simp; omega⟩, ?_⟩
                exact own2_snocL hJ.out.1 hS3
              case measure => simp [intOf]; omega
          · have hig : ¬ (i : Int) ≤ (h : Int) := by omega
            have hAl : Hid (A.length ≤ 17) := Lib.hid (by have := hJ.out.2.2; omega)
            have rA := (hS.sub (List.sublist_append_left _ _)).rii hJ.out.1
            have KS := Lib.hid (l10Sort_c q us A _ rA (by have := hAl.out; omega) (fun xs hx => by rw [(hJ.out.2.1 xs hx).1]; omega))
            have hvl := Lib.hid (show vs.length < 4294967296 by rw [hI.out.1.1, hI.out.2.2]; omega)
            have Hsl := Lib.hid (show (srtL A).length = A.length from srtL_len A)
            clear rA
            go_wp2_with (first
              | (at_builtin; refine appIII hS6 0 rfl hvl.out rfl _ _ rfl rfl _ rfl rfl ?_; intro v7 w7 hS7)
              | (go_at_call 33; refine KS.out.mono ?_; rintro e3 w5 ⟨v5, us5, rfl, hl5, h5⟩; obtain ⟨la, lc, hv5⟩ := (h5.rd 0 (e := 46) (v := v5) (us := us5) rfl).sl.sh; subst hv5; have Hl5 := Lib.hid hl5; clear hl5; have hS6 := (hS.sub (List.sublist_append_right _ _)).call h5))
            have hf8 := hI.out.1.snoc (.slice la us5.length lc) Hl5.out
            have hS8 := own3_snoc hI.out.1.1 hI.out.1.2.1 hS7
            go_roundw
            case rel => exact ⟨r + 1, _, _, _, by omega, by go_num, ⟨hf8, hI.out.2.1.snoc hJ.out.2.1.srt (by rw [Hsl.out]; have := hAl.out; omega), by rw [List.length_append, hI.out.2.2]; rfl⟩, hS8⟩
            case measure => simp [intOf]; omega
      · have f1 : ((n : Int) % 2 == 0) = false := eq_f (by omega)
        clear q0
        have hS1 := hB
        clear hB
        go_wp2_with fail
        go_loopw [7, 6] (fun ii qq wr => ∃ (i : Nat) (q : Value) (us : List Value) (A : List (List Int)), q = qq ∧ 1 ≤ i ∧ i ≤ h + 1 ∧ ii = .int .i64 i ∧ Hid (us.length = A.length ∧ PrsOk n A ∧ A.length ≤ i) ∧ St w.heap.size w wr (own2 q us A ++ own3 u4 vs uss X)) (fun ii _ _ => h + 1 - (intOf ii).toNat)
        case atStart => exact ⟨1, _, _, _, rfl, by omega, by omega, rfl, ⟨rfl, fun p hp => (by cases hp), by simp⟩, hS1⟩
        case round =>
          clear hS1
          obtain ⟨i, q, us, A, rfl, hi1, hi2, rfl, hJ, hS⟩ := hrel
          by_cases hit : i ≤ h
          · have qa : ((r : Int) + (i : Int)).tmod (m : Int) = (((r + i) % m : Nat) : Int) := by rw [Int.tmod_eq_emod_of_nonneg (by omega)]; rfl
            have qb : ((r : Int) - (i : Int) + (m : Int)).tmod (m : Int) = (((r + m - i) % m : Nat) : Int) := by
              rw [show (r : Int) - (i : Int) + (m : Int) = ((r + m - i : Nat) : Int) by omega, Int.tmod_eq_emod_of_nonneg (by omega)]; rfl
            have qm : ((m : Int) == 0) = false := eq_f (by omega)
            have qn : ¬ (m : Int) = 0 := by omega
            have qo : ¬ m = 0 := by omega
            have xa := Nat.mod_lt (r + i) (show 0 < m by omega)
            have xb := Nat.mod_lt (r + m - i) (show 0 < m by omega)
            have hlN := Lib.hid (show us.length < 4294967296 by have := hJ.out.2.2; rw [hJ.out.1]; omega)
            have w1 : IntKind.i64.wrap ((r : Int) + (i : Int)) = (r : Int) + (i : Int) := IntWalk.i64_in _ (by omega)
            have w2 : IntKind.i64.wrap (m : Int) = (m : Int) := IntWalk.i64_in _ (by omega)
            have w3 : IntKind.i64.wrap ((r : Int) - (i : Int)) = (r : Int) - (i : Int) := IntWalk.i64_in _ (by omega)
            have w4 : IntKind.i64.wrap ((r : Int) - (i : Int) + (m : Int)) = (r : Int) - (i : Int) + (m : Int) := IntWalk.i64_in _ (by omega)
            have hil : (i : Int) ≤ (h : Int) := by omega
            generalize (r + i) % m = ra at *
            generalize (r + m - i) % m = rb at *
            have wa : IntKind.i64.wrap (ra : Int) = (ra : Int) := IntWalk.i64_in _ (by omega)
            have wb : IntKind.i64.wrap (rb : Int) = (rb : Int) := IntWalk.i64_in _ (by omega)
            have HPr := Lib.hid (hJ.out.2.1.snoc (a := (ra : Int)) (b := (rb : Int)) (by omega) (by omega))
            go_wp2_with fail
            go_region_law (first
              | (refine stepII hS2 0 rfl hlN.out rfl (.tmp 37) (.tmp 51) rfl (by simp [Act.eval, Act.put]) _ rfl (by simp [Act.eval, Act.put]) ?_; intro v3 w3 hS3)
              | (go_simp; go_at_call 54; refine (l14Pair_c ra rb _).mono ?_; rintro e2 w2 ⟨u, rfl, h2⟩; obtain ⟨ua, uc, hu⟩ := (h2.rdI 0 rfl).sl.sh; rw [iv_len, prL_len] at hu; subst hu; have hS2 := hS.drew.call h2))
            all_goals
              go_wp2_with fail
              go_roundw
              case rel =>
                refine ⟨i + 1, v3, us ++ [.slice ua 2 uc], A ++ [prL ra rb], rfl, by omega, by omega, by go_num, ⟨by simp [hJ.out.1], HPr.out, by have := hJ.out.2.2; simp; omega⟩, ?_⟩
                exact own2_snocL hJ.out.1 hS3
              case measure => simp [intOf]; omega
          · have hig : ¬ (i : Int) ≤ (h : Int) := by omega
            have hAl : Hid (A.length ≤ 17) := Lib.hid (by have := hJ.out.2.2; omega)
            have rA := (hS.sub (List.sublist_append_left _ _)).rii hJ.out.1
            have KS := Lib.hid (l10Sort_c q us A _ rA (by have := hAl.out; omega) (fun xs hx => by rw [(hJ.out.2.1 xs hx).1]; omega))
            have hvl := Lib.hid (show vs.length < 4294967296 by rw [hI.out.1.1, hI.out.2.2]; omega)
            have Hsl := Lib.hid (show (srtL A).length = A.length from srtL_len A)
            clear rA
            go_wp2_with (first
              | (at_builtin; refine appIII hS6 0 rfl hvl.out rfl _ _ rfl rfl _ rfl rfl ?_; intro v7 w7 hS7)
              | (go_at_call 33; refine KS.out.mono ?_; rintro e3 w5 ⟨v5, us5, rfl, hl5, h5⟩; obtain ⟨la, lc, hv5⟩ := (h5.rd 0 (e := 46) (v := v5) (us := us5) rfl).sl.sh; subst hv5; have Hl5 := Lib.hid hl5; clear hl5; have hS6 := (hS.sub (List.sublist_append_right _ _)).call h5))
            have hf8 := hI.out.1.snoc (.slice la us5.length lc) Hl5.out
            have hS8 := own3_snoc hI.out.1.1 hI.out.1.2.1 hS7
            go_roundw
            case rel => exact ⟨r + 1, _, _, _, by omega, by go_num, ⟨hf8, hI.out.2.1.snoc hJ.out.2.1.srt (by rw [Hsl.out]; have := hAl.out; omega), by rw [List.length_append, hI.out.2.2]; rfl⟩, hS8⟩
            case measure => simp [intOf]; omega
    · obtain rfl : r = m := by omega
      go_wp2_with fail
      go_ret
      exact ⟨_, vs, uss, X, rfl, hI.out.1, hI.out.2.1, by rw [hI.out.2.2, Hm.out], hS⟩
end Go.Proofs.YtljemlfocajhnaaGreat
end
