/- The texts of this claim, run 10: DsB DsC Hd8 V8l LHad Prf PFnHadamard. -/
import Derived.Test.YtnodcfhdfpeokaaGreatK4
import Derived.Test.YtnodcfhdfpeokaaGreatK5
import Derived.Test.YtnodcfhdfpeokaaGreatK9
import Derived.ProofKit
import Derived.OpenShut
import Derived.ShutString
import Derived.ChangeOld
import Derived.Below
section
/- Walks: pairs and parameters of the reference. -/
namespace Go.Proofs.YtnodcfhdfpeokaaGreat
set_option linter.unusedSimpArgs false
set_option linter.unusedVariables false
open Go.RowKit
attribute [local go_sem ↓] Go.wp_at_zero Go.wp_at_succ

theorem parF_snoc {A : List (List Int)} {i x y : Nat} (hi : i < A.length) : parF (A.take (i + 1)) x y = parF (A.take i) x y + if (decide ((x : Int) ∈ xat A i) && decide ((y : Int) ∈ xat A i)) = true then 1 else 0 := by
  unfold parF; rw [take_xat hi, cntD_snoc]
theorem parR_take {P : Nat} {A : List (List Int)} {x t : Nat} (ht : t < P - (x + 1)) : (parR P A x).take (t + 1) = (parR P A x).take t ++ [parF A x (x + 1 + t)] := by
  rw [List.take_add_one, List.getElem?_eq_getElem (by simp [parR]; exact ht)]
  simp [parR]
set_option maxHeartbeats 4000000 in
set_option maxRecDepth 100000 in
theorem l10Pairs_c (P : Nat) (g : Nat) (v : Value) (us : List Value) (A : List (List Int)) (w : World) (hv : RII w v us A) (hb : BoxD w g P v) (hP : P ≤ 32) (hDl : A.length ≤ 128) :
    Calls Tryz.prog 55 #[.pointer (some ⟨g, 0, none⟩)] w (MakesI w (parL P A)) := by
  have hln := hv.len
  have hixe := hv.ixe
  have hS1 := St.emp0 (w := w)
  go_enter Tryz.func55, Tryz.ntmps55
  go_wp2_with fail
  go_loopw [3, 4, 5, 6, 7] (fun o i _ _ _ wr => ∃ x : Nat, x ≤ P ∧ i = .int .i64 x ∧ St w.heap.size w wr [row 2 o (iv (parK P A x))]) (fun _ i _ _ _ _ => P - (intOf i).toNat)
  case atStart => exact ⟨0, by omega, rfl, hS1⟩
  case round =>
    clear hS1
    obtain ⟨x, hx, rfl, hS⟩ := hrel
    have b0 := (hS.oldBoxD hb).1
    by_cases hxP : x < P
    · have hKs := Lib.hid (parK_succ P A x)
      have hS' := hS
      rw [show parK P A x = parK P A x ++ (parR P A x).take 0 by simp] at hS'
      clear hS
      go_wp2_with fail
      obtain ⟨wo, rfl⟩ : ∃ wo : World, wo = wr := ⟨_, rfl⟩
      go_loopw [3, 5, 6, 7] (fun o i _ _ wr => ∃ t : Nat, t ≤ P - (x + 1) ∧ i = .int .i64 ((x : Int) + 1 + t) ∧ St w.heap.size w wr [row 2 o (iv (parK P A x ++ (parR P A x).take t))]) (fun _ i _ _ _ => P - (intOf i).toNat)
      case atStart => exact ⟨0, by omega, by simp, hS'⟩
      case round =>
        clear hS' b0
        obtain ⟨t, ht, rfl, hS⟩ := hrel
        have b0 := (hS.oldBoxD hb).1
        by_cases htP : t < P - (x + 1)
        · obtain ⟨y, hy⟩ : ∃ y : Nat, x + 1 + t = y := ⟨_, rfl⟩
          have hyi : (x : Int) + 1 + t = (y : Int) := by omega
          have Ht := Lib.hid (parR_take (P := P) (A := A) (x := x) htP)
          rw [hy] at Ht
          have hyP : (y : Int) < P := by omega
          rw [hyi]
          have Hy := Lib.hid hyi
          clear hyi
          go_wp2_with fail
          obtain ⟨wq, rfl⟩ : ∃ wq : World, wq = wr := ⟨_, rfl⟩
          go_loopw [6, 7] (fun n i wr => ∃ k : Nat, k ≤ A.length ∧ i = .int .i64 k ∧ n = .int .i64 (parF (A.take k) x y) ∧ wr = wq) (fun _ i _ => A.length - (intOf i).toNat)
          case atStart => exact ⟨0, by omega, rfl, by simp [parF, cntD], rfl⟩
          case round =>
            obtain ⟨k, hk, rfl, rfl, rfl⟩ := hrel
            have b1 := (hS.oldBoxD hb).2
            by_cases hlt : k < A.length
            · have hrk := Lib.hid ((hS.oldII hv).row k hlt)
              have ck := (hS.oldII hv).cell k hlt
              have xk := hixe (k : Int) k rfl hlt
              have HF := Lib.hid (parF_snoc (x := x) (y := y) hlt)
              have hbd := cntD_bd (fun b => decide ((x : Int) ∈ b) && decide ((y : Int) ∈ b)) (A.take k)
              rw [show cntD (fun b => decide ((x : Int) ∈ b) && decide ((y : Int) ∈ b)) (A.take k) = parF (A.take k) x y from rfl] at hbd
              have hbl : (A.take k).length ≤ 128 := by simp; omega
              have KA := l00Has_c (vat us k) (xat A k) x wr hrk.out
              have KB := l00Has_c (vat us k) (xat A k) y wr hrk.out
              generalize decide ((x : Int) ∈ xat A k) = ba at *
              generalize decide ((y : Int) ∈ xat A k) = bb at *
              have KA := Lib.hid KA
              have KB := Lib.hid KB
              generalize parF (A.take k) x y = q at *
              generalize (A.take k).length = q' at *
              cases ba
              · go_wp2_with (go_at_call 64; refine KA.out.mono ?_; rintro e w1 ⟨rfl, rfl⟩)
                go_roundw
                case rel => exact ⟨k + 1, by omega, by go_num, by rw [HF.out]; simp, by first | trivial | rfl⟩
                case measure => simp [intOf]; omega
              · cases bb
                · go_wp2_with fail
                  refine KA.out.mono ?_
                  rintro e w1 ⟨rfl, rfl⟩
                  go_wp2_with fail
                  refine KB.out.mono ?_
                  rintro e w1 ⟨rfl, rfl⟩
                  go_wp2_with fail
                  go_roundw
                  case rel => exact ⟨k + 1, by omega, by go_num, by rw [HF.out]; simp, by first | trivial | rfl⟩
                  case measure => simp [intOf]; omega
                · go_wp2_with fail
                  refine KA.out.mono ?_
                  rintro e w1 ⟨rfl, rfl⟩
                  go_wp2_with fail
                  refine KB.out.mono ?_
                  rintro e w1 ⟨rfl, rfl⟩
                  go_wp2_with fail
                  go_roundw
                  case rel => exact ⟨k + 1, by omega, by go_num, by rw [HF.out]; simp, by first | trivial | rfl⟩
                  case measure => simp [intOf]; omega
            · obtain rfl : k = A.length := by omega
              rw [List.take_length]
              have hml := Lib.hid (show (parK P A x ++ (parR P A x).take t).length < 4294967296 by
                have := parK_len P A x
                have h2 : x * P ≤ 32 * 32 := Nat.mul_le_mul (by omega) (by omega)
                have : (parR P A x).length ≤ P := by simp [parR]
                simp only [List.length_append, List.length_take]; omega)
              go_wp2_with (at_builtin; refine appI hS 0 rfl hml.out rfl _ _ rfl rfl _ rfl ?_; intro v8 w8 hS8)
              simp only [List.set_cons_zero] at hS8
              rw [List.append_assoc, ← Ht.out] at hS8
              go_roundw
              case rel => exact ⟨t + 1, by omega, by have := Hy.out; go_num, hS8⟩
              case measure => have := Hy.out; simp [intOf]; omega
        · obtain rfl : t = P - (x + 1) := by omega
          rw [List.take_of_length_le (by simp [parR]), ← hKs.out] at hS
          have hge : ¬ ((x : Int) + 1 + ((P - (x + 1) : Nat) : Int)) < P := by omega
          go_wp2_with fail
          go_roundw
          case rel => exact ⟨x + 1, by omega, by go_num, hS⟩
          case measure => simp [intOf]; omega
    · obtain rfl : x = P := by omega
      rw [parK_end] at hS
      go_wp2_with fail
      go_ret
      exact ⟨_, rfl, hS⟩
end Go.Proofs.YtnodcfhdfpeokaaGreat
end

section
/- Walks: parameters of the reference. -/
namespace Go.Proofs.YtnodcfhdfpeokaaGreat
set_option linter.unusedSimpArgs false
set_option linter.unusedVariables false
open Go.RowKit
attribute [local go_sem ↓] Go.wp_at_zero Go.wp_at_succ

set_option maxHeartbeats 8000000 in
set_option maxRecDepth 100000 in
theorem l10Parameters_c (P : Nat) (g : Nat) (v : Value) (us : List Value) (A : List (List Int)) (w : World) (hv : RII w v us A) (hb : BoxD w g P v) (hD : DOk P A) :
    Calls Tryz.prog 33 #[.pointer (some ⟨g, 0, none⟩)] w (MakesPr w (prmV P A) (prmB P A)) := by
  have hP := hD.le
  have hDl := hD.len
  have HD := Lib.hid hD
  clear hD
  have hln := hv.len
  have hS := (St.refl w).newboxF 41 #[.int .i64 0, .int .i64 0, .int .i64 0, .int .i64 0, .int .i64 0]
  have b0 := (hS.oldBoxD hb).1
  have b1 := (hS.oldBoxD hb).2
  by_cases h1 : 2 ≤ P
  · by_cases h2 : 0 < A.length
    · have fz := eq_f (show ¬ (A.length : Int) = 0 by omega)
      have cz := (hS.oldII hv).cell 0 h2
      have x0 := hv.ixe 0 0 rfl h2
      have hl0 := (hv.row 0 h2).len
      have hm0 := (hv.row 0 h2).le
      have h1' : ¬ (P : Int) < 2 := by omega
      have HN1 := Lib.hid (fun (h : ¬ 2 ≤ (xat A 0).length) => prm_no1 (P := P) (A := A) (fun h' => h h'.2.2))
      have HN2 := Lib.hid (fun k (hk : k < A.length) (h : (xat A k).length ≠ (xat A 0).length) => prm_no2 (P := P) hk h)
      have HN3 := Lib.hid (fun k (hk : k < (parL P A).length) (h : nth (parL P A) k ≠ nth (parL P A) 0) => prm_no3 hk h)
      have hC0 := parL_pos (A := A) h1
      have hprm := Lib.hid (fun h3 h h' => prm_val (prm_yes (A := A) ⟨h1, h2, h3⟩ h h'))
      have hprb := Lib.hid (fun h3 h h' => prm_yes (A := A) ⟨h1, h2, h3⟩ h h')
      have HPC := fun W h hb' => Lib.hid (l10Pairs_c P g v us A W h hb' (by omega) hDl)
      have HR := fun W h hb' => Lib.hid (l10Replications_c P g v us A W h hb' HD.out)
      have hCle : (parL P A).length ≤ 1024 := by
        have := parK_len P A P
        have h2 : P * P ≤ 32 * 32 := Nat.mul_le_mul (by omega) (by omega)
        rw [parK_end] at this; omega
      generalize parL P A = C at *
      go_enter Tryz.func33, Tryz.ntmps33
      go_wp2_with fail
      go_loopw [5] (fun i wr => ∃ k : Nat, k ≤ A.length ∧ i = .int .i64 k ∧ Hid ((∀ j, j < k → (xat A j).length = (xat A 0).length) ∧ (0 < k → 2 ≤ (xat A 0).length)) ∧ St w.heap.size w wr [box 41 w.heap.size [.int .i64 0, .int .i64 0, .int .i64 0, .int .i64 0, .int .i64 0]]) (fun i _ => A.length - (intOf i).toNat)
      case atStart => exact ⟨0, by omega, rfl, ⟨fun j hj => by omega, fun h => by omega⟩, hS⟩
      case round =>
        clear hS b0 b1 cz
        obtain ⟨k, hk, rfl, hI, hS⟩ := hrel
        have b1 := (hS.oldBoxD hb).2
        by_cases hlt : k < A.length
        · have ck := (hS.oldII hv).cell k hlt
          have xk := hv.ixe (k : Int) k rfl hlt
          have hlk := (hv.row k hlt).len
          by_cases he : (xat A k).length = (xat A 0).length
          · have f := ne_f (show ((xat A k).length : Int) = (xat A 0).length by omega)
            have He := Lib.hid he
            clear he
            by_cases h3 : 2 ≤ (xat A 0).length
            · have h3' : ¬ ((xat A 0).length : Int) < 2 := by omega
              go_wp2_with fail
              go_roundw
              case rel => exact ⟨k + 1, by omega, by go_num, ⟨fun j hj => by
                by_cases e : j = k
                · rw [e]; exact He.out
                · exact hI.out.1 j (by omega), fun _ => h3⟩, hS⟩
              case measure => simp [intOf]; omega
            · have HN := Lib.hid (HN1.out h3)
              have h3' : ((xat A 0).length : Int) < 2 := by omega
              have hZ := hS.five rfl (.int .i64 0) (.int .i64 0) (.int .i64 0) (.int .i64 0) (.int .i64 0)
              have z0 := hZ.bcell 0 rfl 0 rfl
              have z1 := hZ.bcell 0 rfl 1 rfl
              have z2 := hZ.bcell 0 rfl 2 rfl
              have z3 := hZ.bcell 0 rfl 3 rfl
              have z4 := hZ.bcell 0 rfl 4 rfl
              have r0 := hS.bcell 0 rfl 0 rfl
              have r1 := hS.bcell 0 rfl 1 rfl
              have r2 := hS.bcell 0 rfl 2 rfl
              have r3 := hS.bcell 0 rfl 3 rfl
              have r4 := hS.bcell 0 rfl 4 rfl
              have f0 := hS.bfree 0 rfl
              go_wp2_with fail
              refine bodyPost_ret (v := .tuple #[.agg #[.int .i64 0, .int .i64 0, .int .i64 0, .int .i64 0, .int .i64 0], .bool false]) (by first | simp [results, Tryz.results33, go_sem, z0, z1, z2, z3, z4] | simp [results, Tryz.results33, go_sem, r0, r1, r2, r3, r4]) rfl ?_
              first | exact MakesPr.no HN.out hZ | exact MakesPr.no HN.out hS
          · have f := ne_t (fun e : ((xat A k).length : Int) = (xat A 0).length => he (by omega))
            have HN := Lib.hid (HN2.out k hlt he)
            clear he
            have hZ := hS.five rfl (.int .i64 0) (.int .i64 0) (.int .i64 0) (.int .i64 0) (.int .i64 0)
            have z0 := hZ.bcell 0 rfl 0 rfl
            have z1 := hZ.bcell 0 rfl 1 rfl
            have z2 := hZ.bcell 0 rfl 2 rfl
            have z3 := hZ.bcell 0 rfl 3 rfl
            have z4 := hZ.bcell 0 rfl 4 rfl
            have r0 := hS.bcell 0 rfl 0 rfl
            have r1 := hS.bcell 0 rfl 1 rfl
            have r2 := hS.bcell 0 rfl 2 rfl
            have r3 := hS.bcell 0 rfl 3 rfl
            have r4 := hS.bcell 0 rfl 4 rfl
            have f0 := hS.bfree 0 rfl
            go_wp2_with fail
            refine bodyPost_ret (v := .tuple #[.agg #[.int .i64 0, .int .i64 0, .int .i64 0, .int .i64 0, .int .i64 0], .bool false]) (by first | simp [results, Tryz.results33, go_sem, z0, z1, z2, z3, z4] | simp [results, Tryz.results33, go_sem, r0, r1, r2, r3, r4]) rfl ?_
            first | exact MakesPr.no HN.out hZ | exact MakesPr.no HN.out hS
        · obtain rfl : k = A.length := by omega
          have hall := Lib.hid hI.out.1
          have h3 := hI.out.2 h2
          clear hI
          go_wp2_with fail
          refine (HPC _ (hS.oldII hv) (hS.oldBoxD hb)).out.mono ?_
          clear HPC
          rintro e w2 ⟨vc, rfl, h4⟩
          have hS2 := hS.call h4
          have hlc := (h4.rdI 0 rfl).len
          have hic := (h4.rdI 0 rfl).ixe
          have xc0 := hic 0 0 rfl hC0
          simp only [List.cons_append, List.nil_append] at hS2
          clear hS h4 b1
          go_wp2_with fail
          go_loopw [7] (fun i wr => ∃ k : Nat, k ≤ C.length ∧ i = .int .i64 k ∧ Hid (∀ j, j < k → nth C j = nth C 0) ∧ St w.heap.size w wr [box 41 w.heap.size [.int .i64 0, .int .i64 0, .int .i64 0, .int .i64 0, .int .i64 0], row 2 vc (iv C)]) (fun i _ => C.length - (intOf i).toNat)
          case atStart => exact ⟨0, by omega, rfl, fun j hj => by omega, hS2⟩
          case round =>
            clear hS2
            obtain ⟨k, hk, rfl, hI, hS⟩ := hrel
            by_cases hlt : k < C.length
            · have qk := fun s : SS w.heap.size w [box 41 w.heap.size [.int .i64 0, .int .i64 0, .int .i64 0, .int .i64 0, .int .i64 0], row 2 vc (iv C)] => (s.st.rdI 1 rfl).cell k hlt
              have qz := fun s : SS w.heap.size w [box 41 w.heap.size [.int .i64 0, .int .i64 0, .int .i64 0, .int .i64 0, .int .i64 0], row 2 vc (iv C)] => (s.st.rdI 1 rfl).cell 0 hC0
              have xk := hic (k : Int) k rfl hlt
              by_cases he : nth C k = nth C 0
              · have f := ne_f he
                have He := Lib.hid he
                clear he
                go_wp2_with fail
                have hne : Nonempty (SS _ _ _) := ⟨⟨_, hS⟩⟩
                refine wp_region_st (by kernel_rfl) (by kernel_rfl) hS ?_
                repeat (go_big_quiet_step (fail))
                refine wpQuiet_nil ?_
                rintro _ ⟨s2, rfl⟩
                have hS3 := s2.st
                generalize s2.w = w3 at hS3 ⊢
                go_wp2_with fail
                go_roundw
                case rel => exact ⟨k + 1, by omega, by go_num, fun j hj => by
                  by_cases e : j = k
                  · rw [e]; exact He.out
                  · exact hI.out j (by omega), hS3⟩
                case measure => simp [intOf]; omega
              · have f := ne_t he
                have HN := Lib.hid (HN3.out k hlt he)
                clear he
                go_wp2_with fail
                have hne : Nonempty (SS _ _ _) := ⟨⟨_, hS⟩⟩
                refine wp_region_st (by kernel_rfl) (by kernel_rfl) hS ?_
                repeat (go_big_quiet_step (fail))
                refine wpQuiet_nil ?_
                rintro _ ⟨s2, rfl⟩
                have hS3 := s2.st
                generalize s2.w = w3 at hS3 ⊢
                have hZ := hS3.five rfl (.int .i64 0) (.int .i64 0) (.int .i64 0) (.int .i64 0) (.int .i64 0)
                have z0 := hZ.bcell 0 rfl 0 rfl
                have z1 := hZ.bcell 0 rfl 1 rfl
                have z2 := hZ.bcell 0 rfl 2 rfl
                have z3 := hZ.bcell 0 rfl 3 rfl
                have z4 := hZ.bcell 0 rfl 4 rfl
                have r0 := hS3.bcell 0 rfl 0 rfl
                have r1 := hS3.bcell 0 rfl 1 rfl
                have r2 := hS3.bcell 0 rfl 2 rfl
                have r3 := hS3.bcell 0 rfl 3 rfl
                have r4 := hS3.bcell 0 rfl 4 rfl
                have f0 := hS3.bfree 0 rfl
                go_wp2_with fail
                refine bodyPost_ret (v := .tuple #[.agg #[.int .i64 0, .int .i64 0, .int .i64 0, .int .i64 0, .int .i64 0], .bool false]) (by first | simp [results, Tryz.results33, go_sem, z0, z1, z2, z3, z4] | simp [results, Tryz.results33, go_sem, r0, r1, r2, r3, r4]) rfl ?_
                first | exact MakesPr.no HN.out hZ | exact MakesPr.no HN.out hS3
            · obtain rfl : k = C.length := by omega
              have HV := Lib.hid (hprm.out h3 hall.out hI.out)
              have HB := Lib.hid (hprb.out h3 hall.out hI.out)
              have b0 := (hS.oldBoxD hb).1
              have b1 := (hS.oldBoxD hb).2
              have c0 := (hS.rdI 1 rfl).cell 0 hC0
              have hS3 := hS.drew
              clear hI hprm hprb HN2 HN3 HN1
              go_wp2_with fail
              refine regionG (fun w' => w'.cell? ⟨g, 0, none⟩ = some (.int .i64 P) ∧ w'.cell? ⟨g, 1, none⟩ = some v ∧ w'.cell? (el vc 0) = some (.int .i64 (nth C 0))) 18 (by kernel_rfl) ⟨cell_dr b0, cell_dr b1, cell_dr c0⟩ (fun hHeld => ?_)
              refine takeP (i := 0) (v := ?_) rfl (by kernel_rfl) (fun _ _ _ h => h) (by rfl) ?_ (by assumption) ?_
              case refine_2 => (intro w'; go_simp; first | done | with_reducible rfl)
              try simp only [Act.put, List.setIfInBounds_toArray, List.set_cons_zero, List.set_cons_succ]
              refine takeP (i := 1) (v := ?_) rfl (by kernel_rfl) (fun _ _ _ h => h) (by rfl) ?_ (by assumption) ?_
              case refine_2 => (intro w'; go_simp; first | done | with_reducible rfl)
              try simp only [Act.put, List.setIfInBounds_toArray, List.set_cons_zero, List.set_cons_succ]
              refine takeP (i := 2) (v := ?_) rfl (by kernel_rfl) (fun _ _ _ h => h) (by rfl) ?_ (by assumption) ?_
              case refine_2 => (intro w'; go_simp; first | done | with_reducible rfl)
              try simp only [Act.put, List.setIfInBounds_toArray, List.set_cons_zero, List.set_cons_succ]
              refine takeH (i := 3) [17] (v := ?_) rfl (by kernel_rfl) (fun _ _ _ h => h) (by rfl) ?_ (by assumption) ?_
              case refine_2 => (intro w' hSw; (try dsimp only at hSw); go_simp; first | done | with_reducible rfl)
              try simp only [Act.put, List.setIfInBounds_toArray, List.set_cons_zero, List.set_cons_succ]
              refine takeP (i := 4) (v := ?_) rfl (by kernel_rfl) (fun _ _ _ h => h) (by rfl) ?_ (by assumption) ?_
              case refine_2 => (intro w'; go_simp; first | done | with_reducible rfl)
              try simp only [Act.put, List.setIfInBounds_toArray, List.set_cons_zero, List.set_cons_succ]
              refine takeP (i := 5) (v := ?_) rfl (by kernel_rfl) (fun _ _ _ h => h) (by rfl) ?_ (by assumption) ?_
              case refine_2 => (intro w'; go_simp; first | done | with_reducible rfl)
              try simp only [Act.put, List.setIfInBounds_toArray, List.set_cons_zero, List.set_cons_succ]
              refine takeP (i := 6) (v := ?_) rfl (by kernel_rfl) (fun _ _ _ h => h) (by rfl) ?_ (by assumption) ?_
              case refine_2 => (intro w'; go_simp; first | done | with_reducible rfl)
              try simp only [Act.put, List.setIfInBounds_toArray, List.set_cons_zero, List.set_cons_succ]
              refine takeH (i := 7) [8, 17] (v := ?_) rfl (by kernel_rfl) (fun _ _ _ h => h) (by rfl) ?_ (by assumption) ?_
              case refine_2 => (intro w' hSw; (try dsimp only at hSw); go_simp; first | done | with_reducible rfl)
              try simp only [Act.put, List.setIfInBounds_toArray, List.set_cons_zero, List.set_cons_succ]
              refine takeP (i := 8) (v := ?_) rfl (by kernel_rfl) (fun _ _ _ h => h) (by rfl) ?_ (by assumption) ?_
              case refine_2 => (intro w'; go_simp; first | done | with_reducible rfl)
              try simp only [Act.put, List.setIfInBounds_toArray, List.set_cons_zero, List.set_cons_succ]
              refine takeP (i := 9) (v := ?_) rfl (by kernel_rfl) (fun _ _ _ h => h) (by rfl) ?_ (by assumption) ?_
              case refine_2 => (intro w'; go_simp; first | done | with_reducible rfl)
              try simp only [Act.put, List.setIfInBounds_toArray, List.set_cons_zero, List.set_cons_succ]
              refine takeP (i := 13) (v := ?_) rfl (by kernel_rfl) (fun _ _ _ h => h) (by rfl) ?_ (by assumption) ?_
              case refine_2 => (intro w'; go_simp; first | done | with_reducible rfl)
              try simp only [Act.put, List.setIfInBounds_toArray, List.set_cons_zero, List.set_cons_succ]
              refine takeP (i := 14) (v := ?_) rfl (by kernel_rfl) (fun _ _ _ h => h) (by rfl) ?_ (by assumption) ?_
              case refine_2 => (intro w'; go_simp; first | done | with_reducible rfl)
              try simp only [Act.put, List.setIfInBounds_toArray, List.set_cons_zero, List.set_cons_succ]
              refine takeP (i := 15) (v := ?_) rfl (by kernel_rfl) (fun _ _ _ h => h) (by rfl) ?_ (by assumption) ?_
              case refine_2 => (intro w'; go_simp; first | done | with_reducible rfl)
              try simp only [Act.put, List.setIfInBounds_toArray, List.set_cons_zero, List.set_cons_succ]
              refine takeH (i := 16) [17] (v := ?_) rfl (by kernel_rfl) (fun _ _ _ h => h) (by rfl) ?_ (by assumption) ?_
              case refine_2 => (intro w' hSw; (try dsimp only at hSw); go_simp; first | done | with_reducible rfl)
              try simp only [Act.put, List.setIfInBounds_toArray, List.set_cons_zero, List.set_cons_succ]
              refine readyG (rs := [10]) (by kernel_rfl) (by simp) ?_
              refine AllG.cons rfl (fun K hK => ?_) AllG.nil
              go_simp
              refine (HR _ (hS3.oldII hv) (hS3.oldBoxD hb)).out.mono ?_
              rintro e w5 ⟨vr, rfl, h5⟩
              have hS5 := hS3.call h5
              have e0 := (hS5.oldBoxD hb).1
              have e1 := (hS5.oldBoxD hb).2
              have ec := (hS5.rdI 1 rfl).cell 0 hC0
              have xr0 := (h5.rdI 0 rfl).ixe 0 0 rfl (by rw [repL_len]; omega)
              have cr0 := (h5.rdI 0 rfl).cell 0 (by rw [repL_len]; omega)
              have hS6 := Lib.hid hS5
              refine hK.out _ _ ⟨e0, e1, ec⟩ (fun hHeld => ?_)
              clear hK K h5 hS3 hS b0 b1 c0
              try simp only [Act.put, List.setIfInBounds_toArray, List.set_cons_zero, List.set_cons_succ]
              refine takeP (i := 11) (v := ?_) rfl (by kernel_rfl) (fun _ _ _ h => h) (by rfl) ?_ (by assumption) ?_
              case refine_2 => (intro w'; go_simp; first | done | with_reducible rfl)
              try simp only [Act.put, List.setIfInBounds_toArray, List.set_cons_zero, List.set_cons_succ]
              refine readyG (rs := [12]) (by kernel_rfl) (by simp) ?_
              refine AllG.cons rfl (fun K hK => ?_) AllG.nil
              go_simp
              refine hK.out _ _ ⟨e0, e1, ec⟩ (fun hHeld => ?_)
              clear hK K
              try simp only [Act.put, List.setIfInBounds_toArray, List.set_cons_zero, List.set_cons_succ]
              have t0 := hS5.bcell 0 rfl 0 rfl
              have t1 := hS5.bcell 0 rfl 1 rfl
              have t2 := hS5.bcell 0 rfl 2 rfl
              have t3 := hS5.bcell 0 rfl 3 rfl
              have t4 := hS5.bcell 0 rfl 4 rfl
              have f0 := hS5.bfree 0 rfl
              refine takeP (i := 17) (v := ?_) rfl (by kernel_rfl) (fun _ _ _ h => h) (by rfl) ?_ (by assumption) ?_
              case refine_2 => (intro w'; go_simp; first | done | with_reducible rfl)
              try simp only [Act.put, List.setIfInBounds_toArray, List.set_cons_zero, List.set_cons_succ]
              refine readyG (rs := [18]) (by kernel_rfl) (by simp) ?_
              refine AllG.last rfl (by kernel_rfl) (fun K hK => ?_) AllG.nil
              go_simp
              refine hK.out _ _ ?_
              clear hK K
              try simp only [Act.put, List.setIfInBounds_toArray, List.set_cons_zero, List.set_cons_succ]
              refine readyG (rs := [19]) (by kernel_rfl) (by simp) ?_
              refine AllG.last rfl (by kernel_rfl) (fun K hK => ?_) AllG.nil
              go_simp
              refine hK.out _ _ ?_
              clear hK K
              try simp only [Act.put, List.setIfInBounds_toArray, List.set_cons_zero, List.set_cons_succ]
              refine doneG (by kernel_rfl) ?_ _
              refine NoPanic.normal ?_
              have hZ := hS6.out.five rfl (.int .i64 P) (.int .i64 A.length) (.int .i64 (nth (repL P A) 0)) (.int .i64 (xat A 0).length) (.int .i64 (nth C 0))
              have z0 := hZ.bcell 0 rfl 0 rfl
              have z1 := hZ.bcell 0 rfl 1 rfl
              have z2 := hZ.bcell 0 rfl 2 rfl
              have z3 := hZ.bcell 0 rfl 3 rfl
              have z4 := hZ.bcell 0 rfl 4 rfl
              clear hS5 t0 t1 t2 t3 t4
              go_wp2_with fail
              refine bodyPost_ret (v := .tuple #[.agg #[.int .i64 P, .int .i64 A.length, .int .i64 (nth (repL P A) 0), .int .i64 (xat A 0).length, .int .i64 (nth C 0)], .bool true]) (by simp [results, Tryz.results33, go_sem, z0, z1, z2, z3, z4]) rfl ?_
              rw [HB.out, HV.out]
              exact ⟨rfl, hZ.out⟩
    · have H := Lib.hid (prm_no1 (P := P) (A := A) (fun h => h2 h.2.1))
      have H0 := Lib.hid (show A.length = 0 by omega)
      have f := eq_t (show (A.length : Int) = 0 by omega)
      have h1' : ¬ (P : Int) < 2 := by omega
      clear h2
      go_enter Tryz.func33, Tryz.ntmps33
      have hZ := hS.five rfl (.int .i64 0) (.int .i64 0) (.int .i64 0) (.int .i64 0) (.int .i64 0)
      have z0 := hZ.bcell 0 rfl 0 rfl
      have z1 := hZ.bcell 0 rfl 1 rfl
      have z2 := hZ.bcell 0 rfl 2 rfl
      have z3 := hZ.bcell 0 rfl 3 rfl
      have z4 := hZ.bcell 0 rfl 4 rfl
      have r0 := hS.bcell 0 rfl 0 rfl
      have r1 := hS.bcell 0 rfl 1 rfl
      have r2 := hS.bcell 0 rfl 2 rfl
      have r3 := hS.bcell 0 rfl 3 rfl
      have r4 := hS.bcell 0 rfl 4 rfl
      have f0 := hS.bfree 0 rfl
      go_wp2_with fail
      refine bodyPost_ret (v := .tuple #[.agg #[.int .i64 0, .int .i64 0, .int .i64 0, .int .i64 0, .int .i64 0], .bool false]) (by first | simp [results, Tryz.results33, go_sem, z0, z1, z2, z3, z4] | simp [results, Tryz.results33, go_sem, r0, r1, r2, r3, r4]) rfl ?_
      first | exact MakesPr.no H.out hZ | exact MakesPr.no H.out hS
  · have H := Lib.hid (prm_no1 (P := P) (A := A) (fun h => h1 h.1))
    have h1' : (P : Int) < 2 := by omega
    go_enter Tryz.func33, Tryz.ntmps33
    have hZ := hS.five rfl (.int .i64 0) (.int .i64 0) (.int .i64 0) (.int .i64 0) (.int .i64 0)
    have z0 := hZ.bcell 0 rfl 0 rfl
    have z1 := hZ.bcell 0 rfl 1 rfl
    have z2 := hZ.bcell 0 rfl 2 rfl
    have z3 := hZ.bcell 0 rfl 3 rfl
    have z4 := hZ.bcell 0 rfl 4 rfl
    have r0 := hS.bcell 0 rfl 0 rfl
    have r1 := hS.bcell 0 rfl 1 rfl
    have r2 := hS.bcell 0 rfl 2 rfl
    have r3 := hS.bcell 0 rfl 3 rfl
    have r4 := hS.bcell 0 rfl 4 rfl
    have f0 := hS.bfree 0 rfl
    go_wp2_with fail
    refine bodyPost_ret (v := .tuple #[.agg #[.int .i64 0, .int .i64 0, .int .i64 0, .int .i64 0, .int .i64 0], .bool false]) (by first | simp [results, Tryz.results33, go_sem, z0, z1, z2, z3, z4] | simp [results, Tryz.results33, go_sem, r0, r1, r2, r3, r4]) rfl ?_
    first | exact MakesPr.no H.out hZ | exact MakesPr.no H.out hS

set_option maxHeartbeats 4000000 in
set_option maxRecDepth 100000 in
theorem sParametersOf_c (P : Nat) (v : Value) (us : List Value) (A : List (List Int)) (w : World) (hv : RII w v us A) (hok : dOk P A = true) :
    Calls Tryz.prog 16 #[dv P v] w (MakesPC w (prmV P A) (prmC P A)) := by
  obtain ⟨a, c, hsh⟩ := hv.1.sl.sh
  rw [hv.2.1] at hsh
  subst hsh
  have hS1 := ((St.refl w).newboxF 37 #[.int .i64 P, .slice a A.length c]).newboxF 41 #[.int .i64 0, .int .i64 0, .int .i64 0, .int .i64 0, .int .i64 0]
  simp only [World.size_alloc] at hS1
  have K1 := Lib.hid (l10Ok_c P w.heap.size (.slice a A.length c) us A _ (hS1.oldII hv) ⟨hS1.bcell 1 rfl 0 rfl, hS1.bcell 1 rfl 1 rfl⟩)
  rw [hok] at K1
  have K2 := fun W h hb => Lib.hid (l10Parameters_c P w.heap.size (.slice a A.length c) us A W h hb (dOk_t hok))
  have HV := Lib.hid (prmV_no (P := P) (A := A))
  have HC := Lib.hid (And.intro (show prmB P A = true → prmC P A = 0 from fun h => by rw [prmC, if_pos h]) (show prmB P A = false → prmC P A = 6 from fun h => by rw [prmC, if_neg (by rw [h]; decide)]))
  unfold dv
  generalize prmV P A = X at *
  generalize prmC P A = C at *
  generalize prmB P A = B at *
  go_enter Tryz.func16, Tryz.ntmps16
  go_wp2_with fail
  refine K1.out.mono ?_
  clear K1
  rintro e w2 ⟨rfl, h2⟩
  have hS2 := hS1.call0 h2
  clear h2 hS1
  go_wp2_with fail
  refine (K2 _ (hS2.oldII hv) ⟨hS2.bcell 1 rfl 0 rfl, hS2.bcell 1 rfl 1 rfl⟩).out.mono ?_
  rintro e w3 ⟨rfl, h3⟩
  have hS3 := (hS2.call0 h3).newboxF 41 #[.int .i64 (nth X 0), .int .i64 (nth X 1), .int .i64 (nth X 2), .int .i64 (nth X 3), .int .i64 (nth X 4)]
  have p0 := hS3.bcell 0 rfl 0 rfl
  have p1 := hS3.bcell 0 rfl 1 rfl
  have p2 := hS3.bcell 0 rfl 2 rfl
  have p3 := hS3.bcell 0 rfl 3 rfl
  have p4 := hS3.bcell 0 rfl 4 rfl
  have r0 := hS3.bcell 1 rfl 0 rfl
  have r1 := hS3.bcell 1 rfl 1 rfl
  have r2 := hS3.bcell 1 rfl 2 rfl
  have r3 := hS3.bcell 1 rfl 3 rfl
  have r4 := hS3.bcell 1 rfl 4 rfl
  have f0 := hS3.bfree 1 rfl
  have hS4 := hS3.sub (List.sublist_cons_self _ _)
  clear h3 hS2
  unfold pmV
  cases B
  · have hX := HV.out rfl
    have hC := HC.out.2 rfl
    have hZ := hS4.five rfl (.int .i64 0) (.int .i64 0) (.int .i64 0) (.int .i64 0) (.int .i64 0)
    have z0 := hZ.bcell 0 rfl 0 rfl
    have z1 := hZ.bcell 0 rfl 1 rfl
    have z2 := hZ.bcell 0 rfl 2 rfl
    have z3 := hZ.bcell 0 rfl 3 rfl
    have z4 := hZ.bcell 0 rfl 4 rfl
    subst hX
    subst hC
    clear hS3 hS4
    go_wp2_with fail
    refine bodyPost_ret (v := .tuple #[.agg #[.int .i64 0, .int .i64 0, .int .i64 0, .int .i64 0, .int .i64 0], .int .i64 6]) (by simp [results, Tryz.results16, go_sem, z0, z1, z2, z3, z4]) rfl ?_
    exact ⟨rfl, hZ.out⟩
  · have hC := HC.out.1 rfl
    subst hC
    have hZ := hS4.five rfl (.int .i64 (nth X 0)) (.int .i64 (nth X 1)) (.int .i64 (nth X 2)) (.int .i64 (nth X 3)) (.int .i64 (nth X 4))
    have z0 := hZ.bcell 0 rfl 0 rfl
    have z1 := hZ.bcell 0 rfl 1 rfl
    have z2 := hZ.bcell 0 rfl 2 rfl
    have z3 := hZ.bcell 0 rfl 3 rfl
    have z4 := hZ.bcell 0 rfl 4 rfl
    clear hS3 hS4
    go_wp2_with fail
    refine bodyPost_ret (v := .tuple #[.agg #[.int .i64 (nth X 0), .int .i64 (nth X 1), .int .i64 (nth X 2), .int .i64 (nth X 3), .int .i64 (nth X 4)], .int .i64 0]) (by simp [results, Tryz.results16, go_sem, z0, z1, z2, z3, z4]) rfl ?_
    exact ⟨rfl, hZ.out⟩
end Go.Proofs.YtnodcfhdfpeokaaGreat
end

section
/- Walks: the Hadamard matrix of a design, of the program. -/
namespace Go.Proofs.YtnodcfhdfpeokaaGreat
set_option linter.unusedSimpArgs false
set_option linter.unusedVariables false
open Go.RowKit
attribute [local go_sem ↓] Go.wp_at_zero Go.wp_at_succ

set_option maxHeartbeats 4000000 in
set_option maxRecDepth 100000 in
theorem hd1_c (x y g : Nat) (P : Int) (v : Value) (us : List Value) (A : List (List Int)) (w : World) (hg : BoxD w g P v) (hv : RII w v us A) (hx : x < A.length + 1) (hy : y ≤ 1000) :
    Calls Tryz.prog 35 #[.int .i64 x, .int .i64 y, .pointer (some ⟨g, 0, none⟩)] w (GivesI w (bkF A x y)) := by
  have hS := St.refl w
  have hle := hv.le
  have b1 := hg.2
  unfold bkF
  by_cases hx0 : x = 0
  · rw [if_pos (.inl hx0)]
    have f1 := eq_t (show (x : Int) = 0 by omega)
    clear hx0
    go_enter Tryz.func35, Tryz.ntmps35
    go_wp2_with fail
    go_ret
    exact ⟨rfl, hS⟩
  · have f1 := eq_f (show ¬ (x : Int) = 0 by omega)
    by_cases hy0 : y = 0
    · rw [if_pos (.inr (.inl hy0))]
      have f2 := eq_t (show (y : Int) = 0 by omega)
      clear hy0 hx0
      go_enter Tryz.func35, Tryz.ntmps35
      go_wp2_with fail
      go_ret
      exact ⟨rfl, hS⟩
    · have f2 := eq_f (show ¬ (y : Int) = 0 by omega)
      have i1 := hv.ixe ((x : Int) - 1) (x - 1) (by omega) (by omega)
      have c1 := hv.cell (x - 1) (by omega)
      have hr := hv.row (x - 1) (by omega)
      have KC := Lib.hid (Contains_c (vat us (x - 1)) (xat A (x - 1)) ((y : Int) - 1) w hr)
      by_cases hm : ((y : Int) - 1) ∈ xat A (x - 1)
      · rw [if_pos (.inr (.inr hm))]
        rw [decide_eq_true hm] at KC
        clear hm hy0 hx0
        generalize x - 1 = k at *
        go_enter Tryz.func35, Tryz.ntmps35
        go_wp2_with fail
        refine KC.out.mono ?_
        rintro e w1 ⟨rfl, rfl⟩
        go_wp2_with fail
        go_ret
        exact ⟨rfl, hS⟩
      · rw [if_neg (by rintro (h | h | h) <;> contradiction)]
        rw [decide_eq_false hm] at KC
        clear hm hy0 hx0
        generalize x - 1 = k at *
        go_enter Tryz.func35, Tryz.ntmps35
        go_wp2_with fail
        refine KC.out.mono ?_
        rintro e w1 ⟨rfl, rfl⟩
        go_wp2_with fail
        go_ret
        exact ⟨rfl, hS⟩
set_option maxHeartbeats 4000000 in
set_option maxRecDepth 100000 in
theorem HadamardOfDesign_c (P : Nat) (v : Value) (us : List Value) (A : List (List Int)) (k l R : Int) (w : World) (hv : RII w v us A) (hok : dOk P A = true) (hpc : prmC P A = 0) (hp : prmV P A = [(P : Int), (P : Int), R, k, l]) (e1 : A.length = P) (e2 : (P : Int) = 2 * k + 1) (e3 : k = 2 * l + 1) :
    Calls Tryz.prog 17 #[dv P v] w (IIOk w (sqF (P + 1) (bkF A))) := by
  obtain ⟨a, c, hsh⟩ := hv.1.sl.sh
  rw [hv.2.1] at hsh
  subst hsh
  have hP := (dOk_t hok).le
  have hS1 := (St.refl w).newboxF 37 #[.int .i64 P, .slice a A.length c]
  have KP := Lib.hid (ParametersOf_c P (.slice a A.length c) us A _ (hS1.oldII hv) hok)
  rw [hp, hpc] at KP
  have hcf := callFunc_go Tryz.func35 (by kernel_rfl) (by kernel_rfl)
  have hmf : ∀ (fn : Fn) (first cap : Array Value) (w : World), (Instr.makeFunc fn first cap).run Tryz.prog w = .ok (.func fn first cap) w := fun _ _ _ _ => rfl
  have b0 := hS1.bcell 0 rfl 0 rfl
  have b1 := hS1.bcell 0 rfl 1 rfl
  obtain ⟨k2, q1⟩ : ∃ z : Int, 2 * k = z := ⟨_, rfl⟩
  obtain ⟨l2, q3⟩ : ∃ z : Int, 2 * l = z := ⟨_, rfl⟩
  have q2 : k2 + 1 = (P : Int) := by omega
  have q4 : l2 + 1 = k := by omega
  have w1 : IntKind.i64.wrap k2 = k2 := IntWalk.i64_in _ (by omega)
  have w2 : IntKind.i64.wrap l2 = l2 := IntWalk.i64_in _ (by omega)
  have w3 : IntKind.i64.wrap (P : Int) = (P : Int) := IntWalk.i64_in _ (by omega)
  have w4 : IntKind.i64.wrap k = k := IntWalk.i64_in _ (by omega)
  have w5 : IntKind.i64.wrap ((P + 1 : Nat) : Int) = ((P + 1 : Nat) : Int) := IntWalk.i64_in _ (by omega)
  have eP : (P : Int) + 1 = ((P + 1 : Nat) : Int) := by omega
  have k1 : 0 ≤ k ∧ k ≤ 32 := by omega
  have l1 : -1 ≤ l ∧ l ≤ 32 := by omega
  have E1 := Lib.hid e1
  clear e1 e2 e3 hp hpc hok
  unfold dv at KP ⊢
  go_enter Tryz.func17, Tryz.ntmps17
  go_wp2_with fail
  refine KP.out.mono ?_
  clear KP b0 b1
  rintro e w1 ⟨rfl, h1⟩
  have hS1 := hS1.call0 h1
  have hS2 := hS1.newboxF 41 #[.int .i64 P, .int .i64 P, .int .i64 R, .int .i64 k, .int .i64 l]
  have p0 := hS2.bcell 0 rfl 0 rfl
  have p1 := hS2.bcell 0 rfl 1 rfl
  have p3 := hS2.bcell 0 rfl 3 rfl
  have p4 := hS2.bcell 0 rfl 4 rfl
  have hcall := Lib.hid (filledSquare_c 35 #[.pointer (some ⟨w.heap.size, 0, none⟩)] (bkF A) (P + 1) _ (by omega) hcf (fun x y W hW hx hy =>
    hd1_c x y w.heap.size P _ us A W
      ⟨by rw [hW.below.cell (World.block_lt_of_cell? _ _ (hS2.bcell 1 rfl 0 rfl))]; exact hS2.bcell 1 rfl 0 rfl, by rw [hW.below.cell (World.block_lt_of_cell? _ _ (hS2.bcell 1 rfl 1 rfl))]; exact hS2.bcell 1 rfl 1 rfl⟩
      ((hS2.oldII hv).keep hW.below) (by rw [E1.out]; exact hx) (by omega)))
  rw [← eP] at hcall
  clear hcf h1 hS1 eP
  rw [show pmV [(P : Int), (P : Int), R, k, l] = .agg #[.int .i64 P, .int .i64 P, .int .i64 R, .int .i64 k, .int .i64 l] from rfl]
  go_wp2_with fail
  refine hcall.out.mono ?_
  clear hcall p0 p1 p3 p4
  rintro e w2 ⟨o, uo, rfl, hl, h2⟩
  have hS3 := hS2.call h2
  have Hl := Lib.hid hl
  clear hl h2
  go_wp2_with fail
  go_ret2
  exact ⟨o, uo, rfl, Hl.out, hS3.sub (List.sublist_append_right _ _)⟩
end Go.Proofs.YtnodcfhdfpeokaaGreat
end

section
/- Walks: v8Long, v8At of the laws. -/
namespace Go.Proofs.YtnodcfhdfpeokaaGreat
set_option linter.unusedSimpArgs false
set_option linter.unusedVariables false
open Go.RowKit

set_option maxHeartbeats 2000000 in
theorem v8Long_c (va vb : Value) (xs bs : List UInt8) (w : World) (ha : RdB w va xs) (hb : RdB w vb bs) :
    Calls Tryz.prog 4 #[va, vb] w fun e w' => e = .returned (.bool (decide (1048576 < (xs.length : Int)) || decide (1048576 < (bs.length : Int)))) ∧ w = w' := by
  have hla := ha.len
  have hlb := hb.len
  have hea := ha.le
  have heb := hb.le
  by_cases h1 : 1048576 < (xs.length : Int)
  · rw [decide_eq_true h1, Bool.true_or]
    go_enter Tryz.func4, Tryz.ntmps4
    go_wp2_with fail
    go_ret
    exact ⟨rfl, rfl⟩
  · rw [decide_eq_false h1, Bool.false_or]
    by_cases h2 : 1048576 < (bs.length : Int)
    · rw [decide_eq_true h2]
      go_enter Tryz.func4, Tryz.ntmps4
      go_wp2_with fail
      go_ret
      exact ⟨by simp [h1, h2], rfl⟩
    · rw [decide_eq_false h2]
      go_enter Tryz.func4, Tryz.ntmps4
      go_wp2_with fail
      go_ret
      exact ⟨by simp [h1, h2], rfl⟩
set_option maxHeartbeats 2000000 in
theorem v8At_c (v : Value) (bs : List UInt8) (k : Nat) (n : Int) (w : World) (hb : RdB w v bs) (hk : k ≤ 1000000) :
    Calls Tryz.prog 8 #[v, .int .i64 k, .int .i64 n] w (AnInt 0 (max (n - 1) 0) fun w' => w = w') := by
  have hln := hb.len
  have hle := hb.le
  by_cases h1 : n ≤ 1
  · go_enter Tryz.func8, Tryz.ntmps8
    go_wp2_with fail
    go_ret
    exact ⟨0, by omega, by omega, rfl, rfl⟩
  · by_cases h2 : k < bs.length
    · have hc := hb.cell k h2
      have hx := hb.ix .i64 (k : Int) (by omega) (by omega)
      rw [Int.toNat_natCast] at hx
      obtain ⟨b0, b1⟩ := bnth_bd bs k
      go_enter Tryz.func8, Tryz.ntmps8
      go_wp2_with fail
      go_ret
      have := Int.emod_nonneg (bnth bs k) (show n ≠ 0 by omega)
      have := Int.emod_lt_of_pos (bnth bs k) (show 0 < n by omega)
      exact ⟨_, by omega, by omega, rfl, rfl⟩
    · go_enter Tryz.func8, Tryz.ntmps8
      go_wp2_with fail
      go_ret
      exact ⟨0, by omega, by omega, rfl, rfl⟩
end Go.Proofs.YtnodcfhdfpeokaaGreat
end

section
/- The law FnHadamard, walked. -/
namespace Go.Proofs.YtnodcfhdfpeokaaGreat
set_option linter.unusedSimpArgs false
set_option linter.unusedVariables false
open Go.RowKit
attribute [local go_sem ↓] Go.wp_at_zero Go.wp_at_succ

def BxP (w : World) (g : Nat) (a b c d e : Int) : Prop := w.cell? ⟨g, 0, none⟩ = some (.int .i64 a) ∧ w.cell? ⟨g, 1, none⟩ = some (.int .i64 b) ∧ w.cell? ⟨g, 2, none⟩ = some (.int .i64 c) ∧ w.cell? ⟨g, 3, none⟩ = some (.int .i64 d) ∧ w.cell? ⟨g, 4, none⟩ = some (.int .i64 e)
theorem BxP.keep {w0 w : World} {g : Nat} {a b c d e : Int} (h : BxP w0 g a b c d e) (hb : Below w0.heap.size w0 w) : BxP w g a b c d e := by
  obtain ⟨h1, h2, h3, h4, h5⟩ := h
  have hg : g < w0.heap.size := by
    rcases Nat.lt_or_ge g w0.heap.size with h | h
    · exact h
    · rw [World.cell?, Array.getElem?_eq_none h] at h1; cases h1
  exact ⟨by rw [hb.cell hg]; exact h1, by rw [hb.cell hg]; exact h2, by rw [hb.cell hg]; exact h3, by rw [hb.cell hg]; exact h4, by rw [hb.cell hg]; exact h5⟩
theorem newDh (w : World) (P : Int) (v : Value) : St w.heap.size w (w.alloc (.cells #[.int .i64 P, v] 37)) [] ∧ BoxD (w.alloc (.cells #[.int .i64 P, v] 37)) w.heap.size P v := by
  have hN := (St.refl w).newboxF 37 #[.int .i64 P, v]
  exact ⟨hN.out, hN.bcell 0 rfl 0 rfl, hN.bcell 0 rfl 1 rfl⟩
theorem newPh (w : World) (a b c d e : Int) : St w.heap.size w (w.alloc (.cells #[.int .i64 a, .int .i64 b, .int .i64 c, .int .i64 d, .int .i64 e] 41)) [] ∧ BxP (w.alloc (.cells #[.int .i64 a, .int .i64 b, .int .i64 c, .int .i64 d, .int .i64 e] 41)) w.heap.size a b c d e := by
  have hN := (St.refl w).newboxF 41 #[.int .i64 a, .int .i64 b, .int .i64 c, .int .i64 d, .int .i64 e]
  exact ⟨hN.out, hN.bcell 0 rfl 0 rfl, hN.bcell 0 rfl 1 rfl, hN.bcell 0 rfl 2 rfl, hN.bcell 0 rfl 3 rfl, hN.bcell 0 rfl 4 rfl⟩
/-- what the design of a normal matrix of order n >= 4 is -/
structure HFin (n P : Nat) (A : List (List Int)) : Prop where
  num : n = P + 1
  ok : dOk P A = true
  len : A.length = P
  back : Had n (sqF (P + 1) (bkF A))
  prm : 4 < n → ∃ m : Nat, n = 4 * m ∧ prmC P A = 0 ∧ prmV P A = [(P : Int), (P : Int), 2 * (m : Int) - 1, 2 * (m : Int) - 1, (m : Int) - 1]
theorem Nm.fin {n : Nat} {N : List (List Int)} (h : Nm n N) (h4 : 4 ≤ n) : HFin n (n - 1) (srtL (hbA n N)) := by
  have hP : n - 1 + 1 = n := by omega
  refine ⟨hP.symm, (h.dok h4).ok, by rw [srtL_len, hbA_len], by rw [hP]; exact h.back, fun h5 => ?_⟩
  obtain ⟨hb, hv⟩ := h.prm h5
  have hp := h.par (x := 0) (y := 1) (by omega) (by omega) (by omega)
  obtain ⟨m, hm⟩ : ∃ m : Nat, n = 4 * m := ⟨n / 4, by omega⟩
  refine ⟨m, hm, by rw [prmC, if_pos hb], ?_⟩
  rw [hv, show (n : Int) - 1 = ((n - 1 : Nat) : Int) by omega, show (n : Int) / 2 - 1 = 2 * (m : Int) - 1 by omega, show (n : Int) / 4 - 1 = (m : Int) - 1 by omega]
/-- what stays -/
structure LH (w : World) (cm : Value) (ms : List UInt8) (v : Value) (us : List Value) (H : List (List Int)) (W : World) : Prop where
  rm : RdB W cm ms
  rh : RII W v us H
  st : St w.heap.size w W []
theorem LH.call {w W W' : World} {cm v : Value} {ms : List UInt8} {us : List Value} {H : List (List Int)} {M : List Ent} (h : LH w cm ms v us H W) (h' : St W.heap.size W W' M) : LH w cm ms v us H W' :=
  ⟨h.rm.keep h'.below, h.rh.keep h'.below, h.st.call0 h'.out⟩
set_option maxHeartbeats 16000000 in
set_option maxRecDepth 100000 in
theorem FnHadamard_law (w : World) (cv : Value) (bs : List UInt8) (cm : Value) (ms : List UInt8) (hb : RdB w cv bs) (hm : RdB w cm ms) :
    Calls Tryz.prog 3 #[cv, cm] w (GivesB w true) := by
  have KL := v8Long_c cv cm bs ms w hb hm
  generalize (decide (1048576 < (bs.length : Int)) || decide (1048576 < (ms.length : Int))) = lo at KL
  cases lo
  case true =>
    go_enter Tryz.func3, Tryz.ntmps3
    go_wp2_with fail
    refine KL.mono ?_
    rintro e w1 ⟨rfl, rfl⟩
    go_wp2_with fail
    go_ret
    exact ⟨rfl, St.refl _⟩
  case false =>
    go_enter Tryz.func3, Tryz.ntmps3
    go_wp2_with fail
    refine KL.mono ?_
    clear KL
    rintro e w1 ⟨rfl, rfl⟩
    go_wp2_with fail
    refine (V8Hadamard_c w cv bs hb).mono ?_
    rintro e w1 ⟨v, n, us, H, rfl, hH, n20, hul, h1⟩
    have rh := h1.rii (by rw [hul, hH.sqr.len])
    have hln := rh.len
    rw [hH.sqr.len] at hln
    have n1 := hH.pos
    have hE : LH w cm ms v us H w1 := ⟨hm.keep h1.below, rh, h1.out⟩
    have HH := Lib.hid hH
    clear h1 rh hb hm hul hH
    have KT := Lib.hid (TransposeHadamard_c v us H n w1 hE.rh HH.out)
    go_wp2_with fail
    refine KT.out.mono ?_
    clear KT
    rintro e w2 ⟨vt, ut, rfl, hlt, h2⟩
    have rt := h2.rii hlt
    have hE := hE.call h2
    clear h2 hlt
    go_wp2_with fail
    refine (v8At_c cm ms 0 n _ hE.rm (by omega)).mono ?_
    rintro e w3 ⟨x, x0, x1, rfl, rfl⟩
    obtain ⟨line, rfl⟩ := Int.eq_ofNat_of_zero_le x0
    have hline : line < n := by omega
    go_wp2_with fail
    refine (v8At_c cm ms 1 2 _ hE.rm (by omega)).mono ?_
    rintro e w3 ⟨z, z0, z1, rfl, rfl⟩
    obtain ⟨row, hrow⟩ : ∃ b : Bool, (z == 0) = b := ⟨_, rfl⟩
    have KN := Lib.hid (NegateLine_c v us H n line row w2 hE.rh HH.out hline)
    have HX := Lib.hid ((ngL_sg (n := n) (H := H) line row).had HH.out)
    generalize ngL n H line row = X at *
    go_wp2_with fail
    refine KN.out.mono ?_
    clear KN x0 x1 z0 z1 hrow hline
    rintro e w3 ⟨vx, ux, rfl, hlx, h3⟩
    have rx := h3.rii hlx
    have rt := rt.keep h3.below
    have hE := hE.call h3
    clear h3 hlx
    have KN := Lib.hid (NormalHadamard_c vx ux X n w3 rx HX.out)
    have HY := Lib.hid (nm_nm HX.out)
    generalize nmL n X = Y at *
    go_wp2_with fail
    refine KN.out.mono ?_
    clear KN
    rintro e w4 ⟨vy, uy, rfl, hly, h4⟩
    have ry := h4.rii hly
    have rt := rt.keep h4.below
    have rx := rx.keep h4.below
    have hE := hE.call h4
    clear h4 hly
    have hlY := ry.len
    rw [HY.out.had.sqr.len] at hlY
    have hxY := ry.ixe
    rw [HY.out.had.sqr.len] at hxY
    have K1 := Lib.hid (ValidHadamard_c vt ut _ n w4 rt HH.out.tr)
    have K2 := fun W h => Lib.hid (sValidHadamard_c vx ux X n W h HX.out)
    have K3 := fun W h => Lib.hid (sValidHadamard_c vy uy Y n W h HY.out.had)
    go_wp2_with fail
    refine K1.out.mono ?_
    clear K1
    rintro e w5 ⟨rfl, h5⟩
    have rx := rx.keep h5.below
    have ry := ry.keep h5.below
    have hE := hE.call h5
    clear h5
    go_wp2_with fail
    refine (K2 _ rx).out.mono ?_
    clear K2
    rintro e w6 ⟨rfl, h6⟩
    have ry := ry.keep h6.below
    have hE := hE.call h6
    clear h6 rx
    go_wp2_with fail
    refine (K3 _ ry).out.mono ?_
    clear K3
    rintro e w7 ⟨rfl, h7⟩
    have ry := ry.keep h7.below
    have hE := hE.call h7
    clear h7 rt
    go_wp2_with fail
    go_loopw [13] (fun i wr => ∃ k : Nat, k ≤ n ∧ i = .int .i64 k ∧ w7 = wr) (fun i _ => n - (intOf i).toNat)
    case atStart => exact ⟨0, by omega, rfl, rfl⟩
    case round =>
      obtain ⟨k, hk, rfl, rfl⟩ := hrel
      by_cases hlt : k < n
      · have c0 := hEnt ry HY.out.had (x := 0) (y := k) (by omega) hlt
        have c1 := hEnt ry HY.out.had (x := k) (y := 0) hlt (by omega)
        rw [HY.out.row k hlt] at c0
        rw [HY.out.col k hlt] at c1
        obtain ⟨c2, c3⟩ := c0
        obtain ⟨c4, c5⟩ := c1
        have x0 := hxY (0 : Int) 0 rfl (by omega)
        have xk := hxY (k : Int) k rfl hlt
        have y0 := (ry.row 0 (by rw [HY.out.had.sqr.len]; omega)).ixe (k : Int) k rfl (by rw [HY.out.had.sqr.row 0 (by omega)]; exact hlt)
        have y1 := (ry.row k (by rw [HY.out.had.sqr.len]; omega)).ixe (0 : Int) 0 rfl (by rw [HY.out.had.sqr.row k hlt]; omega)
        go_wp2_with fail
        go_roundw
        case rel => exact ⟨k + 1, by omega, by go_num, by first | trivial | rfl⟩
        case measure => simp [intOf]; omega
      · obtain rfl : n = k := by omega
        have KE := Lib.hid (ExcessOf_c v us H n w7 hE.rh HH.out)
        have hx1 := exc_le HH.out
        have hx2 := exc_bd HH.out
        generalize excH n H = x at *
        obtain ⟨N2, q2⟩ : ∃ z : Nat, n * n = z := ⟨_, rfl⟩
        have hN2 : N2 ≤ 400 := by rw [← q2]; exact Nat.mul_le_mul n20 n20
        have q2 : (n : Int) * (n : Int) = (N2 : Int) := by rw [← q2]; rfl
        obtain ⟨N3, q3⟩ : ∃ z : Nat, N2 * n = z := ⟨_, rfl⟩
        have hN3 : N3 ≤ 8000 := by rw [← q3]; exact Nat.mul_le_mul hN2 n20
        have q3 : (N2 : Int) * (n : Int) = (N3 : Int) := by rw [← q3]; rfl
        rw [q2, q3] at hx1
        have hx0 : 0 ≤ x * x := by rcases Int.le_total 0 x with h | h; exact Int.mul_nonneg h h; exact Int.mul_nonneg_of_nonpos_of_nonpos h h
        obtain ⟨xx, q4⟩ : ∃ z : Int, x * x = z := ⟨_, rfl⟩
        rw [q4] at hx1 hx0
        go_wp2_with fail
        refine KE.out.mono ?_
        clear KE
        rintro e w8 ⟨rfl, h8⟩
        have ry := ry.keep h8.below
        have hE := hE.call h8
        clear h8
        have KS := Lib.hid (SylvesterMatrix_c 1 w8 (by omega))
        have H2 : Had 2 (sylL 1) := sylL_had (k := 1) (by omega)
        have H2 := Lib.hid H2
        generalize sylL 1 = T at *
        go_wp2_with fail
        refine KS.out.mono ?_
        clear KS
        rintro e w9 ⟨vs, us9, rfl, hls, h9⟩
        have rs := h9.rii hls
        have hE := hE.call h9
        clear h9 hls
        have KP := Lib.hid (ProductHadamard_c vs v us9 us 2 n T H w9 rs hE.rh H2.out HH.out)
        go_wp2_with fail
        refine KP.out.mono ?_
        clear KP hx0 hx1 hx2 q2 q3 q4
        have KD0 := fun h4 W h => Lib.hid (DesignOfHadamard_no v us H n W h HH.out h4)
        have KD := fun h4 W h => Lib.hid (DesignOfHadamard_c v us H n W h HH.out h4)
        rintro e w11 (⟨h32, vp, up, rfl, hlp, h10⟩ | ⟨h32, rfl, h10⟩)
        · have rp := h10.rii hlp
          have hE := hE.call h10
          have K := Lib.hid (sValidHadamard_c vp up (prH 2 n T H) (2 * n) w11 rp (H2.out.prod HH.out h32))
          have h32 : 2 * (n : Int) ≤ 32 := by omega
          clear h10 hlp rp
          go_wp2_with fail
          refine K.out.mono ?_
          clear K
          rintro e w12 ⟨rfl, h12⟩
          have hE := hE.call h12
          clear h12
          go_wp2_with fail
          by_cases h4 : n < 4
          · refine (KD0 h4 _ hE.rh).out.mono ?_
            rintro e w13 ⟨vd, ud, rfl, hld, h13⟩
            obtain ⟨ax, cx, hsx⟩ := (h13.rd 0 (e := 31) (v := vd) (us := ud) rfl).sl.sh
            subst hsx
            have hE := hE.call h13
            have hn := (St.refl w13).newboxF 37 #[.int .i64 0, .slice ax ud.length cx]
            have hE := hE.call hn
            clear h13 hld hn
            unfold dv
            go_wp2_with fail
            go_ret
            exact ⟨rfl, hE.st⟩
          · refine (KD (by omega) _ hE.rh).out.mono ?_
            clear KD KD0
            rintro e w13 ⟨vd, ud, rfl, hld, h13⟩
            have rd := h13.rii hld
            have hE := hE.call h13
            have hF := Lib.hid ((nm_nm HH.out).fin (by omega))
            generalize srtL (hbA n (nmL n H)) = A at *
            generalize n - 1 = P at *
            obtain ⟨a, c, hsh⟩ := rd.1.sl.sh
            rw [rd.2.1, hF.out.len] at hsh
            subst hsh
            obtain ⟨hn, bd⟩ := newDh w13 P (.slice a P c)
            have hE := hE.call hn
            have rd := rd.keep hn.below
            clear h13 hld hn
            have KM := Lib.hid (sParametersOf_c P (.slice a P c) ud A _ rd hF.out.ok)
            have hnP := hF.out.num
            by_cases e4 : n = 4
            · obtain rfl : P = 3 := by omega
              generalize prmV 3 A = Q at *
              generalize prmC 3 A = C at *
              have b0 := bd.1
              have b1 := bd.2
              unfold dv at KM ⊢
              go_wp2_with fail
              refine KM.out.mono ?_
              clear KM
              rintro e w15 ⟨rfl, h15⟩
              unfold pmV
              have hE := hE.call h15
              have bd := bd.keep h15.below
              obtain ⟨hn, -⟩ := newPh w15 (nth Q 0) (nth Q 1) (nth Q 2) (nth Q 3) (nth Q 4)
              have hE := hE.call hn
              have bd := bd.keep hn.below
              clear h15 hn
              have b0 := bd.1
              have b1 := bd.2
              go_wp2_with fail
              go_ret
              exact ⟨rfl, hE.st⟩
            · obtain ⟨m, hm, hc, hv⟩ := hF.out.prm (by omega)
              rw [hc, hv] at KM
              obtain ⟨K, hK⟩ : ∃ z : Int, 2 * (m : Int) - 1 = z := ⟨_, rfl⟩
              obtain ⟨L, hL⟩ : ∃ z : Int, (m : Int) - 1 = z := ⟨_, rfl⟩
              have KB := fun W h => Lib.hid (HadamardOfDesign_c P (.slice a P c) ud A K L K W h hF.out.ok hc (by rw [hv, hK, hL]) hF.out.len (by omega) (by omega))
              rw [hK, hL] at KM
              have q1 : (n : Int) - 1 = (P : Int) := by omega
              have q2 : (n : Int).tdiv 2 = K + 1 := by rw [Int.tdiv_eq_ediv_of_nonneg (by omega)]; omega
              have q4 : (n : Int).tdiv 4 = L + 1 := by rw [Int.tdiv_eq_ediv_of_nonneg (by omega)]; omega
              have q3 : (n : Int) / 2 = K + 1 := by omega
              have q5 : (n : Int) / 4 = L + 1 := by omega
              have y1 : K + 1 - 1 = K := by omega
              have y2 : L + 1 - 1 = L := by omega
              have u1 : IntKind.i64.wrap (K + 1) = K + 1 := IntWalk.i64_in _ (by omega)
              have u2 : IntKind.i64.wrap (L + 1) = L + 1 := IntWalk.i64_in _ (by omega)
              have u3 : IntKind.i64.wrap K = K := IntWalk.i64_in _ (by omega)
              have u4 : IntKind.i64.wrap L = L := IntWalk.i64_in _ (by omega)
              have hP1 : 1 ≤ P ∧ P ≤ 19 := by omega
              have hBk := Lib.hid hF.out.back
              have hnum := Lib.hid hnP
              clear hc hv hK hL hm hnP hF
              have b0 := bd.1
              have b1 := bd.2
              unfold dv at KM KB ⊢
              go_wp2_with fail
              refine KM.out.mono ?_
              clear KM
              rintro e w15 ⟨rfl, h15⟩
              rw [show pmV [(P : Int), (P : Int), K, K, L] = .agg #[.int .i64 P, .int .i64 P, .int .i64 K, .int .i64 K, .int .i64 L] from rfl]
              have hE := hE.call h15
              have bd := bd.keep h15.below
              have rd := rd.keep h15.below
              obtain ⟨hn, bp⟩ := newPh w15 P P K K L
              have hE := hE.call hn
              have bd := bd.keep hn.below
              have rd := rd.keep hn.below
              clear h15 hn b0 b1
              have b0 := bd.1
              have b1 := bd.2
              have KB := KB _ rd
              go_wp2_with fail
              refine KB.out.mono ?_
              clear KB b0 b1
              rintro e w16 ⟨vb, ub, rfl, hlb, h16⟩
              have rb := h16.rii hlb
              have hE := hE.call h16
              have bp := bp.keep h16.below
              clear h16
              have hSl : (sqF (P + 1) (bkF A)).length = n := by rw [sqF_len]; exact hnum.out.symm
              generalize sqF (P + 1) (bkF A) = S at *
              have hlB := rb.len
              rw [hSl] at hlB
              have KV := Lib.hid (sValidHadamard_c vb ub S n _ rb hBk.out)
              clear hSl
              have p0 := bp.1
              have p1 := bp.2.1
              have p2 := bp.2.2.1
              have p3 := bp.2.2.2.1
              have p4 := bp.2.2.2.2
              go_wp2_with fail
              refine KV.out.mono ?_
              clear KV
              rintro e w17 ⟨rfl, h17⟩
              have hE := hE.call h17
              go_wp2_with fail
              go_ret
              exact ⟨rfl, hE.st⟩
        · have hE := hE.call h10
          have h32 : ¬ 2 * (n : Int) ≤ 32 := by omega
          clear h10
          go_wp2_with fail
          by_cases h4 : n < 4
          · omega
          · refine (KD (by omega) _ hE.rh).out.mono ?_
            clear KD KD0
            rintro e w13 ⟨vd, ud, rfl, hld, h13⟩
            have rd := h13.rii hld
            have hE := hE.call h13
            have hF := Lib.hid ((nm_nm HH.out).fin (by omega))
            generalize srtL (hbA n (nmL n H)) = A at *
            generalize n - 1 = P at *
            obtain ⟨a, c, hsh⟩ := rd.1.sl.sh
            rw [rd.2.1, hF.out.len] at hsh
            subst hsh
            obtain ⟨hn, bd⟩ := newDh w13 P (.slice a P c)
            have hE := hE.call hn
            have rd := rd.keep hn.below
            clear h13 hld hn
            have KM := Lib.hid (sParametersOf_c P (.slice a P c) ud A _ rd hF.out.ok)
            have hnP := hF.out.num
            by_cases e4 : n = 4
            · omega
            · obtain ⟨m, hm, hc, hv⟩ := hF.out.prm (by omega)
              rw [hc, hv] at KM
              obtain ⟨K, hK⟩ : ∃ z : Int, 2 * (m : Int) - 1 = z := ⟨_, rfl⟩
              obtain ⟨L, hL⟩ : ∃ z : Int, (m : Int) - 1 = z := ⟨_, rfl⟩
              have KB := fun W h => Lib.hid (HadamardOfDesign_c P (.slice a P c) ud A K L K W h hF.out.ok hc (by rw [hv, hK, hL]) hF.out.len (by omega) (by omega))
              rw [hK, hL] at KM
              have q1 : (n : Int) - 1 = (P : Int) := by omega
              have q2 : (n : Int).tdiv 2 = K + 1 := by rw [Int.tdiv_eq_ediv_of_nonneg (by omega)]; omega
              have q4 : (n : Int).tdiv 4 = L + 1 := by rw [Int.tdiv_eq_ediv_of_nonneg (by omega)]; omega
              have q3 : (n : Int) / 2 = K + 1 := by omega
              have q5 : (n : Int) / 4 = L + 1 := by omega
              have y1 : K + 1 - 1 = K := by omega
              have y2 : L + 1 - 1 = L := by omega
              have u1 : IntKind.i64.wrap (K + 1) = K + 1 := IntWalk.i64_in _ (by omega)
              have u2 : IntKind.i64.wrap (L + 1) = L + 1 := IntWalk.i64_in _ (by omega)
              have u3 : IntKind.i64.wrap K = K := IntWalk.i64_in _ (by omega)
              have u4 : IntKind.i64.wrap L = L := IntWalk.i64_in _ (by omega)
              have hP1 : 1 ≤ P ∧ P ≤ 19 := by omega
              have hBk := Lib.hid hF.out.back
              have hnum := Lib.hid hnP
              clear hc hv hK hL hm hnP hF
              have b0 := bd.1
              have b1 := bd.2
              unfold dv at KM KB ⊢
              go_wp2_with fail
              refine KM.out.mono ?_
              clear KM
              rintro e w15 ⟨rfl, h15⟩
              rw [show pmV [(P : Int), (P : Int), K, K, L] = .agg #[.int .i64 P, .int .i64 P, .int .i64 K, .int .i64 K, .int .i64 L] from rfl]
              have hE := hE.call h15
              have bd := bd.keep h15.below
              have rd := rd.keep h15.below
              obtain ⟨hn, bp⟩ := newPh w15 P P K K L
              have hE := hE.call hn
              have bd := bd.keep hn.below
              have rd := rd.keep hn.below
              clear h15 hn b0 b1
              have b0 := bd.1
              have b1 := bd.2
              have KB := KB _ rd
              go_wp2_with fail
              refine KB.out.mono ?_
              clear KB b0 b1
              rintro e w16 ⟨vb, ub, rfl, hlb, h16⟩
              have rb := h16.rii hlb
              have hE := hE.call h16
              have bp := bp.keep h16.below
              clear h16
              have hSl : (sqF (P + 1) (bkF A)).length = n := by rw [sqF_len]; exact hnum.out.symm
              generalize sqF (P + 1) (bkF A) = S at *
              have hlB := rb.len
              rw [hSl] at hlB
              have KV := Lib.hid (sValidHadamard_c vb ub S n _ rb hBk.out)
              clear hSl
              have p0 := bp.1
              have p1 := bp.2.1
              have p2 := bp.2.2.1
              have p3 := bp.2.2.2.1
              have p4 := bp.2.2.2.2
              go_wp2_with fail
              refine KV.out.mono ?_
              clear KV
              rintro e w17 ⟨rfl, h17⟩
              have hE := hE.call h17
              go_wp2_with fail
              go_ret
              exact ⟨rfl, hE.st⟩
end Go.Proofs.YtnodcfhdfpeokaaGreat
end

section
/- How arguments that come in read. How bytes that come in read. -/
namespace Go.Proofs.YtnodcfhdfpeokaaGreat
set_option linter.unusedSimpArgs false
set_option linter.unusedVariables false
open Go.RowKit


/-- what came in as a slice of integers: nothing, or a row of numbers that fit -/
def IsRow (k : IntKind) (w : World) (a : Option Addr) (len cap : Nat) (zs : List Int) : Prop :=
  (a = none ∧ len = 0 ∧ cap = 0 ∧ zs = []) ∨
  ∃ x, a = some x ∧ len ≤ cap ∧ cap ≤ maxLen ∧ zs.length = cap ∧ (∀ i, i < zs.length → w.cell? (x.add i) = some (.int k (zs.getD i 0))) ∧ ∀ n ∈ zs, (Lit.int k n).wf = true

theorem IsRow.rd {k : IntKind} {w : World} {a : Option Addr} {len cap : Nat} {zs : List Int} (h : IsRow k w a len cap zs) : Rd w (.slice a len cap) ((zs.take len).map (Value.int k)) := by
  rcases h with ⟨rfl, rfl, rfl, rfl⟩ | ⟨x, rfl, h1, h2, h3, h4, h5⟩
  · exact Rd.nil w
  · have hl : ((zs.take len).map (Value.int k)).length = len := by simp; omega
    refine ⟨⟨some x, cap, by rw [hl], by omega, h2, .inr (by simp)⟩, ?_⟩
    intro i u hu
    have hi : i < len := by have := (List.getElem?_eq_some_iff.1 hu).1; omega
    have := h4 i (by omega)
    simp only [List.getElem?_map, List.getElem?_take, hi, if_true] at hu
    rw [List.getElem?_eq_getElem (by omega)] at hu
    simp at hu
    simp only [el]
    rw [this, ← hu]
    simp [List.getD, List.getElem?_eq_getElem (show i < zs.length by omega)]


theorem IsRow.rdB {w : World} {a : Option Addr} {len cap : Nat} {zs : List Int} (h : IsRow .u8 w a len cap zs) : ∃ bs, RdB w (.slice a len cap) bs := by
  refine ⟨(zs.take len).map fun n => UInt8.ofNat n.toNat, ?_⟩
  have h1 := h.rd
  have hw : ∀ n ∈ zs, 0 ≤ n ∧ n ≤ 255 := by
    rcases h with ⟨_, _, _, rfl⟩ | ⟨_, _, _, _, _, _, h5⟩
    · simp
    · intro n hn; have := h5 n hn; simpa [Lit.wf, IntKind.min, IntKind.max, IntKind.signed, IntKind.bits] using this
  unfold RdB bv
  rw [List.map_map]
  rw [List.map_congr_left (g := Value.int .u8)]
  · exact h1
  · intro n hn
    have := hw n (List.mem_of_mem_take hn)
    simp only [Function.comp]
    congr 1
    rw [UInt8.toNat_ofNat']
    omega

end Go.Proofs.YtnodcfhdfpeokaaGreat
end

section
/- FnHadamard holds: for every input the call returns true and leaves its arguments as they are. No condition. -/
namespace Go.Proofs.YtnodcfhdfpeokaaGreat.fnHadamard
set_option linter.unusedSimpArgs false
set_option linter.unusedVariables false
open Go.ChangeShapes Go.WideShapes Go.ChangeAt Go.RowKit
set_option linter.unusedVariables false

theorem own : ownKnob Tryz.prog.godebug = none := by kernel_rfl
theorem laidOut : laidOutB Tryz.prog = true := by kernel_rfl

set_option maxRecDepth 100000 in
theorem lifted (os : Os) (started : os.Started) (H : Type) (enc : TypeId × Value → H) :
    ReturnsInHanded {} Tryz.checked os 3 .any (Rows.fnHadamardSpec.pre6 enc Tryz.prog Tryz.f3 Rows.fnHadamardRow.domain false) (Rows.fnHadamardSpec.post enc Tryz.prog Tryz.f3 false true false false) := by
  refine returnsInHanded_of_change (C := Tryz.checked) own started (by kernel_rfl) Tryz.func3
    (ChangeSpec.witness6 (enc := enc) (C := Tryz.checked) false ⟨#[], #[.slice none 0 0, .slice none 0 0], []⟩ 8 (by kernel_rfl) (by kernel_rfl) (by kernel_rfl) (by kernel_rfl)) ?_
  intro W base args ds gs before hval0 hW hcnd _
  have hval : ∀ (j : Nat) t v, Tryz.f3.params[j]? = some t → args[j]? = some v → Value.okWide Tryz.prog W .any base t v := hval0
  have hW' := hW
  obtain ⟨p, q, hA0, hV, rfl, hfz, hnd⟩ := hW
  have hA : DataW.TrodAll enc Tryz.prog W 0 (fun _ => true) true Tryz.f3.params.toList args.toList ds p := hA0
  rw [Tryz.params3] at hA hval
  obtain ⟨v0, vs0, d0, ds0, p0, q0, hargs, rfl, rfl, h0, r0⟩ := trodAll_cons hA
  obtain ⟨v1, vs1, d1, ds1, p1, q1, rfl, rfl, rfl, h1, r1⟩ := trodAll_cons r0
  obtain ⟨rfl, rfl, rfl⟩ := trodAll_nil r1
  obtain rfl : args = #[v0, v1] := by cases args; simp_all
  obtain ⟨rfl, rfl⟩ := trodVars_none hV
  obtain ⟨a0, len0, cap0, rfl⟩ := okWide_slice Tryz.underlying22 (hval 0 22 v0 rfl rfl)
  have k0 := h0
  have lt0 : ∀ x ∈ p0, x.block < W.heap.size := by obtain ⟨m, hm⟩ := k0; exact DataW.trod_lt m _ _ _ hm
  obtain ⟨bs0, rd0⟩ : ∃ bs, RdB W (.slice a0 len0 cap0) bs := by
    obtain ⟨fuel, hf⟩ := h0
    rcases open_ints Tryz.underlying22 Tryz.underlying5 (by kernel_rfl) hf with ⟨hcs, _⟩ | ⟨x, l, c, zs, hcs, _, hl, hm, hz, _, hcell, hwz⟩
    · simp [Value.cells] at hcs
      obtain ⟨rfl, rfl, rfl⟩ := hcs
      exact IsRow.rdB (zs := []) (.inl ⟨rfl, rfl, rfl, rfl⟩)
    · simp [Value.cells] at hcs
      obtain ⟨rfl, rfl, rfl⟩ := hcs
      exact IsRow.rdB (zs := zs) (.inr ⟨_, rfl, hl, hm, by simpa using hz, hcell, hwz⟩)
  obtain ⟨a1, len1, cap1, rfl⟩ := okWide_slice Tryz.underlying22 (hval 1 22 v1 rfl rfl)
  have k1 := h1
  have lt1 : ∀ x ∈ p1, x.block < W.heap.size := by obtain ⟨m, hm⟩ := k1; exact DataW.trod_lt m _ _ _ hm
  obtain ⟨bs1, rd1⟩ : ∃ bs, RdB W (.slice a1 len1 cap1) bs := by
    obtain ⟨fuel, hf⟩ := h1
    rcases open_ints Tryz.underlying22 Tryz.underlying5 (by kernel_rfl) hf with ⟨hcs, _⟩ | ⟨x, l, c, zs, hcs, _, hl, hm, hz, _, hcell, hwz⟩
    · simp [Value.cells] at hcs
      obtain ⟨rfl, rfl, rfl⟩ := hcs
      exact IsRow.rdB (zs := []) (.inl ⟨rfl, rfl, rfl, rfl⟩)
    · simp [Value.cells] at hcs
      obtain ⟨rfl, rfl, rfl⟩ := hcs
      exact IsRow.rdB (zs := zs) (.inr ⟨_, rfl, hl, hm, by simpa using hz, hcell, hwz⟩)
  clear hA0 hval0
  refine (FnHadamard_law W _ bs0 _ bs1 rd0 rd1).mono fun e W' ⟨he, hst⟩ => ?_
  have bel := hst.below
  subst he
  exact ⟨_, rfl, _, _, _, [], _, [], hW', trodAll_mk1 (shut_bool Tryz.underlying4 _), (trodAll_cons_mk (Below.trod laidOut (by kernel_rfl) (of_decide_eq_true (by kernel_rfl)) k0 bel lt0) (trodAll_cons_mk (Below.trod laidOut (by kernel_rfl) (of_decide_eq_true (by kernel_rfl)) k1 bel lt1) trodAll_mk0)), rfl, bel.frame _, fun h => by cases h⟩

theorem over : Rows.fnHadamardRow.holds Tryz.pinned (OpenSpec.ofChange Rows.fnHadamardSpec) :=
  OpenClaim.holds_of_wide 3 Tryz.f3 rfl rfl rfl rfl rfl rfl rfl ⟨rfl, rfl, rfl, rfl, rfl⟩ rfl rfl rfl rfl rfl (by kernel_rfl) Tryz.func3 (by kernel_rfl)
    (of_decide_eq_true (by kernel_rfl)) (by unfold Func.isWrapper; first | (rw [if_pos (by decide +kernel)]; kernel_rfl) | (rw [if_neg (by decide +kernel)]; exact ⟨rfl, rfl⟩))
    (fun os started H enc _ => lifted os started H enc)

theorem proved : Rows.FnHadamardSaid := over
#print axioms proved
end Go.Proofs.YtnodcfhdfpeokaaGreat.fnHadamard
end
