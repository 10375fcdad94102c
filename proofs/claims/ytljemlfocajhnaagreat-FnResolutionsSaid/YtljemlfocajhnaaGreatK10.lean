/- The texts of this claim, run 10: Rx6 RrB RrD Rx7 Rx8 Rx9 PRv Rv1. -/
import Derived.Test.YtljemlfocajhnaaGreatK4
import Derived.Test.YtljemlfocajhnaaGreatK5
import Derived.Test.YtljemlfocajhnaaGreatK6
import Derived.Test.YtljemlfocajhnaaGreatK7
import Derived.Test.YtljemlfocajhnaaGreatK8
import Derived.Test.YtljemlfocajhnaaGreatK9
import Derived.Deep.CutRange
section
/- Walk: whether rounds are a schedule, of the reference: some answer. -/
namespace Go.Proofs.YtljemlfocajhnaaGreat
set_option linter.unusedSimpArgs false
set_option linter.unusedVariables false
open Go.RowKit
attribute [local go_sem ↓] Go.wp_at_zero Go.wp_at_succ

theorem pr_at {n : Int} {q : List (List Int)} (h : PrsOk n q) {i : Nat} (hi : i < q.length) : (xat q i).length = 2 ∧ (0 ≤ nth (xat q i) 0 ∧ nth (xat q i) 0 < n) ∧ (0 ≤ nth (xat q i) 1 ∧ nth (xat q i) 1 < n) := by
  obtain ⟨h2, h3⟩ := h _ (xat_mem hi)
  refine ⟨h2, h3 _ ?_, h3 _ ?_⟩
  · exact nth_mem (by omega)
  · exact nth_mem (by omega)
theorem cell_kp6 {w w' : World} (hb : Below w.heap.size w w') {p : Addr} {u : Value} (h : w.cell? p = some u) : w'.cell? p = some u := by
  rw [hb.cell (World.block_lt_of_cell? _ _ h)]; exact h
section
variable {ops : Array Oper} {o : Oper} {a : Act} {K : Act → World → Prop} {Q : Exit → Act → World → Prop} {E : Prop} {B : Nat} {w0 w : World} {L : List Ent}
/-- a store into an owned row of truth values, as a step -/
theorem stepStO (hS : St B w0 w L) (i : Nat) {v : Value} {xs : List Bool} (hi : L[i]? = some (row 4 v (bo xs))) (j : Nat) (hj : j < xs.length) (hg : o.guard = none) (x y : Operand)
    (hop : o.op = .store 4 x y) (hx : a.eval x = .pointer (some (el v j))) (n : Bool) (hy : a.eval y = .bool n)
    (hK : ∀ w', St B w0 w' (L.set i (row 4 v (bo (xs.set j n)))) → K (a.put o.dst undef) w') :
    if Region.wanted o (yielded ops a.tmps) = true then Oper.wp Tryz.prog o a w K Q else E :=
  step_st_store hg x y 4 hop Tryz.size_o hS i hi j (by rw [bo_len]; exact hj) (.bool n) hx hy rfl rfl (fun w' h => hK w' (by rw [← bo_set]; exact h))
end
section
variable {ops : Array Oper} {o : Oper} {a : Act} {Q : Exit → Act → World → Prop} {B : Nat} {w0 w : World} {L : List Ent} {md : Region.Mode} {S : World → Prop} {st : Nat}
/-- the last operation of a drawn region: a store into an owned row of truth values -/
theorem AllG.stO {n : Nat} {listed : Array Bool} {i : Nat} {x y : Operand} {ty : TypeId} {pos : String} {after : Array Edge} (ho : ops[i]? = some { dst := none, op := .store 4 x y, type := ty, pos := pos, after := after, guard := none }) (hl : (listed.setIfInBounds i true).getD st true = true) (hS : St B w0 w L) (m : Nat) {v : Value} {xs : List Bool} (hi : L[m]? = some (row 4 v (bo xs))) (j : Nat) (hj : j < xs.length)
    (hx : a.eval x = .pointer (some (el v j))) (b : Bool) (hy : a.eval y = .bool b)
    (hK : ∀ w', St B w0 w' (L.set m (row 4 v (bo (xs.set j b)))) → anyG Tryz.prog md ops Q S st n (listed.setIfInBounds i true) (a.put none undef) w') :
    AllG Tryz.prog md ops Q S st n listed a w [i] :=
  AllG.last ho hl (fun _ hK' => stepStO hS m hi j hj rfl x y rfl hx b hy (fun w' h => hK'.out _ _ (hK w' h))) AllG.nil
end
set_option maxHeartbeats 16000000 in
set_option maxRecDepth 100000 in
theorem l14Ok_c (n : Nat) (v : Value) (vs : List Value) (uss : List (List Value)) (X : List (List (List Int))) (w : World) (h2 : 2 ≤ n) (h32 : n ≤ 32) (hv : RIII w v vs uss X) (hX : RdsOk n X) (hXl : X.length ≤ 40) :
    Calls Tryz.prog 52 #[.int .i64 n, v] w (fun e w' => ∃ b, e = .returned (.bool b) ∧ St w.heap.size w w' []) := by
  obtain ⟨N, hN⟩ : ∃ N : Nat, n * n = N := ⟨_, rfl⟩
  have hN2 : N ≤ 1024 := by rw [← hN]; exact Nat.mul_le_mul h32 h32
  have hnn : (n : Int) * n = (N : Int) := by rw [← hN]; omega
  have wnn : IntKind.i64.wrap ((N : Int)) = (N : Int) := IntWalk.i64_in _ (by omega)
  have hin := Lib.hid (show inB (n : Int) 2 32 = true from inB_true (by omega))
  have hln := hv.len
  have HX := Lib.hid (fun r (hr : r < X.length) => hX _ (x3at_mem hr))
  have hS0 := St.refl w
  have HN := Lib.hid hN
  clear hX hN
  go_enter Tryz.func52, Tryz.ntmps52
  go_wp2_with (first
    | (go_at_call 84; refine (l00In_c _ _ _ _).mono ?_; rintro e w1 ⟨rfl, rfl⟩; rw [hin.out])
    | (at_make; refine mkO hS0 rfl _ _ rfl _ _ N (by first | rfl | (simp [Act.eval, Act.put, hnn, wnn])) (by first | rfl | (simp [Act.eval, Act.put, hnn, wnn])) (by omega) ?_; intro vm w1 hS1))
  go_loopw [6, 7, 8, 9, 10] (fun m i _ _ _ wr => ∃ (r : Nat) (c : Nat) (M : List Bool), r ≤ X.length ∧ i = .int .i64 r ∧ m = .int .i64 c ∧ c ≤ 40 * r ∧ Hid (M.length = N) ∧ St w.heap.size w wr [row 4 vm (bo M)]) (fun _ i _ _ _ _ => X.length - (intOf i).toNat)
  case atStart => exact ⟨0, 0, _, by omega, rfl, rfl, by omega, Lib.hid (by simp), hS1⟩
  case round =>
    clear hS1
    obtain ⟨r, c, M, hr, rfl, rfl, hc, hM, hS⟩ := hrel
    by_cases hrt : r < X.length
    · have hq := (HX.out r hrt).1
      have hq40 := (HX.out r hrt).2
      go_wp2_with (at_make; refine mkO hS rfl _ _ rfl _ _ n (by first | rfl | (simp [Act.eval, Act.put])) (by first | rfl | (simp [Act.eval, Act.put])) (by omega) ?_; intro vb w1 hS1)
      have Hb0 : Hid ((List.replicate n false).length = n) := Lib.hid (by simp)
      generalize List.replicate n false = B0 at *
      have HQ := Lib.hid hq
      clear hq hS
      go_loopw [6, 9, 10] (fun m i _ wr => ∃ (i' : Nat) (c : Nat) (M B : List Bool), i' ≤ (x3at X r).length ∧ i = .int .i64 i' ∧ m = .int .i64 c ∧ c ≤ 40 * r + i' ∧ Hid (M.length = N) ∧ Hid (B.length = n) ∧ St w.heap.size w wr [row 4 vm (bo M), row 4 vb (bo B)]) (fun _ i _ _ => (x3at X r).length - (intOf i).toNat)
      case atStart => exact ⟨0, c, M, B0, by omega, rfl, rfl, by omega, hM, Hb0, hS1⟩
      case round =>
        clear hS1 hM Hb0 hc
        obtain ⟨k, c, M, B, hk, rfl, rfl, hc, hM, hB, hS⟩ := hrel
        have hR := (hS.oldIII hv)
        have i0 := hR.ixe (r : Int) r rfl hrt
        have c0 := hR.cell r hrt
        have hRr := hR.row r hrt
        have ln0 := hRr.len
        by_cases hkt : k < (x3at X r).length
        · obtain ⟨l2, ⟨p0, p0'⟩, ⟨p1, p1'⟩⟩ := pr_at HQ.out hkt
          have i1 := hRr.ixe (k : Int) k rfl hkt
          have c1 := hRr.cell k hkt
          have hRk := hRr.row k hkt
          have ln1 := hRk.len
          rw [l2] at ln1
          have KR := Lib.hid (l00Rises_c _ _ 0 ((n : Int) - 1) wr hRk)
          generalize hz : incB (0 - 1) ((n : Int) - 1 + 1) (xat (x3at X r) k) = z at KR
          clear hz
          cases z
          · go_wp2_with (go_at_call 85; refine KR.out.mono ?_; rintro e w2 ⟨rfl, h2'⟩; have hS2 := hS.call0 h2')
            go_ret
            exact ⟨_, rfl, hS2.out⟩
          · go_upto_region 13 with fail
            go_cut [68] from 42 to 119 (fun t w' => (∃ b, t = .bool b) ∧ St w.heap.size w w' [row 4 vm (bo M), row 4 vb (bo B)])
            case first =>
              by_cases hk0 : 0 < k
              · have hk1 : (0 : Int) < (k : Int) := by omega
                have i2 := hRr.ixe ((k : Int) - 1) (k - 1) (by omega) (by omega)
                have c2 := hRr.cell (k - 1) (by omega)
                have w1' : IntKind.i64.wrap ((k : Int) - 1) = (k : Int) - 1 := IntWalk.i64_in _ (by omega)
                have KC := fun W (h : St wr.heap.size wr W []) => Lib.hid (sCompareLists_c _ _ _ _ W ((hRr.row (k - 1) (by omega)).keep h.below) (hRk.keep h.below))
                generalize hcc : cmpI (xat (x3at X r) (k - 1)) (xat (x3at X r) k) = cc at KC
                clear hcc
                go_wp2_with (first
                  | (go_at_call 85; refine KR.out.mono ?_; rintro e w2 ⟨rfl, h2'⟩; have hS2 := hS.call0 h2'; have c2' := cell_kp6 h2'.below c2; have c0' := cell_kp6 h2'.below c0)
                  | (go_at_call 60; refine (KC _ h2').out.mono ?_; rintro e w3 ⟨rfl, h3'⟩; have hS3 := hS2.call0 h3'))
                go_meet
                case rel => exact ⟨⟨_, rfl⟩, hS3⟩
              · have hk1 : ¬ (0 : Int) < (k : Int) := by omega
                go_wp2_with (go_at_call 85; refine KR.out.mono ?_; rintro e w2 ⟨rfl, h2'⟩; have hS2 := hS.call0 h2')
                go_meet
                case rel => exact ⟨⟨_, rfl⟩, hS2⟩
            case rest =>
              clear hS KR
              obtain ⟨⟨b, rfl⟩, hS⟩ := hcut
              cases b
              · clear hR i0 c0 hRr ln0 i1 c1 hRk ln1
                have hRk := ((hS.oldIII hv).row r hrt).row k hkt
                obtain ⟨a, ha⟩ := Int.eq_ofNat_of_zero_le p0
                obtain ⟨d, hd⟩ := Int.eq_ofNat_of_zero_le p1
                have xa := hRk.ixe (0 : Int) 0 rfl (by omega)
                have xd := hRk.ixe (1 : Int) 1 rfl (by omega)
                have ca := hRk.cell 0 (by omega)
                have cd := hRk.cell 1 (by omega)
                rw [ha] at ca p0'
                rw [hd] at cd p1'
                have hBo := hS.rdO 1 rfl
                have hMo := hS.rdO 0 rfl
                have xba := hBo.ixe (a : Int) a rfl (by rw [hB.out]; omega)
                have xbd := hBo.ixe (d : Int) d rfl (by rw [hB.out]; omega)
                have cba := hBo.cell a (by rw [hB.out]; omega)
                have cbd := hBo.cell d (by rw [hB.out]; omega)
                obtain ⟨an, han⟩ : ∃ an, a * n = an := ⟨_, rfl⟩
                have hanN : an + d < N := by
                  have h1 : (a + 1) * n ≤ n * n := Nat.mul_le_mul (by omega) (Nat.le_refl _)
                  rw [Nat.add_mul, han, HN.out] at h1
                  omega
                have hani : (a : Int) * n = (an : Int) := by rw [← han]; omega
                have wan : IntKind.i64.wrap (an : Int) = (an : Int) := IntWalk.i64_in _ (by omega)
                have wad : IntKind.i64.wrap ((an : Int) + d) = (an : Int) + d := IntWalk.i64_in _ (by omega)
                have xm := hMo.ixe ((an : Int) + d) (an + d) (by omega) (by rw [hM.out]; omega)
                have cm := hMo.cell (an + d) (by rw [hM.out]; omega)
                have Hp := Lib.hid (fun W L (h : St w.heap.size w W L) => (show W.cell? (el (vat (vsat uss r) k) 0) = some (.int .i64 a) ∧ W.cell? (el (vat (vsat uss r) k) 1) = some (.int .i64 d) from by
                  have hRk := ((h.oldIII hv).row r hrt).row k hkt
                  have e0 := hRk.cell 0 (by omega)
                  have e1 := hRk.cell 1 (by omega)
                  rw [ha] at e0
                  rw [hd] at e1
                  exact ⟨e0, e1⟩))
                clear ha hd han hBo hMo hRk l2 p0 p1
                generalize hba : bat B a = ba at cba
                generalize hbd : bat B d = bd at cbd
                generalize hbm : bat M (an + d) = bm at cm
                have Hb := Lib.hid (And.intro hba (And.intro hbd hbm))
                clear hba hbd hbm
                have hSo := Lib.hid hS.out
                have q0 : ∀ s : SS wc.heap.size wc [], s.w.cell? (el (vat (vsat uss r) k) 0) = some (.int .i64 a) := fun s => by rw [s.st.below.cell (World.block_lt_of_cell? _ _ ca)]; exact ca
                have q1 : ∀ s : SS wc.heap.size wc [], s.w.cell? (el (vat (vsat uss r) k) 1) = some (.int .i64 d) := fun s => by rw [s.st.below.cell (World.block_lt_of_cell? _ _ cd)]; exact cd
                have q2 : ∀ s : SS wc.heap.size wc [], s.w.cell? (el vb a) = some (.bool ba) := fun s => by rw [s.st.below.cell (World.block_lt_of_cell? _ _ cba)]; exact cba
                have q3 : ∀ s : SS wc.heap.size wc [], s.w.cell? (el vb d) = some (.bool bd) := fun s => by rw [s.st.below.cell (World.block_lt_of_cell? _ _ cbd)]; exact cbd
                have q4 : ∀ s : SS wc.heap.size wc [], s.w.cell? (el vm (an + d)) = some (.bool bm) := fun s => by rw [s.st.below.cell (World.block_lt_of_cell? _ _ cm)]; exact cm
                have hT := St.refl wc
                clear ca cd cba cbd cm
                cases ba
                · cases bd
                  · cases bm
                    · go_wp2_with fail
                      have hne : Nonempty (SS _ _ _) := ⟨⟨_, hT⟩⟩
                      refine wp_region_st (by kernel_rfl) (by kernel_rfl) hT ?_
                      repeat (go_big_quiet_step (fail))
                      refine wpQuiet_nil ?_
                      rintro _ ⟨s2, rfl⟩
                      have hT5 := s2.st
                      generalize s2.w = w5 at hT5 ⊢
                      have hS5 := hS.call0 hT5
                      have ca5 := (Hp.out _ _ hS5).1
                      go_wp2_with (first
                        | (refine stoO hS6 1 rfl d (by rw [List.length_set, hB.out]; omega) rfl _ _ rfl rfl true rfl ?_; intro w7 hS7; simp only [List.set_cons_zero, List.set_cons_succ] at hS7)
                        | (refine stoO hS5 1 rfl a (by rw [hB.out]; omega) rfl _ _ rfl rfl true rfl ?_; intro w6 hS6; simp only [List.set_cons_zero, List.set_cons_succ] at hS6; have cd6 := (Hp.out _ _ hS6).2))
                      have c7 := Hp.out _ _ hS7
                      have B7 : Hid (((B.set a true).set d true).length = n) := Lib.hid (by rw [List.length_set, List.length_set]; exact hB.out)
                      generalize (B.set a true).set d true = BB at *
                      clear hS5 hS6 ca5 cd6 hT hS
                      refine regionG (fun w' => w'.cell? (el (vat (vsat uss r) k) 0) = some (.int .i64 a) ∧ w'.cell? (el (vat (vsat uss r) k) 1) = some (.int .i64 d)) 11 (by kernel_rfl) ⟨cell_dr c7.1, cell_dr c7.2⟩ (fun hHeld => ?_)
                      refine takeP (i := 0) (v := ?_) rfl (by kernel_rfl) (fun _ _ _ h => h) (by rfl) ?_ (by assumption) ?_
                      case refine_2 => (intro w'; go_simp; first | done | with_reducible rfl)
                      try simp only [Act.put, List.setIfInBounds_toArray, List.set_cons_zero, List.set_cons_succ]
                      refine takeP (i := 1) (v := ?_) rfl (by kernel_rfl) (fun _ _ _ h => h) (by rfl) ?_ (by assumption) ?_
                      case refine_2 => (intro w'; go_simp; first | done | with_reducible rfl)
                      try simp only [Act.put, List.setIfInBounds_toArray, List.set_cons_zero, List.set_cons_succ]
                      refine takeP (i := 2) (v := ?_) rfl (by kernel_rfl) (fun _ _ _ h => h) (by rfl) ?_ (by assumption) ?_
                      case refine_2 => (intro w'; go_simp; first | done | with_reducible rfl)
                      try simp only [Act.put, List.setIfInBounds_toArray, List.set_cons_zero, List.set_cons_succ]
                      refine takeH (i := 3) [5, 9, 10] (v := ?_) rfl (by kernel_rfl) (fun _ _ _ h => h) (by rfl) ?_ (by assumption) ?_
                      case refine_2 => (intro w' hSw; (try dsimp only at hSw); go_simp; first | done | with_reducible rfl)
                      try simp only [Act.put, List.setIfInBounds_toArray, List.set_cons_zero, List.set_cons_succ]
                      refine takeP (i := 4) (v := ?_) rfl (by kernel_rfl) (fun _ _ _ h => h) (by rfl) ?_ (by assumption) ?_
                      case refine_2 => (intro w'; go_simp; first | done | with_reducible rfl)
                      try simp only [Act.put, List.setIfInBounds_toArray, List.set_cons_zero, List.set_cons_succ]
                      refine takeP (i := 5) (v := ?_) rfl (by kernel_rfl) (fun _ _ _ h => h) (by rfl) ?_ (by assumption) ?_
                      case refine_2 => (intro w'; go_simp; first | done | with_reducible rfl)
                      try simp only [Act.put, List.setIfInBounds_toArray, List.set_cons_zero, List.set_cons_succ]
                      refine takeP (i := 6) (v := ?_) rfl (by kernel_rfl) (fun _ _ _ h => h) (by rfl) ?_ (by assumption) ?_
                      case refine_2 => (intro w'; go_simp; first | done | with_reducible rfl)
                      try simp only [Act.put, List.setIfInBounds_toArray, List.set_cons_zero, List.set_cons_succ]
                      refine takeP (i := 7) (v := ?_) rfl (by kernel_rfl) (fun _ _ _ h => h) (by rfl) ?_ (by assumption) ?_
                      case refine_2 => (intro w'; go_simp; first | done | with_reducible rfl)
                      try simp only [Act.put, List.setIfInBounds_toArray, List.set_cons_zero, List.set_cons_succ]
                      refine takeH (i := 8) [9, 10] (v := ?_) rfl (by kernel_rfl) (fun _ _ _ h => h) (by rfl) ?_ (by assumption) ?_
                      case refine_2 => (intro w' hSw; (try dsimp only at hSw); go_simp; first | done | with_reducible rfl)
                      try simp only [Act.put, List.setIfInBounds_toArray, List.set_cons_zero, List.set_cons_succ]
                      refine takeP (i := 9) (v := ?_) rfl (by kernel_rfl) (fun _ _ _ h => h) (by rfl) ?_ (by assumption) ?_
                      case refine_2 => (intro w'; go_simp; first | done | with_reducible rfl)
                      try simp only [Act.put, List.setIfInBounds_toArray, List.set_cons_zero, List.set_cons_succ]
                      refine takeP (i := 10) (v := ?_) rfl (by kernel_rfl) (fun _ _ _ h => h) (by rfl) ?_ (by assumption) ?_
                      case refine_2 => (intro w'; go_simp; first | done | with_reducible rfl)
                      try simp only [Act.put, List.setIfInBounds_toArray, List.set_cons_zero, List.set_cons_succ]
                      refine readyG (rs := [11]) (by kernel_rfl) (by simp) ?_
                      refine AllG.stO rfl (by kernel_rfl) hS7.drew 0 rfl (an + d) (by rw [hM.out]; omega) ?qhx true ?qhy ?qK
                      case qhy => rfl
                      case qhx => simp [Act.eval]
                      case qK =>
                        intro w8 hS8
                        simp only [List.set_cons_zero] at hS8
                        try simp only [Act.put, List.setIfInBounds_toArray, List.set_cons_zero, List.set_cons_succ]
                        have M8 : Hid ((M.set (an + d) true).length = N) := Lib.hid (by rw [List.length_set]; exact hM.out)
                        generalize M.set (an + d) true = MM at *
                        refine doneG (by kernel_rfl) ?_ _
                        refine NoPanic.normal ?_
                        have wc1 : IntKind.i64.wrap ((c : Int) + 1) = (c : Int) + 1 := IntWalk.i64_in _ (by omega)
                        clear hS7 c7 Hp q0 q1 q2 q3 q4 xba xbd xm HN Hb hSo hHeld xa xd
                        go_wp2_with fail
                        go_roundw
                        case rel => exact ⟨k + 1, c + 1, MM, BB, by omega, by go_num, by go_num, by omega, M8, B7, hS8⟩
                        case measure => simp [intOf]; omega
                    · go_wp2_with fail
                      have hne : Nonempty (SS _ _ _) := ⟨⟨_, hT⟩⟩
                      refine wp_region_st (by kernel_rfl) (by kernel_rfl) hT ?_
                      repeat (go_big_quiet_step (fail))
                      refine wpQuiet_nil ?_
                      rintro _ ⟨s2, rfl⟩
                      have hT5 := s2.st
                      generalize s2.w = w5 at hT5 ⊢
                      go_wp2_with fail
                      go_ret
                      exact ⟨_, rfl, (hS.call0 hT5).out⟩
                  · go_wp2_with fail
                    have hne : Nonempty (SS _ _ _) := ⟨⟨_, hT⟩⟩
                    refine wp_region_st (by kernel_rfl) (by kernel_rfl) hT ?_
                    repeat (go_big_quiet_step (fail))
                    refine wpQuiet_nil ?_
                    rintro _ ⟨s2, rfl⟩
                    have hT5 := s2.st
                    generalize s2.w = w5 at hT5 ⊢
                    go_wp2_with fail
                    go_ret
                    exact ⟨_, rfl, (hS.call0 hT5).out⟩
                · go_wp2_with fail
                  have hne : Nonempty (SS _ _ _) := ⟨⟨_, hT⟩⟩
                  refine wp_region_st (by kernel_rfl) (by kernel_rfl) hT ?_
                  repeat (go_big_quiet_step (fail))
                  refine wpQuiet_nil ?_
                  rintro _ ⟨s2, rfl⟩
                  have hT5 := s2.st
                  generalize s2.w = w5 at hT5 ⊢
                  go_wp2_with fail
                  go_ret
                  exact ⟨_, rfl, (hS.call0 hT5).out⟩
              · have hSo := Lib.hid hS.out
                go_wp2_with fail
                go_ret
                exact ⟨_, rfl, hSo.out⟩
        · obtain rfl : k = (x3at X r).length := by omega
          go_wp2_with fail
          have hS9 := hS.sub (L' := [row 4 vm (bo M)]) ((List.nil_sublist _).cons_cons _)
          go_roundw
          case rel => exact ⟨r + 1, c, M, by omega, by go_num, rfl, by omega, hM, hS9⟩
          case measure => simp [intOf]; omega
    · obtain rfl : r = X.length := by omega
      obtain ⟨z, hz⟩ : ∃ z : Nat, (n : Int) * ((n : Int) - 1) = (z : Int) := ⟨n * (n - 1), by rw [show ((n : Int) - 1) = ((n - 1 : Nat) : Int) by omega]; exact (Int.natCast_mul _ _).symm⟩
      have hz2 : (z : Int) ≤ 1024 := by
        have h1 : (n : Int) * ((n : Int) - 1) ≤ (n : Int) * n := Int.mul_le_mul_of_nonneg_left (by omega) (by omega)
        rw [hz] at h1
        omega
      have wn : IntKind.i64.wrap ((n : Int) - 1) = (n : Int) - 1 := IntWalk.i64_in _ (by omega)
      have wz : IntKind.i64.wrap ((z : Int)) = (z : Int) := IntWalk.i64_in _ (by omega)
      obtain ⟨y, hy⟩ : ∃ y : Nat, (z : Int).tdiv 2 = (y : Int) := ⟨z / 2, by rw [Int.tdiv_eq_ediv_of_nonneg (by omega)]; omega⟩
      have hye : (z : Int) / 2 = (y : Int) := by rw [Int.tdiv_eq_ediv_of_nonneg (by omega)] at hy; exact hy
      have hy2 : y ≤ 1024 := by omega
      have wy : IntKind.i64.wrap ((y : Int)) = (y : Int) := IntWalk.i64_in _ (by omega)
      have hSo := Lib.hid hS.out
      clear hS
      go_wp2_with fail
      go_ret
      exact ⟨_, rfl, hSo.out⟩
end Go.Proofs.YtljemlfocajhnaaGreat
end

section
/- Walk: whether a schedule is valid, of the program. -/
namespace Go.Proofs.YtljemlfocajhnaaGreat
set_option linter.unusedSimpArgs false
set_option linter.unusedVariables false
open Go.RowKit
attribute [local go_sem ↓] Go.wp_at_zero Go.wp_at_succ

/-- who met whom -/
structure MP (n : Nat) (S : List (List Int)) (M : List (List Int)) : Prop where
  sqr : Sqr n M
  el : ∀ a b : Nat, a < n → b < n → at2 M a b = if [(a : Int), (b : Int)] ∈ S then 1 else 0
/-- who plays -/
structure PP (n : Nat) (q : List (List Int)) (P : List Bool) : Prop where
  len : P.length = n
  el : ∀ x : Nat, x < n → bat P x = plB q x
theorem MP.nil (n : Nat) : MP n [] (sqF n fun _ _ => 0) := ⟨sqF_sqr n _, fun a b ha hb => by rw [at2_sqF ha hb]; simp⟩
theorem MP.snoc {n : Nat} {S M : List (List Int)} (h : MP n S M) {a b : Nat} (ha : a < n) (hb : b < n) : MP n (S ++ [[(a : Int), (b : Int)]]) (putS M a b 1) := by
  refine ⟨putS_sqr h.sqr ha b 1, fun x y hx hy => ?_⟩
  rw [at2_putS h.sqr ha hb, h.el x y hx hy]
  by_cases e : a = x ∧ b = y
  · obtain ⟨rfl, rfl⟩ := e
    simp
  · rw [if_neg e]
    have : ([(x : Int), (y : Int)] ∈ S ++ [[(a : Int), (b : Int)]]) ↔ [(x : Int), (y : Int)] ∈ S := by
      simp only [List.mem_append, List.mem_singleton, List.cons.injEq, and_true]
      constructor
      · rintro (h | h)
        · exact h
        · exact absurd ⟨by omega, by omega⟩ e
      · exact .inl
    simp only [this]
theorem PP.nil (n : Nat) : PP n [] (List.replicate n false) := ⟨by simp, fun x _ => by rw [bat_rep]; rfl⟩
theorem PP.snoc {n : Nat} {q : List (List Int)} {P : List Bool} (h : PP n q P) {a b : Nat} (ha : a < n) (hb : b < n) : PP n (q ++ [[(a : Int), (b : Int)]]) ((P.set a true).set b true) := by
  refine ⟨by simp [h.len], fun x hx => ?_⟩
  rw [bat_set (by simp [h.len]; exact hb), bat_set (by rw [h.len]; exact ha), h.el x hx]
  unfold plB
  rw [List.any_append]
  by_cases e1 : b = x
  · subst e1; simp
  · by_cases e2 : a = x
    · subst e2; rw [if_neg e1]; simp
    · rw [if_neg e1, if_neg e2]
      have : decide ((x : Int) ∈ [(a : Int), (b : Int)]) = false := by
        simp only [decide_eq_false_iff_not, List.mem_cons, List.not_mem_nil, or_false]; omega
      simp [this]
      omega
end Go.Proofs.YtljemlfocajhnaaGreat
end

section
/- Walks: opponents of a team, of the program; lists of rows laid flat. -/
namespace Go.Proofs.YtljemlfocajhnaaGreat
set_option linter.unusedSimpArgs false
set_option linter.unusedVariables false
open Go.RowKit
attribute [local go_sem ↓] Go.wp_at_zero Go.wp_at_succ

/-- rows, one behind the other -/
def FRw (w : World) (us : List Value) (A : List (List Int)) : Prop := us.length = A.length ∧ ∀ j, j < A.length → RdI w (vat us j) (xat A j)
theorem FRw.app {w : World} {us us' : List Value} {A B : List (List Int)} (h1 : FRw w us A) (h2 : FRw w us' B) : FRw w (us ++ us') (A ++ B) := by
  refine ⟨by simp [h1.1, h2.1], fun j hj => ?_⟩
  have e1 := h1.1
  have e2 := h2.1
  simp only [List.length_append] at hj
  by_cases hlt : j < A.length
  · have h3 := h1.2 j hlt
    have e3 : vat (us ++ us') j = vat us j := by simp [vat, List.getElem?_append_left (show j < us.length by omega)]
    have e4 : xat (A ++ B) j = xat A j := by simp [xat, List.getElem?_append_left hlt]
    rw [e3, e4]; exact h3
  · have h3 := h2.2 (j - A.length) (by omega)
    have e3 : vat (us ++ us') j = vat us' (j - A.length) := by simp [vat, List.getElem?_append_right (show us.length ≤ j by omega), e1]
    have e4 : xat (A ++ B) j = xat B (j - A.length) := by simp [xat, List.getElem?_append_right (show A.length ≤ j by omega)]
    rw [e3, e4]; exact h3
section
variable {w : World} {v : Value} {vs : List Value} {uss : List (List Value)} {X : List (List (List Int))}
theorem RIII.fr (h : RIII w v vs uss X) (hl : uss.length = X.length) : ∀ k, k ≤ X.length → FRw w (uss.take k).flatten (X.take k).flatten
  | 0, _ => ⟨by simp, fun j hj => by simp at hj⟩
  | k + 1, hk => by
    rw [take_vsat (by omega), take_x3at (by omega), List.flatten_append, List.flatten_append]
    have hr := h.row k (by omega)
    simpa using (RIII.fr h hl k (by omega)).app ⟨hr.2.1, hr.2.2⟩
theorem RIII.flat (h : RIII w v vs uss X) (hl : uss.length = X.length) : FRw w uss.flatten X.flatten := by
  have := h.fr hl X.length (Nat.le_refl _)
  rwa [List.take_length, List.take_of_length_le (by omega)] at this
theorem RIII.totV (h : RIII w v vs uss X) (hl : uss.length = X.length) : totV uss = X.flatten.length := by rw [← totV_flat, (h.flat hl).1]
theorem RIII.one (h : RIII w v vs uss X) (hl : uss.length = X.length) : ∀ us ∈ uss, ∀ u ∈ us, u.oneCell' = true := by
  intro us hus u hu
  obtain ⟨i, hi, rfl⟩ := List.getElem_of_mem hus
  have hr := h.row i (by omega)
  rw [vsat_eq hi] at hr
  obtain ⟨j, hj, rfl⟩ := List.getElem_of_mem hu
  have := (hr.row j (by rw [← hr.2.1]; exact hj)).sl.one
  rwa [vat_eq hj] at this
end

/-! ### opponents -/
/-! ### the design of a schedule -/
end Go.Proofs.YtljemlfocajhnaaGreat
end

section
/- Walk: the design of a schedule, of the reference: some design. -/
namespace Go.Proofs.YtljemlfocajhnaaGreat
set_option linter.unusedSimpArgs false
set_option linter.unusedVariables false
open Go.RowKit
attribute [local go_sem ↓] Go.wp_at_zero Go.wp_at_succ

/-- some design of its own, and what else there is -/
def MakesDx (w : World) (e : Ending) (w' : World) : Prop := ∃ (P : Int) (A : List (List Int)) (v : Value) (us : List Value) (vc c : Value), A.length ≤ 300 ∧ e = .returned (.tuple #[dv P v, vc, c]) ∧ us.length = A.length ∧ St w.heap.size w w' (own2 v us A)
theorem flat_leR {X : List (List (List Int))} {k : Nat} (h : ∀ q ∈ X, q.length ≤ k) : X.flatten.length ≤ k * X.length := by
  induction X with
  | nil => simp
  | cons q X ih =>
    have h1 := h q (by simp)
    have h2 := ih (fun p hp => h p (by simp [hp]))
    simp only [List.flatten_cons, List.length_append, List.length_cons, Nat.mul_add, Nat.mul_one]
    omega
set_option maxHeartbeats 16000000 in
set_option maxRecDepth 100000 in
theorem sDesignOfSchedule_c (n : Nat) (v : Value) (vs : List Value) (uss : List (List Value)) (X : List (List (List Int))) (w : World) (h2 : 2 ≤ n) (h8 : n ≤ 8) (hv : RIII w v vs uss X) (hul : uss.length = X.length) (hX : RdsOk n X) (hXl : X.length ≤ 7) :
    Calls Tryz.prog 29 #[.int .i64 n, v] w (MakesDx w) := by
  have KO := fun W hW => Lib.hid (l14Ok_c n v vs uss X W h2 (by omega) hW hX (by omega))
  have HF : X.flatten.length ≤ 280 := by
    have h1 := flat_leR (X := X) (k := 40) (fun q hq => (hX q hq).2)
    omega
  have HX2 := Lib.hid (fun xs (hx : xs ∈ X.flatten) => (show xs.length ≤ 1048576 by
    obtain ⟨q, hq, hp⟩ := List.mem_flatten.1 hx
    rw [((hX q hq).1 xs hp).1]; decide))
  have H40 := Lib.hid (fun r (hr : r < X.length) => (show (x3at X r).length ≤ 40 from (hX _ (x3at_mem hr)).2))
  obtain ⟨N, hN⟩ : ∃ N : Nat, n * (n - 1) = N := ⟨_, rfl⟩
  have hN2 : N ≤ 56 := by
    rw [← hN]
    have := Nat.mul_le_mul h8 (show n - 1 ≤ 7 by omega)
    omega
  have hnn : (n : Int) * ((n : Int) - 1) = (N : Int) := by
    rw [← hN, show ((n : Int) - 1) = ((n - 1 : Nat) : Int) by omega]
    exact (Int.natCast_mul _ _).symm
  have wn : IntKind.i64.wrap ((n : Int) - 1) = (n : Int) - 1 := IntWalk.i64_in _ (by omega)
  have wN : IntKind.i64.wrap ((N : Int)) = (N : Int) := IntWalk.i64_in _ (by omega)
  obtain ⟨y, hy⟩ : ∃ y : Nat, (N : Int).tdiv 2 = (y : Int) := ⟨N / 2, by rw [Int.tdiv_eq_ediv_of_nonneg (by omega)]; omega⟩
  have hy2 : y ≤ 28 := by rw [Int.tdiv_eq_ediv_of_nonneg (by omega)] at hy; omega
  have hye : (N : Int) / 2 = (y : Int) := by rw [Int.tdiv_eq_ediv_of_nonneg (by omega)] at hy; exact hy
  have wy : IntKind.i64.wrap ((y : Int)) = (y : Int) := IntWalk.i64_in _ (by omega)
  have hyt : ¬ (128 : Int) < (y : Int) := by omega
  have hln := hv.len
  have hix := hv.ixe
  have Hul := Lib.hid hul
  have Hone := Lib.hid (hv.one hul)
  have Hfl := Lib.hid (hv.flat hul)
  have HT := Lib.hid (hv.totV hul)
  have hS0 := (St.refl w).newboxF 26 #[.int .i64 0, .slice none 0 0]
  clear hX hN hul
  go_enter Tryz.func29, Tryz.ntmps29
  go_wp2_with fail
  refine (KO _ (hS0.oldIII hv)).out.mono ?_
  clear KO
  rintro e w2 ⟨b, rfl, h2⟩
  have hS2 := hS0.call0 h2
  clear hS0 h2
  have e0 := hS2.bcell 0 rfl 0 rfl
  have e1 := hS2.bcell 0 rfl 1 rfl
  have f0 := hS2.bfree 0 rfl
  cases b
  · have h6 := (hS2.bstore 0 rfl 0 (.int .i64 0)).bstore 0 rfl 1 (.slice none 0 0)
    have d0 := h6.bcell 0 rfl 0 rfl
    have d1 := h6.bcell 0 rfl 1 rfl
    go_wp2_with fail
    refine bodyPost_ret (v := .tuple #[.agg #[.int .i64 0, .slice none 0 0], .slice none 0 0, .int .i64 1]) (by simp [results, Tryz.results29, go_sem, d0, d1]) rfl ?_
    refine ⟨0, [], _, [], _, _, by simp, rfl, rfl, ?_⟩
    have h7 := (h6.sub (L' := []) (List.nil_sublist _)).newnil 46
    rwa [List.nil_append, ← own2_nil'] at h7
  · have hS3 := hS2.new 46 #[] (by simp)
    simp only [List.cons_append, List.nil_append] at hS3
    clear hS2 e0 e1 f0
    go_wp2_with fail
    go_loopw [7, 8] (fun o i wr => ∃ (r : Nat) (lv : Value), lv = o ∧ r ≤ X.length ∧ i = .int .i64 r ∧ St w.heap.size w wr [box 26 w.heap.size [.int .i64 0, .slice none 0 0], row 46 lv (uss.take r).flatten]) (fun _ i _ => X.length - (intOf i).toNat)
    case atStart => exact ⟨0, _, rfl, by omega, rfl, hS3⟩
    case round =>
      clear hS3
      obtain ⟨r, lv, rfl, hr, rfl, hS⟩ := hrel
      by_cases hrt : r < X.length
      · have hR := hS.oldIII hv
        have i0 := hix (r : Int) r rfl hrt
        have c0 := hR.cell r hrt
        have rd := (hR.row r hrt).1
        have ho := fun u (hu : u ∈ vsat uss r) => Hone.out _ (by rw [vsat_eq (by rw [Hul.out]; exact hrt)]; exact List.getElem_mem _) u hu
        have hNN := Lib.hid (show (uss.take r).flatten.length + (vsat uss r).length ≤ 4294967296 from by
          have h1 := (hv.fr Hul.out (r + 1) (by omega)).1
          rw [take_vsat (by rw [Hul.out]; exact hrt), List.flatten_append, List.length_append] at h1
          have h3 : ((X.take (r + 1)).flatten).length ≤ X.flatten.length := by
            conv => rhs; rw [← List.take_append_drop (r + 1) X]
            rw [List.flatten_append, List.length_append]
            omega
          simp only [List.flatten_cons, List.flatten_nil, List.append_nil] at h1
          omega)
        have HE := Lib.hid (show (uss.take (r + 1)).flatten = (uss.take r).flatten ++ vsat uss r from by
          rw [take_vsat (by rw [Hul.out]; exact hrt), List.flatten_append]; simp)
        go_wp2_with (at_builtin; refine appsII2 hS 1 rfl _ _ rd ho hNN.out rfl _ _ rfl rfl rfl ?_; intro v5 w5 hS5; simp only [List.set_cons_zero, List.set_cons_succ] at hS5)
        rw [← HE.out] at hS5
        go_roundw
        case rel => exact ⟨r + 1, _, rfl, by omega, by go_num, hS5⟩
        case measure => simp [intOf]; omega
      · obtain rfl : r = X.length := by omega
        rw [List.take_of_length_le (by rw [Hul.out]; exact Nat.le_refl _)] at hS
        have rL : RII wr lv uss.flatten X.flatten := ⟨hS.rd 1 rfl, Hfl.out.1, fun j hj => (Hfl.out.2 j hj).keep hS.below⟩
        go_wp2_with fail
        refine (l10Sort_c _ _ _ _ rL (by omega) HX2.out).mono ?_
        rintro e w4 ⟨v4, us4, rfl, hl4, h4⟩
        have HS4 := Lib.hid (show (srtL X.flatten).length ≤ 280 by rw [srtL_len]; exact HF)
        generalize srtL X.flatten = S at *
        have hS280 := HS4.out
        obtain ⟨a4, c4, hv4⟩ := (h4.rd 0 (e := 46) (v := v4) (us := us4) rfl).sl.sh
        rw [hl4] at hv4
        subst hv4
        have hB0 := ((hS.call h4).newboxF 26 #[.int .i64 n, .slice a4 S.length c4]).new 46 #[] (by simp)
        rw [World.size_alloc] at hB0
        have hB := ((show St w.heap.size w _ (box 26 w4.heap.size [.int .i64 n, .slice a4 S.length c4] :: ([box 26 w.heap.size [.int .i64 0, .slice none 0 0], row 46 lv uss.flatten] ++ own2 (.slice a4 S.length c4) us4 S) ++ [row 46 (.slice (some ⟨w4.heap.size + 1, 0, none⟩) 0 0) []]) from hB0).perm (L' := row 46 (.slice (some ⟨w4.heap.size + 1, 0, none⟩) 0 0) [] :: box 26 w4.heap.size [.int .i64 n, .slice a4 S.length c4] :: box 26 w.heap.size [.int .i64 0, .slice none 0 0] :: (own2 (.slice a4 S.length c4) us4 S ++ [row 46 lv uss.flatten])) (by (try simp only [own2, List.cons_append, List.nil_append, List.append_nil]); classical exact List.perm_iff_count.2 (fun a => by simp only [List.cons_append, List.nil_append, List.append_nil, List.count_append, List.count_cons, List.count_nil] <;> omega))).sub (L' := row 46 (.slice (some ⟨w4.heap.size + 1, 0, none⟩) 0 0) [] :: box 26 w4.heap.size [.int .i64 n, .slice a4 S.length c4] :: box 26 w.heap.size [.int .i64 0, .slice none 0 0] :: own2 (.slice a4 S.length c4) us4 S) ((((List.sublist_append_left _ _).cons_cons _).cons_cons _).cons_cons _)
        have Hl4 := Lib.hid hl4
        clear hS h4 rL hl4 hB0
        go_wp2_with fail
        go_loopw [10, 11, 12, 13, 14] (fun o i _ _ _ wr => ∃ (r : Nat) (cl : Value) (uc : List Value), cl = o ∧ r ≤ X.length ∧ i = .int .i64 r ∧ Hid (uc.length = r) ∧ St w.heap.size w wr (row 46 cl uc :: box 26 w4.heap.size [.int .i64 n, .slice a4 S.length c4] :: box 26 w.heap.size [.int .i64 0, .slice none 0 0] :: own2 (.slice a4 S.length c4) us4 S)) (fun _ i _ _ _ _ => X.length - (intOf i).toNat)
        case atStart => exact ⟨0, _, [], rfl, by omega, rfl, Lib.hid rfl, hB⟩
        case round =>
          clear hB
          obtain ⟨r, cl, uc, rfl, hr, rfl, huc, hS⟩ := hrel
          by_cases hrt : r < X.length
          · have hE0 := hS.new 2 #[] (by simp)
            have hE := (show St w.heap.size w _ ((row 46 cl uc :: box 26 w4.heap.size [.int .i64 n, .slice a4 S.length c4] :: box 26 w.heap.size [.int .i64 0, .slice none 0 0] :: own2 (.slice a4 S.length c4) us4 S) ++ [row 2 (.slice (some ⟨wr.heap.size, 0, none⟩) 0 0) (iv [])]) from hE0).perm (L' := row 2 (.slice (some ⟨wr.heap.size, 0, none⟩) 0 0) (iv []) :: row 46 cl uc :: box 26 w4.heap.size [.int .i64 n, .slice a4 S.length c4] :: box 26 w.heap.size [.int .i64 0, .slice none 0 0] :: own2 (.slice a4 S.length c4) us4 S) (List.perm_append_singleton _ _)
            clear hE0
            have i0 := hix (r : Int) r rfl hrt
            have h40 := H40.out r hrt
            go_wp2_with fail
            clear hS
            go_loopw [12, 13, 14] (fun o i _ wr => ∃ (k : Nat) (ce : Value) (xs : List Int), ce = o ∧ k ≤ S.length ∧ i = .int .i64 k ∧ Hid (xs.length ≤ 40 * k) ∧ St w.heap.size w wr (row 2 ce (iv xs) :: row 46 cl uc :: box 26 w4.heap.size [.int .i64 n, .slice a4 S.length c4] :: box 26 w.heap.size [.int .i64 0, .slice none 0 0] :: own2 (.slice a4 S.length c4) us4 S)) (fun _ i _ _ => S.length - (intOf i).toNat)
            case atStart => exact ⟨0, _, [], rfl, by omega, rfl, Lib.hid (by simp), hE⟩
            case round =>
              clear hE
              obtain ⟨k, ce, xs, rfl, hk, rfl, hxs, hS⟩ := hrel
              have b1 := hS.bcell 2 rfl 1 rfl
              by_cases hkt : k < S.length
              · go_wp2_with fail
                go_loopw [12, 14] (fun o i wr => ∃ (j : Nat) (ce : Value) (xs : List Int), ce = o ∧ j ≤ (x3at X r).length ∧ i = .int .i64 j ∧ Hid (xs.length ≤ 40 * k + j) ∧ St w.heap.size w wr (row 2 ce (iv xs) :: row 46 cl uc :: box 26 w4.heap.size [.int .i64 n, .slice a4 S.length c4] :: box 26 w.heap.size [.int .i64 0, .slice none 0 0] :: own2 (.slice a4 S.length c4) us4 S)) (fun _ i _ => (x3at X r).length - (intOf i).toNat)
                case atStart => exact ⟨0, _, xs, rfl, by omega, rfl, Lib.hid (by have := hxs.out; omega), hS⟩
                case round =>
                  clear hS b1 hxs
                  obtain ⟨j, ce, xs, rfl, hj, rfl, hxs, hS⟩ := hrel
                  have hR := hS.oldIII hv
                  have c0 := hR.cell r hrt
                  have hRr := hR.row r hrt
                  have ln0 := hRr.len
                  have b1 := hS.bcell 2 rfl 1 rfl
                  by_cases hjt : j < (x3at X r).length
                  · have i1 := hRr.ixe (j : Int) j rfl hjt
                    have rS := (hS.sub (L' := own2 (.slice a4 S.length c4) us4 S) ((((List.Sublist.refl _).cons _).cons _).cons _ |>.cons _)).rii Hl4.out
                    have iS := rS.ixe (k : Int) k rfl hkt
                    have hT := St.refl wr
                    have rSk := rS.row k hkt
                    have rXj := hRr.row j hjt
                    have KE := Lib.hid (fun s : SS wr.heap.size wr [] => l00Same_c _ _ _ _ s.w (rSk.keep s.st.below) (rXj.keep s.st.below))
                    generalize decide (xat S k = xat (x3at X r) j) = bb at KE
                    have cS := rS.cell k hkt
                    have c1 := hRr.cell j hjt
                    have q0 : ∀ s : SS wr.heap.size wr [], s.w.cell? ⟨w4.heap.size, 1, none⟩ = some (.slice a4 S.length c4) := fun s => by rw [s.st.below.cell (World.block_lt_of_cell? _ _ b1)]; exact b1
                    have q1 : ∀ s : SS wr.heap.size wr [], s.w.cell? (el (.slice a4 S.length c4) k) = some (vat us4 k) := fun s => by rw [s.st.below.cell (World.block_lt_of_cell? _ _ cS)]; exact cS
                    have q2 : ∀ s : SS wr.heap.size wr [], s.w.cell? (el v r) = some (vat vs r) := fun s => by rw [s.st.below.cell (World.block_lt_of_cell? _ _ c0)]; exact c0
                    have q3 : ∀ s : SS wr.heap.size wr [], s.w.cell? (el (vat vs r) j) = some (vat (vsat uss r) j) := fun s => by rw [s.st.below.cell (World.block_lt_of_cell? _ _ c1)]; exact c1
                    clear rS rSk rXj cS c1
                    have hNx := Lib.hid (show xs.length < 4294967296 by have := hxs.out; omega)
                    have HSo := Lib.hid hS
                    clear hS
                    go_wp2_with fail
                    have hne : Nonempty (SS _ _ _) := ⟨⟨_, hT⟩⟩
                    refine wp_region_st (by kernel_rfl) (by kernel_rfl) hT ?_
                    repeat (go_big_quiet_step ((go_at_call 53; exact st_quiet (KE.out _))))
                    refine wpQuiet_nil ?_
                    rintro _ ⟨s2, rfl⟩
                    have hT5 := s2.st
                    generalize s2.w = w5 at hT5 ⊢
                    have hS5 := HSo.out.call0 hT5
                    clear q0 q1 q2 q3 KE b1 c0 hR hRr HSo hT hT5
                    cases bb
                    · go_wp2_with fail
                      go_roundw
                      case rel => exact ⟨j + 1, _, xs, rfl, by omega, by go_num, Lib.hid (by have := hxs.out; omega), hS5⟩
                      case measure => simp [intOf]; omega
                    · go_wp2_with (at_builtin; refine appI hS5 0 rfl hNx.out rfl _ _ rfl rfl _ rfl ?_; intro v6 w6 hS6; simp only [List.set_cons_zero] at hS6)
                      go_roundw
                      case rel => exact ⟨j + 1, _, xs ++ [(k : Int)], rfl, by omega, by go_num, Lib.hid (by have := hxs.out; simp; omega), hS6⟩
                      case measure => simp [intOf]; omega
                  · obtain rfl : j = (x3at X r).length := by omega
                    go_wp2_with fail
                    go_roundw
                    case rel => exact ⟨k + 1, _, xs, rfl, by omega, by go_num, Lib.hid (by have := hxs.out; omega), hS⟩
                    case measure => simp [intOf]; omega
              · obtain rfl : k = S.length := by omega
                obtain ⟨qa, qc, hq⟩ := (hS.rd 0 (e := 2) rfl).sl.sh
                generalize (iv xs).length = ml at hq
                subst hq
                have hN := Lib.hid (show uc.length < 4294967296 by rw [huc.out]; omega)
                go_wp2_with (at_builtin; refine appII hS 1 rfl hN.out rfl _ _ rfl rfl _ rfl rfl ?_; intro v5 w5 hS5; simp only [List.set_cons_zero, List.set_cons_succ] at hS5)
                have hS6 := hS5.sub (List.sublist_cons_self _ _)
                have hu6 : Hid ((uc ++ [Value.slice qa ml qc]).length = r + 1) := Lib.hid (by simp [huc.out])
                clear hS hS5
                go_roundw
                case rel => exact ⟨r + 1, _, _, rfl, by omega, by go_num, hu6, hS6⟩
                case measure => simp [intOf]; omega
          · obtain rfl : r = X.length := by omega
            have b0 := hS.bcell 1 rfl 0 rfl
            have b1 := hS.bcell 1 rfl 1 rfl
            have e0 := hS.bcell 2 rfl 0 rfl
            have e1 := hS.bcell 2 rfl 1 rfl
            have f0 := hS.bfree 2 rfl
            have h6 := (hS.bstore 2 rfl 0 (.int .i64 n)).bstore 2 rfl 1 (.slice a4 S.length c4)
            simp only [List.set_cons_zero, List.set_cons_succ] at h6
            have d0 := h6.bcell 2 rfl 0 rfl
            have d1 := h6.bcell 2 rfl 1 rfl
            clear hS
            go_wp2_with fail
            refine bodyPost_ret (v := .tuple #[.agg #[.int .i64 n, .slice a4 S.length c4], cl, .int .i64 0]) (by simp [results, Tryz.results29, go_sem, d0, d1]) rfl ?_
            exact ⟨n, S, _, us4, _, _, by have := HS4.out; omega, rfl, Hl4.out, h6.sub (((List.Sublist.refl _).cons _).cons _ |>.cons _)⟩
end Go.Proofs.YtljemlfocajhnaaGreat
end

section
/- Walk: designs for resolutions, as the reference draws them. -/
namespace Go.Proofs.YtljemlfocajhnaaGreat
set_option linter.unusedSimpArgs false
set_option linter.unusedVariables false
open Go.RowKit
attribute [local go_sem ↓] Go.wp_at_zero Go.wp_at_succ

theorem incB_lenR : ∀ {xs : List Int} {l n : Int}, incB l n xs = true → l < n → (xs.length : Int) ≤ n - l - 1
  | [], l, n, _, h => by simp; omega
  | x :: t, l, n, h, hl => by
    unfold incB at h; split at h
    · simp at h
    · have := incB_lenR h (by omega)
      simp; omega
theorem two_own {B : Nat} {w0 w : World} {LL : List Ent} {v3 v4 v5 : Value} {us3 us4 : List Value} {A C : List (List Int)} (h3 : us3.length = A.length)
    (h : St B w0 w ((own2 v3 us3 A ++ (own2 v4 us4 C ++ LL)).set 0 (row 46 v5 (us3 ++ us4)))) :
    St B w0 w (own2 v5 (us3 ++ us4) (A ++ C) ++ LL) := by
  have e : rowsI (us3 ++ us4) (A ++ C) = rowsI us3 A ++ rowsI us4 C := by unfold rowsI; rw [List.zipWith_append h3]
  rw [own2, e]
  refine h.sub ?_
  simp only [own2, List.cons_append, List.set_cons_zero, List.append_assoc]
  refine List.Sublist.cons_cons _ ?_
  exact List.Sublist.append (List.Sublist.refl _) (List.sublist_cons_self _ _)
set_option maxHeartbeats 16000000 in
set_option maxRecDepth 100000 in
theorem l14Draw_c (w0 w : World) (cv : Value) (bs : List UInt8) (g K : Nat) (L : List Ent) (hb : RdB w0 cv bs) (h : Src w0 w cv g K L) (hK : K < 10000) :
    Calls Tryz.prog 11 #[.pointer (some ⟨g, 0, none⟩)] w (MakesAny w0 cv g (K + 500) L) := by
  have h0 := h.newboxF 26 #[.int .i64 0, .slice none 0 0]
  clear h
  go_enter Tryz.func11, Tryz.ntmps11
  go_wp2_with fail
  refine (pick_c w0 _ cv bs g _ _ 6 hb h0 (by omega)).mono ?_
  rintro e w1 ⟨x, x0, x1, rfl, h1⟩
  clear h0 x1
  by_cases hx0 : x = 0
  · subst hx0
    go_wp2_with fail
    refine (l10Bent_c w0 _ cv bs g _ _ hb h1 (by omega)).mono ?_
    rintro e w4 ⟨P, B, v4, us4, hB, rfl, hl4, h5⟩
    obtain ⟨rb, rd, hre⟩ := (h5.rd 0 (e := 46) (v := v4) (us := us4) rfl).sl.sh
    subst hre
    have h6 := h5.perm (L' := box 26 w.heap.size [.int .i64 0, .slice none 0 0] :: (own2 (.slice rb us4.length rd) us4 B ++ L)) (by (try simp only [own2, List.cons_append, List.nil_append, List.append_nil]); classical exact List.perm_iff_count.2 (fun a => by simp only [List.cons_append, List.nil_append, List.append_nil, List.count_append, List.count_cons, List.count_nil] <;> omega))
    have c0 := h6.box 0 (e := 26) rfl 0 rfl
    have c1 := h6.box 0 (e := 26) rfl 1 rfl
    have f1 := h6.bfree 0 (e := 26) rfl
    have h7 := (h6.bstore 0 (e := 26) rfl 0 (.int .i64 P)).bstore 0 (e := 26) rfl 1 (.slice rb us4.length rd)
    simp only [List.set_cons_zero, List.set_cons_succ] at h7
    have d0 := h7.box 0 (e := 26) rfl 0 rfl
    have d1 := h7.box 0 (e := 26) rfl 1 rfl
    have Hl4 := Lib.hid hl4
    clear h1 h5 h6 hl4
    unfold dv
    go_wp2_with fail
    refine bodyPost_ret (v := .agg #[.int .i64 P, .slice rb us4.length rd]) (by simp [results, Tryz.results11, go_sem, d0, d1]) rfl ?_
    exact ⟨P, B, _, us4, hB, rfl, Hl4.out, (h7.sub (List.sublist_cons_self _ _)).mono (by omega)⟩
  by_cases hx1 : x = 1
  · subst hx1
    go_wp2_with fail
    have KA := among_lit [2, 4, 6, 8] w0 _ cv bs g _ _ hb h1 (by simp) (by omega)
    refine KA.mono ?_
    clear KA
    rintro e w2 ⟨z, hz, rfl, h2⟩
    obtain ⟨n, rfl, n2, n8, nh⟩ : ∃ n : Nat, z = n ∧ 2 ≤ n ∧ n ≤ 8 ∧ n - 1 + n % 2 ≤ 7 := by
      simp only [List.mem_cons, List.not_mem_nil, or_false] at hz
      exact ⟨z.toNat, by omega, by omega, by omega, by omega⟩
    clear h1 hz
    go_wp2_with fail
    refine (l14Rounds_c n _ n2 (by omega)).mono ?_
    rintro e w3 ⟨vR, vs, uss, X, rfl, hf, hX, hXl, h3⟩
    have rX : RIII w3 vR vs uss X := St.riii (L2 := []) (by rw [List.append_nil]; exact h3) hf
    have KD := Lib.hid (sDesignOfSchedule_c n vR vs uss X w3 n2 n8 rX hf.2.1 hX (by omega))
    have h3b := h2.call0 h3.out
    clear h2 h3 rX hf hX hXl nh
    go_wp2_with fail
    refine KD.out.mono ?_
    clear KD
    rintro e w4 ⟨P, B, v4, us4, vc, c, hB, rfl, hl4, h4⟩
    obtain ⟨rb, rd, hre⟩ := (h4.rd 0 (e := 46) (v := v4) (us := us4) rfl).sl.sh
    subst hre
    have h5 := ((h3b.call h4).newboxF 26 #[.int .i64 P, .slice rb us4.length rd]).perm (L' := box 26 w4.heap.size [.int .i64 P, .slice rb us4.length rd] :: box 26 w.heap.size [.int .i64 0, .slice none 0 0] :: (own2 (.slice rb us4.length rd) us4 B ++ L)) (by (try simp only [own2, List.cons_append, List.nil_append, List.append_nil]); classical exact List.perm_iff_count.2 (fun a => by simp only [List.cons_append, List.nil_append, List.append_nil, List.count_append, List.count_cons, List.count_nil] <;> omega))
    have a0 := h5.box 0 (e := 26) rfl 0 rfl
    have a1 := h5.box 0 (e := 26) rfl 1 rfl
    have c0 := h5.box 1 (e := 26) rfl 0 rfl
    have c1 := h5.box 1 (e := 26) rfl 1 rfl
    have f1 := h5.bfree 1 (e := 26) rfl
    have h7 := (h5.bstore 1 (e := 26) rfl 0 (.int .i64 P)).bstore 1 (e := 26) rfl 1 (.slice rb us4.length rd)
    simp only [List.set_cons_zero, List.set_cons_succ] at h7
    have d0 := h7.box 1 (e := 26) rfl 0 rfl
    have d1 := h7.box 1 (e := 26) rfl 1 rfl
    have Hl4 := Lib.hid hl4
    clear h3b h4 h5 hl4
    unfold dv
    go_wp2_with fail
    refine bodyPost_ret (v := .agg #[.int .i64 P, .slice rb us4.length rd]) (by simp [results, Tryz.results11, go_sem, d0, d1]) rfl ?_
    exact ⟨P, B, _, us4, hB, rfl, Hl4.out, (h7.sub ((List.sublist_cons_self _ _).trans (List.sublist_cons_self _ _))).mono (by omega)⟩
  by_cases hx2 : x = 2
  · subst hx2
    go_wp2_with fail
    refine (l12Draw_c w0 _ cv bs g _ _ hb h1 (by omega)).mono ?_
    rintro e w4 ⟨P, B, v4, us4, hB, rfl, hl4, h5⟩
    obtain ⟨rb, rd, hre⟩ := (h5.rd 0 (e := 46) (v := v4) (us := us4) rfl).sl.sh
    subst hre
    have h6 := h5.perm (L' := box 26 w.heap.size [.int .i64 0, .slice none 0 0] :: (own2 (.slice rb us4.length rd) us4 B ++ L)) (by (try simp only [own2, List.cons_append, List.nil_append, List.append_nil]); classical exact List.perm_iff_count.2 (fun a => by simp only [List.cons_append, List.nil_append, List.append_nil, List.count_append, List.count_cons, List.count_nil] <;> omega))
    have c0 := h6.box 0 (e := 26) rfl 0 rfl
    have c1 := h6.box 0 (e := 26) rfl 1 rfl
    have f1 := h6.bfree 0 (e := 26) rfl
    have h7 := (h6.bstore 0 (e := 26) rfl 0 (.int .i64 P)).bstore 0 (e := 26) rfl 1 (.slice rb us4.length rd)
    simp only [List.set_cons_zero, List.set_cons_succ] at h7
    have d0 := h7.box 0 (e := 26) rfl 0 rfl
    have d1 := h7.box 0 (e := 26) rfl 1 rfl
    have Hl4 := Lib.hid hl4
    clear h1 h5 h6 hl4
    unfold dv
    go_wp2_with fail
    refine bodyPost_ret (v := .agg #[.int .i64 P, .slice rb us4.length rd]) (by simp [results, Tryz.results11, go_sem, d0, d1]) rfl ?_
    exact ⟨P, B, _, us4, hB, rfl, Hl4.out, (h7.sub (List.sublist_cons_self _ _)).mono (by omega)⟩
  by_cases hx3 : x = 3
  · subst hx3
    go_wp2_with fail
    have KA := among_lit [2, 3] w0 _ cv bs g _ _ hb h1 (by simp) (by omega)
    refine KA.mono ?_
    clear KA
    rintro e w2 ⟨z, hz, rfl, h2⟩
    obtain ⟨q, rfl, q2, q3⟩ : ∃ q : Nat, z = q ∧ 2 ≤ q ∧ q ≤ 3 := by
      simp only [List.mem_cons, List.not_mem_nil, or_false] at hz
      exact ⟨z.toNat, by omega, by omega, by omega⟩
    obtain ⟨hm, hok, hln⟩ := rp_ok q2 (show q ≤ 5 by omega)
    have KP := fun W => Lib.hid (l12Plane_c q W hm q2 (by omega))
    have HO := Lib.hid (show dOk (q * q : Nat) (srtL (rpB q q)) = true ∧ (srtL (rpB q q)).length ≤ 20 from ⟨hok, by rw [hln]; rcases (show q = 2 ∨ q = 3 ∨ q = 4 by omega) with rfl | rfl | rfl <;> decide⟩)
    generalize srtL (rpB q q) = A at *
    clear hz hm hok hln
    go_wp2_with fail
    refine (KP _).out.mono ?_
    clear KP
    rintro e w3 ⟨v, us, rfl, hl, h3⟩
    have HA := Lib.hid (show dOk (q * q : Nat) A = true ∧ A.length ≤ 20 ∧ us.length = A.length from ⟨HO.out.1, HO.out.2, hl⟩)
    obtain ⟨ra, rc, hre⟩ := (h3.rd 0 (e := 46) (v := v) (us := us) rfl).sl.sh
    rw [hl] at hre
    subst hre
    have h4 := ((h2.call h3).newboxF 26 #[.int .i64 (q * q : Nat), .slice ra A.length rc]).perm (L' := box 26 w3.heap.size [.int .i64 (q * q : Nat), .slice ra A.length rc] :: box 26 w.heap.size [.int .i64 0, .slice none 0 0] :: (own2 (.slice ra A.length rc) us A ++ L)) (by (try simp only [own2, List.cons_append, List.nil_append, List.append_nil]); classical exact List.perm_iff_count.2 (fun a => by simp only [List.cons_append, List.nil_append, List.append_nil, List.count_append, List.count_cons, List.count_nil] <;> omega))
    obtain ⟨Q, hQ⟩ : ∃ Q : Nat, q * q = Q := ⟨_, rfl⟩
    rw [hQ] at HA h4
    try rw [hQ]
    clear h3 hl HO hQ
    unfold dv
    clear h1 h2
    go_wp2_with fail
    obtain ⟨pp, ss, p0, p1, hS⟩ := h4
    have HPp := Lib.hid (And.intro p0 p1)
    have HX := Lib.hid (fun xs (hx : xs ∈ A) => (show xs.length ≤ 1048576 by
      have h1 := incB_lenR ((dOk_t HA.out.1).inc xs hx) (by have := (dOk_t HA.out.1).pos; omega)
      have h2 := (dOk_t HA.out.1).le
      omega))
    have HX2 := Lib.hid (fun xs (hx : xs ∈ A ++ A) => (show xs.length ≤ 1048576 by
      rcases List.mem_append.1 hx with hx | hx
      · exact HX.out xs hx
      · exact HX.out xs hx))
    have KO := fun W (h : RII W (.slice ra A.length rc) us A) => Lib.hid (l06Own_c _ us A W h (by have := HA.out.2.1; omega) HX.out)
    have hS' := hS.perm (L' := box 59 g [cv, .int .i64 pp, .int .u64 ss] :: box 26 w3.heap.size [.int .i64 (Q : Nat), .slice ra A.length rc] :: box 26 w.heap.size [.int .i64 0, .slice none 0 0] :: (own2 (.slice ra A.length rc) us A ++ L)) (by (try simp only [own2, List.cons_append, List.nil_append, List.append_nil]); classical exact List.perm_iff_count.2 (fun a => by simp only [List.cons_append, List.nil_append, List.append_nil, List.count_append, List.count_cons, List.count_nil] <;> omega))
    have b1 := hS'.bcell 1 rfl 1 rfl
    have e2 := hS'.drew
    clear hS hS' p0 p1
    obtain ⟨LL, hLL⟩ : ∃ LL : List Ent, box 59 g [cv, .int .i64 pp, .int .u64 ss] :: box 26 w3.heap.size [.int .i64 (Q : Nat), .slice ra A.length rc] :: box 26 w.heap.size [.int .i64 0, .slice none 0 0] :: (own2 (.slice ra A.length rc) us A ++ L) = LL := ⟨_, rfl⟩
    have hbx : Hid (LL[1]? = some (box 26 w3.heap.size [.int .i64 (Q : Nat), .slice ra A.length rc])) := Lib.hid (by rw [← hLL]; rfl)
    have hsb : Hid ((own2 (.slice ra A.length rc) us A).Sublist LL) := Lib.hid (by rw [← hLL]; exact (((List.sublist_append_left _ _).cons _).cons _).cons _)
    rw [hLL] at e2
    have HLL := Lib.hid hLL
    clear hLL
    refine regionG (fun w' => w'.cell? ⟨w3.heap.size, 1, none⟩ = some (.slice ra A.length rc)) 9 (by kernel_rfl) (cell_dr b1) (fun hHeld => ?_)
    refine takeP (i := 0) (v := ?_) rfl (by kernel_rfl) (fun _ _ _ h => h) (by rfl) ?_ (by assumption) ?_
    case refine_2 => (intro w'; go_simp; first | done | with_reducible rfl)
    try simp only [Act.put, List.setIfInBounds_toArray, List.set_cons_zero, List.set_cons_succ]
    refine takeH (i := 1) [2, 6, 7] (v := ?_) rfl (by kernel_rfl) (fun _ _ _ h => h) (by rfl) ?_ (by assumption) ?_
    case refine_2 => (intro w' hSw; (try dsimp only at hSw); go_simp; first | done | with_reducible rfl)
    try simp only [Act.put, List.setIfInBounds_toArray, List.set_cons_zero, List.set_cons_succ]
    refine takeP (i := 3) (v := ?_) rfl (by kernel_rfl) (fun _ _ _ h => h) (by rfl) ?_ (by assumption) ?_
    case refine_2 => (intro w'; go_simp; first | done | with_reducible rfl)
    try simp only [Act.put, List.setIfInBounds_toArray, List.set_cons_zero, List.set_cons_succ]
    refine takeH (i := 4) [5, 6, 7] (v := ?_) rfl (by kernel_rfl) (fun _ _ _ h => h) (by rfl) ?_ (by assumption) ?_
    case refine_2 => (intro w' hSw; (try dsimp only at hSw); go_simp; first | done | with_reducible rfl)
    try simp only [Act.put, List.setIfInBounds_toArray, List.set_cons_zero, List.set_cons_succ]
    refine readyG (rs := [2]) (by kernel_rfl) (by simp) ?_
    refine AllG.cons rfl (fun Q9 hK => ?_) AllG.nil
    go_simp
    refine (KO _ ((e2.sub hsb.out).rii HA.out.2.2)).out.mono ?_
    rintro e w4 ⟨u3, us3, rfl, hl3, h3⟩
    have hS3 := (e2.call h3).perm (List.perm_append_comm (l₁ := LL) (l₂ := own2 u3 us3 A))
    refine hK.out _ _ (hS3.bcell _ (at_app hbx.out) 1 rfl) (fun hHeld2 => ?_)
    clear hK Q9
    try simp only [Act.put, List.setIfInBounds_toArray, List.set_cons_zero, List.set_cons_succ]
    refine readyG (rs := [5]) (by kernel_rfl) (by simp) ?_
    refine AllG.cons rfl (fun Q9 hK => ?_) AllG.nil
    go_simp
    refine (KO _ ((hS3.sub (hsb.out.trans (List.sublist_append_right _ _))).rii HA.out.2.2)).out.mono ?_
    rintro e w5 ⟨u4, us4, rfl, hl4, h4⟩
    have hS4 : St w0.heap.size w0 w5 (own2 u3 us3 A ++ (own2 u4 us4 A ++ LL)) := (hS3.call h4).perm (by rw [List.append_assoc]; exact List.perm_append_comm.append_left _)
    have R4 := h4.rii hl4
    have R1 := Lib.hid R4.1
    have R2 := Lib.hid (fun u (hu : u ∈ us4) => (show u.oneCell' = true by
      obtain ⟨j, hj, rfl⟩ := List.getElem_of_mem hu
      rw [← vat_eq hj]
      exact (R4.row j (by rw [← hl4]; exact hj)).sl.one))
    have N1 := Lib.hid (show us3.length + us4.length ≤ 4294967296 by rw [hl3, hl4]; have := HA.out.2.1; omega)
    have Hl3 := Lib.hid hl3
    have Hl4 := Lib.hid hl4
    refine hK.out _ _ (hS4.bcell _ (at_app (at_app hbx.out)) 1 rfl) (fun hHeld3 => ?_)
    clear hK Q9 R4 hl3 hl4 h3 h4 hS3
    try simp only [Act.put, List.setIfInBounds_toArray, List.set_cons_zero, List.set_cons_succ]
    refine readyG (rs := [6]) (by kernel_rfl) (by simp) ?_
    refine AllG.cons rfl (fun Q9 hK => ?_) AllG.nil
    refine stepsII hS4 0 rfl u4 us4 R1.out R2.out N1.out rfl (.tmp 41) (.tmp 44) rfl (by first | rfl | simp [Act.eval, Act.put]) (by first | rfl | simp [Act.eval, Act.put]) ?_
    intro v6 w6 hS6
    have hS7 : St w0.heap.size w0 w6 (own2 v6 (us3 ++ us4) (A ++ A) ++ LL) := two_own Hl3.out hS6
    have rL := (hS7.sub (List.sublist_append_left _ _)).rii (show (us3 ++ us4).length = (A ++ A).length by simp [Hl3.out, Hl4.out])
    refine hK.out _ _ (hS7.bcell _ (at_app hbx.out) 1 rfl) (fun hHeld4 => ?_)
    clear hK Q9 hS4 hS6
    try simp only [Act.put, List.setIfInBounds_toArray, List.set_cons_zero, List.set_cons_succ]
    refine readyG (rs := [7]) (by kernel_rfl) (by simp) ?_
    refine AllG.cons rfl (fun Q9 hK => ?_) AllG.nil
    go_simp
    refine (l10Sort_c _ _ _ _ rL (by rw [List.length_append]; have := HA.out.2.1; omega) HX2.out).mono ?_
    have HS := Lib.hid (show (srtL (A ++ A)).length ≤ 300 by rw [srtL_len, List.length_append]; have := HA.out.2.1; omega)
    generalize srtL (A ++ A) = S at *
    rintro e w8 ⟨v8, us8, rfl, hl8, h8⟩
    obtain ⟨rb, rd, hre⟩ := (h8.rd 0 (e := 46) (v := v8) (us := us8) rfl).sl.sh
    subst hre
    have hS8 := (hS7.sub (List.sublist_append_right _ _)).call h8
    rw [← HLL.out] at hS8
    have c1 := hS8.bcell 1 rfl 1 rfl
    have f1 := hS8.bfree 1 rfl
    have Hl8 := Lib.hid hl8
    refine hK.out _ _ c1 (fun hHeld5 => ?_)
    clear hK Q9 rL hS7 h8 hl8
    try simp only [Act.put, List.setIfInBounds_toArray, List.set_cons_zero, List.set_cons_succ]
    refine takeP (i := 8) (v := ?_) rfl (by kernel_rfl) (fun _ _ _ h => h) (by rfl) ?_ (by assumption) ?_
    case refine_2 => (intro w'; go_simp; first | done | with_reducible rfl)
    try simp only [Act.put, List.setIfInBounds_toArray, List.set_cons_zero, List.set_cons_succ]
    refine readyG (rs := [9]) (by kernel_rfl) (by simp) ?_
    refine AllG.last rfl (by kernel_rfl) (fun Q9 hK => ?_) AllG.nil
    go_simp
    refine hK.out _ _ ?_
    clear hK Q9
    try simp only [Act.put, List.setIfInBounds_toArray, List.set_cons_zero, List.set_cons_succ]
    refine doneG (by kernel_rfl) ?_ _
    refine NoPanic.normal ?_
    have hS9 := hS8.bstore 1 rfl 1 (.slice rb us8.length rd)
    simp only [List.cons_append, List.set_cons_zero, List.set_cons_succ] at hS9
    have h5 : Src w0 _ cv g (K + 500) (box 26 w3.heap.size [.int .i64 (Q : Nat), .slice rb us8.length rd] :: box 26 w.heap.size [.int .i64 0, .slice none 0 0] :: (own2 (.slice rb us8.length rd) us8 S ++ L)) := ⟨pp, ss, HPp.out.1, by have := HPp.out.2; omega, (hS9.perm (L' := box 59 g [cv, .int .i64 pp, .int .u64 ss] :: box 26 w3.heap.size [.int .i64 (Q : Nat), .slice rb us8.length rd] :: box 26 w.heap.size [.int .i64 0, .slice none 0 0] :: ((own2 (.slice rb us8.length rd) us8 S ++ L) ++ own2 (.slice ra A.length rc) us A)) (by (try simp only [own2, List.cons_append, List.nil_append, List.append_nil]); classical exact List.perm_iff_count.2 (fun a => by simp only [List.cons_append, List.nil_append, List.append_nil, List.count_append, List.count_cons, List.count_nil] <;> omega))).sub ((((List.sublist_append_left _ _).cons_cons _).cons_cons _).cons_cons _)⟩
    clear hS8 hS9 c1 f1 HPp
    have a0 := h5.box 0 (e := 26) rfl 0 rfl
    have a1 := h5.box 0 (e := 26) rfl 1 rfl
    have c0 := h5.box 1 (e := 26) rfl 0 rfl
    have c1 := h5.box 1 (e := 26) rfl 1 rfl
    have f1 := h5.bfree 1 (e := 26) rfl
    have h7 := (h5.bstore 1 (e := 26) rfl 0 (.int .i64 (Q : Nat))).bstore 1 (e := 26) rfl 1 (.slice rb us8.length rd)
    simp only [List.set_cons_zero, List.set_cons_succ] at h7
    have d0 := h7.box 1 (e := 26) rfl 0 rfl
    have d1 := h7.box 1 (e := 26) rfl 1 rfl
    clear h5
    go_wp2_with fail
    refine bodyPost_ret (v := .agg #[.int .i64 (Q : Nat), .slice rb us8.length rd]) (by simp [results, Tryz.results11, go_sem, d0, d1]) rfl ?_
    exact ⟨Q, S, _, us8, HS.out, rfl, Hl8.out, h7.sub ((List.sublist_cons_self _ _).trans (List.sublist_cons_self _ _))⟩
  · go_wp2_with fail
    have KA := among_lit [2, 3, 4] w0 _ cv bs g _ _ hb h1 (by simp) (by omega)
    refine KA.mono ?_
    clear KA
    rintro e w2 ⟨z, hz, rfl, h2⟩
    obtain ⟨q, rfl, q2, q3⟩ : ∃ q : Nat, z = q ∧ 2 ≤ q ∧ q ≤ 4 := by
      simp only [List.mem_cons, List.not_mem_nil, or_false] at hz
      exact ⟨z.toNat, by omega, by omega, by omega⟩
    obtain ⟨hm, hok, hln⟩ := rp_ok q2 (show q ≤ 5 by omega)
    have KP := fun W => Lib.hid (l12Plane_c q W hm q2 (by omega))
    have HO := Lib.hid (show dOk (q * q : Nat) (srtL (rpB q q)) = true ∧ (srtL (rpB q q)).length ≤ 20 from ⟨hok, by rw [hln]; rcases (show q = 2 ∨ q = 3 ∨ q = 4 by omega) with rfl | rfl | rfl <;> decide⟩)
    generalize srtL (rpB q q) = A at *
    clear hz hm hok hln
    go_wp2_with fail
    refine (KP _).out.mono ?_
    clear KP
    rintro e w3 ⟨v, us, rfl, hl, h3⟩
    have HA := Lib.hid (show dOk (q * q : Nat) A = true ∧ A.length ≤ 20 ∧ us.length = A.length from ⟨HO.out.1, HO.out.2, hl⟩)
    obtain ⟨ra, rc, hre⟩ := (h3.rd 0 (e := 46) (v := v) (us := us) rfl).sl.sh
    rw [hl] at hre
    subst hre
    have h4 := ((h2.call h3).newboxF 26 #[.int .i64 (q * q : Nat), .slice ra A.length rc]).perm (L' := box 26 w3.heap.size [.int .i64 (q * q : Nat), .slice ra A.length rc] :: box 26 w.heap.size [.int .i64 0, .slice none 0 0] :: (own2 (.slice ra A.length rc) us A ++ L)) (by (try simp only [own2, List.cons_append, List.nil_append, List.append_nil]); classical exact List.perm_iff_count.2 (fun a => by simp only [List.cons_append, List.nil_append, List.append_nil, List.count_append, List.count_cons, List.count_nil] <;> omega))
    obtain ⟨Q, hQ⟩ : ∃ Q : Nat, q * q = Q := ⟨_, rfl⟩
    rw [hQ] at HA h4
    try rw [hQ]
    clear h3 hl HO hQ
    unfold dv
    clear h1 h2
    have b0 := h4.box 0 (e := 26) rfl 0 rfl
    have hP := (dOk_t HA.out.1).le
    go_wp2_with fail
    refine (l04DrawPerm_c w0 _ cv bs g _ _ Q hb h4 (by omega) (by omega)).mono ?_
    rintro e w4 ⟨vp, p, rfl, hpl, hpp, h6⟩
    have hbx : BoxD w4 w3.heap.size Q (.slice ra A.length rc) := ⟨h6.box 1 (e := 26) rfl 0 rfl, h6.box 1 (e := 26) rfl 1 rfl⟩
    have hR := h6.riiS (v := .slice ra A.length rc) (us := us) (A := A) (((List.sublist_append_left _ _).cons _).cons _ |>.cons _) HA.out.2.2
    have HK := Lib.hid (l10Image_c Q w3.heap.size (.slice ra A.length rc) us A vp p w4 hR hbx (h6.rdI 0 rfl) HA.out.1 hpl)
    have HL := Lib.hid (show (srtL (imgL p A)).length ≤ 300 from by rw [srtL_len, imgL, List.length_map]; have := (dOk_t HA.out.1).len; omega)
    generalize srtL (imgL p A) = S at *
    clear hbx hR hpl hpp b0
    go_wp2_with fail
    refine HK.out.mono ?_
    clear HK
    rintro e w5 ⟨v5, us5, rfl, hl5, h7⟩
    obtain ⟨rb, rd, hre⟩ := (h7.rd 0 (e := 46) (v := v5) (us := us5) rfl).sl.sh
    subst hre
    have h8 := ((h6.call h7).perm (L' := box 26 w.heap.size [.int .i64 0, .slice none 0 0] :: ((own2 (.slice rb us5.length rd) us5 S ++ L) ++ (row 2 vp (iv p) :: box 26 w3.heap.size [.int .i64 Q, .slice ra A.length rc] :: own2 (.slice ra A.length rc) us A))) (by (try simp only [own2, List.cons_append, List.nil_append, List.append_nil]); classical exact List.perm_iff_count.2 (fun a => by simp only [List.cons_append, List.nil_append, List.append_nil, List.count_append, List.count_cons, List.count_nil] <;> omega))).sub (L' := box 26 w.heap.size [.int .i64 0, .slice none 0 0] :: (own2 (.slice rb us5.length rd) us5 S ++ L)) ((List.sublist_append_left _ _).cons_cons _)
    have c0 := h8.box 0 (e := 26) rfl 0 rfl
    have c1 := h8.box 0 (e := 26) rfl 1 rfl
    have f1 := h8.bfree 0 (e := 26) rfl
    have h9 := (h8.bstore 0 (e := 26) rfl 0 (.int .i64 Q)).bstore 0 (e := 26) rfl 1 (.slice rb us5.length rd)
    simp only [List.set_cons_zero, List.set_cons_succ] at h9
    have d0 := h9.box 0 (e := 26) rfl 0 rfl
    have d1 := h9.box 0 (e := 26) rfl 1 rfl
    have Hl5 := Lib.hid hl5
    clear h4 h6 h7 h8 hl5
    unfold dv
    go_wp2_with fail
    refine bodyPost_ret (v := .agg #[.int .i64 Q, .slice rb us5.length rd]) (by simp [results, Tryz.results11, go_sem, d0, d1]) rfl ?_
    exact ⟨Q, S, _, us5, HL.out, rfl, Hl5.out, (h9.sub (List.sublist_cons_self _ _)).mono (by omega)⟩
end Go.Proofs.YtljemlfocajhnaaGreat
end

section
/- Walks: the budget, and the design with it, as the reference draws them. -/
namespace Go.Proofs.YtljemlfocajhnaaGreat
set_option linter.unusedSimpArgs false
set_option linter.unusedVariables false
open Go.RowKit
attribute [local go_sem ↓] Go.wp_at_zero Go.wp_at_succ

set_option maxHeartbeats 4000000 in
set_option maxRecDepth 100000 in
theorem l09DrawBudget_c (w0 w : World) (cv : Value) (bs : List UInt8) (g K : Nat) (L : List Ent) (hb : RdB w0 cv bs) (h : Src w0 w cv g K L) (hK : K < 100000000) :
    Calls Tryz.prog 12 #[.pointer (some ⟨g, 0, none⟩)] w (Some1 fun w' => Src w0 w' cv g (K + 10) L) := by
  go_enter Tryz.func12, Tryz.ntmps12
  go_wp2_with fail
  refine (pick_c w0 _ cv bs g _ _ 8 hb h (by omega)).mono ?_
  rintro e w1 ⟨x, x0, x1, rfl, h1⟩
  clear h x1
  by_cases hx0 : x = 0
  · subst hx0
    go_wp2_with fail
    have KA := among_lit [0, 1, -1, 20000, 20001] w0 _ cv bs g _ _ hb h1 (by simp) (by omega)
    refine KA.mono ?_
    clear KA
    rintro e w2 ⟨z, hz, rfl, h2⟩
    go_wp2_with fail
    go_ret
    exact ⟨_, rfl, h2.mono (by omega)⟩
  have f1 := eq_f hx0
  by_cases hx1 : x = 1
  · subst hx1
    go_wp2_with fail
    refine (pick_c w0 _ cv bs g _ _ 30 hb h1 (by omega)).mono ?_
    rintro e w2 ⟨z, z0, z1, rfl, h2⟩
    go_wp2_with fail
    go_ret
    exact ⟨_, rfl, h2.mono (by omega)⟩
  · have f2 := eq_f hx1
    go_wp2_with fail
    refine (pick_c w0 _ cv bs g _ _ 1000 hb h1 (by omega)).mono ?_
    rintro e w2 ⟨z, z0, z1, rfl, h2⟩
    go_wp2_with fail
    go_ret
    exact ⟨_, rfl, h2.mono (by omega)⟩

/-- a design and a budget -/
def MakesDB (w : World) (e : Ending) (w' : World) : Prop := ∃ (P bud : Int) (A : List (List Int)) (v : Value) (us : List Value), e = .returned (.tuple #[dv P v, .int .i64 bud]) ∧ RII w' v us A ∧ St w.heap.size w w' []
set_option maxHeartbeats 8000000 in
set_option maxRecDepth 100000 in
theorem DrawResolveDesign_c (w : World) (cv : Value) (bs : List UInt8) (hb : RdB w cv bs) :
    Calls Tryz.prog 5 #[cv] w (MakesDB w) := by
  have hS0 := (St.refl w).newboxF 26 #[.int .i64 0, .slice none 0 0]
  go_enter Tryz.func5, Tryz.ntmps5
  go_wp2_with fail
  refine (l00FromS w _ cv bs _ hb hS0).mono ?_
  rintro e w1 ⟨g, rfl, h1⟩
  clear hS0
  go_wp2_with fail
  refine (l14Draw_c w _ cv bs _ _ _ hb h1 (by omega)).mono ?_
  rintro e w4 ⟨P, B, v4, us4, hB, rfl, hl4, h5⟩
  obtain ⟨rb, rd, hre⟩ := (h5.rd 0 (e := 46) (v := v4) (us := us4) rfl).sl.sh
  subst hre
  have h5' := h5.perm (L' := box 26 w.heap.size [.int .i64 0, .slice none 0 0] :: own2 (.slice rb us4.length rd) us4 B) (by (try simp only [own2, List.cons_append, List.nil_append, List.append_nil]); classical exact List.perm_iff_count.2 (fun a => by simp only [List.cons_append, List.nil_append, List.append_nil, List.count_append, List.count_cons, List.count_nil] <;> omega))
  have hlt := h5'.boxlt 0 rfl
  have n1 : ¬ w.heap.size = w4.heap.size := by omega
  have n2 : ¬ w4.heap.size = w.heap.size := by omega
  have h6 := h5'.newboxF 26 #[.int .i64 P, .slice rb us4.length rd]
  have a0 := h6.box 0 (e := 26) rfl 0 rfl
  have a1 := h6.box 0 (e := 26) rfl 1 rfl
  have h6d := h6.drew
  have Hl4 := Lib.hid hl4
  clear h1 h5 h5' hl4 h6 hlt
  unfold dv
  go_wp2_with fail
  go_region_held3 (fun w' => w'.cell? ⟨w4.heap.size, 0, none⟩ = some (.int .i64 P) ∧ w'.cell? ⟨w4.heap.size, 1, none⟩ = some (.slice rb us4.length rd)) (((try dsimp only); (repeat' apply And.intro); all_goals (repeat (first | assumption | exact cell_dr (by assumption) | refine cell_dr ?_ | refine cell_al ?_ | refine cell_sc (by assumption) ?_)))) (first
    | (go_at_call 12; refine (l09DrawBudget_c w _ cv bs _ _ _ hb h6d (by omega)).mono ?_; rintro e w5 ⟨bud, rfl, h7⟩; have a0 := h7.box 0 (e := 26) rfl 0 rfl; have a1 := h7.box 0 (e := 26) rfl 1 rfl; have c0 := h7.box 1 (e := 26) rfl 0 rfl; have c1 := h7.box 1 (e := 26) rfl 1 rfl; have f1 := h7.bfree 1 (e := 26) rfl))
  have h8 := (h7.bstore 1 (e := 26) rfl 0 (.int .i64 P)).bstore 1 (e := 26) rfl 1 (.slice rb us4.length rd)
  simp only [List.set_cons_zero, List.set_cons_succ] at h8
  have d0 := h8.box 1 (e := 26) rfl 0 rfl
  have d1 := h8.box 1 (e := 26) rfl 1 rfl
  have hR := h8.riiS (v := .slice rb us4.length rd) (us := us4) (A := B) (((List.Sublist.refl _).cons _).cons _) Hl4.out
  have hSo := h8.st.out
  clear h6d h7 h8 a0 a1 c0 c1 f1
  go_wp2_with fail
  refine bodyPost_ret (v := .tuple #[.agg #[.int .i64 P, .slice rb us4.length rd], .int .i64 bud]) (by simp [results, Tryz.results5, go_sem, d0, d1]) rfl ?_
  exact ⟨P, bud, B, _, us4, rfl, hR, hSo⟩
end Go.Proofs.YtljemlfocajhnaaGreat
end

section
/- Plain: the search for a resolution: what is marked, that it is exhaustive, and what it has found. -/
namespace Go.Proofs.YtljemlfocajhnaaGreat
set_option linter.unusedSimpArgs false
set_option linter.unusedVariables false

/-- each class has every point once -/
def Rsl (P : Nat) (A : List (List Int)) (f : Nat → Nat) : Prop := ∀ i, i < A.length → ∀ x : Nat, x < P → ∃ j, j < A.length ∧ f j = f i ∧ (x : Int) ∈ xat A j ∧ ∀ j', j' < A.length → f j' = f i → (x : Int) ∈ xat A j' → j' = j
/-- there is a resolution with these classes -/
def Cmp (P : Nat) (A C : List (List Int)) : Prop := ∃ f, Rsl P A f ∧ ∀ c ∈ C, ∀ i j : Nat, (i : Int) ∈ c → (j : Int) ∈ c → f i = f j
/-- a class that has every point once -/
def Cpl (P : Nat) (A : List (List Int)) (d : List Int) : Prop := ∀ x : Nat, x < P → ∃ i : Nat, (i : Int) ∈ d ∧ (x : Int) ∈ xat A i ∧ ∀ i' : Nat, (i' : Int) ∈ d → (x : Int) ∈ xat A i' → i' = i
/-- the points of a block marked -/
def mkK (K : List Bool) (B : List Int) (v : Bool) : List Bool := B.foldl (fun K x => K.set x.toNat v) K
/-- blocks: points below P, no point twice -/
structure BlkV (P : Nat) (A : List (List Int)) : Prop where
  pt : ∀ i, i < A.length → ∀ z ∈ xat A i, ∃ x : Nat, z = x ∧ x < P
  ne : ∀ i, i < A.length → 0 < (xat A i).length
/-- classes that are whole: used blocks are theirs -/
structure RsB (P : Nat) (A : List (List Int)) (U : List Bool) (C : List (List Int)) : Prop where
  ulen : U.length = A.length
  idx : ∀ d ∈ C, ∀ z ∈ d, ∃ i : Nat, z = i ∧ i < A.length
  nd : C.flatten.Nodup
  used : ∀ i, i < A.length → (bat U i = true ↔ (i : Int) ∈ C.flatten)
  full : ∀ d ∈ C, Cpl P A d
/-- whole classes and one that is being made -/
structure RsI (P : Nat) (A : List (List Int)) (U K : List Bool) (C : List (List Int)) (c : List Int) : Prop where
  ulen : U.length = A.length
  klen : K.length = P
  idx : ∀ d ∈ C ++ [c], ∀ z ∈ d, ∃ i : Nat, z = i ∧ i < A.length
  nd : (C ++ [c]).flatten.Nodup
  used : ∀ i, i < A.length → (bat U i = true ↔ (i : Int) ∈ (C ++ [c]).flatten)
  cov : ∀ x, x < P → (bat K x = true ↔ ∃ i : Nat, (i : Int) ∈ c ∧ (x : Int) ∈ xat A i)
  full : ∀ d ∈ C, Cpl P A d
  part : ∀ i j : Nat, (i : Int) ∈ c → (j : Int) ∈ c → ∀ x : Nat, (x : Int) ∈ xat A i → (x : Int) ∈ xat A j → i = j
  ne : c ≠ []
theorem mkK_len (B : List Int) (v : Bool) : ∀ K : List Bool, (mkK K B v).length = K.length := by
  induction B with
  | nil => intro K; rfl
  | cons x B ih =>
    intro K
    have := ih (K.set x.toNat v)
    rw [List.length_set] at this
    exact this
theorem bat_mkK {v : Bool} {P : Nat} : ∀ (B : List Int) (K : List Bool), K.length = P → (∀ z ∈ B, ∃ x : Nat, z = x ∧ x < P) → ∀ x, x < P → bat (mkK K B v) x = if (x : Int) ∈ B then v else bat K x
  | [], K, _, _, x, _ => by simp [mkK]
  | z :: B, K, hK, hB, x, hx => by
    obtain ⟨y, rfl, hy⟩ := hB z (by simp)
    have ih := bat_mkK (v := v) B (K.set ((y : Int)).toNat v) (by rw [List.length_set]; exact hK) (fun z hz => hB z (by simp [hz])) x hx
    have hstep : mkK K ((y : Int) :: B) v = mkK (K.set ((y : Int)).toNat v) B v := rfl
    rw [hstep, ih, Int.toNat_natCast, bat_set (by rw [hK]; exact hy)]
    by_cases h1 : (x : Int) ∈ B
    · rw [if_pos h1, if_pos (by simp [h1])]
    · rw [if_neg h1]
      by_cases h2 : y = x
      · subst h2; rw [if_pos rfl, if_pos (by simp)]
      · rw [if_neg h2, if_neg]
        rw [List.mem_cons, not_or]
        exact ⟨fun e => h2 (by omega), h1⟩
theorem bat_ext {X Y : List Bool} (hl : X.length = Y.length) (h : ∀ j, j < X.length → bat X j = bat Y j) : X = Y := by
  apply List.ext_getElem hl
  intro j h1 h2
  have := h j h1
  simpa [bat, h1, h2] using this
/-- marks taken away again -/
theorem mkK_back {P : Nat} {K : List Bool} {B : List Int} (hK : K.length = P) (hB : ∀ z ∈ B, ∃ x : Nat, z = x ∧ x < P) (hf : ∀ x : Nat, (x : Int) ∈ B → bat K x = false) : mkK (mkK K B true) B false = K := by
  refine bat_ext (by rw [mkK_len, mkK_len]) fun x hx => ?_
  rw [mkK_len, mkK_len] at hx
  rw [bat_mkK B _ (by rw [mkK_len]; exact hK) hB x (by omega), bat_mkK B K hK hB x (by omega)]
  by_cases h : (x : Int) ∈ B
  · rw [if_pos h, hf x h]
  · rw [if_neg h, if_neg h]
theorem set_back {U : List Bool} {k : Nat} (h : bat U k = false) : (U.set k true).set k false = U := by
  by_cases hk : k < U.length
  · refine bat_ext (by simp) fun x hx => ?_
    rw [bat_set (by simpa using hk), bat_set hk]
    by_cases e : k = x
    · subst e; rw [if_pos rfl, h]
    · rw [if_neg e, if_neg e]
  · rw [List.set_eq_of_length_le (by simp; omega), List.set_eq_of_length_le (by omega)]
section
variable {P : Nat} {A C : List (List Int)} {U K : List Bool} {c : List Int}
theorem flat_snoc (C : List (List Int)) (c : List Int) : (C ++ [c]).flatten = C.flatten ++ c := by simp
theorem flat_snoc2 (C : List (List Int)) (c : List Int) (k : Int) : (C ++ [c ++ [k]]).flatten = (C ++ [c]).flatten ++ [k] := by simp
/-- a block begins a class -/
theorem RsB.first (h : RsB P A U C) (hA : BlkV P A) {k : Nat} (hk : k < A.length) (hu : bat U k = false) : RsI P A (U.set k true) (mkK (List.replicate P false) (xat A k) true) C [(k : Int)] := by
  have hnot : (k : Int) ∉ C.flatten := fun q => by rw [(h.used k hk).2 q] at hu; cases hu
  refine ⟨by rw [List.length_set]; exact h.ulen, by rw [mkK_len, List.length_replicate], fun d hd z hz => ?_, ?_, fun i hi => ?_, fun x hx => ?_, h.full, fun i j hi hj x _ _ => ?_, by simp⟩
  · rcases List.mem_append.1 hd with hd | hd
    · exact h.idx d hd z hz
    · rw [List.mem_singleton.1 hd, List.mem_singleton] at hz
      exact ⟨k, hz, hk⟩
  · rw [flat_snoc, List.nodup_append]
    refine ⟨h.nd, by simp, fun a ha b hb e => ?_⟩
    rw [List.mem_singleton] at hb
    subst e; subst hb; exact hnot ha
  · rw [bat_set (by rw [h.ulen]; exact hk), flat_snoc, List.mem_append, List.mem_singleton]
    by_cases e : k = i
    · subst e; simp
    · rw [if_neg e, h.used i hi]
      constructor
      · exact fun q => .inl q
      · rintro (q | q)
        · exact q
        · omega
  · rw [bat_mkK _ _ (List.length_replicate) (hA.pt k hk) x hx, bat_rep]
    constructor
    · intro q
      by_cases hm : (x : Int) ∈ xat A k
      · exact ⟨k, by simp, hm⟩
      · rw [if_neg hm] at q; cases q
    · rintro ⟨i, hi, hx⟩
      rw [List.mem_singleton] at hi
      have : i = k := by omega
      subst this
      rw [if_pos hx]
  · rw [List.mem_singleton] at hi hj; omega
/-- a class that has all points is whole -/
theorem RsI.whole (h : RsI P A U K C c) (hK : ∀ x, x < P → bat K x = true) : RsB P A U (C ++ [c]) := by
  refine ⟨h.ulen, h.idx, h.nd, h.used, fun d hd => ?_⟩
  rcases List.mem_append.1 hd with hd | hd
  · exact h.full d hd
  · rw [List.mem_singleton.1 hd]
    intro x hx
    obtain ⟨i, hi, hxi⟩ := (h.cov x hx).1 (hK x hx)
    exact ⟨i, hi, hxi, fun i' hi' hx' => h.part i' i hi' hi x hx' hxi⟩
/-- what fits -/
def Fts (A : List (List Int)) (U K : List Bool) (p k : Nat) : Prop := bat U k = false ∧ (p : Int) ∈ xat A k ∧ ∀ x : Nat, (x : Int) ∈ xat A k → bat K x = false
theorem RsI.take (h : RsI P A U K C c) (hA : BlkV P A) {p k : Nat} (hk : k < A.length) (hf : Fts A U K p k) : RsI P A (U.set k true) (mkK K (xat A k) true) C (c ++ [(k : Int)]) := by
  obtain ⟨hu, _, hK⟩ := hf
  have hnot : (k : Int) ∉ (C ++ [c]).flatten := fun q => by rw [(h.used k hk).2 q] at hu; cases hu
  have hpt : ∀ x : Nat, (x : Int) ∈ xat A k → x < P := fun x hx => by
    obtain ⟨y, e, hy⟩ := hA.pt k hk _ hx
    omega
  have hdis : ∀ (i x : Nat), (i : Int) ∈ c → (x : Int) ∈ xat A i → (x : Int) ∉ xat A k := fun i x hi hx hxk => by
    have := (h.cov x (hpt x hxk)).2 ⟨i, hi, hx⟩
    rw [hK x hxk] at this; cases this
  refine ⟨by rw [List.length_set]; exact h.ulen, by rw [mkK_len]; exact h.klen, fun d hd z hz => ?_, ?_, fun i hi => ?_, fun x hx => ?_, h.full, fun i j hi hj x hxi hxj => ?_, by simp⟩
  · rcases List.mem_append.1 hd with hd | hd
    · exact h.idx d (List.mem_append_left _ hd) z hz
    · rw [List.mem_singleton.1 hd] at hz
      rcases List.mem_append.1 hz with hz | hz
      · exact h.idx c (by simp) z hz
      · exact ⟨k, by simpa using hz, hk⟩
  · rw [flat_snoc2, List.nodup_append]
    refine ⟨h.nd, by simp, fun a ha b hb e => ?_⟩
    rw [List.mem_singleton] at hb
    subst e; subst hb; exact hnot ha
  · rw [bat_set (by rw [h.ulen]; exact hk), flat_snoc2, List.mem_append, List.mem_singleton]
    by_cases e : k = i
    · subst e; simp
    · rw [if_neg e, h.used i hi]
      constructor
      · exact fun q => .inl q
      · rintro (q | q)
        · exact q
        · omega
  · rw [bat_mkK _ _ h.klen (hA.pt k hk) x hx]
    constructor
    · intro q
      by_cases hm : (x : Int) ∈ xat A k
      · exact ⟨k, by simp, hm⟩
      · rw [if_neg hm] at q
        obtain ⟨i, hi, hxi⟩ := (h.cov x hx).1 q
        exact ⟨i, List.mem_append_left _ hi, hxi⟩
    · rintro ⟨i, hi, hxi⟩
      rcases List.mem_append.1 hi with hi | hi
      · by_cases hm : (x : Int) ∈ xat A k
        · rw [if_pos hm]
        · rw [if_neg hm]; exact (h.cov x hx).2 ⟨i, hi, hxi⟩
      · rw [List.mem_singleton] at hi
        have : i = k := by omega
        subst this
        rw [if_pos hxi]
  · rcases List.mem_append.1 hi with hi1 | hi1
    · rcases List.mem_append.1 hj with hj1 | hj1
      · exact h.part i j hi1 hj1 x hxi hxj
      · rw [List.mem_singleton] at hj1
        have e : j = k := by omega
        rw [e] at hxj
        exact absurd hxj (hdis i x hi1 hxi)
    · rw [List.mem_singleton] at hi1
      have e1 : i = k := by omega
      rcases List.mem_append.1 hj with hj1 | hj1
      · rw [e1] at hxi
        exact absurd hxi (hdis j x hj1 hxj)
      · rw [List.mem_singleton] at hj1; omega
theorem Cmp.first (h : Cmp P A C) (k : Nat) : Cmp P A (C ++ [[(k : Int)]]) := by
  obtain ⟨f, hf, hc⟩ := h
  refine ⟨f, hf, fun d hd i j hi hj => ?_⟩
  rcases List.mem_append.1 hd with hd | hd
  · exact hc d hd i j hi hj
  · rw [List.mem_singleton.1 hd, List.mem_singleton] at hi hj
    rw [show i = j by omega]
/-- if there is a resolution, one of the blocks that fit leads to it -/
theorem RsI.next (h : RsI P A U K C c) (hA : BlkV P A) {p : Nat} (hp : p < P) (hK : bat K p = false) (hC : Cmp P A (C ++ [c])) : ∃ k, k < A.length ∧ Fts A U K p k ∧ Cmp P A (C ++ [c ++ [(k : Int)]]) := by
  obtain ⟨f, hf, hc⟩ := hC
  obtain ⟨z0, hz0⟩ := List.exists_mem_of_ne_nil c h.ne
  obtain ⟨i0, rfl, hi0⟩ := h.idx c (by simp) z0 hz0
  obtain ⟨k, hk, hfk, hpk, hku⟩ := hf i0 hi0 p hp
  have hcc : ∀ i : Nat, (i : Int) ∈ c → f i = f i0 := fun i hi => hc c (by simp) i i0 hi hz0
  have hkc : (k : Int) ∉ c := fun q => by
    have := (h.cov p hp).2 ⟨k, q, hpk⟩
    rw [hK] at this; cases this
  have hil : ∀ d ∈ C ++ [c], ∀ i : Nat, (i : Int) ∈ d → i < A.length := fun d hd i hi => by
    obtain ⟨i', e, hi'⟩ := h.idx d hd _ hi
    omega
  refine ⟨k, hk, ⟨?_, hpk, fun y hy => ?_⟩, f, hf, fun d hd i j hi hj => ?_⟩
  · -- unused
    cases hu : bat U k
    · rfl
    · exfalso
      have hm := (h.used k hk).1 hu
      rw [flat_snoc] at hm
      rcases List.mem_append.1 hm with hm | hm
      · obtain ⟨d, hd, hkd⟩ := List.mem_flatten.1 hm
        -- the class d has a point of block i0
        have hpos := hA.ne i0 hi0
        obtain ⟨y, hy, hyP⟩ := hA.pt i0 hi0 _ (nth_mem hpos)
        have hym : (y : Int) ∈ xat A i0 := by rw [← hy]; exact nth_mem hpos
        obtain ⟨j, hj, hyj, _⟩ := h.full d hd y hyP
        have hfj : f j = f i0 := by rw [hc d (List.mem_append_left _ hd) j k hj hkd, hfk]
        obtain ⟨j0, _, _, _, hju⟩ := hf i0 hi0 y hyP
        have e1 := hju j (hil d (List.mem_append_left _ hd) j hj) hfj hyj
        have e2 := hju i0 hi0 rfl hym
        have e3 : j = i0 := by rw [e1, e2]
        subst e3
        -- in two classes
        have hn := h.nd
        rw [flat_snoc, List.nodup_append] at hn
        exact hn.2.2 (j : Int) (List.mem_flatten.2 ⟨d, hd, hj⟩) (j : Int) hz0 rfl
      · exact hkc hm
  · cases hy2 : bat K y
    · rfl
    · exfalso
      obtain ⟨y', e, hyP⟩ := hA.pt k hk _ hy
      have hyP : y < P := by omega
      obtain ⟨j, hj, hyj⟩ := (h.cov y hyP).1 hy2
      obtain ⟨j0, _, _, _, hju⟩ := hf i0 hi0 y hyP
      have e1 := hju j (hil c (by simp) j hj) (hcc j hj) hyj
      have e2 := hju k hk hfk hy
      have : j = k := by rw [e1, e2]
      subst this
      exact hkc hj
  · rcases List.mem_append.1 hd with hd | hd
    · exact hc d (List.mem_append_left _ hd) i j hi hj
    · rw [List.mem_singleton.1 hd] at hi hj
      have hcl : ∀ i : Nat, (i : Int) ∈ c ++ [(k : Int)] → f i = f i0 := fun i hi => by
        rcases List.mem_append.1 hi with hi | hi
        · exact hcc i hi
        · rw [List.mem_singleton] at hi
          have : i = k := by omega
          rw [this, hfk]
      rw [hcl i hi, hcl j hj]
/-- the number of blocks not used yet -/
def unU (U : List Bool) : Nat := (U.filter fun u => !u).length
theorem unU_set : ∀ {U : List Bool} {k : Nat}, k < U.length → bat U k = false → unU (U.set k true) + 1 = unU U
  | [], _, h, _ => by simp at h
  | u :: U, 0, _, h => by
    have : u = false := h
    subst this
    simp [unU]
  | u :: U, k + 1, h, hb => by
    have ih := unU_set (U := U) (k := k) (by simpa using h) hb
    unfold unU at ih ⊢
    rw [List.set_cons_succ]
    cases u
    · rw [List.filter_cons_of_pos (by rfl), List.filter_cons_of_pos (by rfl), List.length_cons, List.length_cons]; omega
    · rw [List.filter_cons_of_neg (by simp), List.filter_cons_of_neg (by simp)]; exact ih
end
end Go.Proofs.YtljemlfocajhnaaGreat
end

section
/- Walks: the search for a resolution: what fits. -/
namespace Go.Proofs.YtljemlfocajhnaaGreat
set_option linter.unusedSimpArgs false
set_option linter.unusedVariables false
open Go.RowKit
attribute [local go_sem ↓] Go.wp_at_zero Go.wp_at_succ

theorem cell_keepV {w w' : World} (hb : Below w.heap.size w w') {p : Addr} {u : Value} (h : w.cell? p = some u) : w'.cell? p = some u := by
  rw [hb.cell (World.block_lt_of_cell? _ _ h)]; exact h
/-- what a search owns -/
def rvL (g : Nat) (left : Int) (sp : Bool) (P : Int) (vB vU vC vK : Value) (U K : List Bool) (uc : List Value) (C : List (List Int)) (L : List Ent) : List Ent :=
  box 44 g [.int .i64 left, .bool sp, .int .i64 P, vB, vU, vC, vK] :: row 4 vU (bo U) :: row 4 vK (bo K) :: (own2 vC uc C ++ L)
def fitB (A : List (List Int)) (U K : List Bool) (p k : Nat) : Bool := !bat U k && decide ((p : Int) ∈ xat A k) && !anyP (fun z => bat K z.toNat) (xat A k)
theorem fitB_iff {P : Nat} {A : List (List Int)} (hA : BlkV P A) {U K : List Bool} {p k : Nat} (hk : k < A.length) : fitB A U K p k = true ↔ Fts A U K p k := by
  unfold fitB Fts anyP
  simp only [Bool.and_eq_true, Bool.not_eq_true', decide_eq_true_eq, List.any_eq_false]
  constructor
  · rintro ⟨⟨h1, h2⟩, h3⟩
    exact ⟨h1, h2, fun x hx => by have := h3 _ hx; simpa using this⟩
  · rintro ⟨h1, h2, h3⟩
    refine ⟨⟨h1, h2⟩, fun z hz => ?_⟩
    obtain ⟨x, rfl, _⟩ := hA.pt k hk z hz
    rw [Int.toNat_natCast, h3 x hz]; simp
set_option maxHeartbeats 4000000 in
set_option maxRecDepth 100000 in
theorem fits1_c (x g gb : Nat) (vK : Value) (K : List Bool) (w : World) (hb : w.cell? ⟨gb, 0, none⟩ = some (.pointer (some ⟨g, 0, none⟩))) (h6 : w.cell? ⟨g, 6, none⟩ = some vK) (hK : RdO w vK K) (hx : x < K.length) :
    Calls Tryz.prog 95 #[.int .i64 x, .pointer (some ⟨gb, 0, none⟩)] w (GivesB w (bat K x)) := by
  have cx := hK.cell x hx
  have ix := hK.ixe (x : Int) x rfl hx
  clear hK
  go_enter Tryz.func95, Tryz.ntmps95
  go_wp2_with fail
  go_ret
  exact ⟨rfl, St.refl w⟩
set_option maxHeartbeats 8000000 in
set_option maxRecDepth 100000 in
theorem fits_c (k p g : Nat) (left : Int) (sp : Bool) (P : Nat) (a : Option Addr) (c : Nat) (vU vC vK : Value) (U K : List Bool) (us uc : List Value) (A C : List (List Int)) (L : List Ent) (w0 w : World) (hv : RII w0 (.slice a A.length c) us A)
    (h : St w0.heap.size w0 w (rvL g left sp P (.slice a A.length c) vU vC vK U K uc C L)) (hA : BlkV P A) (hk : k < A.length) (hU : U.length = A.length) (hK : K.length = P) :
    Calls Tryz.prog 64 #[.pointer (some ⟨g, 0, none⟩), .int .i64 k, .int .i64 p] w (GivesB w (fitB A U K p k)) := by
  have hX := (St.refl w).newboxF 39 #[.pointer (some ⟨g, 0, none⟩)]
  have b0 := hX.bcell 0 rfl 0 rfl
  have e3 := cell_keepV hX.below (h.bcell 0 rfl 3 rfl)
  have e4 := cell_keepV hX.below (h.bcell 0 rfl 4 rfl)
  have e6 := cell_keepV hX.below (h.bcell 0 rfl 6 rfl)
  have rA := hX.oldII (h.oldII hv)
  have ck := rA.cell k hk
  have xk := rA.ixe (k : Int) k rfl hk
  have rk := rA.row k hk
  have rU : RdO _ vU U := (h.rdO 1 rfl).keep hX.below
  have rK : RdO _ vK K := (h.rdO 2 rfl).keep hX.below
  have cU := rU.cell k (by rw [hU]; exact hk)
  have xU := rU.ixe (k : Int) k rfl (by rw [hU]; exact hk)
  have hcf := callFunc_go Tryz.func95 (by kernel_rfl) (by kernel_rfl)
  have hmf : ∀ (fn : Fn) (first cap : Array Value) (w : World), (Instr.makeFunc fn first cap).run Tryz.prog w = .ok (.func fn first cap) w := fun _ _ _ _ => rfl
  have KC := Lib.hid (Contains_c (vat us k) (xat A k) (p : Int) _ rk)
  have KF := Lib.hid (ContainsFunc_c 95 #[.pointer (some ⟨w.heap.size, 0, none⟩)] (fun z => bat K z.toNat) (vat us k) (xat A k) _ rk hcf (fun z W' hW' hz => by
    obtain ⟨x, rfl, hx⟩ := hA.pt k hk z hz
    rw [Int.toNat_natCast]
    exact fits1_c x g w.heap.size vK K W' (cell_keepV hW'.below b0) (cell_keepV hW'.below e6) (rK.keep hW'.below) (by rw [hK]; exact hx)))
  have HF : Hid (fitB A U K p k = (!bat U k && decide ((p : Int) ∈ xat A k) && !anyP (fun z => bat K z.toNat) (xat A k))) := Lib.hid rfl
  have hout := hX.out
  generalize fitB A U K p k = R at *
  generalize anyP (fun z => bat K z.toNat) (xat A k) = b3 at *
  generalize decide ((p : Int) ∈ xat A k) = b2 at *
  generalize bat U k = b1 at *
  clear rA rk rU rK h hA hv hX e6 hcf
  cases b1
  · cases b2
    · go_enter Tryz.func64, Tryz.ntmps64
      go_wp2_with (go_at_call 93; refine KC.out.mono ?_; rintro e5 w5 ⟨rfl, hw⟩; subst hw)
      go_ret
      exact ⟨ret_bool (by rw [HF.out]; rfl), hout⟩
    · go_enter Tryz.func64, Tryz.ntmps64
      go_wp2_with (go_at_call 93; refine KC.out.mono ?_; rintro e5 w5 ⟨rfl, hw⟩; subst hw)
      refine KF.out.mono ?_
      rintro e6 w6 ⟨rfl, h6⟩
      have hS := hout.call0 h6
      go_wp2_with fail
      go_ret
      exact ⟨ret_bool (by rw [HF.out]; rfl), hS⟩
  · go_enter Tryz.func64, Tryz.ntmps64
    go_wp2_with fail
    go_ret
    exact ⟨ret_bool (by rw [HF.out]; rfl), hout⟩
/-- a node is counted, or the budget is spent -/
def NodeP (w0 : World) (g : Nat) (left : Int) (sp : Bool) (P : Int) (vB vU vC vK : Value) (U K : List Bool) (uc : List Value) (C : List (List Int)) (L : List Ent) (e : Ending) (w' : World) : Prop :=
  ∃ (b : Bool) (l' : Int) (s' : Bool), e = .returned (.bool b) ∧ (b = false → s' = true) ∧ (b = true → s' = sp) ∧ St w0.heap.size w0 w' (rvL g l' s' P vB vU vC vK U K uc C L)
set_option maxHeartbeats 8000000 in
set_option maxRecDepth 100000 in
theorem node_c (g : Nat) (left : Int) (sp : Bool) (P : Int) (vB vU vC vK : Value) (U K : List Bool) (uc : List Value) (C : List (List Int)) (L : List Ent) (w0 w : World)
    (h : St w0.heap.size w0 w (rvL g left sp P vB vU vC vK U K uc C L)) :
    Calls Tryz.prog 39 #[.pointer (some ⟨g, 0, none⟩)] w (NodeP w0 g left sp P vB vU vC vK U K uc C L) := by
  have c0 := h.bcell 0 rfl 0 rfl
  have c1 := h.bcell 0 rfl 1 rfl
  have f0 := h.bfree 0 rfl
  have h1 := h.bstore 0 rfl 1 (.bool true)
  have h2 := h.bstore 0 rfl 0 (.int .i64 (wrap64 (left - 1)))
  by_cases hl : left = 0
  · have t1 : (left == 0) = true := eq_t hl
    have H1 := Lib.hid h1
    clear h h1 h2 hl
    go_enter Tryz.func39, Tryz.ntmps39
    go_wp2_with fail
    go_ret
    exact ⟨false, left, true, rfl, fun _ => rfl, (fun q => by cases q), H1.out⟩
  · have t1 : (left == 0) = false := eq_f hl
    have H2 := Lib.hid h2
    clear h h1 h2
    go_enter Tryz.func39, Tryz.ntmps39
    go_wp2_with fail
    go_ret
    exact ⟨true, _, sp, rfl, (fun q => by cases q), fun _ => rfl, H2.out⟩
end Go.Proofs.YtljemlfocajhnaaGreat
end
