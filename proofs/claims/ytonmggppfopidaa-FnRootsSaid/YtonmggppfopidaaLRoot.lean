/- The law FnRoots, walked. -/
import Derived.Test.YtonmggppfopidaaRoot
namespace Go.Proofs.Ytonmggppfopidaa
set_option linter.unusedSimpArgs false
set_option linter.unusedVariables false
open Go.RowKit

set_option maxHeartbeats 8000000 in
set_option maxRecDepth 100000 in
theorem FnRoots_law (w : World) (cv : Value) (bs : List UInt8) (cv' : Value) (bs' : List UInt8) (hb : RdB w cv bs) (hb' : RdB w cv' bs') :
    Calls Try.prog 7 #[cv, cv'] w (GivesB w true) := by
  by_cases hlong : 1048576 < bs.length
  · have hl' : decide (1048576 < bs.length) = true := by simpa using hlong
    go_enter Try.func7, Try.ntmps7
    go_wp2_with fail
    refine (b10Long_c w cv bs hb).mono ?_
    rintro e w1 ⟨rfl, rfl⟩
    go_wp2_with fail
    go_ret
    exact ⟨rfl, St.refl _⟩
  · have hl' : decide (1048576 < bs.length) = false := by simpa using hlong
    by_cases hlong2 : 1048576 < bs'.length
    · have hl2 : decide (1048576 < bs'.length) = true := by simpa using hlong2
      go_enter Try.func7, Try.ntmps7
      go_wp2_with fail
      refine (b10Long_c w cv bs hb).mono ?_
      rintro e w1 ⟨rfl, rfl⟩
      go_wp2_with fail
      refine (b10Long_c w cv' bs' hb').mono ?_
      rintro e w1 ⟨rfl, rfl⟩
      go_wp2_with fail
      go_ret
      exact ⟨rfl, St.refl _⟩
    · have hl2 : decide (1048576 < bs'.length) = false := by simpa using hlong2
      go_enter Try.func7, Try.ntmps7
      go_wp2_with fail
      refine (b10Long_c w cv bs hb).mono ?_
      rintro e w1 ⟨rfl, rfl⟩
      go_wp2_with fail
      refine (b10Long_c w cv' bs' hb').mono ?_
      rintro e w1 ⟨rfl, rfl⟩
      go_wp2_with fail
      refine (DrawPrimitiveRoot_c w cv bs hb).mono ?_
      rintro e w1 ⟨p, rfl, h1⟩
      clear hl' hl2 hlong hlong2
      by_cases hp : 1000 < p
      · go_wp2_with fail
        refine (PrimitiveRoot_no1 p _ hp).mono ?_
        rintro e w2 ⟨rfl, h2⟩
        have hS2 := h1.call0 h2
        go_wp2_with fail
        refine (IsPrime_c p _).mono ?_
        rintro e w3 ⟨rfl, h3⟩
        have hS3 := hS2.call0 h3
        cases isPr p
        · go_wp2_with fail
          go_ret
          exact ⟨rfl, hS3⟩
        · go_wp2_with fail
          go_ret
          exact ⟨rfl, hS3⟩
      · cases hq : isPr p
        · go_wp2_with fail
          refine (PrimitiveRoot_no2 p _ (by omega) hq).mono ?_
          rintro e w2 ⟨rfl, h2⟩
          have hS2 := h1.call0 h2
          have Hq := Lib.hid hq
          clear hq
          go_wp2_with fail
          refine (IsPrime_c p _).mono ?_
          rw [Hq.out]
          rintro e w3 ⟨rfl, h3⟩
          have hS3 := hS2.call0 h3
          go_wp2_with fail
          go_ret
          exact ⟨rfl, hS3⟩
        · have p1 : 1 ≤ p := by
            apply Int.le_of_not_gt; intro hlt
            have : factors p = [] := by unfold factors; rw [if_neg (by omega)]
            unfold isPr at hq; rw [this] at hq; simp at hq
          have hP := (isPr_iff (n := p) ⟨p1, by omega⟩).1 hq
          have Hq := Lib.hid hq
          have HP := Lib.hid hP
          have p2 := hP.1
          clear hq hP
          go_wp2_with fail
          refine (PrimitiveRoot_c p _ (by omega) Hq.out HP.out).mono ?_
          rintro e w2 ⟨g, hg, rfl, h2⟩
          have hS2 := h1.call0 h2
          have g1 := hg.1
          have g2 := hg.2.1
          have Hg := Lib.hid hg
          clear h1 h2 hg
          go_wp2_with fail
          refine (IsPrime_c p _).mono ?_
          rw [Hq.out]
          rintro e w3 ⟨rfl, h3⟩
          have hS3 := hS2.call0 h3
          clear hS2 h3
          go_wp2_with fail
          have hres : Res g p := ⟨p1, by omega, by omega, g2⟩
          refine (OrderMod_c g p _ hres).mono ?_
          rintro e w4 ⟨h4, ⟨x, rfl, x1, x2, x3, x4⟩ | ⟨rfl, x3⟩⟩
          · have hx := ord_root p2 Hg.out x1 x3 x4
            have hS4 := hS3.call0 h4
            clear x3 x4 hS3 h4
            subst hx
            have fe : (p - 1 != p - 1) = false := ne_f rfl
            by_cases h2 : p = 2
            · subst h2
              go_wp2_with fail
              go_ret
              exact ⟨rfl, hS4⟩
            · have f2 := eq_f h2
              have p3 : 3 ≤ p := by omega
              clear h2
              have hlen := len_sqs HP.out p3
              have hnsq := Lib.hid (root_nsq HP.out p3 Hg.out)
              have hmem := Lib.hid (fun (j : Nat) (hj : j < (sqs p).length) => mem_sqs.1 (nth_mem hj))
              have Hlen := Lib.hid hlen
              have flen := ne_f hlen
              clear hlen
              have gne : g ≠ 0 := by omega
              go_wp2_with fail
              refine (SquaresMod_c p _ (by omega) (by omega)).mono ?_
              rintro e w5 ⟨v, rfl, h5⟩
              have hS5 := hS4.call h5
              simp only [List.nil_append] at hS5
              have hr := hS5.rdI 0 rfl
              have hln := hr.len
              clear hS4 h5
              go_wp2_with fail
              refine (IsSquareMod_c g p _ hres gne).mono ?_
              rw [hnsq.out]
              rintro e w6 ⟨rfl, rfl⟩
              go_wp2_with fail
              refine (b10At_c _ cv' bs' 0 _ (hS5.oldB hb') (by omega)).mono ?_
              rintro e w6 ⟨i, i0, i1, rfl, rfl⟩
              have hi : i.toNat < (sqs p).length := by have := Hlen.out; omega
              have hxi := hr.ixe i i.toNat (by omega) hi
              have hci := hr.cell i.toNat hi
              obtain ⟨a0, a1, a2⟩ := hmem.out i.toNat hi
              generalize nth (sqs p) i.toNat = a at hci a0 a1 a2
              go_wp2_with fail
              refine (b10At_c _ cv' bs' 1 _ (hS5.oldB hb') (by omega)).mono ?_
              rintro e w6 ⟨j, j0, j1, rfl, rfl⟩
              have hj : j.toNat < (sqs p).length := by have := Hlen.out; omega
              have hxj := hr.ixe j j.toNat (by omega) hj
              have hcj := hr.cell j.toNat hj
              obtain ⟨b0, b1, b2⟩ := hmem.out j.toNat hj
              generalize nth (sqs p) j.toNat = b at hcj b0 b1 b2
              have ra : Res a p := ⟨p1, by omega, by omega, a1⟩
              have A2 := Lib.hid a2
              have ane : a ≠ 0 := by omega
              have hab := Lib.hid (isq_mul p1 a2 b2)
              have hag := Lib.hid (nsq_mul HP.out p3 a0 a1 (by omega) g2 a2 hnsq.out)
              have fp : (p == 0) = false := eq_f (by omega)
              obtain ⟨m1, m2⟩ := mul_bd (a := a) (b := b) (by omega) (by omega) (by omega) (by omega)
              obtain ⟨n1, n2⟩ := mul_bd (a := a) (b := g) (by omega) (by omega) (by omega) (by omega)
              have rab : Res (a * b % p) p := ⟨p1, by omega, Int.emod_nonneg _ (by omega), Int.emod_lt_of_pos _ (by omega)⟩
              have rag : Res (a * g % p) p := ⟨p1, by omega, Int.emod_nonneg _ (by omega), Int.emod_lt_of_pos _ (by omega)⟩
              have hne1 : Hid (a * b % p ≠ 0) := fun h => by
                rcases euclid HP.out (Int.dvd_of_emod_eq_zero h) with hd | hd <;> (have := small_dvd hd (by omega) (by omega); omega)
              have hne2 : Hid (a * g % p ≠ 0) := fun h => by
                rcases euclid HP.out (Int.dvd_of_emod_eq_zero h) with hd | hd <;> (have := small_dvd hd (by omega) (by omega); omega)
              have Hm := Lib.hid hmem
              clear a2 b2 hmem
              go_wp2_with fail
              refine (IsSquareMod_c a p _ ra ane).mono ?_
              rw [A2.out]
              rintro e w6 ⟨rfl, rfl⟩
              go_wp2_with fail
              refine (IsSquareMod_c (a * b % p) p _ rab hne1.out).mono ?_
              rw [hab.out]
              rintro e w6 ⟨rfl, rfl⟩
              go_wp2_with fail
              refine (IsSquareMod_c (a * g % p) p _ rag hne2.out).mono ?_
              rw [hag.out]
              rintro e w6 ⟨rfl, rfl⟩
              go_wp2_with fail
              go_ret
              exact ⟨rfl, hS5.out⟩
          · exact absurd Hg.out.2.2.1 (x3 (p - 1) (by omega) (by omega))
end Go.Proofs.Ytonmggppfopidaa
