/- Walks: valid fields of both sides. -/
import Derived.Test.YtcenabaklokhhaaFld3
import Derived.Deep.RegionHeld3
import Derived.Deep.DrawnRows
namespace Go.Proofs.Ytcenabaklokhhaa
set_option linter.unusedSimpArgs false
set_option linter.unusedVariables false
open Go.RowKit

theorem fOk_no1 {p d : Int} {xs : List Int} (h : isPr p = false) : fOk p d xs = false := by simp [fOk, h]
theorem fOk_no2 {p d : Int} {xs : List Int} (h : ¬ 1 ≤ d) : fOk p d xs = false := by simp only [fOk, decide_eq_false h]; simp
theorem fOk_no3 {p d : Int} {xs : List Int} (h : ¬ pu p 64 d.toNat 1 ≤ 64) : fOk p d xs = false := by simp only [fOk, decide_eq_false h]; simp
theorem fOk_no4 {p d : Int} {xs : List Int} (h : (xs.length : Int) ≠ d + 1) : fOk p d xs = false := by simp only [fOk, decide_eq_false h]; simp
theorem fOk_no5 {p d : Int} {xs : List Int} (h : cf xs d.toNat ≠ 1) : fOk p d xs = false := by
  have : (cf xs d.toNat == 1) = false := eq_f h
  simp [fOk, this]
theorem fOk_no6 {p d : Int} {xs : List Int} (h : allIn p xs = false) : fOk p d xs = false := by simp [fOk, h]
theorem fOk_yes {p d : Int} {xs : List Int} (h1 : isPr p = true) (h2 : 1 ≤ d) (h3 : pu p 64 d.toNat 1 ≤ 64) (h4 : (xs.length : Int) = d + 1) (h5 : cf xs d.toNat = 1) (h6 : allIn p xs = true) : fOk p d xs = irrB p xs := by
  simp [fOk, h1, h2, h3, h4, h5, h6]
theorem allIn_no {p : Int} {xs : List Int} {k : Nat} (hk : k < xs.length) (h : inB (nth xs k) 0 (p - 1) = false) : allIn p xs = false := by
  cases hq : allIn p xs with
  | false => rfl
  | true =>
    have := allIn_iff.1 hq _ (nth_mem hk)
    rw [inB_true (by omega)] at h; cases h
theorem allIn_yes {p : Int} {xs : List Int} (h : ∀ k, k < xs.length → inB (nth xs k) 0 (p - 1) = true) : allIn p xs = true := by
  refine allIn_iff.2 fun x hx => ?_
  obtain ⟨k, hk, rfl⟩ := List.getElem_of_mem hx
  have := h k hk
  rw [nth_eq hk] at this
  simp [inB] at this; omega

set_option maxHeartbeats 4000000 in
set_option maxRecDepth 100000 in
theorem ValidField_c (p d : Int) (v : Value) (xs : List Int) (w : World) (hv : RdI w v xs) (hd : d ≤ 9223372036854775807) :
    Calls Try.prog 113 #[fv p d v] w (GivesB w (fOk p d xs)) := by
  have hS0 := (St.refl w).newboxF 25 #[.int .i64 p, .int .i64 d, v]
  have hpr := fun W => Lib.hid (IsPrime_c p W)
  have a0 := hS0.bcell 0 rfl 0 rfl
  unfold fv
  cases h1 : isPr p
  · have H := Lib.hid (fOk_no1 (d := d) (xs := xs) h1)
    have H1 := Lib.hid h1; clear h1
    go_enter Try.func113, Try.ntmps113
    go_wp2_with fail
    refine (hpr _).out.mono ?_
    rw [H1.out]
    rintro e w1 ⟨rfl, h1⟩
    have hS1 := hS0.call0 h1
    go_wp2_with fail
    go_ret
    exact ⟨ret_bool H.out.symm, hS1.out⟩
  · have hpp := isPr_pos h1
    have hP := (isPr_iff hpp).1 h1
    have p2 := hP.1
    have p6 := hpp.2
    have H1 := Lib.hid h1
    clear h1 hpp hP
    go_enter Try.func113, Try.ntmps113
    go_wp2_with fail
    refine (hpr _).out.mono ?_
    rw [H1.out]
    rintro e w1 ⟨rfl, h1⟩
    have hS1 := hS0.call0 h1
    clear hS0 h1 a0
    have a0 := hS1.bcell 0 rfl 0 rfl
    have a1 := hS1.bcell 0 rfl 1 rfl
    have a2 := hS1.bcell 0 rfl 2 rfl
    by_cases h2 : 1 ≤ d
    · have hpow := fun W => Lib.hid (powerUpTo_c p d 64 W (by omega) (by omega) (by omega) (by omega) (by omega) hd)
      by_cases h3 : pu p 64 d.toNat 1 ≤ 64
      · have hq := pu_pow (base := p) (lim := 64) (by omega) d.toNat 1 (by omega) h3
        rw [Int.one_mul] at hq
        have hq64 : p ^ d.toNat ≤ 64 := by rw [← hq]; exact h3
        have d6 := pow_small p2 hq64
        have p64 : p ≤ 64 := by have := le_pow p2 (m := d.toNat) (by omega); omega
        have HQ := Lib.hid hq64
        have H3 := Lib.hid h3
        obtain ⟨D, rfl⟩ := Int.eq_ofNat_of_zero_le (show 0 ≤ d by omega)
        rw [Int.toNat_natCast] at d6 h3
        clear hq hq64 hd
        go_wp2_with fail
        refine (hpow _).out.mono ?_
        rintro e w2 ⟨rfl, rfl⟩
        clear hpow
        go_wp2_with fail
        have hsz : ∀ s : SS w.heap.size w [box 25 w.heap.size [.int .i64 p, .int .i64 D, v]], RdI s.w v xs := fun s => s.st.oldI hv
        have Hsz := Lib.hid hsz
        have q1 := fun s : SS w.heap.size w [box 25 w.heap.size [.int .i64 p, .int .i64 D, v]] => s.st.bcell 0 rfl 1 rfl
        have q2 := fun s : SS w.heap.size w [box 25 w.heap.size [.int .i64 p, .int .i64 D, v]] => s.st.bcell 0 rfl 2 rfl
        clear hsz a0 a1 a2
        by_cases h4 : (xs.length : Int) = D + 1
        · have f4 := ne_f h4
          have hDl : D < xs.length := by omega
          have hxD := hv.ixe (D : Int) D rfl hDl
          have q3 := fun s : SS w.heap.size w [box 25 w.heap.size [.int .i64 p, .int .i64 D, v]] => (s.st.oldI hv).cell D hDl
          have H4 := Lib.hid h4
          clear h4
          by_cases h5 : nth xs D = 1
          · have f5 := ne_f h5
            have H5 := Lib.hid h5; clear h5
            have hne : Nonempty (SS _ _ _) := ⟨⟨_, hS1⟩⟩
            refine wp_region_st (by kernel_rfl) (by kernel_rfl) hS1 ?_
            repeat (go_big_quiet_step ((go_at_call 106; exact st_quiet0 (size_c _ _ _ (Hsz.out _)))))
            refine wpQuiet_nil ?_
            rintro _ ⟨s2, rfl⟩
            have hS3 := s2.st
            generalize s2.w = w3 at hS3 ⊢
            clear q1 q2 q3 f4 f5 hxD hS1
            have a0 := hS3.bcell 0 rfl 0 rfl
            have a2 := hS3.bcell 0 rfl 2 rfl
            have hln := hv.len
            have hix := hv.ix
            have hm := hv.le
            go_wp2_with fail
            go_loopw [4, 41] (fun _ i wr => ∃ k : Nat, k ≤ xs.length ∧ i = .int .i64 k ∧ Hid (∀ j : Nat, j < k → inB (nth xs j) 0 (p - 1) = true) ∧ wr = w3) (fun _ i _ => xs.length - (intOf i).toNat)
            case atStart => exact ⟨0, by omega, rfl, fun j h => by omega, rfl⟩
            case round =>
              obtain ⟨k, hk, rfl, hI, rfl⟩ := hrel
              by_cases hlt : k < xs.length
              · have hc := (hS3.oldI hv).cell k hlt
                have hwi := fun W => Lib.hid (within_c (nth xs k) 0 (p - 1) W)
                cases hb : inB (nth xs k) 0 (p - 1)
                · have HB := Lib.hid hb; clear hb
                  go_wp2_with fail
                  refine (hwi _).out.mono ?_
                  rw [HB.out]
                  rintro e w4 ⟨rfl, rfl⟩
                  go_wp2_with fail
                  go_ret
                  exact ⟨ret_bool (fOk_no6 (allIn_no hlt HB.out)).symm, hS3.out⟩
                · have HB := Lib.hid hb; clear hb
                  go_wp2_with fail
                  refine (hwi _).out.mono ?_
                  rw [HB.out]
                  rintro e w4 ⟨rfl, rfl⟩
                  go_wp2_with fail
                  go_roundw
                  case rel => exact ⟨k + 1, by omega, by go_num, fun j hj => by
                    by_cases e : j = k
                    · subst e; exact HB.out
                    · exact hI.out j (by omega), by first | rfl | trivial⟩
                  case measure => simp [intOf]; omega
              · have hall := allIn_yes (p := p) (xs := xs) fun j hj => hI.out j (by omega)
                have hirr := Lib.hid (irreducible_c v xs p wr (hS3.oldI hv) p2 p64 (allIn_iff.1 hall) (by omega) (by rw [show xs.length - 1 = D by have := H4.out; omega]; have := HQ.out; rwa [Int.toNat_natCast] at this))
                have HY := Lib.hid (fOk_yes H1.out h2 H3.out H4.out (by rw [Int.toNat_natCast]; exact H5.out) hall)
                clear hall
                go_wp2_with fail
                refine hirr.out.mono ?_
                rintro e w4 ⟨rfl, h4⟩
                have hS4 := hS3.call0 h4
                go_wp2_with fail
                go_ret
                exact ⟨ret_bool HY.out.symm, hS4.out⟩
          · have f5 := ne_t h5
            have H := Lib.hid (fOk_no5 (p := p) (d := (D : Int)) (xs := xs) (by rw [Int.toNat_natCast]; exact h5)); clear h5
            have hne : Nonempty (SS _ _ _) := ⟨⟨_, hS1⟩⟩
            refine wp_region_st (by kernel_rfl) (by kernel_rfl) hS1 ?_
            repeat (go_big_quiet_step ((go_at_call 106; exact st_quiet0 (size_c _ _ _ (Hsz.out _)))))
            refine wpQuiet_nil ?_
            rintro _ ⟨s2, rfl⟩
            have hS3 := s2.st
            generalize s2.w = w3 at hS3 ⊢
            go_wp2_with fail
            go_ret
            exact ⟨ret_bool H.out.symm, hS3.out⟩
        · have f4 := ne_t h4
          have H := Lib.hid (fOk_no4 (p := p) h4); clear h4
          have hne : Nonempty (SS _ _ _) := ⟨⟨_, hS1⟩⟩
          refine wp_region_st (by kernel_rfl) (by kernel_rfl) hS1 ?_
          repeat (go_big_quiet_step ((go_at_call 106; exact st_quiet0 (size_c _ _ _ (Hsz.out _)))))
          refine wpQuiet_nil ?_
          rintro _ ⟨s2, rfl⟩
          have hS3 := s2.st
          generalize s2.w = w3 at hS3 ⊢
          go_wp2_with fail
          go_ret
          exact ⟨ret_bool H.out.symm, hS3.out⟩
      · have H := Lib.hid (fOk_no3 (xs := xs) h3)
        have h3' : 64 < pu p 64 d.toNat 1 := by omega
        go_wp2_with fail
        refine (hpow _).out.mono ?_
        rintro e w2 ⟨rfl, rfl⟩
        go_wp2_with fail
        go_ret
        exact ⟨ret_bool H.out.symm, hS1.out⟩
    · have H := Lib.hid (fOk_no2 (p := p) (xs := xs) h2)
      have h2' : d < 1 := by omega
      go_wp2_with fail
      go_ret
      exact ⟨ret_bool H.out.symm, hS1.out⟩

/-- a field behind a pointer -/
def BoxF (w : World) (g : Nat) (p d : Int) (v : Value) : Prop :=
  w.cell? ⟨g, 0, none⟩ = some (.int .i64 p) ∧ w.cell? ⟨g, 1, none⟩ = some (.int .i64 d) ∧ w.cell? ⟨g, 2, none⟩ = some v
theorem cell_keepF {w w' : World} (hb : Below w.heap.size w w') {p : Addr} {u : Value} (h : w.cell? p = some u) : w'.cell? p = some u := by
  rw [hb.cell (World.block_lt_of_cell? _ _ h)]; exact h
theorem BoxF.keep {w w' : World} {g : Nat} {p d : Int} {v : Value} (h : BoxF w g p d v) (hb : Below w.heap.size w w') : BoxF w' g p d v :=
  ⟨cell_keepF hb h.1, cell_keepF hb h.2.1, cell_keepF hb h.2.2⟩
theorem St.oldF {w0 w : World} {L : List Ent} {g : Nat} {p d : Int} {v : Value} (h : St w0.heap.size w0 w L) (hr : BoxF w0 g p d v) : BoxF w g p d v := hr.keep h.below

theorem fOk_r1 {p d : Int} {xs : List Int} (h : inB p 2 64 = false) : fOk p d xs = false := by
  cases hq : fOk p d xs with
  | false => rfl
  | true => have := fOk_t hq; rw [inB_true ⟨this.p2, this.p64⟩] at h; cases h
theorem fOk_r2 {p d : Int} {xs : List Int} (h : inB d 1 6 = false) : fOk p d xs = false := by
  cases hq : fOk p d xs with
  | false => rfl
  | true => have := fOk_t hq; rw [inB_true ⟨this.d1, this.d6⟩] at h; cases h
theorem fOk_r3 {p d : Int} {xs : List Int} (h : ¬ p ^ d.toNat ≤ 64) : fOk p d xs = false := by
  cases hq : fOk p d xs with
  | false => rfl
  | true => exact absurd (fOk_t hq).q h

set_option maxHeartbeats 8000000 in
set_option maxRecDepth 100000 in
theorem l03Ok_c (p d : Int) (g : Nat) (v : Value) (xs : List Int) (w : World) (hv : RdI w v xs) (hb : BoxF w g p d v) :
    Calls Try.prog 120 #[.pointer (some ⟨g, 0, none⟩)] w (GivesB w (fOk p d xs)) := by
  have hS0 := St.refl w
  have q0 := fun s : SS w.heap.size w [] => (s.st.oldF hb).1
  have q1 := fun s : SS w.heap.size w [] => (s.st.oldF hb).2.1
  have q2 := fun s : SS w.heap.size w [] => (s.st.oldF hb).2.2
  have hln := hv.len
  have hm := hv.le
  cases h1 : inB p 2 64
  · have H := Lib.hid (fOk_r1 (d := d) (xs := xs) h1)
    go_enter Try.func120, Try.ntmps120
    go_wp2_with fail
    have hne : Nonempty (SS _ _ _) := ⟨⟨_, hS0⟩⟩
    refine wp_region_st (by kernel_rfl) (by kernel_rfl) hS0 ?_
    repeat (go_big_quiet_step ((go_at_call 165; exact st_quiet0 (l00In_c _ _ _ _))))
    refine wpQuiet_nil ?_
    rintro _ ⟨s2, rfl⟩
    have hS3 := s2.st
    generalize s2.w = w3 at hS3 ⊢
    go_wp2_with fail
    go_ret
    exact ⟨ret_bool H.out.symm, hS3⟩
  · obtain ⟨p2, p64⟩ : 2 ≤ p ∧ p ≤ 64 := by simpa [inB] using h1
    cases h2 : inB d 1 6
    · have H := Lib.hid (fOk_r2 (p := p) (xs := xs) h2)
      go_enter Try.func120, Try.ntmps120
      go_wp2_with fail
      have hne : Nonempty (SS _ _ _) := ⟨⟨_, hS0⟩⟩
      refine wp_region_st (by kernel_rfl) (by kernel_rfl) hS0 ?_
      repeat (go_big_quiet_step ((go_at_call 165; exact st_quiet0 (l00In_c _ _ _ _))))
      refine wpQuiet_nil ?_
      rintro _ ⟨s2, rfl⟩
      have hS3 := s2.st
      generalize s2.w = w3 at hS3 ⊢
      go_wp2_with fail
      go_ret
      exact ⟨ret_bool H.out.symm, hS3⟩
    · obtain ⟨d1, d6⟩ : 1 ≤ d ∧ d ≤ 6 := by simpa [inB] using h2
      obtain ⟨D, rfl⟩ := Int.eq_ofNat_of_zero_le (show 0 ≤ d by omega)
      by_cases h4 : (xs.length : Int) = D + 1
      · have f4 := ne_f h4
        have hDl : D < xs.length := by omega
        have hxD := hv.ixe (D : Int) D rfl hDl
        have q3 := fun s : SS w.heap.size w [] => (s.st.oldI hv).cell D hDl
        have H4 := Lib.hid h4
        clear h4
        by_cases h5 : nth xs D = 1
        · have f5 := ne_f h5
          have H5 := Lib.hid h5; clear h5
          go_enter Try.func120, Try.ntmps120
          go_wp2_with fail
          have hne : Nonempty (SS _ _ _) := ⟨⟨_, hS0⟩⟩
          refine wp_region_st (by kernel_rfl) (by kernel_rfl) hS0 ?_
          repeat (go_big_quiet_step ((go_at_call 165; exact st_quiet0 (l00In_c _ _ _ _))))
          refine wpQuiet_nil ?_
          rintro _ ⟨s2, rfl⟩
          have hS3 := s2.st
          generalize s2.w = w3 at hS3 ⊢
          clear f4 f5 hxD h1 h2 q3
          go_wp2_with fail
          have hne : Nonempty (SS _ _ _) := ⟨⟨_, hS3⟩⟩
          refine wp_region_st (by kernel_rfl) (by kernel_rfl) hS3 ?_
          repeat (go_big_quiet_step ((go_at_call 199; exact st_quiet0 (l03Power_c p D _ (by omega) p64 (by omega)))))
          refine wpQuiet_nil ?_
          rintro _ ⟨s2, rfl⟩
          have hS4 := s2.st
          generalize s2.w = w4 at hS4 ⊢
          clear q0 q1 q2 hS3
          have hbw := hS4.oldF hb
          have b0 := hbw.1
          have b1 := hbw.2.1
          have b2 := hbw.2.2
          have hge := le_pow p2 (m := D) (by omega)
          by_cases hq : p ^ D ≤ 64
          · obtain ⟨Q, hQ⟩ := Int.eq_ofNat_of_zero_le (show 0 ≤ p ^ D by omega)
            have hsp := split_ok p2 p64 d1 d6 (by rw [Int.toNat_natCast]; exact hq)
            rw [Int.toNat_natCast, hQ, Int.toNat_natCast] at hsp
            have HQ := Lib.hid hq
            rw [hQ] at hq hge ⊢
            have hspl := fun W => Lib.hid (l03Split_c Q W (by omega) (by omega))
            cases hpr : isPr p
            · have hne : (((spl Q).1 : Nat) : Int) ≠ p := by intro e; have := hsp.1 e; rw [hpr] at this; cases this
              have fne := ne_t hne
              have H := Lib.hid (fOk_no1 (d := (D : Int)) (xs := xs) hpr)
              clear hne hsp hpr hQ
              go_wp2_with fail
              refine (hspl _).out.mono ?_
              rintro e w5 ⟨rfl, rfl⟩
              go_wp2_with fail
              go_ret
              exact ⟨ret_bool H.out.symm, hS4⟩
            · have heq := hsp.2 hpr
              have Hpr := Lib.hid hpr
              have fne : (p != p) = false := ne_f rfl
              rw [heq] at hspl
              have H3 := Lib.hid (show pu p 64 ((D : Int)).toNat 1 ≤ 64 by
                rw [Int.toNat_natCast, pu_le (by omega) D 1 (by omega) (by rw [Int.one_mul]; exact HQ.out), Int.one_mul]; exact HQ.out)
              clear hsp hpr heq hQ
              go_wp2_with fail
              refine (hspl _).out.mono ?_
              rintro e w5 ⟨rfl, rfl⟩
              have hix := hv.ix
              go_wp2_with fail
              go_loopw [6] (fun i wr => ∃ k : Nat, k ≤ xs.length ∧ i = .int .i64 k ∧ Hid (∀ j : Nat, j < k → inB (nth xs j) 0 (p - 1) = true) ∧ wr = w4) (fun i _ => xs.length - (intOf i).toNat)
              case atStart => exact ⟨0, by omega, rfl, fun j h => by omega, rfl⟩
              case round =>
                obtain ⟨k, hk, rfl, hI, rfl⟩ := hrel
                by_cases hlt : k < xs.length
                · have hc := (hS4.oldI hv).cell k hlt
                  have hwi := fun W => Lib.hid (l00In_c (nth xs k) 0 (p - 1) W)
                  cases hb9 : inB (nth xs k) 0 (p - 1)
                  · have HB := Lib.hid hb9; clear hb9
                    go_wp2_with fail
                    refine (hwi _).out.mono ?_
                    rw [HB.out]
                    rintro e w5 ⟨rfl, rfl⟩
                    go_wp2_with fail
                    go_ret
                    exact ⟨ret_bool (fOk_no6 (allIn_no hlt HB.out)).symm, hS4⟩
                  · have HB := Lib.hid hb9; clear hb9
                    go_wp2_with fail
                    refine (hwi _).out.mono ?_
                    rw [HB.out]
                    rintro e w5 ⟨rfl, rfl⟩
                    go_wp2_with fail
                    go_roundw
                    case rel => exact ⟨k + 1, by omega, by go_num, fun j hj => by
                      by_cases e : j = k
                      · subst e; exact HB.out
                      · exact hI.out j (by omega), by first | rfl | trivial⟩
                    case measure => simp [intOf]; omega
                · have hall := allIn_yes (p := p) (xs := xs) fun j hj => hI.out j (by omega)
                  have hirr := Lib.hid (l03Irreducible_c v xs p wr (hS4.oldI hv) p2 p64 (allIn_iff.1 hall) (by omega) (by rw [show xs.length - 1 = D by have := H4.out; omega]; exact HQ.out))
                  have HY := Lib.hid (fOk_yes Hpr.out d1 H3.out H4.out (by rw [Int.toNat_natCast]; exact H5.out) hall)
                  clear hall
                  go_wp2_with fail
                  refine hirr.out.mono ?_
                  rintro e w5 ⟨rfl, h5⟩
                  have hS5 := hS4.call0 h5
                  go_wp2_with fail
                  go_ret
                  exact ⟨ret_bool HY.out.symm, hS5⟩
          · have hno := fun W => Lib.hid (l03Split_no (p ^ D) W (inB_false (by omega)))
            have H := Lib.hid (fOk_r3 (p := p) (d := (D : Int)) (xs := xs) (by rw [Int.toNat_natCast]; exact hq))
            have fne : ((0 : Int) != p) = true := ne_t (by omega)
            have hup := pow64m (p := p) (by omega) p64 (m := D) (by omega)
            go_wp2_with fail
            refine (hno _).out.mono ?_
            rintro e w5 ⟨rfl, rfl⟩
            go_wp2_with fail
            go_ret
            exact ⟨ret_bool H.out.symm, hS4⟩
        · have f5 := ne_t h5
          have H := Lib.hid (fOk_no5 (p := p) (d := (D : Int)) (xs := xs) (by rw [Int.toNat_natCast]; exact h5)); clear h5
          go_enter Try.func120, Try.ntmps120
          go_wp2_with fail
          have hne : Nonempty (SS _ _ _) := ⟨⟨_, hS0⟩⟩
          refine wp_region_st (by kernel_rfl) (by kernel_rfl) hS0 ?_
          repeat (go_big_quiet_step ((go_at_call 165; exact st_quiet0 (l00In_c _ _ _ _))))
          refine wpQuiet_nil ?_
          rintro _ ⟨s2, rfl⟩
          have hS3 := s2.st
          generalize s2.w = w3 at hS3 ⊢
          go_wp2_with fail
          go_ret
          exact ⟨ret_bool H.out.symm, hS3⟩
      · have f4 := ne_t h4
        have H := Lib.hid (fOk_no4 (p := p) h4); clear h4
        go_enter Try.func120, Try.ntmps120
        go_wp2_with fail
        have hne : Nonempty (SS _ _ _) := ⟨⟨_, hS0⟩⟩
        refine wp_region_st (by kernel_rfl) (by kernel_rfl) hS0 ?_
        repeat (go_big_quiet_step ((go_at_call 165; exact st_quiet0 (l00In_c _ _ _ _))))
        refine wpQuiet_nil ?_
        rintro _ ⟨s2, rfl⟩
        have hS3 := s2.st
        generalize s2.w = w3 at hS3 ⊢
        go_wp2_with fail
        go_ret
        exact ⟨ret_bool H.out.symm, hS3⟩
end Go.Proofs.Ytcenabaklokhhaa
